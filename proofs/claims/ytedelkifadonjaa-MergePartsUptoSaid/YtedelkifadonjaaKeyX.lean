/- Layer 16: keys, as far as this seat reaches them (by subset.py, out of IkA IkB). -/
import Derived.Test.YtedelkifadonjaaKeyW
import Derived.Test.YtedelkifadonjaaRows
import Derived.Test.YtedelkifadonjaaIkPlain
namespace Go.Proofs.Ytedelkifadonjaa
open Go.RowKit Go.Lec

set_option maxRecDepth 40000 in
set_option maxHeartbeats 400000 in
theorem c_stamp (w : World) (q : Int) (h0 : 0 ≤ q) (h1 : q ≤ 281474976710655) :
    Calls Try.prog 48 #[.int .i64 q] w (RetB 5 w (stampB q)) := by
  go_enter Try.func48, Try.ntmps48
  go_wp2
  go_ret
  exact RetB_lit _ (stamp_cells q h0 h1) (by simp)

end Go.Proofs.Ytedelkifadonjaa

namespace Go.Proofs.Ytedelkifadonjaa
open Go.RowKit Go.Lec

set_option maxRecDepth 40000 in
set_option maxHeartbeats 400000 in
theorem c_Seek (w : World) (q sq : Int) {B : Nat} {A : Option Addr} {n c : Nat} {l : List UInt8} (hr : Rd w B A n (bcs l)) (hB : B ≤ w.heap.size) (hn : n ≤ 1099511627) :
    Calls Try.prog 28 #[.int .i64 q, .slice A n c, .int .i64 sq] w (RetBE 5 w (seekB q l sq) (seekE q l sq)) := by
  have hln := hr.1
  rw [bcs_length] at hln
  unfold seekB seekE
  by_cases hk : okEpoch q = true
  · obtain ⟨h0, h1⟩ := okEpoch_true hk
    by_cases hs : okSeq sq = true
    · obtain ⟨h2, h3⟩ := okSeq_true hs
      have hks : (okEpoch q && okSeq sq) = true := by simp [hk, hs]
      rw [if_pos hks, if_pos hks, hln]
      clear hks
      have hpe : preE q l = if 65536 < n then 2 else 0 := by unfold preE; rw [if_pos hk, hln]
      have hpb : preB q l = if 65536 < n then [] else be 2 q.toNat ++ escT l := by unfold preB; rw [if_pos hk, hln]
      have H := Lib.hid hln; clear hln hk hs
      by_cases hl : 65536 < n
      · rw [if_pos hl] at hpe hpb
        rw [if_pos hl, if_pos hl]
        go_enter Try.func28, Try.ntmps28
        go_wp2_with (first | (go_at_call 47; go_in) | (go_at_call 29; (have hcon := c_Prefix w q hr hB hn (c := c); rw [hpe] at hcon; clear hpe hpb; go_must (refine hcon.mono ?_)); clear hcon; rintro e w1 ⟨v, rfl, hown, hb⟩))
        go_ret2
        exact RetBE_nil rfl hb
      · rw [if_neg hl] at hpe hpb
        rw [if_neg hl, if_neg hl]
        go_enter Try.func28, Try.ntmps28
        go_wp2_with (first | (go_at_call 47; go_in) | (go_at_call 29; (have hcon := c_Prefix w q hr hB hn (c := c); rw [hpe, hpb] at hcon; clear hpe hpb; go_must (refine hcon.mono ?_)); clear hcon; rintro e w1 ⟨v, rfl, hown, hb⟩) | (go_at_call 48; go_must (refine (c_stamp w1 sq h2 h3).mono ?_); rintro e w2 ⟨v2, rfl, hown2, hb2⟩; obtain ⟨A2, c2, rfl, hc2⟩ := hown2.shape; have hr2 := hown2.rd; have hown1 := hown.below hb2 (Nat.le_refl _); have hb12 := hb.trans (hb2.mono hb.size)) | (at_builtin; (refine wpList_app_sl rfl (.tmp 27) (.tmp 29) rfl slb (by decide) rfl hown1 hb12 hb12.size rfl hr2 bcs_one (by have := escT_len l; have := H.out; simp only [bcs_length, List.length_append, be_length, stampB]; omega) ?_); intro v3 w3 hown3 hb3 hs3) | (at_builtin; (refine wpList_app_lit rfl (.tmp 30) (.tmp 31) rfl slb (by decide) rfl hown3 hb3 hs3 [.int .u8 0] rfl (by simp [Value.oneCell']) (by have := escT_len l; have := H.out; simp only [bcs_length, List.length_append, be_length, stampB, List.length_cons, List.length_nil]; omega) ?_); intro v4 w4 hown4 hb4 hs4))
        go_ret2
        exact ⟨_, rfl, by rw [bcs_append, bcs_append]; exact hown4, hb4⟩
    · have hks : ¬ (okEpoch q && okSeq sq) = true := by simp [hs]
      rw [if_neg hks, if_neg hks]
      clear hks
      have hs' : ¬ (0 ≤ sq ∧ sq ≤ 281474976710655) := by simpa only [okSeq, Bool.and_eq_true, decide_eq_true_eq] using hs
      clear hk hs hln
      by_cases h2 : 0 ≤ sq
      · have h3 : ¬ sq ≤ 281474976710655 := by omega
        clear hs'
        go_enter Try.func28, Try.ntmps28
        go_wp2
        go_ret2
        exact RetBE_nil rfl (Below.refl _ _)
      · clear hs'
        go_enter Try.func28, Try.ntmps28
        go_wp2
        go_ret2
        exact RetBE_nil rfl (Below.refl _ _)
  · have hks : ¬ (okEpoch q && okSeq sq) = true := by simp [hk]
    rw [if_neg hks, if_neg hks]
    clear hks
    by_cases h1 : 0 ≤ q
    · have h2 : ¬ q ≤ 65535 := okEpoch_false hk h1
      clear hk hln
      go_enter Try.func28, Try.ntmps28
      go_wp2
      go_ret2
      exact RetBE_nil rfl (Below.refl _ _)
    · clear hk hln
      go_enter Try.func28, Try.ntmps28
      go_wp2
      go_ret2
      exact RetBE_nil rfl (Below.refl _ _)

set_option maxRecDepth 40000 in
set_option maxHeartbeats 400000 in
theorem c_rSeek (w : World) (q sq : Int) {B : Nat} {A : Option Addr} {n c : Nat} {l : List UInt8} (hr : Rd w B A n (bcs l)) (hB : B ≤ w.heap.size) (hn : n ≤ 1099511627) :
    Calls Try.prog 31 #[.int .i64 q, .slice A n c, .int .i64 sq] w (RetBE 5 w (seekB q l sq) (seekE q l sq)) := by
  have hln := hr.1
  rw [bcs_length] at hln
  unfold seekB seekE
  by_cases hk : okEpoch q = true
  · obtain ⟨h0, h1⟩ := okEpoch_true hk
    have g0 : ¬ q < 0 := by omega
    have g1 : ¬ 65535 < q := by omega
    by_cases hs : okSeq sq = true
    · obtain ⟨h2, h3⟩ := okSeq_true hs
      have g2 : ¬ sq < 0 := by omega
      have g3 : ¬ 281474976710655 < sq := by omega
      have hks : (okEpoch q && okSeq sq) = true := by simp [hk, hs]
      rw [if_pos hks, if_pos hks, hln]
      clear hks
      have hpe : preE q l = if 65536 < n then 2 else 0 := by unfold preE; rw [if_pos hk, hln]
      have hpb : preB q l = if 65536 < n then [] else be 2 q.toNat ++ escT l := by unfold preB; rw [if_pos hk, hln]
      have H := Lib.hid hln; clear hln hk hs
      by_cases hl : 65536 < n
      · rw [if_pos hl] at hpe hpb
        rw [if_pos hl, if_pos hl]
        go_enter Try.func31, Try.ntmps31
        go_wp2_with (first | (go_at_call 14; (have hcon := c_rPrefix w q hr hB hn (c := c); rw [hpe] at hcon; clear hpe hpb; go_must (refine hcon.mono ?_)); clear hcon; rintro e w1 ⟨v, rfl, hown, hb⟩))
        go_ret2
        exact RetBE_nil rfl hb
      · rw [if_neg hl] at hpe hpb
        rw [if_neg hl, if_neg hl]
        have hst : (281474976710655 - sq).toNat ≤ 9223372036854775807 := by omega
        have hcast : ((281474976710655 - sq).toNat : Int) = 281474976710655 - sq := by omega
        have Hc := Lib.hid hcast; clear hcast
        go_enter Try.func31, Try.ntmps31
        go_wp2_with (first | (go_at_call 14; (have hcon := c_rPrefix w q hr hB hn (c := c); rw [hpe, hpb] at hcon; clear hpe hpb; go_must (refine hcon.mono ?_)); clear hcon; rintro e w1 ⟨v, rfl, hown, hb⟩) | (go_at_call 26; rw [← Hc.out]; go_must (refine (c_high w1 _ 6 hst (by decide)).mono ?_); rintro e w2 ⟨v2, rfl, hown2, hb2⟩; obtain ⟨A2, c2, rfl, hc2⟩ := hown2.shape; have hr2 := hown2.rd; have hown1 := hown.below hb2 (Nat.le_refl _); have hb12 := hb.trans (hb2.mono hb.size)) | (at_builtin; (refine wpList_app_sl rfl (.tmp 33) (.tmp 36) rfl slb (by decide) rfl hown1 hb12 hb12.size rfl hr2 bcs_one (by have := escT_len l; have := H.out; simp only [bcs_length, List.length_append, be_length, stampB]; omega) ?_); intro v3 w3 hown3 hb3 hs3) | (at_builtin; (refine wpList_app_lit rfl (.tmp 37) (.tmp 38) rfl slb (by decide) rfl hown3 hb3 hs3 [.int .u8 0] rfl (by simp [Value.oneCell']) (by have := escT_len l; have := H.out; simp only [bcs_length, List.length_append, be_length, stampB, List.length_cons, List.length_nil]; omega) ?_); intro v4 w4 hown4 hb4 hs4))
        go_ret2
        exact ⟨_, rfl, by rw [bcs_append, bcs_append]; exact hown4, hb4⟩
    · have hks : ¬ (okEpoch q && okSeq sq) = true := by simp [hs]
      rw [if_neg hks, if_neg hks]
      clear hks
      have hs' : ¬ (0 ≤ sq ∧ sq ≤ 281474976710655) := by simpa only [okSeq, Bool.and_eq_true, decide_eq_true_eq] using hs
      clear hk hs hln
      by_cases h2 : 0 ≤ sq
      · have h3 : 281474976710655 < sq := by omega
        have g2 : ¬ sq < 0 := by omega
        clear hs'
        go_enter Try.func31, Try.ntmps31
        go_wp2
        go_ret2
        exact RetBE_nil rfl (Below.refl _ _)
      · have g2 : sq < 0 := by omega
        clear hs'
        go_enter Try.func31, Try.ntmps31
        go_wp2
        go_ret2
        exact RetBE_nil rfl (Below.refl _ _)
  · have hks : ¬ (okEpoch q && okSeq sq) = true := by simp [hk]
    rw [if_neg hks, if_neg hks]
    clear hks
    by_cases h1 : 0 ≤ q
    · have h2 : ¬ q ≤ 65535 := okEpoch_false hk h1
      have g0 : ¬ q < 0 := by omega
      clear hk hln
      go_enter Try.func31, Try.ntmps31
      go_wp2
      go_ret2
      exact RetBE_nil rfl (Below.refl _ _)
    · have g0 : q < 0 := by omega
      clear hk hln
      go_enter Try.func31, Try.ntmps31
      go_wp2
      go_ret2
      exact RetBE_nil rfl (Below.refl _ _)
end Go.Proofs.Ytedelkifadonjaa

