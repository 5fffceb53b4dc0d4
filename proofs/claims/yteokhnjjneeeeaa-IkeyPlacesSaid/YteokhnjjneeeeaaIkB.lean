/- Layer 16: the walks of Prefix and Seek, the program's and the reference's. -/
import Derived.Test.YteokhnjjneeeeaaIkA
namespace Go.Proofs.Yteokhnjjneeeeaa
open Go.RowKit Go.Lec

theorem okEpoch_false {q : Int} (h : ¬ okEpoch q = true) (h1 : 0 ≤ q) : ¬ q ≤ 65535 := by
  simp only [okEpoch, Bool.and_eq_true, decide_eq_true_eq] at h; omega
theorem okEpoch_true {q : Int} (h : okEpoch q = true) : 0 ≤ q ∧ q ≤ 65535 := by
  simpa only [okEpoch, Bool.and_eq_true, decide_eq_true_eq] using h
theorem okSeq_true {q : Int} (h : okSeq q = true) : 0 ≤ q ∧ q ≤ 281474976710655 := by
  simpa only [okSeq, Bool.and_eq_true, decide_eq_true_eq] using h

set_option maxHeartbeats 400000 in
theorem c_Prefix (w : World) (q : Int) {B : Nat} {A : Option Addr} {n c : Nat} {l : List UInt8} (hr : Rd w B A n (bcs l)) (hB : B ≤ w.heap.size) (hn : n ≤ 1099511627) :
    Calls Try.prog 21 #[.int .i64 q, .slice A n c] w (RetBE 5 w (preB q l) (preE q l)) := by
  have hln := hr.1
  rw [bcs_length] at hln
  by_cases hk : okEpoch q = true
  · have hbe : begE q = 0 := by unfold begE; rw [if_pos hk]
    have hbb : begB q = be 2 q.toNat := by unfold begB; rw [if_pos hk]
    unfold preB preE
    rw [if_pos hk, if_pos hk, hln]
    have H := Lib.hid hln; clear hln hk
    by_cases hl : 65536 < n
    · have hl' : ¬ n ≤ 65536 := by omega
      rw [if_pos hl, if_pos hl]
      go_enter Try.func21, Try.ntmps21
      go_wp2_with (first | (go_at_call 19; (have hcon := c_Begin w q; rw [hbe] at hcon; clear hbe hbb; go_must (refine hcon.mono ?_)); clear hcon; rintro e w1 ⟨v, rfl, hown, hb⟩))
      go_ret2
      exact RetBE_nil rfl hb
    · rw [if_neg hl, if_neg hl]
      have hl' : n ≤ 65536 := by omega
      go_enter Try.func21, Try.ntmps21
      go_wp2_with (first | (go_at_call 19; (have hcon := c_Begin w q; rw [hbe, hbb] at hcon; clear hbe hbb; go_must (refine hcon.mono ?_)); clear hcon; rintro e w1 ⟨v, rfl, hown, hb⟩) | (go_at_call 17; go_must (refine (c_Escape w1 (c := c) (hr.below hb hB) (Nat.le_trans hB hb.size) hn).mono ?_); rintro e w2 ⟨v2, rfl, hown2, hb2⟩; obtain ⟨A2, c2, rfl, hc2⟩ := hown2.shape; have hr2 := hown2.rd; have hown1 := hown.below hb2 (Nat.le_refl _); have hb12 := hb.trans (hb2.mono hb.size)) | (at_builtin; go_must (refine wpList_app_sl rfl _ _ rfl slb (by decide) rfl hown1 hb12 hb12.size rfl hr2 bcs_one (by have := escT_len l; have := H.out; simp only [bcs_length, be_length]; omega) ?_); intro v3 w3 hown3 hb3 hs3))
      go_ret2
      exact ⟨_, rfl, by rw [bcs_append]; exact hown3, hb3⟩
  · have hbe : begE q = 1 := by unfold begE; rw [if_neg hk]
    unfold preB preE
    rw [if_neg hk, if_neg hk]
    clear hk hln
    go_enter Try.func21, Try.ntmps21
    go_wp2_with (first | (go_at_call 19; (have hcon := c_Begin w q; rw [hbe] at hcon; clear hbe; go_must (refine hcon.mono ?_)); clear hcon; rintro e w1 ⟨v, rfl, hown, hb⟩))
    go_ret2
    exact RetBE_nil rfl hb

set_option maxHeartbeats 400000 in
theorem c_rPrefix (w : World) (q : Int) {B : Nat} {A : Option Addr} {n c : Nat} {l : List UInt8} (hr : Rd w B A n (bcs l)) (hB : B ≤ w.heap.size) (hn : n ≤ 1099511627) :
    Calls Try.prog 12 #[.int .i64 q, .slice A n c] w (RetBE 5 w (preB q l) (preE q l)) := by
  have hln := hr.1
  rw [bcs_length] at hln
  unfold preB preE
  by_cases hk : okEpoch q = true
  · rw [if_pos hk, if_pos hk, hln]
    obtain ⟨h0, h1⟩ := okEpoch_true hk
    obtain ⟨q, rfl⟩ := Int.eq_ofNat_of_zero_le h0
    rw [Int.toNat_natCast]
    have h2 : ¬ 65535 < (q : Int) := by omega
    have h3 : ¬ (q : Int) < 0 := by omega
    have H := Lib.hid hln; clear hln hk
    by_cases hl : 65536 < n
    · have hl' : ¬ n ≤ 65536 := by omega
      rw [if_pos hl, if_pos hl]
      go_enter Try.func12, Try.ntmps12
      go_wp2
      go_ret2
      exact RetBE_nil rfl (Below.refl _ _)
    · rw [if_neg hl, if_neg hl]
      have hl' : n ≤ 65536 := by omega
      go_enter Try.func12, Try.ntmps12
      go_wp2_with (first | (go_at_call 28; go_must (refine (c_high w q 2 (by omega) (by decide)).mono ?_); rintro e w1 ⟨v, rfl, hown, hb⟩) | (go_at_call 18; go_must (refine (c_rEscape w1 (c := c) (hr.below hb hB) (Nat.le_trans hB hb.size) hn).mono ?_); rintro e w2 ⟨v2, rfl, hown2, hb2⟩; obtain ⟨A2, c2, rfl, hc2⟩ := hown2.shape; have hr2 := hown2.rd; have hown1 := hown.below hb2 (Nat.le_refl _); have hb12 := hb.trans (hb2.mono hb.size)) | (at_builtin; go_must (refine wpList_app_sl rfl _ _ rfl slb (by decide) rfl hown1 hb12 hb12.size rfl hr2 bcs_one (by have := escT_len l; have := H.out; simp only [bcs_length, be_length]; omega) ?_); intro v3 w3 hown3 hb3 hs3))
      go_ret2
      exact ⟨_, rfl, by rw [bcs_append]; exact hown3, hb3⟩
  · rw [if_neg hk, if_neg hk]
    by_cases h1 : 0 ≤ q
    · have h2 : ¬ q ≤ 65535 := okEpoch_false hk h1
      have h3 : ¬ q < 0 := by omega
      clear hk hln
      go_enter Try.func12, Try.ntmps12
      go_wp2
      go_ret2
      exact RetBE_nil rfl (Below.refl _ _)
    · clear hk hln
      go_enter Try.func12, Try.ntmps12
      go_wp2
      go_ret2
      exact RetBE_nil rfl (Below.refl _ _)

set_option maxHeartbeats 400000 in
theorem c_Seek (w : World) (q sq : Int) {B : Nat} {A : Option Addr} {n c : Nat} {l : List UInt8} (hr : Rd w B A n (bcs l)) (hB : B ≤ w.heap.size) (hn : n ≤ 1099511627) :
    Calls Try.prog 22 #[.int .i64 q, .slice A n c, .int .i64 sq] w (RetBE 5 w (seekB q l sq) (seekE q l sq)) := by
  have hln := hr.1
  rw [bcs_length] at hln
  unfold seekB seekE
  by_cases hk : okEpoch q = true
  · obtain ⟨h0, h1⟩ := okEpoch_true hk
    by_cases hs : okSeq sq = true
    · obtain ⟨h2, h3⟩ := okSeq_true hs
      have hks : (okEpoch q && okSeq sq) = true := by simp [hk, hs]
      rw [if_pos hks, if_pos hks, hln]
      clear hks
      have hpe : preE q l = if 65536 < n then 2 else 0 := by unfold preE; rw [if_pos hk, hln]
      have hpb : preB q l = if 65536 < n then [] else be 2 q.toNat ++ escT l := by unfold preB; rw [if_pos hk, hln]
      have H := Lib.hid hln; clear hln hk hs
      by_cases hl : 65536 < n
      · rw [if_pos hl] at hpe hpb
        rw [if_pos hl, if_pos hl]
        go_enter Try.func22, Try.ntmps22
        go_wp2_with (first | (go_at_call 26; go_in) | (go_at_call 21; (have hcon := c_Prefix w q hr hB hn (c := c); rw [hpe] at hcon; clear hpe hpb; go_must (refine hcon.mono ?_)); clear hcon; rintro e w1 ⟨v, rfl, hown, hb⟩))
        go_ret2
        exact RetBE_nil rfl hb
      · rw [if_neg hl] at hpe hpb
        rw [if_neg hl, if_neg hl]
        go_enter Try.func22, Try.ntmps22
        go_wp2_with (first | (go_at_call 26; go_in) | (go_at_call 21; (have hcon := c_Prefix w q hr hB hn (c := c); rw [hpe, hpb] at hcon; clear hpe hpb; go_must (refine hcon.mono ?_)); clear hcon; rintro e w1 ⟨v, rfl, hown, hb⟩) | (go_at_call 27; go_must (refine (c_stamp w1 sq h2 h3).mono ?_); rintro e w2 ⟨v2, rfl, hown2, hb2⟩; obtain ⟨A2, c2, rfl, hc2⟩ := hown2.shape; have hr2 := hown2.rd; have hown1 := hown.below hb2 (Nat.le_refl _); have hb12 := hb.trans (hb2.mono hb.size)) | (at_builtin; (refine wpList_app_sl rfl (.tmp 27) (.tmp 29) rfl slb (by decide) rfl hown1 hb12 hb12.size rfl hr2 bcs_one (by have := escT_len l; have := H.out; simp only [bcs_length, List.length_append, be_length, stampB]; omega) ?_); intro v3 w3 hown3 hb3 hs3) | (at_builtin; (refine wpList_app_lit rfl (.tmp 30) (.tmp 31) rfl slb (by decide) rfl hown3 hb3 hs3 [.int .u8 0] rfl (by simp [Value.oneCell']) (by have := escT_len l; have := H.out; simp only [bcs_length, List.length_append, be_length, stampB, List.length_cons, List.length_nil]; omega) ?_); intro v4 w4 hown4 hb4 hs4))
        go_ret2
        exact ⟨_, rfl, by rw [bcs_append, bcs_append]; exact hown4, hb4⟩
    · have hks : ¬ (okEpoch q && okSeq sq) = true := by simp [hs]
      rw [if_neg hks, if_neg hks]
      clear hks
      have hs' : ¬ (0 ≤ sq ∧ sq ≤ 281474976710655) := by simpa only [okSeq, Bool.and_eq_true, decide_eq_true_eq] using hs
      clear hk hs hln
      by_cases h2 : 0 ≤ sq
      · have h3 : ¬ sq ≤ 281474976710655 := by omega
        clear hs'
        go_enter Try.func22, Try.ntmps22
        go_wp2
        go_ret2
        exact RetBE_nil rfl (Below.refl _ _)
      · clear hs'
        go_enter Try.func22, Try.ntmps22
        go_wp2
        go_ret2
        exact RetBE_nil rfl (Below.refl _ _)
  · have hks : ¬ (okEpoch q && okSeq sq) = true := by simp [hk]
    rw [if_neg hks, if_neg hks]
    clear hks
    by_cases h1 : 0 ≤ q
    · have h2 : ¬ q ≤ 65535 := okEpoch_false hk h1
      clear hk hln
      go_enter Try.func22, Try.ntmps22
      go_wp2
      go_ret2
      exact RetBE_nil rfl (Below.refl _ _)
    · clear hk hln
      go_enter Try.func22, Try.ntmps22
      go_wp2
      go_ret2
      exact RetBE_nil rfl (Below.refl _ _)

set_option maxHeartbeats 400000 in
theorem c_rSeek (w : World) (q sq : Int) {B : Nat} {A : Option Addr} {n c : Nat} {l : List UInt8} (hr : Rd w B A n (bcs l)) (hB : B ≤ w.heap.size) (hn : n ≤ 1099511627) :
    Calls Try.prog 23 #[.int .i64 q, .slice A n c, .int .i64 sq] w (RetBE 5 w (seekB q l sq) (seekE q l sq)) := by
  have hln := hr.1
  rw [bcs_length] at hln
  unfold seekB seekE
  by_cases hk : okEpoch q = true
  · obtain ⟨h0, h1⟩ := okEpoch_true hk
    have g0 : ¬ q < 0 := by omega
    have g1 : ¬ 65535 < q := by omega
    by_cases hs : okSeq sq = true
    · obtain ⟨h2, h3⟩ := okSeq_true hs
      have g2 : ¬ sq < 0 := by omega
      have g3 : ¬ 281474976710655 < sq := by omega
      have hks : (okEpoch q && okSeq sq) = true := by simp [hk, hs]
      rw [if_pos hks, if_pos hks, hln]
      clear hks
      have hpe : preE q l = if 65536 < n then 2 else 0 := by unfold preE; rw [if_pos hk, hln]
      have hpb : preB q l = if 65536 < n then [] else be 2 q.toNat ++ escT l := by unfold preB; rw [if_pos hk, hln]
      have H := Lib.hid hln; clear hln hk hs
      by_cases hl : 65536 < n
      · rw [if_pos hl] at hpe hpb
        rw [if_pos hl, if_pos hl]
        go_enter Try.func23, Try.ntmps23
        go_wp2_with (first | (go_at_call 12; (have hcon := c_rPrefix w q hr hB hn (c := c); rw [hpe] at hcon; clear hpe hpb; go_must (refine hcon.mono ?_)); clear hcon; rintro e w1 ⟨v, rfl, hown, hb⟩))
        go_ret2
        exact RetBE_nil rfl hb
      · rw [if_neg hl] at hpe hpb
        rw [if_neg hl, if_neg hl]
        have hst : (281474976710655 - sq).toNat ≤ 9223372036854775807 := by omega
        have hcast : ((281474976710655 - sq).toNat : Int) = 281474976710655 - sq := by omega
        have Hc := Lib.hid hcast; clear hcast
        go_enter Try.func23, Try.ntmps23
        go_wp2_with (first | (go_at_call 12; (have hcon := c_rPrefix w q hr hB hn (c := c); rw [hpe, hpb] at hcon; clear hpe hpb; go_must (refine hcon.mono ?_)); clear hcon; rintro e w1 ⟨v, rfl, hown, hb⟩) | (go_at_call 28; rw [← Hc.out]; go_must (refine (c_high w1 _ 6 hst (by decide)).mono ?_); rintro e w2 ⟨v2, rfl, hown2, hb2⟩; obtain ⟨A2, c2, rfl, hc2⟩ := hown2.shape; have hr2 := hown2.rd; have hown1 := hown.below hb2 (Nat.le_refl _); have hb12 := hb.trans (hb2.mono hb.size)) | (at_builtin; (refine wpList_app_sl rfl (.tmp 33) (.tmp 36) rfl slb (by decide) rfl hown1 hb12 hb12.size rfl hr2 bcs_one (by have := escT_len l; have := H.out; simp only [bcs_length, List.length_append, be_length, stampB]; omega) ?_); intro v3 w3 hown3 hb3 hs3) | (at_builtin; (refine wpList_app_lit rfl (.tmp 37) (.tmp 38) rfl slb (by decide) rfl hown3 hb3 hs3 [.int .u8 0] rfl (by simp [Value.oneCell']) (by have := escT_len l; have := H.out; simp only [bcs_length, List.length_append, be_length, stampB, List.length_cons, List.length_nil]; omega) ?_); intro v4 w4 hown4 hb4 hs4))
        go_ret2
        exact ⟨_, rfl, by rw [bcs_append, bcs_append]; exact hown4, hb4⟩
    · have hks : ¬ (okEpoch q && okSeq sq) = true := by simp [hs]
      rw [if_neg hks, if_neg hks]
      clear hks
      have hs' : ¬ (0 ≤ sq ∧ sq ≤ 281474976710655) := by simpa only [okSeq, Bool.and_eq_true, decide_eq_true_eq] using hs
      clear hk hs hln
      by_cases h2 : 0 ≤ sq
      · have h3 : 281474976710655 < sq := by omega
        have g2 : ¬ sq < 0 := by omega
        clear hs'
        go_enter Try.func23, Try.ntmps23
        go_wp2
        go_ret2
        exact RetBE_nil rfl (Below.refl _ _)
      · have g2 : sq < 0 := by omega
        clear hs'
        go_enter Try.func23, Try.ntmps23
        go_wp2
        go_ret2
        exact RetBE_nil rfl (Below.refl _ _)
  · have hks : ¬ (okEpoch q && okSeq sq) = true := by simp [hk]
    rw [if_neg hks, if_neg hks]
    clear hks
    by_cases h1 : 0 ≤ q
    · have h2 : ¬ q ≤ 65535 := okEpoch_false hk h1
      have g0 : ¬ q < 0 := by omega
      clear hk hln
      go_enter Try.func23, Try.ntmps23
      go_wp2
      go_ret2
      exact RetBE_nil rfl (Below.refl _ _)
    · have g0 : q < 0 := by omega
      clear hk hln
      go_enter Try.func23, Try.ntmps23
      go_wp2
      go_ret2
      exact RetBE_nil rfl (Below.refl _ _)
end Go.Proofs.Yteokhnjjneeeeaa
