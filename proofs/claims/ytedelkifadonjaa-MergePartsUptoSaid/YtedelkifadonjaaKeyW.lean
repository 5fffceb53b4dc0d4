/- Layer 16: keys, as far as this seat reaches them (by subset.py, out of IkA IkB IkC IkD IkE IkF IkG IkH IkI IkJ IkK IkL IkM IkN). -/
import Derived.Test.YtedelkifadonjaaLvB
import Derived.Test.YtedelkifadonjaaRows
import Derived.Test.YtedelkifadonjaaIkPlain
import Derived.Recover
import Derived.Test.YtedelkifadonjaaMemB
namespace Go.Proofs.Ytedelkifadonjaa
open Go.RowKit Go.Lec

set_option maxRecDepth 40000 in
set_option maxHeartbeats 400000 in
theorem c_Escape (w : World) {B : Nat} {A : Option Addr} {n c : Nat} {l : List UInt8} (hr : Rd w B A n (bcs l)) (hB : B ≤ w.heap.size) (hn : n ≤ 1099511627) :
    Calls Try.prog 50 #[.slice A n c] w (RetB 5 w (escT l)) := by
  go_enter Try.func50, Try.ntmps50
  go_wp2
  go_loopw [3, 5, 8] (fun v _ i wr => ∃ k : Nat, k ≤ n ∧ i = .int .i64 k ∧ Own wr w.heap.size 5 v (bcs (esc (l.take k))) ∧ Below w.heap.size w wr) (fun _ _ i _ => n - (intOf i).toNat)
  case atStart => exact ⟨0, Nat.zero_le _, rfl, Own.nil_ _ _ _, Below.refl _ _⟩
  case round =>
    obtain ⟨k, hk, rfl, hown, hb⟩ := hrel
    have hln := hr.1
    rw [bcs_length] at hln
    have Hln := Lib.hid hln; clear hln
    by_cases hlt : k < n
    · obtain ⟨b, o, rfl, hbB, hcell⟩ := (hr.below hb hB).byte hlt
      have hkl : k < l.length := by rw [Hln.out]; exact hlt
      have hc := hcell k hkl
      clear hcell
      have hel := esc_len (l.take k)
      have hel2 : (l.take k).length ≤ n := by rw [List.length_take]; omega
      have hz := byte_zero l[k]
      by_cases h0 : l[k] = 0
      · have hz' : ((l[k].toNat : Int) == 0) = true := by rw [hz]; simpa using h0
        clear hz
        have Hs := Lib.hid (esc_hit l k hkl h0)
        have H0 := Lib.hid h0; clear h0
        go_wp2_with (first | (at_builtin; (refine wpList_app_lit rfl _ _ rfl slb (by decide) rfl hown hb hb.size [.int .u8 (l[k].toNat : Int)] rfl (by simp [Value.oneCell']) (by simp only [bcs_length, List.length_cons, List.length_nil]; omega) ?_); intro v1 w1 hown1 hb1 hs1) | (at_builtin; (refine wpList_app_lit rfl _ _ rfl slb (by decide) rfl hown1 hb1 hs1 [.int .u8 255] rfl (by simp [Value.oneCell']) (by simp [bcs_length]; omega) ?_); intro v2 w2 hown2 hb2 hs2))
        go_roundw
        case rel => exact ⟨k + 1, by omega, by go_num, by rw [Hs.out]; assumption, by assumption⟩
        case measure => simp [intOf]; omega
      · have hz' : ((l[k].toNat : Int) == 0) = false := by rw [hz]; simpa using h0
        clear hz
        have Hs := Lib.hid (esc_miss l k hkl h0)
        have H0 := Lib.hid h0; clear h0
        go_wp2_with (first | (at_builtin; (refine wpList_app_lit rfl _ _ rfl slb (by decide) rfl hown hb hb.size [.int .u8 (l[k].toNat : Int)] rfl (by simp [Value.oneCell']) (by simp only [bcs_length, List.length_cons, List.length_nil]; omega) ?_); intro v1 w1 hown1 hb1 hs1))
        go_roundw
        case rel => exact ⟨k + 1, by omega, by go_num, by rw [Hs.out]; assumption, by assumption⟩
        case measure => simp [intOf]; omega
    · have hkn : k = n := by omega
      have ht : l.take k = l := by rw [List.take_of_length_le]; rw [Hln.out]; omega
      rw [ht] at hown
      have hel := esc_len l
      have hel2 : l.length ≤ n := by rw [Hln.out]; omega
      clear hkn ht
      go_wp2_with (first | (at_builtin; (refine wpList_app_lit rfl _ _ rfl slb (by decide) rfl hown hb hb.size [.int .u8 0, .int .u8 1] rfl (by simp [Value.oneCell']) (by simp only [bcs_length, List.length_cons, List.length_nil]; omega) ?_); intro v1 w1 hown1 hb1 hs1))
      go_ret
      exact ⟨_, rfl, by unfold escT; rw [bcs_append]; assumption, by assumption⟩

set_option maxRecDepth 40000 in
set_option maxHeartbeats 400000 in
theorem c_rEscape (w : World) {B : Nat} {A : Option Addr} {n c : Nat} {l : List UInt8} (hr : Rd w B A n (bcs l)) (hB : B ≤ w.heap.size) (hn : n ≤ 1099511627) :
    Calls Try.prog 27 #[.slice A n c] w (RetB 5 w (escT l)) := by
  go_enter Try.func27, Try.ntmps27
  go_wp2
  go_loopw [3, 4] (fun v i wr => ∃ k : Nat, k ≤ n ∧ i = .int .i64 k ∧ Own wr w.heap.size 5 v (bcs (esc (l.take k))) ∧ Below w.heap.size w wr) (fun _ i _ => n - (intOf i).toNat)
  case atStart => exact ⟨0, Nat.zero_le _, rfl, Own.nil_ _ _ _, Below.refl _ _⟩
  case round =>
    obtain ⟨k, hk, rfl, hown, hb⟩ := hrel
    have hln := hr.1
    rw [bcs_length] at hln
    have Hln := Lib.hid hln; clear hln
    by_cases hlt : k < n
    · obtain ⟨b, o, rfl, hbB, hcell⟩ := (hr.below hb hB).byte hlt
      have hkl : k < l.length := by rw [Hln.out]; exact hlt
      have hc := hcell k hkl
      clear hcell
      have hel := esc_len (l.take k)
      have hel2 : (l.take k).length ≤ n := by rw [List.length_take]; omega
      have hz := byte_zero l[k]
      by_cases h0 : l[k] = 0
      · have hz' : ((l[k].toNat : Int) == 0) = true := by rw [hz]; simpa using h0
        clear hz
        have Hs := Lib.hid (esc_hit l k hkl h0)
        have H0 := Lib.hid h0; clear h0
        go_wp2_with (first | (at_builtin; (refine wpList_app_lit rfl _ _ rfl slb (by decide) rfl hown hb hb.size [.int .u8 (l[k].toNat : Int)] rfl (by simp [Value.oneCell']) (by simp only [bcs_length, List.length_cons, List.length_nil]; omega) ?_); intro v1 w1 hown1 hb1 hs1; have hc1 := (hr.below hb1 hB).byte hlt; obtain ⟨b', o', hh, -, hc1⟩ := hc1; cases hh; have hc1 := hc1 k hkl) | (at_builtin; (refine wpList_app_lit rfl _ _ rfl slb (by decide) rfl hown1 hb1 hs1 [.int .u8 255] rfl (by simp [Value.oneCell']) (by simp [bcs_length]; omega) ?_); intro v2 w2 hown2 hb2 hs2))
        go_roundw
        case rel => exact ⟨k + 1, by omega, by go_num, by rw [Hs.out]; assumption, by assumption⟩
        case measure => simp [intOf]; omega
      · have hz' : ((l[k].toNat : Int) == 0) = false := by rw [hz]; simpa using h0
        clear hz
        have Hs := Lib.hid (esc_miss l k hkl h0)
        have H0 := Lib.hid h0; clear h0
        go_wp2_with (first | (at_builtin; (refine wpList_app_lit rfl _ _ rfl slb (by decide) rfl hown hb hb.size [.int .u8 (l[k].toNat : Int)] rfl (by simp [Value.oneCell']) (by simp only [bcs_length, List.length_cons, List.length_nil]; omega) ?_); intro v1 w1 hown1 hb1 hs1; have hc1 := (hr.below hb1 hB).byte hlt; obtain ⟨b', o', hh, -, hc1⟩ := hc1; cases hh; have hc1 := hc1 k hkl))
        go_roundw
        case rel => exact ⟨k + 1, by omega, by go_num, by rw [Hs.out]; assumption, by assumption⟩
        case measure => simp [intOf]; omega
    · have hkn : k = n := by omega
      have ht : l.take k = l := by rw [List.take_of_length_le]; rw [Hln.out]; omega
      rw [ht] at hown
      have hel := esc_len l
      have hel2 : l.length ≤ n := by rw [Hln.out]; omega
      clear hkn ht
      go_wp2_with (first | (at_builtin; (refine wpList_app_lit rfl _ _ rfl slb (by decide) rfl hown hb hb.size [.int .u8 0, .int .u8 1] rfl (by simp [Value.oneCell']) (by simp only [bcs_length, List.length_cons, List.length_nil]; omega) ?_); intro v1 w1 hown1 hb1 hs1))
      go_ret
      exact ⟨_, rfl, by unfold escT; rw [bcs_append]; assumption, by assumption⟩

theorem byte_wrap (x : Int) (h0 : 0 ≤ x) (h1 : x ≤ 255) : (.int .u8 x : Value) = bcell (UInt8.ofNat x.toNat) := by
  rw [bcell_ofNat]
  congr 1
  omega
theorem be_step (j n : Nat) : bcs (be (j + 1) n) = bcell (UInt8.ofNat (n / 256 ^ j % 256)) :: bcs (be j n) := rfl

/-- What the loop of 'high' holds behind j rounds. -/
theorem high_set (wide j n : Nat) (h : j < wide) :
    (List.replicate (wide - j) (Value.int .u8 0) ++ bcs (be j n)).set (wide - 1 - j) (bcell (UInt8.ofNat (n / 256 ^ j % 256))) = List.replicate (wide - (j + 1)) (Value.int .u8 0) ++ bcs (be (j + 1) n) := by
  obtain ⟨d, rfl⟩ : ∃ d, wide = d + 1 + j := ⟨wide - 1 - j, by omega⟩
  have e1 : d + 1 + j - j = d + 1 := by omega
  have e2 : d + 1 + j - 1 - j = d := by omega
  have e3 : d + 1 + j - (j + 1) = d := by omega
  rw [e1, e2, e3, be_step, List.replicate_succ']
  rw [List.append_assoc, List.set_append_right _ _ (by simp)]
  simp

set_option maxRecDepth 40000 in
set_option maxHeartbeats 400000 in
theorem c_high (w : World) (n wide : Nat) (hn : n ≤ 9223372036854775807) (hw : wide ≤ 1000) :
    Calls Try.prog 26 #[.int .i64 n, .int .i64 wide] w (RetB 5 w (be wide n)) := by
  go_enter Try.func26, Try.ntmps26
  go_wp2_with (first | (at_make; go_loud (refine wpList_make_n rfl _ _ rfl slb (by decide) rfl (Nat.le_refl _) wide rfl rfl rfl rfl (by omega) ?_); intro w1 hown hb1 hs1))
  go_loopw [0, 6] (fun q i wr => ∃ (d : Nat) (I : Int), d ≤ wide ∧ q = .int .i64 ((n / 256 ^ (wide - d) : Nat) : Int) ∧ i = .int .i64 I ∧ I = (d : Int) - 1 ∧
      Own wr w.heap.size 5 (.slice (some ⟨w.heap.size, 0, none⟩) wide wide) (List.replicate d (.int .u8 0) ++ bcs (be (wide - d) n)) ∧ Below w.heap.size w wr) (fun _ i _ => (intOf i + 1).toNat)
  case atStart => exact ⟨wide, _, Nat.le_refl _, by simp, rfl, rfl, by simpa [be, bcs] using hown, hb1⟩
  case round =>
    obtain ⟨d, I, hd, rfl, rfl, hI, hown, hb⟩ := hrel
    have hq : n / 256 ^ (wide - d) ≤ n := Nat.div_le_self _ _
    generalize hqq : n / 256 ^ (wide - d) = q at *
    have Hq := Lib.hid hqq; clear hqq
    rcases Nat.eq_zero_or_pos d with h0 | h0
    · subst h0
      obtain rfl : I = -1 := by omega
      clear hI hn
      go_wp2
      go_ret
      exact ⟨_, rfl, by simpa using hown, hb⟩
    · obtain ⟨d, rfl⟩ : ∃ d', d = d' + 1 := ⟨d - 1, by omega⟩
      obtain rfl : I = (d : Int) := by omega
      clear hI
      have hcell := hown.cellAt d (by omega)
      rw [List.getElem?_append_left (by simp), List.getElem?_replicate, if_pos (by omega)] at hcell
      have hfz := hown.frozenAt d
      have hst := hown.stored d (bcell (UInt8.ofNat (q % 256)))
      have hset := high_set wide (wide - (d + 1)) n (by omega)
      rw [Hq.out, show wide - (wide - (d + 1)) = d + 1 from by omega, show wide - 1 - (wide - (d + 1)) = d from by omega, show wide - (wide - (d + 1) + 1) = d from by omega, show wide - (d + 1) + 1 = wide - d from by omega] at hset
      rw [hset] at hst
      clear hset
      have hv := byte_wrap ((q : Int) % 256) (by omega) (by omega)
      have hq2 : q / 256 = n / 256 ^ (wide - d) := by rw [← Hq.out, Nat.div_div_eq_div_mul, ← Nat.pow_succ, show (wide - (d + 1)).succ = wide - d from by omega]
      have hbs : Below w.heap.size w (wr.setCell ⟨w.heap.size, d, none⟩ (bcell (UInt8.ofNat (q % 256)))) := hb.setCell (Nat.le_refl _) _
      rw [show UInt8.ofNat ((q : Int) % 256).toNat = UInt8.ofNat (q % 256) from by congr 1] at hv
      rw [← hv] at hst hbs
      have Hst := Lib.hid hst; clear hst
      have Hbs := Lib.hid hbs; clear hbs
      have Hq2 := Lib.hid hq2; clear hq2
      clear hv hown hb
      go_wp2
      go_roundw
      case rel => exact ⟨d, (d : Int) - 1, by omega, by rw [← Hq2.out]; rfl, rfl, rfl, Hst.out, Hbs.out⟩
      case measure => simp [intOf]

set_option maxRecDepth 40000 in
set_option maxHeartbeats 400000 in
theorem c_Begin (w : World) (q : Int) :
    Calls Try.prog 49 #[.int .i64 q] w (RetBE 5 w (begB q) (begE q)) := by
  by_cases h0 : 0 ≤ q ∧ q ≤ 65535
  · have hk : okEpoch q = true := by simp [okEpoch, h0]
    have H := Lib.hid hk; clear hk
    obtain ⟨h0, h1⟩ := h0
    go_enter Try.func49, Try.ntmps49
    go_wp2
    go_ret2
    unfold begB begE
    rw [if_pos H.out, if_pos H.out]
    exact RetBE_lit _ (beg_cells q h0 h1) (by simp)
  · have hk : ¬ okEpoch q = true := by simp only [okEpoch, Bool.and_eq_true, decide_eq_true_eq]; omega
    unfold begB begE
    rw [if_neg hk, if_neg hk]
    clear hk
    by_cases h1 : 0 ≤ q
    · have h2 : ¬ q ≤ 65535 := by omega
      clear h0
      go_enter Try.func49, Try.ntmps49
      go_wp2
      go_ret2
      exact RetBE_nil rfl (Below.refl _ _)
    · clear h0
      go_enter Try.func49, Try.ntmps49
      go_wp2
      go_ret2
      exact RetBE_nil rfl (Below.refl _ _)

set_option maxRecDepth 40000 in
set_option maxHeartbeats 400000 in
theorem c_rBegin (w : World) (q : Int) :
    Calls Try.prog 15 #[.int .i64 q] w (RetBE 5 w (begB q) (begE q)) := by
  by_cases h0 : 0 ≤ q ∧ q ≤ 65535
  · have hk : okEpoch q = true := by simp [okEpoch, h0]
    unfold begB begE
    rw [if_pos hk, if_pos hk]
    clear hk
    obtain ⟨h0, h1⟩ := h0
    obtain ⟨q, rfl⟩ := Int.eq_ofNat_of_zero_le h0
    rw [Int.toNat_natCast]
    have h2 : ¬ 65535 < (q : Int) := by omega
    have h3 : ¬ (q : Int) < 0 := by omega
    go_enter Try.func15, Try.ntmps15
    go_wp2_with (first | (go_at_call 26; go_must (refine (c_high w q 2 (by omega) (by decide)).mono ?_); rintro e w1 ⟨v, rfl, hown, hb⟩))
    go_ret2
    exact ⟨_, rfl, hown, hb⟩
  · have hk : ¬ okEpoch q = true := by simp only [okEpoch, Bool.and_eq_true, decide_eq_true_eq]; omega
    unfold begB begE
    rw [if_neg hk, if_neg hk]
    clear hk
    by_cases h1 : 0 ≤ q
    · have h2 : ¬ q ≤ 65535 := by omega
      have h3 : ¬ q < 0 := by omega
      clear h0
      go_enter Try.func15, Try.ntmps15
      go_wp2
      go_ret2
      exact RetBE_nil rfl (Below.refl _ _)
    · clear h0
      go_enter Try.func15, Try.ntmps15
      go_wp2
      go_ret2
      exact RetBE_nil rfl (Below.refl _ _)
end Go.Proofs.Ytedelkifadonjaa

namespace Go.Proofs.Ytedelkifadonjaa
open Go.RowKit Go.Lec

theorem okEpoch_false {q : Int} (h : ¬ okEpoch q = true) (h1 : 0 ≤ q) : ¬ q ≤ 65535 := by
  simp only [okEpoch, Bool.and_eq_true, decide_eq_true_eq] at h; omega
theorem okEpoch_true {q : Int} (h : okEpoch q = true) : 0 ≤ q ∧ q ≤ 65535 := by
  simpa only [okEpoch, Bool.and_eq_true, decide_eq_true_eq] using h
theorem okSeq_true {q : Int} (h : okSeq q = true) : 0 ≤ q ∧ q ≤ 281474976710655 := by
  simpa only [okSeq, Bool.and_eq_true, decide_eq_true_eq] using h

set_option maxRecDepth 40000 in
set_option maxHeartbeats 400000 in
theorem c_Prefix (w : World) (q : Int) {B : Nat} {A : Option Addr} {n c : Nat} {l : List UInt8} (hr : Rd w B A n (bcs l)) (hB : B ≤ w.heap.size) (hn : n ≤ 1099511627) :
    Calls Try.prog 29 #[.int .i64 q, .slice A n c] w (RetBE 5 w (preB q l) (preE q l)) := by
  have hln := hr.1
  rw [bcs_length] at hln
  by_cases hk : okEpoch q = true
  · have hbe : begE q = 0 := by unfold begE; rw [if_pos hk]
    have hbb : begB q = be 2 q.toNat := by unfold begB; rw [if_pos hk]
    unfold preB preE
    rw [if_pos hk, if_pos hk, hln]
    have H := Lib.hid hln; clear hln hk
    by_cases hl : 65536 < n
    · have hl' : ¬ n ≤ 65536 := by omega
      rw [if_pos hl, if_pos hl]
      go_enter Try.func29, Try.ntmps29
      go_wp2_with (first | (go_at_call 49; (have hcon := c_Begin w q; rw [hbe] at hcon; clear hbe hbb; go_must (refine hcon.mono ?_)); clear hcon; rintro e w1 ⟨v, rfl, hown, hb⟩))
      go_ret2
      exact RetBE_nil rfl hb
    · rw [if_neg hl, if_neg hl]
      have hl' : n ≤ 65536 := by omega
      go_enter Try.func29, Try.ntmps29
      go_wp2_with (first | (go_at_call 49; (have hcon := c_Begin w q; rw [hbe, hbb] at hcon; clear hbe hbb; go_must (refine hcon.mono ?_)); clear hcon; rintro e w1 ⟨v, rfl, hown, hb⟩) | (go_at_call 50; go_must (refine (c_Escape w1 (c := c) (hr.below hb hB) (Nat.le_trans hB hb.size) hn).mono ?_); rintro e w2 ⟨v2, rfl, hown2, hb2⟩; obtain ⟨A2, c2, rfl, hc2⟩ := hown2.shape; have hr2 := hown2.rd; have hown1 := hown.below hb2 (Nat.le_refl _); have hb12 := hb.trans (hb2.mono hb.size)) | (at_builtin; go_must (refine wpList_app_sl rfl _ _ rfl slb (by decide) rfl hown1 hb12 hb12.size rfl hr2 bcs_one (by have := escT_len l; have := H.out; simp only [bcs_length, be_length]; omega) ?_); intro v3 w3 hown3 hb3 hs3))
      go_ret2
      exact ⟨_, rfl, by rw [bcs_append]; exact hown3, hb3⟩
  · have hbe : begE q = 1 := by unfold begE; rw [if_neg hk]
    unfold preB preE
    rw [if_neg hk, if_neg hk]
    clear hk hln
    go_enter Try.func29, Try.ntmps29
    go_wp2_with (first | (go_at_call 49; (have hcon := c_Begin w q; rw [hbe] at hcon; clear hbe; go_must (refine hcon.mono ?_)); clear hcon; rintro e w1 ⟨v, rfl, hown, hb⟩))
    go_ret2
    exact RetBE_nil rfl hb

set_option maxRecDepth 40000 in
set_option maxHeartbeats 400000 in
theorem c_rPrefix (w : World) (q : Int) {B : Nat} {A : Option Addr} {n c : Nat} {l : List UInt8} (hr : Rd w B A n (bcs l)) (hB : B ≤ w.heap.size) (hn : n ≤ 1099511627) :
    Calls Try.prog 14 #[.int .i64 q, .slice A n c] w (RetBE 5 w (preB q l) (preE q l)) := by
  have hln := hr.1
  rw [bcs_length] at hln
  unfold preB preE
  by_cases hk : okEpoch q = true
  · rw [if_pos hk, if_pos hk, hln]
    obtain ⟨h0, h1⟩ := okEpoch_true hk
    obtain ⟨q, rfl⟩ := Int.eq_ofNat_of_zero_le h0
    rw [Int.toNat_natCast]
    have h2 : ¬ 65535 < (q : Int) := by omega
    have h3 : ¬ (q : Int) < 0 := by omega
    have H := Lib.hid hln; clear hln hk
    by_cases hl : 65536 < n
    · have hl' : ¬ n ≤ 65536 := by omega
      rw [if_pos hl, if_pos hl]
      go_enter Try.func14, Try.ntmps14
      go_wp2
      go_ret2
      exact RetBE_nil rfl (Below.refl _ _)
    · rw [if_neg hl, if_neg hl]
      have hl' : n ≤ 65536 := by omega
      go_enter Try.func14, Try.ntmps14
      go_wp2_with (first | (go_at_call 26; go_must (refine (c_high w q 2 (by omega) (by decide)).mono ?_); rintro e w1 ⟨v, rfl, hown, hb⟩) | (go_at_call 27; go_must (refine (c_rEscape w1 (c := c) (hr.below hb hB) (Nat.le_trans hB hb.size) hn).mono ?_); rintro e w2 ⟨v2, rfl, hown2, hb2⟩; obtain ⟨A2, c2, rfl, hc2⟩ := hown2.shape; have hr2 := hown2.rd; have hown1 := hown.below hb2 (Nat.le_refl _); have hb12 := hb.trans (hb2.mono hb.size)) | (at_builtin; go_must (refine wpList_app_sl rfl _ _ rfl slb (by decide) rfl hown1 hb12 hb12.size rfl hr2 bcs_one (by have := escT_len l; have := H.out; simp only [bcs_length, be_length]; omega) ?_); intro v3 w3 hown3 hb3 hs3))
      go_ret2
      exact ⟨_, rfl, by rw [bcs_append]; exact hown3, hb3⟩
  · rw [if_neg hk, if_neg hk]
    by_cases h1 : 0 ≤ q
    · have h2 : ¬ q ≤ 65535 := okEpoch_false hk h1
      have h3 : ¬ q < 0 := by omega
      clear hk hln
      go_enter Try.func14, Try.ntmps14
      go_wp2
      go_ret2
      exact RetBE_nil rfl (Below.refl _ _)
    · clear hk hln
      go_enter Try.func14, Try.ntmps14
      go_wp2
      go_ret2
      exact RetBE_nil rfl (Below.refl _ _)

end Go.Proofs.Ytedelkifadonjaa

namespace Go.Proofs.Ytedelkifadonjaa
open Go.RowKit Go.Lec

theorem byte_wrap_one (kd : Int) (h0 : 0 ≤ kd) (h1 : kd ≤ 1) : [.int .u8 (1 - kd)] = bcs [UInt8.ofNat (1 - kd).toNat] := by
  rw [byte_wrap (1 - kd) (by omega) (by omega)]
  rfl

theorem RetBE_box {e5 : TypeId} {w : World} {o : Obj} {err : Int} : RetBE e5 w [] err (.returned (.tuple #[.slice none 0 0, .int .i64 err])) (w.alloc o) :=
  RetBE_nil rfl ((Below.refl _ _).alloc (Nat.le_refl _) _)

/-- What Encode answers. -/
def okKey (q sq kd : Int) : Bool := okEpoch q && okSeq sq && decide (0 ≤ kd) && decide (kd ≤ 1)
def encB (q : Int) (l : List UInt8) (sq kd : Int) (t : List UInt8) : List UInt8 :=
  if okKey q sq kd then (if 1024 < t.length then [] else be 2 q.toNat ++ escT l ++ stampB sq ++ [UInt8.ofNat (1 - kd).toNat] ++ t) else []
def encE (q : Int) (sq kd : Int) (t : List UInt8) : Int := if okKey q sq kd then (if 1024 < t.length then 2 else 0) else 1

end Go.Proofs.Ytedelkifadonjaa

namespace Go.Proofs.Ytedelkifadonjaa
open Go.RowKit Go.Lec

end Go.Proofs.Ytedelkifadonjaa

namespace Go.Proofs.Ytedelkifadonjaa
open Go.RowKit Go.Lec

theorem byte_one (c : UInt8) : ((c.toNat : Int) == 1) = decide (c = 1) := byte_eq c 1
theorem byte_255 (c : UInt8) : ((c.toNat : Int) == 255) = decide (c = 255) := byte_eq c 255
theorem byte_nz (c : UInt8) : ((c.toNat : Int) != 0) = !decide (c = 0) := by rw [← byte_zero]; rfl
theorem byte_n1 (c : UInt8) : ((c.toNat : Int) != 1) = !decide (c = 1) := by rw [← byte_one]; rfl
theorem byte_n255 (c : UInt8) : ((c.toNat : Int) != 255) = !decide (c = 255) := by rw [← byte_255]; rfl

/-- What the program throws where bytes are no key. -/
def failVal (e : Int) : Value := .iface 107 (.agg #[.int .i64 e])
/-- The program's reading of an escape: it answers, or throws. -/
def UnPost (w : World) (l : List UInt8) (e : Ending) (w' : World) : Prop :=
  (∃ s k v, unesc l = some (s, k) ∧ e = .returned (.tuple #[v, .int .i64 (k : Nat)]) ∧ Own w' w.heap.size 5 v (bcs s) ∧ Below w.heap.size w w') ∨
  (unesc l = none ∧ e = .panicked [{ v := failVal 160, recovered := false }] ∧ Below w.heap.size w w')

set_option maxRecDepth 40000 in
theorem c_must_ok (b : Bool) (err : Int) (w : World) (h : b = true) : Calls Try.prog 61 #[.bool b, .int .i64 err] w fun e w' => e = .returned (.tuple #[]) ∧ w = w' := by
  subst h
  go_enter Try.func61, Try.ntmps61
  go_wp2
  go_end0
  exact ⟨rfl, rfl⟩
set_option maxRecDepth 40000 in
theorem c_must_no (b : Bool) (err : Int) (w : World) (h : b = false) : Calls Try.prog 61 #[.bool b, .int .i64 err] w fun e w' => e = .panicked [{ v := failVal err, recovered := false }] ∧ w = w' := by
  subst h
  go_enter Try.func61, Try.ntmps61
  go_wp2
  exact ⟨rfl, rfl, rfl⟩

set_option maxRecDepth 40000 in
set_option maxHeartbeats 1600000 in
theorem c_unescape (w : World) {B : Nat} {A : Option Addr} {n c : Nat} {l : List UInt8} (hr : Rd w B A n (bcs l)) (hB : B ≤ w.heap.size) (hn : n ≤ 1099511627) :
    Calls Try.prog 60 #[.slice A n c] w (UnPost w l) := by
  go_enter Try.func60, Try.ntmps60
  go_wp2
  go_loopw [4, 5] (fun v i wr => ∃ (k : Nat) (acc : List UInt8), acc.length ≤ k ∧ k ≤ n ∧ i = .int .i64 k ∧ UnInv l acc k ∧ Own wr w.heap.size 5 v (bcs acc) ∧ Below w.heap.size w wr) (fun _ i _ => n - (intOf i).toNat)
  case atStart => exact ⟨0, [], Nat.zero_le _, Nat.zero_le _, rfl, UnInv.start l, Own.nil_ _ _ _, Below.refl _ _⟩
  case round =>
    obtain ⟨k, acc, hak, hk, rfl, hinv, hown, hb⟩ := hrel
    have hln := hr.1
    rw [bcs_length] at hln
    by_cases hlt : k < n
    · have hkl : k < l.length := by omega
      obtain ⟨b, o, rfl, hbB, hcell⟩ := (hr.below hb hB).byte hlt
      have hc := hcell k hkl
      by_cases h0 : l[k] = 0
      · have hz : ((l[k].toNat : Int) != 0) = false := by rw [byte_nz]; simpa using h0
        by_cases hlt1 : k + 1 < n
        · have hkl1 : k + 1 < l.length := by omega
          have hc1 : wr.cell? ⟨b, o + (k + 1), none⟩ = some (.int .u8 (l[k + 1].toNat : Int)) := hcell (k + 1) hkl1
          clear hcell
          have hi1 : (k : Int) + 1 < n := by omega
          by_cases h1 : l[k + 1] = 1
          · have hz1 : ((l[k + 1].toNat : Int) == 1) = true := by rw [byte_one]; simpa using h1
            have hfin := hinv.z1 hkl1 h0 h1
            have Hfin := Lib.hid hfin
            clear hfin hinv h0 h1 hln hr
            go_wp2_with (first | (go_at_call 61; refine (c_must_ok _ _ _ ?_).mono ?_; (first | rfl | (simp; done) | (simp; omega) | (simp [*]; done)); rintro e w' ⟨rfl, rfl⟩))
            go_ret2
            exact .inl ⟨_, _, _, Hfin.out, rfl, hown, hb⟩
          · have hz1 : ((l[k + 1].toNat : Int) == 1) = false := by rw [byte_one]; simpa using h1
            by_cases h2 : l[k + 1] = 255
            · have hz2 : ((l[k + 1].toNat : Int) == 255) = true := by rw [byte_255]; simpa using h2
              have Hinv := Lib.hid (hinv.z255 hkl1 h0 h2)
              clear hinv h0 h1 h2 hln
              go_wp2_with (first | (go_at_call 61; refine (c_must_ok _ _ _ ?_).mono ?_; (first | rfl | (simp; done) | (simp; omega) | (simp [*]; done)); rintro e w' ⟨rfl, rfl⟩) | (at_builtin; (refine wpList_app_lit rfl _ _ rfl slb (by decide) rfl hown hb hb.size [.int .u8 0] rfl (by simp [Value.oneCell']) (by simp only [bcs_length, List.length_cons, List.length_nil]; omega) ?_); intro v1 w1 hown1 hb1 hs1))
              go_roundw
              case rel => exact ⟨k + 2, acc ++ [0], by simp; omega, by omega, by go_num, Hinv.out, by rw [bcs_append]; exact hown1, hb1⟩
              case measure => simp [intOf]; omega
            · have hz2 : ((l[k + 1].toNat : Int) == 255) = false := by rw [byte_255]; simpa using h2
              have Hfin := Lib.hid (hinv.z_bad hkl1 h0 h1 h2)
              clear hinv h0 h1 h2 hln
              go_wp2_with (first | (go_at_call 61; refine (c_must_ok _ _ _ ?_).mono ?_; (first | rfl | (simp; done) | (simp; omega) | (simp [*]; done)); rintro e w' ⟨rfl, rfl⟩) | (go_at_call 61; refine (c_must_no _ _ _ ?_).mono ?_; (first | rfl | (simp; done) | (simp; omega) | (simp [*]; done)); rintro e w' ⟨rfl, rfl⟩))
              exact ⟨rfl, .inr ⟨Hfin.out, rfl, hb⟩⟩
        · have Hfin := Lib.hid (hinv.z_end hkl h0 (by omega))
          have hi1 : ¬ ((k : Int) + 1 < n) := by omega
          clear hinv h0 hln hcell
          go_wp2_with (first | (go_at_call 61; refine (c_must_ok _ _ _ ?_).mono ?_; (first | rfl | (simp; done) | (simp; omega) | (simp [*]; done)); rintro e w' ⟨rfl, rfl⟩) | (go_at_call 61; refine (c_must_no _ _ _ ?_).mono ?_; (first | rfl | (simp; done) | (simp; omega) | (simp [*]; done)); rintro e w' ⟨rfl, rfl⟩))
          exact ⟨rfl, .inr ⟨Hfin.out, rfl, hb⟩⟩
      · have hz : ((l[k].toNat : Int) != 0) = true := by rw [byte_nz]; simpa using h0
        have Hinv := Lib.hid (hinv.nz hkl h0)
        clear hinv h0 hln hcell
        go_wp2_with (first | (go_at_call 61; refine (c_must_ok _ _ _ ?_).mono ?_; (first | rfl | (simp; done) | (simp; omega) | (simp [*]; done)); rintro e w' ⟨rfl, rfl⟩) | (at_builtin; (refine wpList_app_lit rfl _ _ rfl slb (by decide) rfl hown hb hb.size [.int .u8 (l[k].toNat : Int)] rfl (by simp [Value.oneCell']) (by simp only [bcs_length, List.length_cons, List.length_nil]; omega) ?_); intro v1 w1 hown1 hb1 hs1))
        go_roundw
        case rel => exact ⟨k + 1, acc ++ [l[k]], by simp; omega, by omega, by go_num, Hinv.out, by rw [bcs_append]; exact hown1, hb1⟩
        case measure => simp [intOf]; omega
    · have hfin := hinv.end_ (by omega)
      have Hfin := Lib.hid hfin
      clear hfin hinv hln
      go_wp2_with (first | (go_at_call 61; refine (c_must_no _ _ _ ?_).mono ?_; (first | rfl | (simp; done) | (simp; omega) | (simp [*]; done)); rintro e w' ⟨rfl, rfl⟩))
      exact ⟨rfl, .inr ⟨Hfin.out, rfl, hb⟩⟩

/-- Three results: bytes of the call's own, a number, an error. -/
def RUnPost (w : World) (l : List UInt8) (e : Ending) (w' : World) : Prop :=
  (∃ s k v, unesc l = some (s, k) ∧ e = .returned (.tuple #[v, .int .i64 (k : Nat), .int .i64 0]) ∧ Own w' w.heap.size 5 v (bcs s) ∧ Below w.heap.size w w') ∨
  (unesc l = none ∧ e = .returned (.tuple #[.slice none 0 0, .int .i64 0, .int .i64 160]) ∧ Below w.heap.size w w')

set_option maxRecDepth 40000 in
set_option maxHeartbeats 1600000 in
theorem c_rUnescape (w : World) {B : Nat} {A : Option Addr} {n c : Nat} {l : List UInt8} (hr : Rd w B A n (bcs l)) (hB : B ≤ w.heap.size) (hn : n ≤ 1099511627) :
    Calls Try.prog 42 #[.slice A n c] w (RUnPost w l) := by
  go_enter Try.func42, Try.ntmps42
  go_wp2
  go_loopw [5, 6] (fun v i wr => ∃ (k : Nat) (acc : List UInt8), acc.length ≤ k ∧ k ≤ n ∧ i = .int .i64 k ∧ UnInv l acc k ∧ Own wr w.heap.size 5 v (bcs acc) ∧ Below w.heap.size w wr) (fun _ i _ => n - (intOf i).toNat)
  case atStart => exact ⟨0, [], Nat.zero_le _, Nat.zero_le _, rfl, UnInv.start l, Own.nil_ _ _ _, Below.refl _ _⟩
  case round =>
    obtain ⟨k, acc, hak, hk, rfl, hinv, hown, hb⟩ := hrel
    have hln := hr.1
    rw [bcs_length] at hln
    by_cases hlt : k < n
    · have hkl : k < l.length := by omega
      obtain ⟨b, o, rfl, hbB, hcell⟩ := (hr.below hb hB).byte hlt
      have hc := hcell k hkl
      by_cases h0 : l[k] = 0
      · have hz : ((l[k].toNat : Int) != 0) = false := by rw [byte_nz]; simpa using h0
        by_cases hlt1 : k + 1 < n
        · have hkl1 : k + 1 < l.length := by omega
          have hc1 : wr.cell? ⟨b, o + (k + 1), none⟩ = some (.int .u8 (l[k + 1].toNat : Int)) := hcell (k + 1) hkl1
          clear hcell
          have hi1 : ¬ ((n : Int) ≤ (k : Int) + 1) := by omega
          by_cases h1 : l[k + 1] = 1
          · have hz1 : ((l[k + 1].toNat : Int) == 1) = true := by rw [byte_one]; simpa using h1
            have hz1' : ((l[k + 1].toNat : Int) != 1) = false := by rw [byte_n1]; simpa using h1
            have hz2' : ((l[k + 1].toNat : Int) != 255) = true := by rw [byte_n255, h1]; rfl
            have Hfin := Lib.hid (hinv.z1 hkl1 h0 h1)
            clear hinv h0 h1 hln hr
            go_wp2
            go_ret3
            exact .inl ⟨_, _, _, Hfin.out, rfl, hown, hb⟩
          · have hz1 : ((l[k + 1].toNat : Int) == 1) = false := by rw [byte_one]; simpa using h1
            have hz1' : ((l[k + 1].toNat : Int) != 1) = true := by rw [byte_n1]; simpa using h1
            by_cases h2 : l[k + 1] = 255
            · have hz2 : ((l[k + 1].toNat : Int) != 255) = false := by rw [byte_n255]; simpa using h2
              have Hinv := Lib.hid (hinv.z255 hkl1 h0 h2)
              clear hinv h0 h1 h2 hln
              go_wp2_with (first | (at_builtin; (refine wpList_app_lit rfl _ _ rfl slb (by decide) rfl hown hb hb.size [.int .u8 0] rfl (by simp [Value.oneCell']) (by simp only [bcs_length, List.length_cons, List.length_nil]; omega) ?_); intro v1 w1 hown1 hb1 hs1))
              go_roundw
              case rel => exact ⟨k + 2, acc ++ [0], by simp; omega, by omega, by go_num, Hinv.out, by rw [bcs_append]; exact hown1, hb1⟩
              case measure => simp [intOf]; omega
            · have hz2 : ((l[k + 1].toNat : Int) != 255) = true := by rw [byte_n255]; simpa using h2
              have Hfin := Lib.hid (hinv.z_bad hkl1 h0 h1 h2)
              clear hinv h0 h1 h2 hln
              go_wp2
              go_ret3
              exact .inr ⟨Hfin.out, rfl, hb⟩
        · have Hfin := Lib.hid (hinv.z_end hkl h0 (by omega))
          have hi1 : (n : Int) ≤ (k : Int) + 1 := by omega
          clear hinv h0 hln hcell
          go_wp2
          go_ret3
          exact .inr ⟨Hfin.out, rfl, hb⟩
      · have hz : ((l[k].toNat : Int) != 0) = true := by rw [byte_nz]; simpa using h0
        have Hinv := Lib.hid (hinv.nz hkl h0)
        clear hinv h0 hln hcell
        go_wp2_with (first | (at_builtin; (refine wpList_app_lit rfl _ _ rfl slb (by decide) rfl hown hb hb.size [.int .u8 (l[k].toNat : Int)] rfl (by simp [Value.oneCell']) (by simp only [bcs_length, List.length_cons, List.length_nil]; omega) ?_); intro v1 w1 hown1 hb1 hs1))
        go_roundw
        case rel => exact ⟨k + 1, acc ++ [l[k]], by simp; omega, by omega, by go_num, Hinv.out, by rw [bcs_append]; exact hown1, hb1⟩
        case measure => simp [intOf]; omega
    · have Hfin := Lib.hid (hinv.end_ (by omega))
      clear hinv hln
      go_wp2
      go_ret3
      exact .inr ⟨Hfin.out, rfl, hb⟩
end Go.Proofs.Ytedelkifadonjaa

namespace Go.Proofs.Ytedelkifadonjaa
open Go.RowKit Go.Lec

set_option maxRecDepth 40000 in
theorem catch_panicking (p : Addr) (x err : Int) (w : World) (hc : w.cell? p = some (.int .i64 x)) (hz : w.frozen? p = false) :
    CallsD Try.prog 58 #[.pointer (some p)] (.panicking [{ v := failVal err, recovered := false }]) w fun e u' w' =>
      e = .returned (.tuple #[]) ∧ u' = .panicking [{ v := failVal err, recovered := true }] ∧ w' = w.setCell p (.int .i64 err) := by
  refine callsD_of_wpS Try.func58 rfl fun c₀ cs hu => ?_
  unfold failVal at hu ⊢
  have hta : ∀ (y : Value) (w : World), (Instr.typeAssert (.iface 107 y) 20 107 false).run Try.prog w = .ok y w := fun _ _ => rfl
  have hfd : ∀ (n : Int) (w : World), (Instr.field 107 (.agg #[.int .i64 n]) 0).run Try.prog w = .ok (.int .i64 n) w := fun _ _ => by kernel_rfl
  apply wpS_seq
  apply wpS_region
  simp [wpOpsS, go_sem, recoverD, hu, Try.ntmps58, Exit.thenS]
  refine wpS_of_wp ?_
  simp only [List.size_toArray, List.length_cons, List.length_nil, Nat.reduceAdd, Nat.reduceSub, Array.replicate_succ, Array.replicate_zero, List.push_toArray, List.append_toArray, List.nil_append, List.cons_append, List.setIfInBounds_toArray, List.set_cons_zero, List.set_cons_succ]
  go_wp2
  simp [bodyPostS, results, Try.results58]
set_option maxRecDepth 40000 in
theorem catch_idle (p : Addr) (w : World) :
    CallsD Try.prog 58 #[.pointer (some p)] .returning w fun e u' w' => e = .returned (.tuple #[]) ∧ u' = .returning ∧ w' = w := by
  refine callsD_of_wpS Try.func58 rfl fun c₀ cs hu => ?_
  apply wpS_seq
  apply wpS_region
  simp [wpOpsS, go_sem, recoverD, hu, Try.ntmps58, Exit.thenS]
  refine wpS_of_wp ?_
  simp only [List.size_toArray, List.length_cons, List.length_nil, Nat.reduceAdd, Nat.reduceSub, Array.replicate_succ, Array.replicate_zero, List.push_toArray, List.append_toArray, List.nil_append, List.cons_append, List.setIfInBounds_toArray, List.set_cons_zero, List.set_cons_succ]
  go_wp2
  cases c₀
  simp_all [bodyPostS, results, Try.results58]

/-- What 'guarded' leaves: behind the call, the cell of its own result is laid. R: what is known of the call itself. -/
def GPost (w : World) (R : Ending → World → Prop) (e : Ending) (w' : World) : Prop :=
  ∃ e0 w0, R e0 w0 ∧ ((e0 = .returned (.tuple #[]) ∧ e = .returned (.int .i64 0) ∧ w' = w0.setCell ⟨w.heap.size, 0, none⟩ (.int .i64 0)) ∨
    (∃ err, e0 = .panicked [{ v := failVal err, recovered := false }] ∧ e = .returned (.int .i64 err) ∧ w' = w0.setCell ⟨w.heap.size, 0, none⟩ (.int .i64 err)))

set_option maxRecDepth 40000 in
set_option maxHeartbeats 400000 in
theorem c_guarded (w : World) (f : Nat) (caps : Array Value) (R : Ending → World → Prop) (hcf : ∀ w : World, (callFunc f caps).run Try.prog w = .ok (.enter f caps) w) (hcall : Calls Try.prog f caps (w.alloc (.cells #[.int .i64 0] 49)) R)
    (hR : ∀ e w', R e w' → (e = .returned (.tuple #[]) ∨ ∃ err, e = .panicked [{ v := failVal err, recovered := false }]) ∧ w'.cell? ⟨w.heap.size, 0, none⟩ = some (.int .i64 0) ∧ w'.frozen? ⟨w.heap.size, 0, none⟩ = false) :
    Calls Try.prog 44 #[.func (.func f) #[] caps] w (GPost w R) := by
  have hmf : ∀ (fn : Fn) (first cap : Array Value) (w : World), (Instr.makeFunc fn first cap).run Try.prog w = .ok (.func fn first cap) w := fun _ _ _ _ => rfl
  have Hc := Lib.hid hcall
  have HR := Lib.hid hR
  clear hcall hR
  go_enter_defers Try.func44, Try.ntmps44
  go_wp2_with fail
  refine (Hc.out).mono ?_
  intro e0 w0 h0
  obtain ⟨he, hc, hz⟩ := HR.out e0 w0 h0
  rcases he with rfl | ⟨err, rfl⟩
  · go_wp2
    refine leaves_cons (f := 58) (args := #[.pointer (some ⟨w.heap.size, 0, none⟩)]) (by simp) (by simp [go_sem]) ?_
    refine (catch_idle ⟨w.heap.size, 0, none⟩ _).mono ?_
    rintro e u' w'' ⟨rfl, rfl, rfl⟩
    simp [Leaves, settle, results, Try.results44, go_sem]
    rw [World.cell?_setCell_same w0 _ (.int .i64 0) hc]
    exact ⟨_, rfl, _, _, h0, .inl ⟨rfl, rfl, rfl⟩⟩
  · go_wp2
    refine leaves_cons (f := 58) (args := #[.pointer (some ⟨w.heap.size, 0, none⟩)]) (by simp) (by simp [go_sem]) ?_
    refine (catch_panicking ⟨w.heap.size, 0, none⟩ 0 err _ hc hz).mono ?_
    rintro e u' w'' ⟨rfl, rfl, rfl⟩
    simp [Leaves, settle, results, Try.results44, go_sem]
    rw [World.cell?_setCell_same w0 _ (.int .i64 err) hc]
    exact ⟨_, rfl, _, _, h0, .inr ⟨err, rfl, rfl, rfl⟩⟩

/-- The closure that Unescape hands to 'guarded'. -/
def UnClo (W : World) (b1 b2 : Nat) (l : List UInt8) (e : Ending) (w' : World) : Prop :=
  (∃ s k v, unesc l = some (s, k) ∧ e = .returned (.tuple #[]) ∧ w'.cell? ⟨b1, 0, none⟩ = some v ∧ w'.cell? ⟨b2, 0, none⟩ = some (.int .i64 (k : Nat)) ∧ Own w' W.heap.size 5 v (bcs s) ∧ Kb [b1, b2] W w') ∨
  (unesc l = none ∧ e = .panicked [{ v := failVal 160, recovered := false }] ∧ Kb [b1, b2] W w')

end Go.Proofs.Ytedelkifadonjaa

namespace Go.Proofs.Ytedelkifadonjaa
open Go.RowKit Go.Lec

theorem Below.drewN' {B : Nat} {a w : World} (h : Below B a w) (n : Nat) : Below B a (w.drewN n) := ⟨h.os, h.tape, h.output, h.size, h.block⟩
/-- What Unescape's call of 'guarded' leaves. -/
def UnG (w : World) (l : List UInt8) (e : Ending) (w' : World) : Prop :=
  (∃ s k v, unesc l = some (s, k) ∧ e = .returned (.int .i64 0) ∧ w'.cell? ⟨w.heap.size + 1, 0, none⟩ = some v ∧ w'.cell? ⟨w.heap.size + 2, 0, none⟩ = some (.int .i64 (k : Nat)) ∧ Own w' (w.heap.size + 4) 5 v (bcs s) ∧ Below w.heap.size w w') ∨
  (unesc l = none ∧ e = .returned (.int .i64 160) ∧ Below w.heap.size w w')

end Go.Proofs.Ytedelkifadonjaa

namespace Go.Proofs.Ytedelkifadonjaa
open Go.RowKit Go.Lec

/-- What the reader's 'number' leaves: the number, and the reader stands behind it; or it throws. -/
def NumPost (W : World) (g B n : Nat) (wide : Nat) (l : List UInt8) (e : Ending) (w' : World) : Prop :=
  (∃ A' c', wide ≤ n ∧ e = .returned (.int .i64 (num (l.take wide) : Nat)) ∧ n - wide ≤ c' ∧ Rd W B A' (n - wide) (bcs (l.drop wide)) ∧ w' = W.setCell ⟨g, 0, none⟩ (.slice A' (n - wide) c')) ∨
  (n < wide ∧ e = .panicked [{ v := failVal 160, recovered := false }] ∧ w' = W)

set_option maxRecDepth 40000 in
set_option maxHeartbeats 1600000 in
theorem c_number (W : World) (g : Nat) {B : Nat} {A : Option Addr} {n c : Nat} {l : List UInt8} (wide : Nat) (hr : Rd W B A n (bcs l)) (hc : n ≤ c) (hn : n ≤ 1099511627) (hw : 1 ≤ wide) (hw6 : wide ≤ 6)
    (h0 : W.cell? ⟨g, 0, none⟩ = some (.slice A n c)) (hz : W.frozen? ⟨g, 0, none⟩ = false) :
    Calls Try.prog 59 #[.pointer (some ⟨g, 0, none⟩), .int .i64 wide] W (NumPost W g B n wide l) := by
  have hln := hr.1
  rw [bcs_length] at hln
  by_cases hlt : n < wide
  · have hlt' : ¬ ((wide : Int) ≤ n) := by omega
    clear hln
    go_enter Try.func59, Try.ntmps59
    go_wp2_with (first | (go_at_call 61; refine (c_must_no _ _ _ ?_).mono ?_; (first | rfl | (simp; done) | (simp; omega) | (simp [*]; done)); rintro e w' ⟨rfl, rfl⟩))
    exact ⟨rfl, .inr ⟨hlt, rfl, rfl⟩⟩
  · have hle : wide ≤ n := by omega
    have hle' : ((wide : Int) ≤ n) := by omega
    have hle2 : ((wide : Int) ≤ c) := by omega
    obtain ⟨b, o, rfl, hbB, hcell⟩ := hr.byte (k := 0) (by omega)
    have Hcut := Lib.hid (hr.cut hle hc)
    have Hln := Lib.hid hln
    clear hln
    go_enter Try.func59, Try.ntmps59
    go_wp2_with (first | (go_at_call 61; refine (c_must_ok _ _ _ ?_).mono ?_; (first | rfl | (simp; done) | (simp; omega) | (simp [*]; done)); rintro e w' ⟨rfl, rfl⟩))
    go_loop [5, 7, 23] (fun x _ i => ∃ k : Nat, k ≤ wide ∧ i = .int .i64 k ∧ x = .int .i64 (num (l.take k) : Nat)) (fun _ _ i => wide - (intOf i).toNat)
    case atStart => exact ⟨0, Nat.zero_le _, rfl, rfl⟩
    case round =>
      obtain ⟨k, hk, rfl, rfl⟩ := hrel
      by_cases hkw : k < wide
      · have hkl : k < l.length := by rw [Hln.out]; omega
        have hck := hcell k hkl
        have hnl := num_lt (l.take k)
        have hnl2 : num (l.take k) < 1099511627776 := by
          refine Nat.lt_of_lt_of_le hnl ?_
          rw [List.length_take, Nat.min_eq_left (by omega)]
          exact Nat.le_trans (Nat.pow_le_pow_right (by decide) (show k ≤ 5 by omega)) (by decide)
        clear hnl hcell
        have hbt := l[k].toNat_lt
        have hor := bits_or_byte (num (l.take k)) l[k].toNat hnl2 hbt
        have Hnt := Lib.hid (num_take l k hkl)
        go_wp2
        go_round
        case rel => exact ⟨k + 1, by omega, by go_num, by rw [Hnt.out]; simp⟩
        case measure => simp [intOf]; omega
      · obtain rfl : k = wide := by omega
        clear hcell
        have Hd : Hid (bcs (l.drop k) = (bcs l).drop k) := by simp [bcs, Hid]
        by_cases hck : c = k
        · have hcut := Hcut.out
          rw [if_pos hck, ← Hd.out] at hcut
          have Hcut' := Lib.hid hcut
          clear hcut Hcut
          go_wp2
          all_goals go_ret
          all_goals first | (refine .inl ⟨_, _, hle, rfl, ?_, Hcut'.out, rfl⟩; omega) | (exfalso; omega)
        · have hcut := Hcut.out
          rw [if_neg hck, ← Hd.out] at hcut
          simp only [Option.map_some, Addr.add_lit] at hcut
          have Hcut' := Lib.hid hcut
          clear hcut Hcut
          go_wp2
          all_goals go_ret
          all_goals first | (refine .inl ⟨_, _, hle, rfl, ?_, Hcut'.out, rfl⟩; omega) | (exfalso; omega)
end Go.Proofs.Ytedelkifadonjaa

namespace Go.Proofs.Ytedelkifadonjaa
open Go.RowKit Go.Lec

theorem bcs_drop (l : List UInt8) (k : Nat) : bcs (l.drop k) = (bcs l).drop k := by simp [bcs]
/-- A key as a value, its sort key held by v. -/
def keyVal (K : Key) (v : Value) : Value := .agg #[.int .i64 K.ep, v, .int .i64 K.sq, .int .i64 K.kd, .string ⟨K.txt.toArray⟩]
/-- What decode answers, or throws. -/
def DecPost (w : World) (l : List UInt8) (e : Ending) (w' : World) : Prop :=
  (∃ K v, dec l = .ok K ∧ e = .returned (keyVal K v) ∧ Own w' w.heap.size 5 v (bcs K.srt) ∧ Below w.heap.size w w') ∨
  (∃ err, dec l = .error err ∧ e = .panicked [{ v := failVal err, recovered := false }] ∧ Below w.heap.size w w')

set_option maxRecDepth 40000 in
set_option maxHeartbeats 1600000 in
theorem c_decode (w : World) {B : Nat} {A : Option Addr} {n c : Nat} {l : List UInt8} (hr : Rd w B A n (bcs l)) (hB : B ≤ w.heap.size) (hc : n ≤ c) (hn : n ≤ 1099511627) :
    Calls Try.prog 46 #[.slice A n c] w (DecPost w l) := by
  have hmf : ∀ (fn : Fn) (first cap : Array Value) (w : World), (Instr.makeFunc fn first cap).run Try.prog w = .ok (.func fn first cap) w := fun _ _ _ _ => rfl
  have hln := hr.1
  rw [bcs_length] at hln
  have Hln := Lib.hid hln; clear hln
  go_enter Try.func46, Try.ntmps46
  go_wp2_with fail
  refine (c_number _ (w.heap.size + 1) 2 ((hr.alloc hB _).alloc (by simp; omega) _) hc hn (by decide) (by decide) (by simp [go_sem]) (by simp [go_sem])).mono ?_
  rintro e w1 (⟨A1, c1, hw1, rfl, hc1, hr1, rfl⟩ | ⟨hw1, rfl, rfl⟩)
  · have hr1w : Rd w B A1 (n - 2) (bcs (l.drop 2)) := hr1.keep fun p hp => by rw [World.cell?_alloc_lt _ _ _ (by simp; omega), World.cell?_alloc_lt _ _ _ (by omega)]
    clear hr1
    go_wp2_with fail
    obtain ⟨HR, HG, HK, hsz, hBl⟩ := Bk.new3 w 38 #[.int .i64 0, .slice none 0 0, .int .i64 0, .int .i64 0, .string ⟨#[]⟩] 110 #[.slice A1 (n - 2) c1] 38 #[.int .i64 (num (l.take 2) : Nat), .slice none 0 0, .int .i64 0, .int .i64 0, .string ⟨#[]⟩]
    refine (c_unescape _ (hr1w.below hBl hB) (by rw [hsz]; omega) (by omega)).mono ?_
    rintro e w1 (⟨s, k, v, hu, rfl, hown, hb⟩ | ⟨hu, rfl, hb⟩)
    · rw [hsz] at hown hb
      have HR1 := HR.below hb (by omega)
      have HG1 := HG.below hb (by omega)
      have HK1 := HK.below hb (by omega)
      have hB1 : Below w.heap.size w w1 := hBl.trans (hb.mono (by omega))
      have hs1 : w.heap.size + 1 + 1 + 1 ≤ w1.heap.size := by have := hb.size; omega
      obtain ⟨Av, cv, rfl, hcv⟩ := hown.shape
      have hkl := unesc_len hu
      rw [List.length_drop, Hln.out] at hkl
      obtain ⟨A2, hcut, hr2⟩ := run_cut slb hr1w hc1 (k := k) (by omega) .i64
      rw [← bcs_drop] at hr2
      obtain ⟨r, hrr⟩ : ∃ r, r = (l.drop 2).drop k := ⟨_, rfl⟩
      rw [← hrr] at hr2
      have hrl : r.length = n - 2 - k := by rw [hrr, List.length_drop, List.length_drop, Hln.out]
      have Hrr := Lib.hid hrr
      have Hrl := Lib.hid hrl
      clear hrr hrl
      have Hu := Lib.hid hu
      clear HR HG HK hsz hBl hb hu
      have hG := HG1.cell 0
      have hGz := HG1.frz 0
      have hK := HK1.cell
      have hKz := HK1.frz
      go_wp2_with fail
      obtain ⟨w2, hw2⟩ : ∃ x, x = (w1.setCell ⟨w.heap.size + 1, 0, none⟩ (.slice A2 (n - 2 - k) (c1 - k))).setCell ⟨w.heap.size + 1 + 1, 1, none⟩ (.slice Av (bcs s).length cv) := ⟨_, rfl⟩
      rw [← hw2]
      have HR2 : Bk w2 w.heap.size 38 #[.int .i64 0, .slice none 0 0, .int .i64 0, .int .i64 0, .string ⟨#[]⟩] := by rw [hw2]; exact (HR1.far (by simp) _).far (by simp; omega) _
      have HG2 : Bk w2 (w.heap.size + 1) 110 #[.slice A2 (n - 2 - k) (c1 - k)] := by rw [hw2]; exact (HG1.set_ 0 _).far (by simp) _
      have HK2 : Bk w2 (w.heap.size + 1 + 1) 38 #[.int .i64 (num (l.take 2) : Nat), .slice Av (bcs s).length cv, .int .i64 0, .int .i64 0, .string ⟨#[]⟩] := by rw [hw2]; exact (HK1.far (by simp) _).set_ 1 _
      have hB2 : Below w.heap.size w w2 := by rw [hw2]; exact (hB1.setCell (by simp) _).setCell (by simp; omega) _
      have hown2 : Own w2 (w.heap.size + 1 + 1 + 1) 5 (.slice Av (bcs s).length cv) (bcs s) := by rw [hw2]; exact ownsRow_setCell_below (ownsRow_setCell_below hown (by simp) _) (by simp) _
      have hs2 : w.heap.size + 1 + 1 + 1 ≤ w2.heap.size := by rw [hw2]; simpa using hs1
      clear hw2 hK hKz hG hGz hown hB1 HR1 HG1 HK1 hcut hs1
      refine (c_number w2 (w.heap.size + 1) 6 (hr2.below hB2 hB) (by omega) (by omega) (by decide) (by decide) (HG2.cell 0) (HG2.frz 0)).mono ?_
      rintro e w3 (⟨A3, c3, hw6, rfl, hc3, hr3, hw3⟩ | ⟨hw6, rfl, rfl⟩)
      · have hr3w : Rd w B A3 (n - 2 - k - 6) (bcs (r.drop 6)) := hr3.keep fun p hp => (hB2.cell (by omega)).symm
        have HR3 : Bk w3 w.heap.size 38 #[.int .i64 0, .slice none 0 0, .int .i64 0, .int .i64 0, .string ⟨#[]⟩] := by rw [hw3]; exact HR2.far (by simp) _
        have HG3 : Bk w3 (w.heap.size + 1) 110 #[.slice A3 (n - 2 - k - 6) c3] := by rw [hw3]; exact HG2.set_ 0 _
        have HK3 : Bk w3 (w.heap.size + 1 + 1) 38 #[.int .i64 (num (l.take 2) : Nat), .slice Av (bcs s).length cv, .int .i64 0, .int .i64 0, .string ⟨#[]⟩] := by rw [hw3]; exact HK2.far (by simp) _
        have hB3 : Below w.heap.size w w3 := by rw [hw3]; exact hB2.setCell (by simp) _
        have hown3 : Own w3 (w.heap.size + 1 + 1 + 1) 5 (.slice Av (bcs s).length cv) (bcs s) := by rw [hw3]; exact ownsRow_setCell_below hown2 (by simp) _
        have hs3 : w.heap.size + 1 + 1 + 1 ≤ w3.heap.size := by rw [hw3]; simpa using hs2
        clear hw3 hown2 hB2 HR2 HG2 HK2 hs2 hr3
        have hK := HK3.cell
        have hKz := HK3.frz
        have hN : num (r.take 6) ≤ 281474976710655 := by
          have := num_lt (r.take 6)
          rw [List.length_take, Hrl.out, Nat.min_eq_left hw6] at this
          exact Nat.le_of_lt_succ this
        generalize hN6 : num (r.take 6) = N6 at hN ⊢
        have HN6 := Lib.hid hN6; clear hN6
        go_wp2_with fail
        obtain ⟨w4, hw4⟩ : ∃ x, x = w3.setCell ⟨w.heap.size + 1 + 1, 2, none⟩ (.int .i64 (281474976710655 - (N6 : Int))) := ⟨_, rfl⟩
        rw [← hw4]
        have HR4 : Bk w4 w.heap.size 38 #[.int .i64 0, .slice none 0 0, .int .i64 0, .int .i64 0, .string ⟨#[]⟩] := by rw [hw4]; exact HR3.far (by simp; omega) _
        have HG4 : Bk w4 (w.heap.size + 1) 110 #[.slice A3 (n - 2 - k - 6) c3] := by rw [hw4]; exact HG3.far (by simp) _
        have HK4 : Bk w4 (w.heap.size + 1 + 1) 38 #[.int .i64 (num (l.take 2) : Nat), .slice Av (bcs s).length cv, .int .i64 (281474976710655 - (N6 : Int)), .int .i64 0, .string ⟨#[]⟩] := by rw [hw4]; exact HK3.set_ 2 _
        have hB4 : Below w.heap.size w w4 := by rw [hw4]; exact hB3.setCell (by simp; omega) _
        have hown4 : Own w4 (w.heap.size + 1 + 1 + 1) 5 (.slice Av (bcs s).length cv) (bcs s) := by rw [hw4]; exact ownsRow_setCell_below hown3 (by simp) _
        have hs4 : w.heap.size + 1 + 1 + 1 ≤ w4.heap.size := by rw [hw4]; simpa using hs3
        clear hw4 hown3 hB3 HR3 HG3 HK3 hs3 hK hKz
        refine (c_number w4 (w.heap.size + 1) 1 (hr3w.below hB4 hB) (by omega) (by omega) (by decide) (by decide) (HG4.cell 0) (HG4.frz 0)).mono ?_
        rintro e w5 (⟨A5, c5, hw7, rfl, hc5, hr5, hw5⟩ | ⟨hw7, rfl, rfl⟩)
        · obtain ⟨x, t, hxt⟩ : ∃ x t, r.drop 6 = x :: t := by
            cases hx : r.drop 6 with
            | nil => have := congrArg List.length hx; rw [List.length_drop, Hrl.out] at this; simp at this; omega
            | cons x t => exact ⟨x, t, rfl⟩
          rw [hxt] at hr5 ⊢
          have htl : t.length = n - 2 - k - 6 - 1 := by have := congrArg List.length hxt; rw [List.length_drop, Hrl.out] at this; simp at this; omega
          have Hxt := Lib.hid hxt
          have Htl := Lib.hid htl
          clear hxt htl
          rw [show num (List.take 1 (x :: t)) = x.toNat from by simp [num]]
          rw [show List.drop 1 (x :: t) = t from rfl] at hr5
          have hr5w : Rd w B A5 (n - 2 - k - 6 - 1) (bcs t) := hr5.keep fun p hp => (hB4.cell (by omega)).symm
          have HR5 : Bk w5 w.heap.size 38 #[.int .i64 0, .slice none 0 0, .int .i64 0, .int .i64 0, .string ⟨#[]⟩] := by rw [hw5]; exact HR4.far (by simp) _
          have HG5 : Bk w5 (w.heap.size + 1) 110 #[.slice A5 (n - 2 - k - 6 - 1) c5] := by rw [hw5]; exact HG4.set_ 0 _
          have HK5 : Bk w5 (w.heap.size + 1 + 1) 38 #[.int .i64 (num (l.take 2) : Nat), .slice Av (bcs s).length cv, .int .i64 (281474976710655 - (N6 : Int)), .int .i64 0, .string ⟨#[]⟩] := by rw [hw5]; exact HK4.far (by simp) _
          have hB5 : Below w.heap.size w w5 := by rw [hw5]; exact hB4.setCell (by simp) _
          have hown5 : Own w5 (w.heap.size + 1 + 1 + 1) 5 (.slice Av (bcs s).length cv) (bcs s) := by rw [hw5]; exact ownsRow_setCell_below hown4 (by simp) _
          have hs5 : w.heap.size + 1 + 1 + 1 ≤ w5.heap.size := by rw [hw5]; simpa using hs4
          clear hw5 hown4 hB4 HR4 HG4 HK4 hs4 hr5
          have hG := HG5.cell 0
          have hGz := HG5.frz 0
          have hK := HK5.cell
          have hKz := HK5.frz
          have hR := HR5.cell
          have hRz := HR5.frz
          have hdec : dec l = if 1 < x.toNat then .error 160 else if 65536 < s.length ∨ 1024 < t.length then .error 2 else .ok ⟨num (l.take 2), s, 281474976710655 - (N6 : Nat), 1 - (x.toNat : Int), t⟩ := by
            unfold dec
            rw [if_neg (by rw [Hln.out]; omega), Hu.out]
            simp only
            rw [← Hrr.out, if_neg (by rw [Hrl.out]; omega), Hxt.out, HN6.out]
          have Hdec := Lib.hid hdec
          clear hdec
          by_cases hx1 : 1 < x.toNat
          · have hx1' : ¬ ((x.toNat : Int) ≤ 1) := by omega
            go_wp2_with (first | (go_at_call 61; refine (c_must_no _ _ _ ?_).mono ?_; (first | rfl | (simp; done) | (simp; omega) | (simp [*]; done)); rintro e w' ⟨rfl, rfl⟩))
            exact ⟨rfl, .inr ⟨160, by rw [Hdec.out, if_pos hx1], rfl, hB5⟩⟩
          · have hx1' : ((x.toNat : Int) ≤ 1) := by omega
            have hr6 : Rd (w5.setCell ⟨w.heap.size + 1 + 1, 3, none⟩ (.int .i64 (1 - (x.toNat : Int)))) B A5 (n - 2 - k - 6 - 1) (bcs t) := (hr5w.below hB5 hB).keep fun p hp => World.cell?_setCell_other _ _ _ _ (fun e => by rw [← e] at hp; simp at hp; omega)
            have hconv := run_str (P := Try.prog) Try.underlying23 Try.underlying5 Try.underlying9 (c := c5) hr6
            have htm := Htl.out
            generalize n - 2 - k - 6 - 1 = m5 at *
            have Htm := Lib.hid htm
            clear hr6 hr5w Htl htm hc5 hw7
            by_cases hsl : s.length ≤ 65536
            · have hsl' : (bcs s).length ≤ 65536 := by rw [bcs_length]; exact hsl
              by_cases htl : m5 ≤ 1024
              · go_wp2_with (first | (go_at_call 61; refine (c_must_ok _ _ _ ?_).mono ?_; (first | rfl | (simp; done) | (simp; omega) | (simp [*]; done)); rintro e w' ⟨rfl, rfl⟩))
                refine bodyPost_ret (v := keyVal ⟨num (l.take 2), s, 281474976710655 - (N6 : Nat), 1 - (x.toNat : Int), t⟩ (.slice Av (bcs s).length cv)) ?_ rfl ?_
                · simp [results, Try.results46, keyVal, go_sem, hR]
                · refine .inl ⟨_, _, ?_, rfl, ?_, ?_⟩
                  · rw [Hdec.out, if_neg hx1, if_neg]
                    rw [Htm.out]
                    omega
                  · refine Own.mono (B := w.heap.size + 1 + 1 + 1) ?_ (by omega)
                    exact ownsRow_setCell_below (ownsRow_setCell_below (ownsRow_setCell_below (ownsRow_setCell_below (ownsRow_setCell_below (ownsRow_setCell_below (ownsRow_setCell_below hown5 (by dsimp only; omega) _) (by dsimp only; omega) _) (by dsimp only; omega) _) (by dsimp only; omega) _) (by dsimp only; omega) _) (by dsimp only; omega) _) (by dsimp only; omega) _
                  · exact Below.setCell (Below.setCell (Below.setCell (Below.setCell (Below.setCell (Below.setCell (Below.setCell hB5 (by dsimp only; omega) _) (by dsimp only; omega) _) (by dsimp only; omega) _) (by dsimp only; omega) _) (by dsimp only; omega) _) (by dsimp only; omega) _) (by dsimp only; omega) _
              · go_wp2_with (first | (go_at_call 61; refine (c_must_ok _ _ _ ?_).mono ?_; (first | rfl | (simp; done) | (simp; omega) | (simp [*]; done)); rintro e w' ⟨rfl, rfl⟩) | (go_at_call 61; refine (c_must_no _ _ _ ?_).mono ?_; (first | rfl | (simp; done) | (simp; omega) | (simp [*]; done)); rintro e w' ⟨rfl, rfl⟩))
                exact ⟨rfl, .inr ⟨2, by rw [Hdec.out, if_neg hx1, if_pos (.inr (by rw [Htm.out]; omega))], rfl, hB5.setCell (by simp; omega) _⟩⟩
            · have hsl' : ¬ (bcs s).length ≤ 65536 := by rw [bcs_length]; exact hsl
              go_wp2_with (first | (go_at_call 61; refine (c_must_ok _ _ _ ?_).mono ?_; (first | rfl | (simp; done) | (simp; omega) | (simp [*]; done)); rintro e w' ⟨rfl, rfl⟩) | (go_at_call 61; refine (c_must_no _ _ _ ?_).mono ?_; (first | rfl | (simp; done) | (simp; omega) | (simp [*]; done)); rintro e w' ⟨rfl, rfl⟩))
              exact ⟨rfl, .inr ⟨2, by rw [Hdec.out, if_neg hx1, if_pos (.inl (by omega))], rfl, hB5.setCell (by simp; omega) _⟩⟩
        · go_wp2_with fail
          refine ⟨rfl, .inr ⟨160, ?_, rfl, hB4⟩⟩
          unfold dec
          rw [if_neg (by rw [Hln.out]; omega), Hu.out]
          simp only
          rw [← Hrr.out, if_neg (by rw [Hrl.out]; omega), List.drop_eq_nil_of_le (by rw [Hrl.out]; omega)]
      · go_wp2_with fail
        refine ⟨rfl, .inr ⟨160, ?_, rfl, hB2⟩⟩
        unfold dec
        rw [if_neg (by rw [Hln.out]; omega), Hu.out]
        simp only
        rw [← Hrr.out, if_pos (by rw [Hrl.out]; omega)]
    · rw [hsz] at hb
      go_wp2_with fail
      refine ⟨rfl, .inr ⟨160, ?_, rfl, hBl.trans (hb.mono (by omega))⟩⟩
      unfold dec
      rw [if_neg (by rw [Hln.out]; omega), hu]
  · go_wp2_with fail
    exact ⟨rfl, .inr ⟨160, by unfold dec; rw [Hln.out, if_pos hw1], rfl, ((Below.refl _ _).alloc (Nat.le_refl _) _).alloc (by simp) _⟩⟩
end Go.Proofs.Ytedelkifadonjaa

namespace Go.Proofs.Ytedelkifadonjaa
open Go.RowKit Go.Lec

/-- The closure that Decode hands to 'guarded'. -/
def DecClo (W : World) (b1 : Nat) (l : List UInt8) (e : Ending) (w' : World) : Prop :=
  (∃ K v, dec l = .ok K ∧ e = .returned (.tuple #[]) ∧ Bk w' b1 38 #[.int .i64 K.ep, v, .int .i64 K.sq, .int .i64 K.kd, .string ⟨K.txt.toArray⟩] ∧ Own w' W.heap.size 5 v (bcs K.srt) ∧ Kb [b1] W w') ∨
  (∃ err, dec l = .error err ∧ e = .panicked [{ v := failVal err, recovered := false }] ∧ Kb [b1] W w')

set_option maxRecDepth 40000 in
set_option maxHeartbeats 400000 in
theorem c_DecClo (W : World) (b0 b1 : Nat) {B : Nat} {A : Option Addr} {n c : Nat} {l : List UInt8} (hr : Rd W B A n (bcs l)) (hB : B ≤ W.heap.size) (hc : n ≤ c) (hn : n ≤ 1099511627)
    (h0 : W.cell? ⟨b0, 0, none⟩ = some (.slice A n c)) (h1 : Bk W b1 38 #[.int .i64 0, .slice none 0 0, .int .i64 0, .int .i64 0, .string ⟨#[]⟩]) :
    Calls Try.prog 45 #[.pointer (some ⟨b0, 0, none⟩), .pointer (some ⟨b1, 0, none⟩)] W (DecClo W b1 l) := by
  have l1 := h1.lt
  go_enter Try.func45, Try.ntmps45
  go_wp2_with fail
  refine (c_decode W hr hB hc hn).mono ?_
  rintro e w1 (⟨K, v, hu, rfl, hown, hb⟩ | ⟨err, hu, rfl, hb⟩)
  · have HK := h1.below hb l1
    have hk := HK.cell
    have hkz := HK.frz
    have Hu := Lib.hid hu; clear hu
    obtain ⟨Av, cv, rfl, _⟩ := hown.shape
    unfold keyVal
    go_wp2
    go_end0
    refine .inl ⟨K, .slice Av (bcs K.srt).length cv, Hu.out, rfl, ?_, ?_, ?_⟩
    · exact ((((HK.set_ 0 _).set_ 1 _).set_ 2 _).set_ 3 _).set_ 4 _
    · exact ownsRow_setCell_below (ownsRow_setCell_below (ownsRow_setCell_below (ownsRow_setCell_below (ownsRow_setCell_below hown l1 _) l1 _) l1 _) l1 _) l1 _
    · exact (((((Kb.of_below hb).setCell (.inl (by simp)) _).setCell (.inl (by simp)) _).setCell (.inl (by simp)) _).setCell (.inl (by simp)) _).setCell (.inl (by simp)) _
  · go_wp2
    exact ⟨rfl, .inr ⟨err, hu, rfl, Kb.of_below hb⟩⟩

/-- What Decode's call of 'guarded' leaves. -/
def DecG (w : World) (l : List UInt8) (e : Ending) (w' : World) : Prop :=
  Bk w' (w.heap.size + 1) 38 #[.int .i64 0, .slice none 0 0, .int .i64 0, .int .i64 0, .string ⟨#[]⟩] ∧ Below w.heap.size w w' ∧
  ((∃ K v, dec l = .ok K ∧ e = .returned (.int .i64 0) ∧ Bk w' (w.heap.size + 1 + 1) 38 #[.int .i64 K.ep, v, .int .i64 K.sq, .int .i64 K.kd, .string ⟨K.txt.toArray⟩] ∧ Own w' (w.heap.size + 4) 5 v (bcs K.srt)) ∨
  (∃ err, dec l = .error err ∧ e = .returned (.int .i64 err)))

set_option maxRecDepth 40000 in
theorem c_DecG (w : World) {B : Nat} {A : Option Addr} {n c : Nat} {l : List UInt8} (hr : Rd w B A n (bcs l)) (hB : B ≤ w.heap.size) (hc : n ≤ c) (hn : n ≤ 1099511627) :
    Calls Try.prog 44 #[.func (.func 45) #[] #[.pointer (some ⟨w.heap.size, 0, none⟩), .pointer (some ⟨w.heap.size + 1 + 1, 0, none⟩)]]
      (((w.alloc (.cells #[.slice A n c] 23)).alloc (.cells #[.int .i64 0, .slice none 0 0, .int .i64 0, .int .i64 0, .string ⟨#[]⟩] 38)).alloc (.cells #[.int .i64 0, .slice none 0 0, .int .i64 0, .int .i64 0, .string ⟨#[]⟩] 38)) (DecG w l) := by
  obtain ⟨HA, HR, HK, hsz, hBl⟩ := Bk.new3 w 23 #[.slice A n c] 38 #[.int .i64 0, .slice none 0 0, .int .i64 0, .int .i64 0, .string ⟨#[]⟩] 38 #[.int .i64 0, .slice none 0 0, .int .i64 0, .int .i64 0, .string ⟨#[]⟩]
  generalize (((w.alloc (.cells #[.slice A n c] 23)).alloc (.cells #[.int .i64 0, .slice none 0 0, .int .i64 0, .int .i64 0, .string ⟨#[]⟩] 38)).alloc (.cells #[.int .i64 0, .slice none 0 0, .int .i64 0, .int .i64 0, .string ⟨#[]⟩] 38)) = W at *
  have HE := Bk.new_ W 49 #[.int .i64 0]
  refine (c_guarded W 45 _ (DecClo (W.alloc (.cells #[.int .i64 0] 49)) (w.heap.size + 1 + 1) l) ?_ ?_ ?_).mono ?_
  · intro w; simp [go_sem]
  · refine c_DecClo _ w.heap.size (w.heap.size + 1 + 1) (B := B) (A := A) (n := n) (c := c) ((hr.below hBl hB).alloc (by omega) _) (by simp; omega) hc hn ((HA.alloc _).cell 0) (HK.alloc _)
  · rintro e w' (⟨K, v, hu, rfl, h1, ho, hk⟩ | ⟨err, hu, rfl, hk⟩)
    · have := HE.kb hk (by simp; omega)
      exact ⟨.inl rfl, this.cell 0, this.frz 0⟩
    · have := HE.kb hk (by simp; omega)
      exact ⟨.inr ⟨_, rfl⟩, this.cell 0, this.frz 0⟩
  · rintro e w' ⟨e0, w0, (⟨K, v, hu, rfl, h1, ho, hk⟩ | ⟨err, hu, rfl, hk⟩), he⟩
    · rcases he with ⟨_, rfl, rfl⟩ | ⟨err, h, _⟩
      · refine ⟨((HR.alloc _).kb hk (by simp)).far (by dsimp only; omega) _, ?_, .inl ⟨K, v, hu, rfl, h1.far (by dsimp only; omega) _, ?_⟩⟩
        · exact ((hBl.alloc (by omega) _).trans (hk.below (by simp; omega) (by simp; omega))).setCell (by dsimp only; omega) _
        · refine ownsRow_setCell_below (base := w.heap.size + 4) ?_ (by dsimp only; omega) _
          have := ho
          rw [World.size_alloc, hsz] at this
          exact this
      · cases h
    · rcases he with ⟨h, _⟩ | ⟨err', h, rfl, rfl⟩
      · cases h
      · simp [failVal] at h
        subst h
        refine ⟨((HR.alloc _).kb hk (by simp)).far (by dsimp only; omega) _, ?_, .inr ⟨err, hu, rfl⟩⟩
        exact ((hBl.alloc (by omega) _).trans (hk.below (by simp; omega) (by simp; omega))).setCell (by dsimp only; omega) _

/-- Two results: a key and an error. -/
def RDecPost (w : World) (l : List UInt8) (e : Ending) (w' : World) : Prop :=
  (∃ K v, dec l = .ok K ∧ e = .returned (.tuple #[keyVal K v, .int .i64 0]) ∧ Own w' w.heap.size 5 v (bcs K.srt) ∧ Below w.heap.size w w') ∨
  (∃ err, dec l = .error err ∧ e = .returned (.tuple #[.agg #[.int .i64 0, .slice none 0 0, .int .i64 0, .int .i64 0, .string ⟨#[]⟩], .int .i64 err]) ∧ Below w.heap.size w w')

theorem dec_err {l : List UInt8} {err : Int} (h : dec l = .error err) : err = 160 ∨ err = 2 := by
  unfold dec at h
  repeat' split at h
  all_goals first | (injection h with h; omega) | (injection h)

set_option maxRecDepth 40000 in
set_option maxHeartbeats 800000 in
theorem c_Decode (w : World) {B : Nat} {A : Option Addr} {n c : Nat} {l : List UInt8} (hr : Rd w B A n (bcs l)) (hB : B ≤ w.heap.size) (hc : n ≤ c) (hn : n ≤ 1099511627) :
    Calls Try.prog 23 #[.slice A n c] w (RDecPost w l) := by
  have hmf : ∀ (fn : Fn) (first cap : Array Value) (w : World), (Instr.makeFunc fn first cap).run Try.prog w = .ok (.func fn first cap) w := fun _ _ _ _ => rfl
  go_enter Try.func23, Try.ntmps23
  go_wp2_with fail
  refine (c_DecG w hr hB hc hn).mono ?_
  rintro e w1 ⟨HR, hb, (⟨K, v, hu, rfl, HK, ho⟩ | ⟨err, hu, rfl⟩)⟩
  · have Hu := Lib.hid hu; clear hu
    obtain ⟨Av, cv, rfl, _⟩ := ho.shape
    have hk := HK.cell
    have hR := HR.cell
    have hRz := HR.frz
    go_wp2
    refine bodyPost_ret (v := .tuple #[keyVal K (.slice Av (bcs K.srt).length cv), .int .i64 0]) ?_ rfl ?_
    · simp [results, Try.results23, keyVal, go_sem, hR]
    · refine .inl ⟨K, _, Hu.out, rfl, ?_, ?_⟩
      · refine Own.mono (B := w.heap.size + 4) ?_ (by omega)
        exact ownsRow_setCell_below (ownsRow_setCell_below (ownsRow_setCell_below (ownsRow_setCell_below (ownsRow_setCell_below ho (by dsimp only; omega) _) (by dsimp only; omega) _) (by dsimp only; omega) _) (by dsimp only; omega) _) (by dsimp only; omega) _
      · exact (((((hb.setCell (by dsimp only; omega) _).setCell (by dsimp only; omega) _).setCell (by dsimp only; omega) _).setCell (by dsimp only; omega) _).setCell (by dsimp only; omega) _)
  · have hR := HR.cell
    have hRz := HR.frz
    have hne : (err != 0) = true := by rcases dec_err hu with rfl | rfl <;> rfl
    go_wp2
    refine bodyPost_ret (v := .tuple #[.agg #[.int .i64 0, .slice none 0 0, .int .i64 0, .int .i64 0, .string ⟨#[]⟩], .int .i64 err]) ?_ rfl ?_
    · simp [results, Try.results23, go_sem, hR]
    · refine .inr ⟨err, hu, rfl, ?_⟩
      exact (((((hb.setCell (by dsimp only; omega) _).setCell (by dsimp only; omega) _).setCell (by dsimp only; omega) _).setCell (by dsimp only; omega) _).setCell (by dsimp only; omega) _)
end Go.Proofs.Ytedelkifadonjaa

namespace Go.Proofs.Ytedelkifadonjaa
open Go.RowKit Go.Lec

theorem RDec_err {w w1 : World} {l : List UInt8} {err : Int} (h : dec l = .error err) (hb : Below w.heap.size w w1) :
    RDecPost w l (.returned (.tuple #[.agg #[.int .i64 0, .slice none 0 0, .int .i64 0, .int .i64 0, .string ⟨#[]⟩], .int .i64 err])) w1 := .inr ⟨err, h, rfl, hb⟩

set_option maxRecDepth 40000 in
set_option maxHeartbeats 1600000 in
theorem c_rDecode (w : World) {B : Nat} {A : Option Addr} {n c : Nat} {l : List UInt8} (hr : Rd w B A n (bcs l)) (hB : B ≤ w.heap.size) (hc : n ≤ c) (hn : n ≤ 1099511627) :
    Calls Try.prog 20 #[.slice A n c] w (RDecPost w l) := by
  have hln := hr.1
  rw [bcs_length] at hln
  have Hln := Lib.hid hln; clear hln
  have hR0 := (Bk.new_ w 38 #[.int .i64 0, .slice none 0 0, .int .i64 0, .int .i64 0, .string ⟨#[]⟩])
  by_cases hn2 : n < 2
  · have hR := hR0.cell
    have hRz := hR0.frz
    go_enter Try.func20, Try.ntmps20
    go_wp2
    refine bodyPost_ret (v := .tuple #[.agg #[.int .i64 0, .slice none 0 0, .int .i64 0, .int .i64 0, .string ⟨#[]⟩], .int .i64 160]) ?_ rfl ?_
    · simp [results, Try.results20, go_sem, hR]
    · refine RDec_err ?_ ?_
      · unfold dec; rw [if_pos (by rw [Hln.out]; exact hn2)]
      · exact (Below.refl _ _).alloc (Nat.le_refl _) _
  · obtain ⟨A2, hcut2, hr2⟩ := run_cutI slb hr hc 2 (by omega) .i64 2 rfl
    rw [← bcs_drop] at hr2
    go_enter Try.func20, Try.ntmps20
    go_wp2_with fail
    refine (c_rUnescape _ (hr2.alloc hB _) (by simp; omega) (by omega)).mono ?_
    rintro e w1 (⟨s, k, v, hu, rfl, hown, hb⟩ | ⟨hu, rfl, hb⟩)
    · rw [World.size_alloc] at hown hb
      have HR := hR0.below hb (by omega)
      have hB1 : Below w.heap.size w w1 := ((Below.refl _ _).alloc (Nat.le_refl _) _).trans (hb.mono (by omega))
      have hs1 : w.heap.size + 1 ≤ w1.heap.size := by have := hb.size; simpa using this
      have hkl := unesc_len hu
      rw [List.length_drop, Hln.out] at hkl
      obtain ⟨r, hrr⟩ : ∃ r, r = (l.drop 2).drop k := ⟨_, rfl⟩
      have hrl : r.length = n - 2 - k := by rw [hrr, List.length_drop, List.length_drop, Hln.out]
      have Hrr := Lib.hid hrr
      have Hrl := Lib.hid hrl
      have Hu := Lib.hid hu
      clear hrr hrl hu hcut2
      obtain ⟨Av, cv, rfl, _⟩ := hown.shape
      have hR := HR.cell
      have hRz := HR.frz
      by_cases h7 : n < 2 + k + 7
      · have h7i : (n : Int) < 2 + (k : Int) + 7 := by omega
        go_wp2
        refine bodyPost_ret (v := .tuple #[.agg #[.int .i64 0, .slice none 0 0, .int .i64 0, .int .i64 0, .string ⟨#[]⟩], .int .i64 160]) ?_ rfl ?_
        · simp [results, Try.results20, go_sem, hR]
        · refine RDec_err ?_ ?_
          · unfold dec; rw [if_neg (by rw [Hln.out]; exact hn2), Hu.out]; simp only; rw [← Hrr.out]; by_cases h6 : r.length < 6; (rw [if_pos h6]); (rw [if_neg h6, List.drop_eq_nil_of_le (by rw [Hrl.out]; omega)])
          · exact ((((hB1.setCell (by dsimp only; omega) _).setCell (by dsimp only; omega) _).setCell (by dsimp only; omega) _).setCell (by dsimp only; omega) _).setCell (by dsimp only; omega) _
      · have h7i : ¬ (n : Int) < 2 + (k : Int) + 7 := by omega
        obtain ⟨x, t, hxt⟩ : ∃ x t, r.drop 6 = x :: t := by
          cases hx : r.drop 6 with
          | nil => have := congrArg List.length hx; rw [List.length_drop, Hrl.out] at this; simp at this; omega
          | cons x t => exact ⟨x, t, rfl⟩
        have hr6 : 6 < r.length := by rw [Hrl.out]; omega
        have hx6 : r[6] = x := by
          have := List.drop_eq_getElem_cons hr6
          rw [hxt] at this
          exact (List.cons.inj this).1.symm
        have hl6 : l[2 + k + 6]'(by rw [Hln.out]; omega) = x := by
          rw [← hx6]
          simp only [Hrr.out, List.getElem_drop]
          congr 1
        obtain ⟨b, o, rfl, hbB, hcell⟩ := hr.byte (k := 0) (by omega)
        have hcx : w1.cell? ⟨b, o + (2 + k + 6), none⟩ = some (.int .u8 (x.toNat : Int)) := by rw [← hl6]; exact (hB1.cell (by dsimp only; omega)).trans (hcell _ _)
        have Hxt := Lib.hid hxt
        have htl : t.length = n - 2 - k - 6 - 1 := by have := congrArg List.length hxt; rw [List.length_drop, Hrl.out] at this; simp at this; omega
        have Htl := Lib.hid htl
        clear hl6 hxt htl
        by_cases hx1 : 1 < x.toNat
        · have hx1' : (1 : Int) < (x.toNat : Int) := by omega
          go_wp2
          refine bodyPost_ret (v := .tuple #[.agg #[.int .i64 0, .slice none 0 0, .int .i64 0, .int .i64 0, .string ⟨#[]⟩], .int .i64 160]) ?_ rfl ?_
          · simp [results, Try.results20, go_sem, hR]
          · refine RDec_err ?_ ?_
            · unfold dec; rw [if_neg (by rw [Hln.out]; exact hn2), Hu.out]; simp only; rw [← Hrr.out]; rw [if_neg (by rw [Hrl.out]; omega), Hxt.out]; simp only; rw [if_pos hx1]
            · exact ((((hB1.setCell (by dsimp only; omega) _).setCell (by dsimp only; omega) _).setCell (by dsimp only; omega) _).setCell (by dsimp only; omega) _).setCell (by dsimp only; omega) _
        · have hx1' : ¬ (1 : Int) < (x.toNat : Int) := by omega
          obtain ⟨A3, hcut3, hr3⟩ := run_cutI slb hr hc (2 + k) (by omega) .i64 (2 + (k : Int)) (by omega)
          have hrd : (bcs l).drop (2 + k) = bcs r := by rw [← bcs_drop, Hrr.out, List.drop_drop]
          rw [hrd] at hr3
          obtain ⟨A4, hcut4, hr4⟩ := run_cutI slb hr3 (c := c - (2 + k)) (by omega) 7 (by omega) .i64 7 rfl
          have hrd4 : (bcs r).drop 7 = bcs t := by
            rw [← bcs_drop, show (7 : Nat) = 6 + 1 from rfl, ← List.drop_drop, Hxt.out]; rfl
          rw [hrd4] at hr4
          obtain ⟨b3, o3, rfl, hb3B, hcell3⟩ := hr3.byte (k := 0) (by omega)
          have hc0 : ∀ W, Below w.heap.size w W → W.cell? ⟨b, o, none⟩ = some (.int .u8 ((l[0]'(by rw [Hln.out]; omega)).toNat : Int)) := fun W h => (h.cell (p := ⟨b, o, none⟩) (by dsimp only; omega)).trans (hcell 0 (by rw [Hln.out]; omega))
          have hc1 : ∀ W, Below w.heap.size w W → W.cell? ⟨b, o + 1, none⟩ = some (.int .u8 ((l[1]'(by rw [Hln.out]; omega)).toNat : Int)) := fun W h => (h.cell (p := ⟨b, o + 1, none⟩) (by dsimp only; omega)).trans (hcell 1 (by rw [Hln.out]; omega))
          have hc6 : ∀ W, Below w.heap.size w W → W.cell? ⟨b3, o3 + 6, none⟩ = some (.int .u8 (x.toNat : Int)) := fun W h => (h.cell (p := ⟨b3, o3 + 6, none⟩) (by dsimp only; omega)).trans (by rw [← hx6]; exact hcell3 6 hr6)
          have hconv : ∀ W, Below w.heap.size w W → (convert 23 9 (.slice A4 (n - (2 + k) - 7) (c - (2 + k) - 7))).run Try.prog W = .ok (.string ⟨t.toArray⟩) W := fun W h => run_str (P := Try.prog) Try.underlying23 Try.underlying5 Try.underlying9 (hr4.below h hB)
          have hlen3 : (7 : Int) ≤ ((n - (2 + k) : Nat) : Int) := by omega
          have hlen2 : (2 : Int) ≤ (n : Int) := by omega
          have h2 : num (l.take 2) = (l[0]'(by rw [Hln.out]; omega)).toNat * 256 + (l[1]'(by rw [Hln.out]; omega)).toNat := by
            rw [show (2 : Nat) = 0 + 1 + 1 from rfl, num_take l (0 + 1) (by rw [Hln.out]; omega), num_take l 0 (by rw [Hln.out]; omega)]
            simp [num]
          have H2 := Lib.hid h2
          clear h2 hcell hx6
          have hlt0 := (l[0]'(by rw [Hln.out]; omega)).toNat_lt
          have hlt1 := (l[1]'(by rw [Hln.out]; omega)).toNat_lt
          generalize (l[0]'(by rw [Hln.out]; omega)).toNat = y0 at *
          generalize (l[1]'(by rw [Hln.out]; omega)).toNat = y1 at *
          have hxl := x.toNat_lt
          have i0 : 0 < n := by omega
          have i1 : (1 : Int) < (n : Int) := by omega
          have i6 : (6 : Int) < ((n - (2 + k) : Nat) : Int) := by omega
          have s0 : IntKind.i64.wrap (x.toNat : Int) = (x.toNat : Int) := IntWalk.i64_in _ (by omega)
          have s1 : IntKind.i64.wrap (1 - (x.toNat : Int)) = 1 - (x.toNat : Int) := IntWalk.i64_in _ (by omega)
          have s2 : IntKind.i64.wrap ((y0 : Int) * 256) = (y0 : Int) * 256 := IntWalk.i64_in _ (by omega)
          have s3 : IntKind.i64.wrap ((y0 : Int) * 256 + (y1 : Int)) = (y0 : Int) * 256 + (y1 : Int) := IntWalk.i64_in _ (by omega)
          have s4 : IntKind.i64.wrap (y0 : Int) = (y0 : Int) := IntWalk.i64_in _ (by omega)
          have s5 : IntKind.i64.wrap (y1 : Int) = (y1 : Int) := IntWalk.i64_in _ (by omega)
          go_wp2_with fail
          go_region_held3 (fun W => Below w.heap.size w W) (first | exact hB1.drew | assumption | exact (Below.alloc hB1 (by omega) _).drew | exact Below.alloc (by assumption) (by simp; omega) _ | exact Below.setCell (by assumption) (by simp; omega) _)
            (fail)
          clear i0 i1 i6 s0 s1 s2 s3 s4 s5 hc0 hc1 hc6 hconv hcut3 hcut4 hcx hR0 hR
          obtain ⟨w3, hw3⟩ : ∃ y, y = (w1.alloc (.cells #[.int .i64 ((y0 : Int) * 256 + (y1 : Int)), .slice Av (bcs s).length cv, .int .i64 0, .int .i64 (1 - (x.toNat : Int)), .string ⟨t.toArray⟩] 38)).drew := ⟨_, rfl⟩
          have HK3 : Bk w3 w1.heap.size 38 #[.int .i64 ((y0 : Int) * 256 + (y1 : Int)), .slice Av (bcs s).length cv, .int .i64 0, .int .i64 (1 - (x.toNat : Int)), .string ⟨t.toArray⟩] := by rw [hw3]; exact Bk.new_ w1 _ _
          have HR3 : Bk w3 w.heap.size 38 #[.int .i64 0, .slice none 0 0, .int .i64 0, .int .i64 0, .string ⟨#[]⟩] := by rw [hw3]; exact (HR.alloc _)
          have hB3 : Below w.heap.size w w3 := by rw [hw3]; exact (hB1.alloc (by omega) _).drew
          have hown3 : Own w3 (w.heap.size + 1) 5 (.slice Av (bcs s).length cv) (bcs s) := by rw [hw3]; exact (hown.alloc _).drew
          have hcell6 : ∀ j (hj : j < r.length), w3.cell? ⟨b3, o3 + j, none⟩ = some (.int .u8 (r[j].toNat : Int)) := fun j hj => (hB3.cell (by dsimp only; omega)).trans (hcell3 j hj)
          rw [← hw3]
          have hsz3 : w1.heap.size < w3.heap.size := HK3.lt
          have hob : (Value.slice Av (bcs s).length cv).ownBlock ≠ some w1.heap.size := fun e => by have := (World.ownsRow.lt hown _ e).2; omega
          generalize w1.heap.size = g at *
          have hgne : w.heap.size ≠ g := by omega
          clear hw3 hb HR hB1 hown hRz
          go_wp2_with fail
          go_loop [9, 10] (fun m i => ∃ j : Nat, j ≤ 6 ∧ i = .int .i64 j ∧ m = .int .i64 (num (r.take j) : Nat)) (fun _ i => 6 - (intOf i).toNat)
          case atStart => exact ⟨0, by omega, rfl, rfl⟩
          case round =>
            obtain ⟨j, hj, rfl, rfl⟩ := hrel
            by_cases hj6 : j < 6
            · have hjr : j < r.length := by omega
              have hcj := hcell6 j hjr
              have hnl2 : num (r.take j) < 1099511627776 := by
                refine Nat.lt_of_lt_of_le (num_lt (r.take j)) ?_
                rw [List.length_take, Nat.min_eq_left (by omega)]
                exact Nat.le_trans (Nat.pow_le_pow_right (by decide) (show j ≤ 5 by omega)) (by decide)
              have hbt := r[j].toNat_lt
              have Hnt := Lib.hid (num_take r j hjr)
              have hji : (j : Int) < ((n - (2 + k) : Nat) : Int) := by omega
              clear hcell6 hcell3
              go_wp2
              go_round
              case rel => exact ⟨j + 1, by omega, by go_num, by rw [Hnt.out]; simp⟩
              case measure => simp [intOf]; omega
            · obtain rfl : j = 6 := by omega
              have hN : num (r.take 6) ≤ 281474976710655 := by
                have := num_lt (r.take 6)
                rw [List.length_take, Nat.min_eq_left (by omega)] at this
                exact Nat.le_of_lt_succ this
              have hdec : dec l = if 65536 < s.length ∨ 1024 < t.length then .error 2 else .ok ⟨num (l.take 2), s, 281474976710655 - (num (r.take 6) : Nat), 1 - (x.toNat : Int), t⟩ := by
                unfold dec
                rw [if_neg (by rw [Hln.out]; omega), Hu.out]
                simp only
                rw [← Hrr.out, if_neg (by omega), Hxt.out]
                simp only
                rw [if_neg hx1]
              have Hdec := Lib.hid hdec
              clear hdec hcell6 hcell3
              generalize num (r.take 6) = N6 at *
              have hk := HK3.cell
              have hkz := HK3.frz
              have hR := HR3.cell
              have hRz := HR3.frz
              have hbl := bcs_length s
              have Hbl := Lib.hid hbl
              clear hbl
              by_cases hsl : 65536 < s.length
              · have hsl' : 65536 < (bcs s).length := by rw [Hbl.out]; exact hsl
                go_wp2
                refine bodyPost_ret (v := .tuple #[.agg #[.int .i64 0, .slice none 0 0, .int .i64 0, .int .i64 0, .string ⟨#[]⟩], .int .i64 2]) ?_ rfl ?_
                · simp [results, Try.results20, go_sem, hR]
                · refine RDec_err ?_ ?_
                  · rw [Hdec.out, if_pos (.inl hsl)]
                  · exact (((((hB3.setCell (by dsimp only; omega) _).setCell (by dsimp only; omega) _).setCell (by dsimp only; omega) _).setCell (by dsimp only; omega) _).setCell (by dsimp only; omega) _).setCell (by dsimp only; omega) _
              · have hsl' : ¬ 65536 < (bcs s).length := by rw [Hbl.out]; exact hsl
                by_cases htl : 1024 < t.length
                · go_wp2
                  refine bodyPost_ret (v := .tuple #[.agg #[.int .i64 0, .slice none 0 0, .int .i64 0, .int .i64 0, .string ⟨#[]⟩], .int .i64 2]) ?_ rfl ?_
                  · simp [results, Try.results20, go_sem, hR]
                  · refine RDec_err ?_ ?_
                    · rw [Hdec.out, if_pos (.inr htl)]
                    · exact (((((hB3.setCell (by dsimp only; omega) _).setCell (by dsimp only; omega) _).setCell (by dsimp only; omega) _).setCell (by dsimp only; omega) _).setCell (by dsimp only; omega) _).setCell (by dsimp only; omega) _
                · go_wp2
                  refine bodyPost_ret (v := .tuple #[keyVal ⟨num (l.take 2), s, 281474976710655 - (N6 : Nat), 1 - (x.toNat : Int), t⟩ (.slice Av (bcs s).length cv), .int .i64 0]) ?_ rfl ?_
                  · simp [results, Try.results20, keyVal, go_sem, hR, H2.out]
                  · refine .inl ⟨_, _, ?_, rfl, ?_, ?_⟩
                    · rw [Hdec.out, if_neg (by omega)]
                    · refine Own.mono (B := w.heap.size + 1) ?_ (by omega)
                      exact ownsRow_setCell_below (ownsRow_setCell_below (ownsRow_setCell_below (ownsRow_setCell_below (ownsRow_setCell_below (ownsRow_setCell_other hown3 hob _) (by dsimp only; omega) _) (by dsimp only; omega) _) (by dsimp only; omega) _) (by dsimp only; omega) _) (by dsimp only; omega) _
                    · exact (((((hB3.setCell (by dsimp only; omega) _).setCell (by dsimp only; omega) _).setCell (by dsimp only; omega) _).setCell (by dsimp only; omega) _).setCell (by dsimp only; omega) _).setCell (by dsimp only; omega) _
    · rw [World.size_alloc] at hb
      have HR := hR0.below hb (by omega)
      have hR := HR.cell
      have hRz := HR.frz
      go_wp2
      refine bodyPost_ret (v := .tuple #[.agg #[.int .i64 0, .slice none 0 0, .int .i64 0, .int .i64 0, .string ⟨#[]⟩], .int .i64 160]) ?_ rfl ?_
      · simp [results, Try.results20, go_sem, hR]
      · refine RDec_err ?_ ?_
        · unfold dec; rw [if_neg (by rw [Hln.out]; exact hn2), hu]
        · exact (((((((Below.refl _ _).alloc (Nat.le_refl _) _).trans (hb.mono (by omega))).setCell (by dsimp only; omega) _).setCell (by dsimp only; omega) _).setCell (by dsimp only; omega) _).setCell (by dsimp only; omega) _).setCell (by dsimp only; omega) _
end Go.Proofs.Ytedelkifadonjaa

namespace Go.Proofs.Ytedelkifadonjaa
open Go.RowKit Go.Lec

/-- A number is answered; what was there before is as it was. -/
def RetB0 (v : Value) (w : World) (e : Ending) (w' : World) : Prop := e = .returned v ∧ Below w.heap.size w w'

/-- What Split answers of bytes that are a key. -/
def SplitPost (w : World) (K : Key) (e : Ending) (w' : World) : Prop :=
  ∃ p, e = .returned (.tuple #[p, .int .i64 K.sq, .int .i64 K.kd, .int .i64 (preE K.ep K.srt)]) ∧ Own w' w.heap.size 5 p (bcs (preB K.ep K.srt)) ∧ Below w.heap.size w w'

end Go.Proofs.Ytedelkifadonjaa

namespace Go.Proofs.Ytedelkifadonjaa
open Go.RowKit Go.Lec

theorem awake_enc : encB 1 [97] 5 1 [65] = [0, 1, 97, 0, 1, 255, 255, 255, 255, 255, 250, 0, 65] := by decide +kernel
theorem awake_encE : encE 1 5 1 [65] = 0 := by decide +kernel
theorem awake_dec : dec [0, 1, 97, 0, 1, 255, 255, 255, 255, 255, 250, 0, 65] = .ok ⟨1, [97], 5, 1, [65]⟩ := by
  simp [dec, unesc, num]
theorem awake_esc : escT [0] = [0, 255, 0, 1] := by decide +kernel

end Go.Proofs.Ytedelkifadonjaa

namespace Go.Proofs.Ytedelkifadonjaa
open Go.RowKit Go.Lec

/-- What is written is read back as it was. -/
theorem dec_enc (q : Nat) (hq : q ≤ 65535) (l t : List UInt8) (sq kd : Int) (h2 : 0 ≤ sq) (h3 : sq ≤ 281474976710655) (h4 : 0 ≤ kd) (h5 : kd ≤ 1) (hl : l.length ≤ 65536) (ht : t.length ≤ 1024) :
    dec (be 2 q ++ escT l ++ stampB sq ++ [UInt8.ofNat (1 - kd).toNat] ++ t) = .ok ⟨q, l, sq, kd, t⟩ := by
  have e2 : (be 2 q ++ escT l ++ stampB sq ++ [UInt8.ofNat (1 - kd).toNat] ++ t).drop 2 = escT l ++ (stampB sq ++ UInt8.ofNat (1 - kd).toNat :: t) := by
    simp only [List.append_assoc]
    rw [List.drop_append_of_le_length (by rw [be_length]; omega), List.drop_eq_nil_of_le (by rw [be_length]; omega)]
    simp
  have t2 : (be 2 q ++ escT l ++ stampB sq ++ [UInt8.ofNat (1 - kd).toNat] ++ t).take 2 = be 2 q := by
    simp only [List.append_assoc]
    rw [List.take_append_of_le_length (by rw [be_length]; omega), List.take_of_length_le (by rw [be_length]; omega)]
  have hsl : (stampB sq).length = 6 := be_length _ _
  have d6 : (stampB sq ++ UInt8.ofNat (1 - kd).toNat :: t).drop 6 = UInt8.ofNat (1 - kd).toNat :: t := by
    rw [List.drop_append_of_le_length (by omega), List.drop_eq_nil_of_le (by omega)]
    simp
  have t6 : (stampB sq ++ UInt8.ofNat (1 - kd).toNat :: t).take 6 = stampB sq := by
    rw [List.take_append_of_le_length (by omega), List.take_of_length_le (by omega)]
  have hx : (UInt8.ofNat (1 - kd).toNat).toNat = (1 - kd).toNat := by rw [UInt8.toNat_ofNat']; omega
  unfold dec
  rw [if_neg (by simp only [List.length_append, be_length]; omega), e2, unesc_escT, t2]
  simp only
  rw [List.drop_left, if_neg (by simp only [List.length_append]; omega), d6, t6]
  simp only
  rw [hx, if_neg (by omega), if_neg (by omega)]
  have hn2 : num (be 2 q) = q := by rw [num_be]; omega
  have hn6 : (num (stampB sq) : Int) = 281474976710655 - sq := by
    unfold stampB
    rw [num_be, Nat.mod_eq_of_lt (by omega)]
    omega
  rw [hn2, hn6]
  congr 2 <;> omega

end Go.Proofs.Ytedelkifadonjaa

