/- Layer 16: the walks of the functions that write: the escape, numbers in bytes, an epoch's and a sort key's prefix, the place to look from. -/
import Derived.Test.YteokhnjjneeeeaaRows
import Derived.Test.YteokhnjjneeeeaaIkPlain
namespace Go.Proofs.Yteokhnjjneeeeaa
open Go.RowKit Go.Lec

theorem info5 : (Try.prog.info? 5).map (fun i => (i.zero, i.size, i.bytes)) = some (some (.int .u8 0), 1, 1) := by kernel_rfl
theorem slb : SlT Try.prog 22 5 (.int .u8 0) 1 := ⟨Try.underlying22, info_parts info5, rfl⟩

set_option maxHeartbeats 400000 in
theorem c_Escape (w : World) {B : Nat} {A : Option Addr} {n c : Nat} {l : List UInt8} (hr : Rd w B A n (bcs l)) (hB : B ≤ w.heap.size) (hn : n ≤ 1099511627) :
    Calls Try.prog 17 #[.slice A n c] w (RetB 5 w (escT l)) := by
  go_enter Try.func17, Try.ntmps17
  go_wp2
  go_loopw [3, 5, 8] (fun v _ i wr => ∃ k : Nat, k ≤ n ∧ i = .int .i64 k ∧ Own wr w.heap.size 5 v (bcs (esc (l.take k))) ∧ Below w.heap.size w wr) (fun _ _ i _ => n - (intOf i).toNat)
  case atStart => exact ⟨0, Nat.zero_le _, rfl, Own.nil_ _ _ _, Below.refl _ _⟩
  case round =>
    obtain ⟨k, hk, rfl, hown, hb⟩ := hrel
    have hln := hr.1
    rw [bcs_length] at hln
    have Hln := Lib.hid hln; clear hln
    by_cases hlt : k < n
    · obtain ⟨b, o, rfl, hbB, hcell⟩ := (hr.below hb hB).byte hlt
      have hkl : k < l.length := by rw [Hln.out]; exact hlt
      have hc := hcell k hkl
      clear hcell
      have hel := esc_len (l.take k)
      have hel2 : (l.take k).length ≤ n := by rw [List.length_take]; omega
      have hz := byte_zero l[k]
      by_cases h0 : l[k] = 0
      · have hz' : ((l[k].toNat : Int) == 0) = true := by rw [hz]; simpa using h0
        clear hz
        have Hs := Lib.hid (esc_hit l k hkl h0)
        have H0 := Lib.hid h0; clear h0
        go_wp2_with (first | (at_builtin; (refine wpList_app_lit rfl _ _ rfl slb (by decide) rfl hown hb hb.size [.int .u8 (l[k].toNat : Int)] rfl (by simp [Value.oneCell']) (by simp only [bcs_length, List.length_cons, List.length_nil]; omega) ?_); intro v1 w1 hown1 hb1 hs1) | (at_builtin; (refine wpList_app_lit rfl _ _ rfl slb (by decide) rfl hown1 hb1 hs1 [.int .u8 255] rfl (by simp [Value.oneCell']) (by simp [bcs_length]; omega) ?_); intro v2 w2 hown2 hb2 hs2))
        go_roundw
        case rel => exact ⟨k + 1, by omega, by go_num, by rw [Hs.out]; assumption, by assumption⟩
        case measure => simp [intOf]; omega
      · have hz' : ((l[k].toNat : Int) == 0) = false := by rw [hz]; simpa using h0
        clear hz
        have Hs := Lib.hid (esc_miss l k hkl h0)
        have H0 := Lib.hid h0; clear h0
        go_wp2_with (first | (at_builtin; (refine wpList_app_lit rfl _ _ rfl slb (by decide) rfl hown hb hb.size [.int .u8 (l[k].toNat : Int)] rfl (by simp [Value.oneCell']) (by simp only [bcs_length, List.length_cons, List.length_nil]; omega) ?_); intro v1 w1 hown1 hb1 hs1))
        go_roundw
        case rel => exact ⟨k + 1, by omega, by go_num, by rw [Hs.out]; assumption, by assumption⟩
        case measure => simp [intOf]; omega
    · have hkn : k = n := by omega
      have ht : l.take k = l := by rw [List.take_of_length_le]; rw [Hln.out]; omega
      rw [ht] at hown
      have hel := esc_len l
      have hel2 : l.length ≤ n := by rw [Hln.out]; omega
      clear hkn ht
      go_wp2_with (first | (at_builtin; (refine wpList_app_lit rfl _ _ rfl slb (by decide) rfl hown hb hb.size [.int .u8 0, .int .u8 1] rfl (by simp [Value.oneCell']) (by simp only [bcs_length, List.length_cons, List.length_nil]; omega) ?_); intro v1 w1 hown1 hb1 hs1))
      go_ret
      exact ⟨_, rfl, by unfold escT; rw [bcs_append]; assumption, by assumption⟩

set_option maxHeartbeats 400000 in
theorem c_rEscape (w : World) {B : Nat} {A : Option Addr} {n c : Nat} {l : List UInt8} (hr : Rd w B A n (bcs l)) (hB : B ≤ w.heap.size) (hn : n ≤ 1099511627) :
    Calls Try.prog 18 #[.slice A n c] w (RetB 5 w (escT l)) := by
  go_enter Try.func18, Try.ntmps18
  go_wp2
  go_loopw [3, 4] (fun v i wr => ∃ k : Nat, k ≤ n ∧ i = .int .i64 k ∧ Own wr w.heap.size 5 v (bcs (esc (l.take k))) ∧ Below w.heap.size w wr) (fun _ i _ => n - (intOf i).toNat)
  case atStart => exact ⟨0, Nat.zero_le _, rfl, Own.nil_ _ _ _, Below.refl _ _⟩
  case round =>
    obtain ⟨k, hk, rfl, hown, hb⟩ := hrel
    have hln := hr.1
    rw [bcs_length] at hln
    have Hln := Lib.hid hln; clear hln
    by_cases hlt : k < n
    · obtain ⟨b, o, rfl, hbB, hcell⟩ := (hr.below hb hB).byte hlt
      have hkl : k < l.length := by rw [Hln.out]; exact hlt
      have hc := hcell k hkl
      clear hcell
      have hel := esc_len (l.take k)
      have hel2 : (l.take k).length ≤ n := by rw [List.length_take]; omega
      have hz := byte_zero l[k]
      by_cases h0 : l[k] = 0
      · have hz' : ((l[k].toNat : Int) == 0) = true := by rw [hz]; simpa using h0
        clear hz
        have Hs := Lib.hid (esc_hit l k hkl h0)
        have H0 := Lib.hid h0; clear h0
        go_wp2_with (first | (at_builtin; (refine wpList_app_lit rfl _ _ rfl slb (by decide) rfl hown hb hb.size [.int .u8 (l[k].toNat : Int)] rfl (by simp [Value.oneCell']) (by simp only [bcs_length, List.length_cons, List.length_nil]; omega) ?_); intro v1 w1 hown1 hb1 hs1; have hc1 := (hr.below hb1 hB).byte hlt; obtain ⟨b', o', hh, -, hc1⟩ := hc1; cases hh; have hc1 := hc1 k hkl) | (at_builtin; (refine wpList_app_lit rfl _ _ rfl slb (by decide) rfl hown1 hb1 hs1 [.int .u8 255] rfl (by simp [Value.oneCell']) (by simp [bcs_length]; omega) ?_); intro v2 w2 hown2 hb2 hs2))
        go_roundw
        case rel => exact ⟨k + 1, by omega, by go_num, by rw [Hs.out]; assumption, by assumption⟩
        case measure => simp [intOf]; omega
      · have hz' : ((l[k].toNat : Int) == 0) = false := by rw [hz]; simpa using h0
        clear hz
        have Hs := Lib.hid (esc_miss l k hkl h0)
        have H0 := Lib.hid h0; clear h0
        go_wp2_with (first | (at_builtin; (refine wpList_app_lit rfl _ _ rfl slb (by decide) rfl hown hb hb.size [.int .u8 (l[k].toNat : Int)] rfl (by simp [Value.oneCell']) (by simp only [bcs_length, List.length_cons, List.length_nil]; omega) ?_); intro v1 w1 hown1 hb1 hs1; have hc1 := (hr.below hb1 hB).byte hlt; obtain ⟨b', o', hh, -, hc1⟩ := hc1; cases hh; have hc1 := hc1 k hkl))
        go_roundw
        case rel => exact ⟨k + 1, by omega, by go_num, by rw [Hs.out]; assumption, by assumption⟩
        case measure => simp [intOf]; omega
    · have hkn : k = n := by omega
      have ht : l.take k = l := by rw [List.take_of_length_le]; rw [Hln.out]; omega
      rw [ht] at hown
      have hel := esc_len l
      have hel2 : l.length ≤ n := by rw [Hln.out]; omega
      clear hkn ht
      go_wp2_with (first | (at_builtin; (refine wpList_app_lit rfl _ _ rfl slb (by decide) rfl hown hb hb.size [.int .u8 0, .int .u8 1] rfl (by simp [Value.oneCell']) (by simp only [bcs_length, List.length_cons, List.length_nil]; omega) ?_); intro v1 w1 hown1 hb1 hs1))
      go_ret
      exact ⟨_, rfl, by unfold escT; rw [bcs_append]; assumption, by assumption⟩

theorem byte_wrap (x : Int) (h0 : 0 ≤ x) (h1 : x ≤ 255) : (.int .u8 x : Value) = bcell (UInt8.ofNat x.toNat) := by
  rw [bcell_ofNat]
  congr 1
  omega
theorem be_step (j n : Nat) : bcs (be (j + 1) n) = bcell (UInt8.ofNat (n / 256 ^ j % 256)) :: bcs (be j n) := rfl

/-- What the loop of 'high' holds behind j rounds. -/
theorem high_set (wide j n : Nat) (h : j < wide) :
    (List.replicate (wide - j) (Value.int .u8 0) ++ bcs (be j n)).set (wide - 1 - j) (bcell (UInt8.ofNat (n / 256 ^ j % 256))) = List.replicate (wide - (j + 1)) (Value.int .u8 0) ++ bcs (be (j + 1) n) := by
  obtain ⟨d, rfl⟩ : ∃ d, wide = d + 1 + j := ⟨wide - 1 - j, by omega⟩
  have e1 : d + 1 + j - j = d + 1 := by omega
  have e2 : d + 1 + j - 1 - j = d := by omega
  have e3 : d + 1 + j - (j + 1) = d := by omega
  rw [e1, e2, e3, be_step, List.replicate_succ']
  rw [List.append_assoc, List.set_append_right _ _ (by simp)]
  simp

set_option maxHeartbeats 400000 in
theorem c_high (w : World) (n wide : Nat) (hn : n ≤ 9223372036854775807) (hw : wide ≤ 1000) :
    Calls Try.prog 28 #[.int .i64 n, .int .i64 wide] w (RetB 5 w (be wide n)) := by
  go_enter Try.func28, Try.ntmps28
  go_wp2_with (first | (at_make; go_loud (refine wpList_make_n rfl _ _ rfl slb (by decide) rfl (Nat.le_refl _) wide rfl rfl rfl rfl (by omega) ?_); intro w1 hown hb1 hs1))
  go_loopw [0, 6] (fun q i wr => ∃ (d : Nat) (I : Int), d ≤ wide ∧ q = .int .i64 ((n / 256 ^ (wide - d) : Nat) : Int) ∧ i = .int .i64 I ∧ I = (d : Int) - 1 ∧
      Own wr w.heap.size 5 (.slice (some ⟨w.heap.size, 0, none⟩) wide wide) (List.replicate d (.int .u8 0) ++ bcs (be (wide - d) n)) ∧ Below w.heap.size w wr) (fun _ i _ => (intOf i + 1).toNat)
  case atStart => exact ⟨wide, _, Nat.le_refl _, by simp, rfl, rfl, by simpa [be, bcs] using hown, hb1⟩
  case round =>
    obtain ⟨d, I, hd, rfl, rfl, hI, hown, hb⟩ := hrel
    have hq : n / 256 ^ (wide - d) ≤ n := Nat.div_le_self _ _
    generalize hqq : n / 256 ^ (wide - d) = q at *
    have Hq := Lib.hid hqq; clear hqq
    rcases Nat.eq_zero_or_pos d with h0 | h0
    · subst h0
      obtain rfl : I = -1 := by omega
      clear hI hn
      go_wp2
      go_ret
      exact ⟨_, rfl, by simpa using hown, hb⟩
    · obtain ⟨d, rfl⟩ : ∃ d', d = d' + 1 := ⟨d - 1, by omega⟩
      obtain rfl : I = (d : Int) := by omega
      clear hI
      have hcell := hown.cellAt d (by omega)
      rw [List.getElem?_append_left (by simp), List.getElem?_replicate, if_pos (by omega)] at hcell
      have hfz := hown.frozenAt d
      have hst := hown.stored d (bcell (UInt8.ofNat (q % 256)))
      have hset := high_set wide (wide - (d + 1)) n (by omega)
      rw [Hq.out, show wide - (wide - (d + 1)) = d + 1 from by omega, show wide - 1 - (wide - (d + 1)) = d from by omega, show wide - (wide - (d + 1) + 1) = d from by omega, show wide - (d + 1) + 1 = wide - d from by omega] at hset
      rw [hset] at hst
      clear hset
      have hv := byte_wrap ((q : Int) % 256) (by omega) (by omega)
      have hq2 : q / 256 = n / 256 ^ (wide - d) := by rw [← Hq.out, Nat.div_div_eq_div_mul, ← Nat.pow_succ, show (wide - (d + 1)).succ = wide - d from by omega]
      have hbs : Below w.heap.size w (wr.setCell ⟨w.heap.size, d, none⟩ (bcell (UInt8.ofNat (q % 256)))) := hb.setCell (Nat.le_refl _) _
      rw [show UInt8.ofNat ((q : Int) % 256).toNat = UInt8.ofNat (q % 256) from by congr 1] at hv
      rw [← hv] at hst hbs
      have Hst := Lib.hid hst; clear hst
      have Hbs := Lib.hid hbs; clear hbs
      have Hq2 := Lib.hid hq2; clear hq2
      clear hv hown hb
      go_wp2
      go_roundw
      case rel => exact ⟨d, (d : Int) - 1, by omega, by rw [← Hq2.out]; rfl, rfl, rfl, Hst.out, Hbs.out⟩
      case measure => simp [intOf]

set_option maxHeartbeats 400000 in
theorem c_stamp (w : World) (q : Int) (h0 : 0 ≤ q) (h1 : q ≤ 281474976710655) :
    Calls Try.prog 27 #[.int .i64 q] w (RetB 5 w (stampB q)) := by
  go_enter Try.func27, Try.ntmps27
  go_wp2
  go_ret
  exact RetB_lit _ (stamp_cells q h0 h1) (by simp)

set_option maxHeartbeats 400000 in
theorem c_Begin (w : World) (q : Int) :
    Calls Try.prog 19 #[.int .i64 q] w (RetBE 5 w (begB q) (begE q)) := by
  by_cases h0 : 0 ≤ q ∧ q ≤ 65535
  · have hk : okEpoch q = true := by simp [okEpoch, h0]
    have H := Lib.hid hk; clear hk
    obtain ⟨h0, h1⟩ := h0
    go_enter Try.func19, Try.ntmps19
    go_wp2
    go_ret2
    unfold begB begE
    rw [if_pos H.out, if_pos H.out]
    exact RetBE_lit _ (beg_cells q h0 h1) (by simp)
  · have hk : ¬ okEpoch q = true := by simp only [okEpoch, Bool.and_eq_true, decide_eq_true_eq]; omega
    unfold begB begE
    rw [if_neg hk, if_neg hk]
    clear hk
    by_cases h1 : 0 ≤ q
    · have h2 : ¬ q ≤ 65535 := by omega
      clear h0
      go_enter Try.func19, Try.ntmps19
      go_wp2
      go_ret2
      exact RetBE_nil rfl (Below.refl _ _)
    · clear h0
      go_enter Try.func19, Try.ntmps19
      go_wp2
      go_ret2
      exact RetBE_nil rfl (Below.refl _ _)

set_option maxHeartbeats 400000 in
theorem c_rBegin (w : World) (q : Int) :
    Calls Try.prog 20 #[.int .i64 q] w (RetBE 5 w (begB q) (begE q)) := by
  by_cases h0 : 0 ≤ q ∧ q ≤ 65535
  · have hk : okEpoch q = true := by simp [okEpoch, h0]
    unfold begB begE
    rw [if_pos hk, if_pos hk]
    clear hk
    obtain ⟨h0, h1⟩ := h0
    obtain ⟨q, rfl⟩ := Int.eq_ofNat_of_zero_le h0
    rw [Int.toNat_natCast]
    have h2 : ¬ 65535 < (q : Int) := by omega
    have h3 : ¬ (q : Int) < 0 := by omega
    go_enter Try.func20, Try.ntmps20
    go_wp2_with (first | (go_at_call 28; go_must (refine (c_high w q 2 (by omega) (by decide)).mono ?_); rintro e w1 ⟨v, rfl, hown, hb⟩))
    go_ret2
    exact ⟨_, rfl, hown, hb⟩
  · have hk : ¬ okEpoch q = true := by simp only [okEpoch, Bool.and_eq_true, decide_eq_true_eq]; omega
    unfold begB begE
    rw [if_neg hk, if_neg hk]
    clear hk
    by_cases h1 : 0 ≤ q
    · have h2 : ¬ q ≤ 65535 := by omega
      have h3 : ¬ q < 0 := by omega
      clear h0
      go_enter Try.func20, Try.ntmps20
      go_wp2
      go_ret2
      exact RetBE_nil rfl (Below.refl _ _)
    · clear h0
      go_enter Try.func20, Try.ntmps20
      go_wp2
      go_ret2
      exact RetBE_nil rfl (Below.refl _ _)
end Go.Proofs.Yteokhnjjneeeeaa
