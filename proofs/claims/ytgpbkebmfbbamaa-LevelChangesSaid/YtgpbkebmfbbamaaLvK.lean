/- Layer 24: the reference's bytes of an epoch (as in layer 16). -/
import Derived.Test.YtgpbkebmfbbamaaLvB
namespace Go.Proofs.Ytgpbkebmfbbamaa
open Go.RowKit Go.Lec

theorem byte_wrap (x : Int) (h0 : 0 ≤ x) (h1 : x ≤ 255) : (.int .u8 x : Value) = bcell (UInt8.ofNat x.toNat) := by
  rw [bcell_ofNat]
  congr 1
  omega
theorem be_step (j n : Nat) : bcs (be (j + 1) n) = bcell (UInt8.ofNat (n / 256 ^ j % 256)) :: bcs (be j n) := rfl

/-- What the loop of 'high' holds behind j rounds. -/
theorem high_set (wide j n : Nat) (h : j < wide) :
    (List.replicate (wide - j) (Value.int .u8 0) ++ bcs (be j n)).set (wide - 1 - j) (bcell (UInt8.ofNat (n / 256 ^ j % 256))) = List.replicate (wide - (j + 1)) (Value.int .u8 0) ++ bcs (be (j + 1) n) := by
  obtain ⟨d, rfl⟩ : ∃ d, wide = d + 1 + j := ⟨wide - 1 - j, by omega⟩
  have e1 : d + 1 + j - j = d + 1 := by omega
  have e2 : d + 1 + j - 1 - j = d := by omega
  have e3 : d + 1 + j - (j + 1) = d := by omega
  rw [e1, e2, e3, be_step, List.replicate_succ']
  rw [List.append_assoc, List.set_append_right _ _ (by simp)]
  simp

set_option maxHeartbeats 400000 in
theorem c_high (w : World) (n wide : Nat) (hn : n ≤ 9223372036854775807) (hw : wide ≤ 1000) :
    Calls Try.prog 34 #[.int .i64 n, .int .i64 wide] w (RetB 5 w (be wide n)) := by
  go_enter Try.func34, Try.ntmps34
  go_wp2_with (first | (at_make; go_loud (refine wpList_make_n rfl _ _ rfl slb (by decide) rfl (Nat.le_refl _) wide rfl rfl rfl rfl (by omega) ?_); intro w1 hown hb1 hs1))
  go_loopw [0, 6] (fun q i wr => ∃ (d : Nat) (I : Int), d ≤ wide ∧ q = .int .i64 ((n / 256 ^ (wide - d) : Nat) : Int) ∧ i = .int .i64 I ∧ I = (d : Int) - 1 ∧
      Own wr w.heap.size 5 (.slice (some ⟨w.heap.size, 0, none⟩) wide wide) (List.replicate d (.int .u8 0) ++ bcs (be (wide - d) n)) ∧ Below w.heap.size w wr) (fun _ i _ => (intOf i + 1).toNat)
  case atStart => exact ⟨wide, _, Nat.le_refl _, by simp, rfl, rfl, by simpa [be, bcs] using hown, hb1⟩
  case round =>
    obtain ⟨d, I, hd, rfl, rfl, hI, hown, hb⟩ := hrel
    have hq : n / 256 ^ (wide - d) ≤ n := Nat.div_le_self _ _
    generalize hqq : n / 256 ^ (wide - d) = q at *
    have Hq := Lib.hid hqq; clear hqq
    rcases Nat.eq_zero_or_pos d with h0 | h0
    · subst h0
      obtain rfl : I = -1 := by omega
      clear hI hn
      go_wp2
      go_ret
      exact ⟨_, rfl, by simpa using hown, hb⟩
    · obtain ⟨d, rfl⟩ : ∃ d', d = d' + 1 := ⟨d - 1, by omega⟩
      obtain rfl : I = (d : Int) := by omega
      clear hI
      have hcell := hown.cellAt d (by omega)
      rw [List.getElem?_append_left (by simp), List.getElem?_replicate, if_pos (by omega)] at hcell
      have hfz := hown.frozenAt d
      have hst := hown.stored d (bcell (UInt8.ofNat (q % 256)))
      have hset := high_set wide (wide - (d + 1)) n (by omega)
      rw [Hq.out, show wide - (wide - (d + 1)) = d + 1 from by omega, show wide - 1 - (wide - (d + 1)) = d from by omega, show wide - (wide - (d + 1) + 1) = d from by omega, show wide - (d + 1) + 1 = wide - d from by omega] at hset
      rw [hset] at hst
      clear hset
      have hv := byte_wrap ((q : Int) % 256) (by omega) (by omega)
      have hq2 : q / 256 = n / 256 ^ (wide - d) := by rw [← Hq.out, Nat.div_div_eq_div_mul, ← Nat.pow_succ, show (wide - (d + 1)).succ = wide - d from by omega]
      have hbs : Below w.heap.size w (wr.setCell ⟨w.heap.size, d, none⟩ (bcell (UInt8.ofNat (q % 256)))) := hb.setCell (Nat.le_refl _) _
      rw [show UInt8.ofNat ((q : Int) % 256).toNat = UInt8.ofNat (q % 256) from by congr 1] at hv
      rw [← hv] at hst hbs
      have Hst := Lib.hid hst; clear hst
      have Hbs := Lib.hid hbs; clear hbs
      have Hq2 := Lib.hid hq2; clear hq2
      clear hv hown hb
      go_wp2
      go_roundw
      case rel => exact ⟨d, (d : Int) - 1, by omega, by rw [← Hq2.out]; rfl, rfl, rfl, Hst.out, Hbs.out⟩
      case measure => simp [intOf]

set_option maxHeartbeats 400000 in
theorem c_rBegin (w : World) (q : Int) :
    Calls Try.prog 16 #[.int .i64 q] w (RetBE 5 w (begB q) (begE q)) := by
  by_cases h0 : 0 ≤ q ∧ q ≤ 65535
  · have hk : okEpoch q = true := by simp [okEpoch, h0]
    unfold begB begE
    rw [if_pos hk, if_pos hk]
    clear hk
    obtain ⟨h0, h1⟩ := h0
    obtain ⟨q, rfl⟩ := Int.eq_ofNat_of_zero_le h0
    rw [Int.toNat_natCast]
    have h2 : ¬ 65535 < (q : Int) := by omega
    have h3 : ¬ (q : Int) < 0 := by omega
    go_enter Try.func16, Try.ntmps16
    go_wp2_with (first | (go_at_call 34; go_must (refine (c_high w q 2 (by omega) (by decide)).mono ?_); rintro e w1 ⟨v, rfl, hown, hb⟩))
    go_ret2
    exact ⟨_, rfl, hown, hb⟩
  · have hk : ¬ okEpoch q = true := by simp only [okEpoch, Bool.and_eq_true, decide_eq_true_eq]; omega
    unfold begB begE
    rw [if_neg hk, if_neg hk]
    clear hk
    by_cases h1 : 0 ≤ q
    · have h2 : ¬ q ≤ 65535 := by omega
      have h3 : ¬ q < 0 := by omega
      clear h0
      go_enter Try.func16, Try.ntmps16
      go_wp2
      go_ret2
      exact RetBE_nil rfl (Below.refl _ _)
    · clear h0
      go_enter Try.func16, Try.ntmps16
      go_wp2
      go_ret2
      exact RetBE_nil rfl (Below.refl _ _)
end Go.Proofs.Ytgpbkebmfbbamaa
