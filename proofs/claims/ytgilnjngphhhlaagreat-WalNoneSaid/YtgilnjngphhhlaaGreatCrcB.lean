/- Layer 3: the table is reckoned. -/
import Derived.Test.YtgilnjngphhhlaaGreatCrcA
import Derived.Laws.LoneSync
import Derived.Laws.Pointers
namespace Go.Lec
open Go.RowKit
theorem cstep_odd2 (y : BitVec 32) (h : y.toNat % 2 = 1) : bits .xor .u32 ((y.toNat : Int) / 2) 2197175160 = ((cstep y).toNat : Int) := cstep_odd y h
theorem and_one (y : BitVec 32) : bits .and .u32 (y.toNat : Int) 1 = ((y.toNat % 2 : Nat) : Int) := by
  have h := u32_and_nat y.toNat 1 y.isLt (by decide)
  rw [Nat.and_one_is_mod] at h
  exact h
end Go.Lec
namespace Go.Proofs.YtgilnjngphhhlaaGreat
open Go.RowKit Go.Lec

theorem add_i32 (w : World) (m : Int) (hm : 0 ≤ m ∧ m ≤ 1000) : (Op.intArith .add .i32 m 1).run Tryz.prog w = .ok (.int .i32 (m + 1)) w := by
  have h : IntKind.i32.wrap (m + 1) = m + 1 := by simp [IntKind.wrap, IntKind.bits, IntKind.signed]; omega
  simp [Op.intArith, h]
theorem c_Add (w : World) (b : Nat) (m : Int) (hm : 0 ≤ m ∧ m ≤ 1000) (hc : w.cell? ⟨b, 4, none⟩ = some (.int .i32 m)) (hz : w.frozen? ⟨b, 4, none⟩ = false) :
    Calls Tryz.prog 90 #[.pointer (some ⟨b, 4, none⟩), .int .i32 1] w fun e w' => e = .returned (.int .i32 (m + 1)) ∧ w' = w.setCell ⟨b, 4, none⟩ (.int .i32 (m + 1)) := by
  have hadd := run_call_add (P := Tryz.prog) Tryz.func101 (by kernel_rfl) (by kernel_rfl) (by kernel_rfl) .i32 (by kernel_rfl) (y := 1) (s := m + 1) hc hz (add_i32 w m hm)
  go_enter Tryz.func90, Tryz.ntmps90
  go_wp2
  go_ret
  exact ⟨rfl, rfl⟩

/-- The table's numbers up to k. -/
def tabTo (cs : Array Value) (k : Nat) : Prop := cs.size = 261 ∧ ∀ j, j < k → cs[5 + j]? = some (.int .u32 ((ctab j).toNat : Int))

set_option maxRecDepth 20000 in
set_option maxHeartbeats 1600000 in
theorem c_reckon (w : World) (b : Nat) (cs : Array Value) (m : Int) (hm : 0 ≤ m ∧ m ≤ 1000) (hB : Bk w b 128 cs) (hs : cs.size = 261) (h4 : cs[4]? = some (.int .i32 m)) :
    Calls Tryz.prog 75 #[.pointer (some ⟨b, 0, none⟩)] w fun e w' => e = .returned (.tuple #[]) ∧ Kb [b] w w' ∧ ∃ cs', Bk w' b 128 cs' ∧ tabTo cs' 256 ∧ ∀ j, j < 4 → cs'[j]? = cs[j]? := by
  go_enter Tryz.func75, Tryz.ntmps75
  go_wp2
  go_loopw [5] (fun i wr => ∃ (k : Nat) (cs' : Array Value), k ≤ 256 ∧ i = .int .i64 k ∧ Kb [b] w wr ∧ Bk wr b 128 cs' ∧ tabTo cs' k ∧ ∀ j, j < 5 → cs'[j]? = cs[j]?) (fun i _ => 256 - (intOf i).toNat)
  case atStart => exact ⟨0, cs, by omega, rfl, Kb.refl _ _, hB, ⟨hs, fun j h => absurd h (by omega)⟩, fun _ _ => rfl⟩
  case round =>
    obtain ⟨k, cs', hk, rfl, hK, hB', ⟨hs', ht⟩, h5⟩ := hrel
    have Ht := Lib.hid ht
    have H5 := Lib.hid h5
    clear ht h5
    by_cases hlt : k < 256
    · have hkw : IntKind.u32.wrap (k : Int) = ((BitVec.ofNat 32 k).toNat : Int) := by
        rw [BitVec.toNat_ofNat, Nat.mod_eq_of_lt (by omega)]
        simp [IntKind.wrap_u32]
        omega
      obtain ⟨z, hz⟩ : ∃ z, z = BitVec.ofNat 32 k := ⟨_, rfl⟩
      rw [← hz] at hkw
      have Hz := Lib.hid hz
      clear hz
      have hkz : (k : Int) % 4294967296 = (z.toNat : Int) := by rw [Hz.out, BitVec.toNat_ofNat]; omega
      go_wp2
      go_loop [3, 10] (fun x i => ∃ (j : Nat) (y : BitVec 32), j ≤ 8 ∧ i = .int .i64 j ∧ x = .int .u32 (y.toNat : Int) ∧ cstepN (8 - j) y = cstepN 8 z) (fun _ i => 8 - (intOf i).toNat)
      case atStart => exact ⟨0, z, by omega, rfl, rfl, rfl⟩
      case round =>
        obtain ⟨j, y, hj, rfl, rfl, hy⟩ := hrel
        clear hkw hkz
        by_cases hlt2 : j < 8
        · obtain ⟨d, hd⟩ : ∃ d, 8 - j = d + 1 := ⟨8 - j - 1, by omega⟩
          rw [hd] at hy
          unfold cstepN at hy
          have Hy := Lib.hid hy
          clear hy
          have hyl := y.isLt
          have hand := and_one y
          by_cases ho : y.toNat % 2 = 1
          · have hv := cstep_odd y ho
            rw [ho] at hand
            obtain ⟨y2, hy2⟩ : ∃ y2, y2 = cstep y := ⟨_, rfl⟩
            rw [← hy2] at hv Hy
            clear hy2
            go_wp2
            go_round
            case rel => exact ⟨j + 1, y2, by omega, by go_num, rfl, by rw [show 8 - (j + 1) = d by omega]; exact Hy.out⟩
            case measure => simp [intOf]; omega
          · have hv := cstep_ev y ho
            rw [show y.toNat % 2 = 0 by omega] at hand
            obtain ⟨y2, hy2⟩ : ∃ y2, y2 = cstep y := ⟨_, rfl⟩
            rw [← hy2] at hv Hy
            clear hy2
            go_wp2
            go_round
            case rel => exact ⟨j + 1, y2, by omega, by go_num, rfl, by rw [show 8 - (j + 1) = d by omega]; exact Hy.out⟩
            case measure => simp [intOf]; omega
        · obtain rfl : j = 8 := by omega
          have hyt : y = ctab k := by have h : y = cstepN 8 z := hy; rw [h, Hz.out]; rfl
          have Hyt := Lib.hid hyt
          clear hy hyt
          have hcell : wr.cell? ⟨b, 5 + k, none⟩ = some (cs'[5 + k]'(by omega)) := by rw [hB'.cell]; exact Array.getElem?_eq_getElem _
          have hfr := hB'.frz (5 + k)
          have hk0 : (0 : Int) ≤ (k : Int) := by omega
          go_wp2
          go_roundw
          case rel =>
            refine ⟨k + 1, cs'.setIfInBounds (5 + k) (.int .u32 (y.toNat : Int)), by omega, by go_num, hK.setCell (.inl (List.mem_singleton.2 rfl)) _, hB'.set_ _ _, ⟨by simpa using hs', fun i hi => ?_⟩, fun i hi => ?_⟩
            · rw [Array.getElem?_setIfInBounds]
              by_cases hik : i = k
              · subst hik
                rw [if_pos rfl, if_pos (by omega), Hyt.out]
              · rw [if_neg (by omega)]
                exact Ht.out i (by omega)
            · rw [Array.getElem?_setIfInBounds, if_neg (by omega)]
              exact H5.out i hi
          case measure => simp [intOf]; omega
    · obtain rfl : k = 256 := by omega
      have h4' : cs'[4]? = some (.int .i32 m) := (H5.out 4 (by omega)).trans h4
      have hA := Lib.hid (c_Add wr b m hm ((hB'.cell 4).trans h4') (hB'.frz 4))
      clear h4'
      go_wp2_with fail
      refine hA.out.mono ?_
      rintro e w1 ⟨rfl, rfl⟩
      go_wp2
      go_end0
      refine ⟨rfl, hK.setCell (.inl (List.mem_singleton.2 rfl)) _, _, hB'.set_ 4 _, ⟨by simpa using hs', fun i hi => ?_⟩, fun i hi => ?_⟩
      · rw [Array.getElem?_setIfInBounds, if_neg (by omega)]
        exact Ht.out i hi
      · rw [Array.getElem?_setIfInBounds, if_neg (by omega)]
        exact H5.out i (by omega)
end Go.Proofs.YtgilnjngphhhlaaGreat
