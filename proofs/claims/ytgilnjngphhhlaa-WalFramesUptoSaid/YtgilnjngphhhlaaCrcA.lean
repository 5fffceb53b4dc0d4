/- Layer 3: sums of bytes: the reference's walks, the masks. -/
import Derived.Test.YtgilnjngphhhlaaMemB
import Derived.Test.YtgilnjngphhhlaaCrcPlain
import Derived.Test.YtgilnjngphhhlaaChecked
import Derived.Laws.BitsAllLaws
namespace Go.Lec
open Go.RowKit
theorem lsb_toNat (y : BitVec 32) : y.getLsbD 0 = decide (y.toNat % 2 = 1) := by
  rw [BitVec.getLsbD, Nat.testBit_zero]
theorem cstep_odd (y : BitVec 32) (h : y.toNat % 2 = 1) : bits .xor .u32 ((y.toNat : Int) / 2) 2197175160 = ((cstep y).toNat : Int) := by
  have e : cstep y = (y >>> 1) ^^^ 0x82F63B78#32 := by unfold cstep; rw [lsb_toNat, decide_eq_true h]; rfl
  rw [e, BitVec.toNat_xor, BitVec.toNat_ushiftRight, Nat.shiftRight_eq_div_pow]
  have h1 := y.isLt
  have := u32_xor_nat (y.toNat / 2) 2197175160 (by omega) (by decide)
  rw [show ((y.toNat : Int) / 2) = ((y.toNat / 2 : Nat) : Int) by omega, show (2197175160 : Int) = ((2197175160 : Nat) : Int) from rfl, this]
  rfl
theorem cstep_ev (y : BitVec 32) (h : y.toNat % 2 ≠ 1) : ((y.toNat : Int) / 2) = ((cstep y).toNat : Int) := by
  have e : cstep y = y >>> 1 := by unfold cstep; rw [lsb_toNat, decide_eq_false h]; rfl
  rw [e, BitVec.toNat_ushiftRight, Nat.shiftRight_eq_div_pow]
  omega
theorem xor_val (x y : BitVec 32) : bits .xor .u32 (x.toNat : Int) (y.toNat : Int) = ((x ^^^ y).toNat : Int) := by
  rw [u32_xor_nat _ _ x.isLt y.isLt, BitVec.toNat_xor]
theorem byte_val (c : UInt8) : ((c.toNat : Nat) : Int) = ((BitVec.ofNat 32 c.toNat).toNat : Int) := by
  rw [BitVec.toNat_ofNat, Nat.mod_eq_of_lt (by have := c.toNat_lt; omega)]
theorem crcIn_snoc (z : BitVec 32) (l : List UInt8) (c : UInt8) : crcIn z (l ++ [c]) = cstepN 8 (crcIn z l ^^^ BitVec.ofNat 32 c.toNat) := by simp [crcIn]
theorem not_val (x : BitVec 32) : bits .xor .u32 IntKind.u32.max (x.toNat : Int) = ((~~~ x).toNat : Int) := by
  have h : IntKind.u32.max = ((BitVec.allOnes 32).toNat : Int) := by decide
  rw [h, xor_val, BitVec.allOnes_xor]
end Go.Lec
namespace Go.Proofs.Ytgilnjngphhhlaa
open Go.RowKit Go.Lec

set_option maxHeartbeats 800000 in
theorem c_turn (w : World) (x : BitVec 32) (c : UInt8) : Calls Try.prog 29 #[.int .u32 (x.toNat : Int), .int .u8 (c.toNat : Int)] w fun e w' => e = .returned (.int .u32 ((cstepN 8 (x ^^^ BitVec.ofNat 32 c.toNat)).toNat : Int)) ∧ w' = w := by
  have hx : bits .xor .u32 (x.toNat : Int) (c.toNat : Int) = ((x ^^^ BitVec.ofNat 32 c.toNat).toNat : Int) := by rw [byte_val, xor_val]
  obtain ⟨z, hz⟩ : ∃ z, z = x ^^^ BitVec.ofNat 32 c.toNat := ⟨_, rfl⟩
  rw [← hz] at hx ⊢
  clear hz
  have hc := c.toNat_lt
  have hcw : IntKind.u32.wrap (c.toNat : Int) = (c.toNat : Int) := by simp [IntKind.wrap_u32]; omega
  go_enter Try.func29, Try.ntmps29
  go_wp2
  go_loop [0, 5] (fun s i => ∃ (k : Nat) (y : BitVec 32), k ≤ 8 ∧ i = .int .i64 k ∧ s = .int .u32 (y.toNat : Int) ∧ cstepN (8 - k) y = cstepN 8 z) (fun _ i => 8 - (intOf i).toNat)
  case atStart => exact ⟨0, z, by omega, rfl, rfl, rfl⟩
  case round =>
    obtain ⟨k, y, hk, rfl, rfl, hy⟩ := hrel
    clear hx
    by_cases hlt : k < 8
    · obtain ⟨d, hd⟩ : ∃ d, 8 - k = d + 1 := ⟨8 - k - 1, by omega⟩
      rw [hd] at hy
      unfold cstepN at hy
      have Hy := Lib.hid hy
      clear hy
      have hyl := y.isLt
      by_cases ho : y.toNat % 2 = 1
      · have hv := cstep_odd y ho
        have hoi : ((y.toNat : Int) % 2 == 1) = true := by simp; omega
        obtain ⟨y2, hy2⟩ : ∃ y2, y2 = cstep y := ⟨_, rfl⟩
        rw [← hy2] at hv Hy
        clear hy2
        go_wp2
        go_round
        case rel => exact ⟨k + 1, y2, by omega, by go_num, rfl, by rw [show 8 - (k + 1) = d by omega]; exact Hy.out⟩
        case measure => simp [intOf]; omega
      · have hv := cstep_ev y ho
        have hoi : ((y.toNat : Int) % 2 == 1) = false := by simp; omega
        obtain ⟨y2, hy2⟩ : ∃ y2, y2 = cstep y := ⟨_, rfl⟩
        rw [← hy2] at hv Hy
        clear hy2
        go_wp2
        go_round
        case rel => exact ⟨k + 1, y2, by omega, by go_num, rfl, by rw [show 8 - (k + 1) = d by omega]; exact Hy.out⟩
        case measure => simp [intOf]; omega
    · obtain rfl : k = 8 := by omega
      have Hy := Lib.hid hy
      clear hy
      go_wp2
      go_ret
      exact ⟨by rw [← Hy.out]; rfl, rfl⟩
set_option maxHeartbeats 800000 in
theorem c_rExtend (w : World) (x : BitVec 32) {B : Nat} {A : Option Addr} {n c : Nat} {l : List UInt8} (hr : Rd w B A n (bcs l)) (hn : n ≤ 1099511627776) :
    Calls Try.prog 26 #[.int .u32 (x.toNat : Int), .slice A n c] w fun e w' => e = .returned (.int .u32 ((~~~ (crcIn (~~~ x) l)).toNat : Int)) ∧ w' = w := by
  have hln := hr.1
  rw [bcs_length] at hln
  have Hln := Lib.hid hln; clear hln
  have hx := not_val x
  obtain ⟨z, hz⟩ : ∃ z, z = ~~~ x := ⟨_, rfl⟩
  rw [← hz] at hx ⊢
  clear hz
  obtain ⟨R, hR⟩ : ∃ R, R = ~~~ (crcIn z l) := ⟨_, rfl⟩
  rw [← hR]
  have HR := Lib.hid hR
  clear hR
  go_enter Try.func26, Try.ntmps26
  go_wp2
  go_loop [5, 12] (fun s i => ∃ (k : Nat) (y : BitVec 32), k ≤ n ∧ i = .int .i64 k ∧ s = .int .u32 (y.toNat : Int) ∧ y = crcIn z (l.take k)) (fun _ i => n - (intOf i).toNat)
  case atStart => exact ⟨0, z, by omega, rfl, rfl, rfl⟩
  case round =>
    obtain ⟨k, y, hk, rfl, rfl, hy⟩ := hrel
    clear hx
    have Hy := Lib.hid hy
    clear hy
    by_cases hlt : k < n
    · obtain ⟨b, o, rfl, hbB, hcell⟩ := hr.byte (k := k) hlt
      have hkl : k < l.length := by rw [Hln.out]; exact hlt
      have hc := hcell k hkl
      have Htk := Lib.hid (List.take_succ_eq_append_getElem hkl)
      have HT := Lib.hid (c_turn w y l[k])
      clear hcell
      go_wp2_with fail
      refine HT.out.mono ?_
      rintro e w' ⟨rfl, rfl⟩
      obtain ⟨y2, hy2⟩ : ∃ y2, y2 = cstepN 8 (y ^^^ BitVec.ofNat 32 l[k].toNat) := ⟨_, rfl⟩
      rw [← hy2]
      have Hy2 := Lib.hid hy2
      clear hy2
      go_wp2
      go_round
      case rel => exact ⟨k + 1, y2, by omega, by go_num, rfl, by rw [Hy2.out, Hy.out, Htk.out, crcIn_snoc]⟩
      case measure => simp [intOf]; omega
    · obtain rfl : k = n := by omega
      have hv := not_val y
      obtain ⟨q, hq⟩ : ∃ q, q = ~~~ y := ⟨_, rfl⟩
      rw [← hq] at hv
      have Hq := Lib.hid hq
      clear hq
      have hlt2 : l.take k = l := List.take_of_length_le (by rw [Hln.out]; exact Nat.le_refl _)
      have Hlt := Lib.hid hlt2
      clear hlt2
      go_wp2
      go_ret
      have hfin : R = q := by rw [HR.out, Hq.out, Hy.out, Hlt.out]
      exact ⟨by rw [hfin]; rfl, rfl⟩

theorem c_rSum (w : World) {B : Nat} {A : Option Addr} {n c : Nat} {l : List UInt8} (hr : Rd w B A n (bcs l)) (hn : n ≤ 1099511627776) :
    Calls Try.prog 21 #[.slice A n c] w fun e w' => e = .returned (.int .u32 ((crcOf l).toNat : Int)) ∧ w' = w := by
  have HE := c_rExtend w 0#32 (c := c) hr hn
  rw [show ~~~ (crcIn (~~~ 0#32) l) = crcOf l from rfl] at HE
  generalize crcOf l = R at *
  go_enter Try.func21, Try.ntmps21
  go_wp2_with fail
  refine HE.mono ?_
  rintro e w' ⟨rfl, rfl⟩
  go_wp2
  go_ret
  exact ⟨rfl, rfl⟩

/-- A sum's mask. -/
def maskOf (x : BitVec 32) : BitVec 32 := (x >>> 15) + (x <<< 17) + 0xA282EAD8#32
theorem mask_val (x : BitVec 32) : ((x.toNat : Int) / 32768 + (x.toNat : Int) * 131072 % 4294967296 + 2726488792) % 4294967296 = ((maskOf x).toNat : Int) := by
  have hl := x.isLt
  unfold maskOf
  rw [BitVec.toNat_add, BitVec.toNat_add, BitVec.toNat_ushiftRight, BitVec.toNat_shiftLeft, Nat.shiftRight_eq_div_pow, Nat.shiftLeft_eq]
  simp only [BitVec.toNat_ofNat]
  omega
theorem c_rMask (w : World) (x : BitVec 32) : Calls Try.prog 20 #[.int .u32 (x.toNat : Int)] w fun e w' => e = .returned (.int .u32 ((maskOf x).toNat : Int)) ∧ w' = w := by
  have hl := x.isLt
  have hm := mask_val x
  generalize maskOf x = R at *
  have Hm := Lib.hid hm
  clear hm
  go_enter Try.func20, Try.ntmps20
  go_wp2
  go_ret
  exact ⟨by rw [← Hm.out]; rfl, rfl⟩
theorem rot_val (x : BitVec 32) : bits .or .u32 ((x.toNat : Int) * 131072 % 4294967296) ((x.toNat : Int) / 32768) = ((x <<< 17 ||| x >>> 15).toNat : Int) := by
  have hl := x.isLt
  rw [BitVec.toNat_or, BitVec.toNat_ushiftRight, BitVec.toNat_shiftLeft, Nat.shiftRight_eq_div_pow, Nat.shiftLeft_eq]
  rw [show (x.toNat : Int) * 131072 % 4294967296 = ((x.toNat * 2 ^ 17 % 2 ^ 32 : Nat) : Int) by omega, show (x.toNat : Int) / 32768 = ((x.toNat / 2 ^ 15 : Nat) : Int) by omega]
  exact u32_or_nat _ _ (Nat.mod_lt _ (by decide)) (by omega)
theorem c_Rotate (w : World) (x : BitVec 32) : Calls Try.prog 24 #[.int .u32 (x.toNat : Int), .int .i64 (-15)] w fun e w' => e = .returned (.int .u32 ((x <<< 17 ||| x >>> 15).toNat : Int)) ∧ w' = w := by
  have hl := x.isLt
  have hm := rot_val x
  generalize (x <<< 17 ||| x >>> 15) = R at *
  have ha : bits .and .u64 (IntKind.u64.wrap (-15)) 31 = 17 := by decide +kernel
  go_enter Try.func24, Try.ntmps24
  go_wp2
  go_ret
  exact ⟨rfl, rfl⟩
theorem c_Mask (w : World) (x : BitVec 32) : Calls Try.prog 18 #[.int .u32 (x.toNat : Int)] w fun e w' => e = .returned (.int .u32 ((maskOf x).toNat : Int)) ∧ w' = w := by
  have HE := c_Rotate w x
  rw [mask_or] at HE
  have hv : (((x >>> 15 + x <<< 17).toNat : Int) + 2726488792) % 4294967296 = ((maskOf x).toNat : Int) := by
    unfold maskOf
    rw [BitVec.toNat_add _ 0xA282EAD8#32]
    simp only [BitVec.toNat_ofNat]
    omega
  have hl := (x >>> 15 + x <<< 17).isLt
  generalize maskOf x = R at *
  generalize (x >>> 15 + x <<< 17) = q at *
  have Hv := Lib.hid hv
  clear hv
  go_enter Try.func18, Try.ntmps18
  go_wp2_with fail
  refine HE.mono ?_
  rintro e w' ⟨rfl, rfl⟩
  go_wp2
  go_ret
  exact ⟨by rw [← Hv.out]; rfl, rfl⟩
end Go.Proofs.Ytgilnjngphhhlaa
