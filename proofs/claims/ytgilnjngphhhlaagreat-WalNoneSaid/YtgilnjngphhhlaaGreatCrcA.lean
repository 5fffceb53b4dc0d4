/- Layer 3: sums of bytes: the reference's walks, the masks. -/
import Derived.Test.YtgilnjngphhhlaaGreatMemB
import Derived.Test.YtgilnjngphhhlaaGreatCrcPlain
import Derived.Test.YtgilnjngphhhlaaGreatChecked
import Derived.Laws.BitsAllLaws
namespace Go.Lec
open Go.RowKit
theorem lsb_toNat (y : BitVec 32) : y.getLsbD 0 = decide (y.toNat % 2 = 1) := by
  rw [BitVec.getLsbD, Nat.testBit_zero]
theorem cstep_odd (y : BitVec 32) (h : y.toNat % 2 = 1) : bits .xor .u32 ((y.toNat : Int) / 2) 2197175160 = ((cstep y).toNat : Int) := by
  have e : cstep y = (y >>> 1) ^^^ 0x82F63B78#32 := by unfold cstep; rw [lsb_toNat, decide_eq_true h]; rfl
  rw [e, BitVec.toNat_xor, BitVec.toNat_ushiftRight, Nat.shiftRight_eq_div_pow]
  have h1 := y.isLt
  have := u32_xor_nat (y.toNat / 2) 2197175160 (by omega) (by decide)
  rw [show ((y.toNat : Int) / 2) = ((y.toNat / 2 : Nat) : Int) by omega, show (2197175160 : Int) = ((2197175160 : Nat) : Int) from rfl, this]
  rfl
theorem cstep_ev (y : BitVec 32) (h : y.toNat % 2 ≠ 1) : ((y.toNat : Int) / 2) = ((cstep y).toNat : Int) := by
  have e : cstep y = y >>> 1 := by unfold cstep; rw [lsb_toNat, decide_eq_false h]; rfl
  rw [e, BitVec.toNat_ushiftRight, Nat.shiftRight_eq_div_pow]
  omega
theorem xor_val (x y : BitVec 32) : bits .xor .u32 (x.toNat : Int) (y.toNat : Int) = ((x ^^^ y).toNat : Int) := by
  rw [u32_xor_nat _ _ x.isLt y.isLt, BitVec.toNat_xor]
theorem byte_val (c : UInt8) : ((c.toNat : Nat) : Int) = ((BitVec.ofNat 32 c.toNat).toNat : Int) := by
  rw [BitVec.toNat_ofNat, Nat.mod_eq_of_lt (by have := c.toNat_lt; omega)]
theorem crcIn_snoc (z : BitVec 32) (l : List UInt8) (c : UInt8) : crcIn z (l ++ [c]) = cstepN 8 (crcIn z l ^^^ BitVec.ofNat 32 c.toNat) := by simp [crcIn]
theorem not_val (x : BitVec 32) : bits .xor .u32 IntKind.u32.max (x.toNat : Int) = ((~~~ x).toNat : Int) := by
  have h : IntKind.u32.max = ((BitVec.allOnes 32).toNat : Int) := by decide
  rw [h, xor_val, BitVec.allOnes_xor]
end Go.Lec
namespace Go.Proofs.YtgilnjngphhhlaaGreat
open Go.RowKit Go.Lec

/-- A sum's mask. -/
def maskOf (x : BitVec 32) : BitVec 32 := (x >>> 15) + (x <<< 17) + 0xA282EAD8#32
theorem mask_val (x : BitVec 32) : ((x.toNat : Int) / 32768 + (x.toNat : Int) * 131072 % 4294967296 + 2726488792) % 4294967296 = ((maskOf x).toNat : Int) := by
  have hl := x.isLt
  unfold maskOf
  rw [BitVec.toNat_add, BitVec.toNat_add, BitVec.toNat_ushiftRight, BitVec.toNat_shiftLeft, Nat.shiftRight_eq_div_pow, Nat.shiftLeft_eq]
  simp only [BitVec.toNat_ofNat]
  omega
theorem rot_val (x : BitVec 32) : bits .or .u32 ((x.toNat : Int) * 131072 % 4294967296) ((x.toNat : Int) / 32768) = ((x <<< 17 ||| x >>> 15).toNat : Int) := by
  have hl := x.isLt
  rw [BitVec.toNat_or, BitVec.toNat_ushiftRight, BitVec.toNat_shiftLeft, Nat.shiftRight_eq_div_pow, Nat.shiftLeft_eq]
  rw [show (x.toNat : Int) * 131072 % 4294967296 = ((x.toNat * 2 ^ 17 % 2 ^ 32 : Nat) : Int) by omega, show (x.toNat : Int) / 32768 = ((x.toNat / 2 ^ 15 : Nat) : Int) by omega]
  exact u32_or_nat _ _ (Nat.mod_lt _ (by decide)) (by omega)
theorem c_Rotate (w : World) (x : BitVec 32) : Calls Tryz.prog 61 #[.int .u32 (x.toNat : Int), .int .i64 (-15)] w fun e w' => e = .returned (.int .u32 ((x <<< 17 ||| x >>> 15).toNat : Int)) ∧ w' = w := by
  have hl := x.isLt
  have hm := rot_val x
  generalize (x <<< 17 ||| x >>> 15) = R at *
  have ha : bits .and .u64 (IntKind.u64.wrap (-15)) 31 = 17 := by decide +kernel
  go_enter Tryz.func61, Tryz.ntmps61
  go_wp2
  go_ret
  exact ⟨rfl, rfl⟩
theorem c_Mask (w : World) (x : BitVec 32) : Calls Tryz.prog 51 #[.int .u32 (x.toNat : Int)] w fun e w' => e = .returned (.int .u32 ((maskOf x).toNat : Int)) ∧ w' = w := by
  have HE := c_Rotate w x
  rw [mask_or] at HE
  have hv : (((x >>> 15 + x <<< 17).toNat : Int) + 2726488792) % 4294967296 = ((maskOf x).toNat : Int) := by
    unfold maskOf
    rw [BitVec.toNat_add _ 0xA282EAD8#32]
    simp only [BitVec.toNat_ofNat]
    omega
  have hl := (x >>> 15 + x <<< 17).isLt
  generalize maskOf x = R at *
  generalize (x >>> 15 + x <<< 17) = q at *
  have Hv := Lib.hid hv
  clear hv
  go_enter Tryz.func51, Tryz.ntmps51
  go_wp2_with fail
  refine HE.mono ?_
  rintro e w' ⟨rfl, rfl⟩
  go_wp2
  go_ret
  exact ⟨by rw [← Hv.out]; rfl, rfl⟩
end Go.Proofs.YtgilnjngphhhlaaGreat
