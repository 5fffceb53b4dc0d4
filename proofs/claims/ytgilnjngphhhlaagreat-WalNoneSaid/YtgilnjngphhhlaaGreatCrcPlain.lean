/- Plain functions of layer 3 (sums of bytes): bit by bit, and by a table. Nothing here speaks of the program. -/
namespace Go.Lec

/-- One turn of a sum, one bit. -/
def cstep (x : BitVec 32) : BitVec 32 := if x.getLsbD 0 then (x >>> 1) ^^^ 0x82F63B78#32 else x >>> 1
def cstepN : Nat → BitVec 32 → BitVec 32
  | 0, x => x
  | k + 1, x => cstepN k (cstep x)
/-- A table's number. -/
def ctab (i : Nat) : BitVec 32 := cstepN 8 (BitVec.ofNat 32 i)
theorem cstep_xor (a b : BitVec 32) : cstep (a ^^^ b) = cstep a ^^^ cstep b := by
  unfold cstep
  rw [BitVec.getLsbD_xor, BitVec.ushiftRight_xor_distrib]
  cases ha : a.getLsbD 0 <;> cases hb : b.getLsbD 0
  · simp
  · simp only [Bool.false_xor, if_true, Bool.false_eq_true, if_false]
    rw [BitVec.xor_assoc]
  · simp only [Bool.true_xor, Bool.not_false, if_true, Bool.false_eq_true, if_false]
    rw [BitVec.xor_assoc, BitVec.xor_assoc, BitVec.xor_comm (b >>> 1)]
  · simp only [Bool.true_xor, Bool.not_true, if_true, Bool.false_eq_true, if_false]
    rw [BitVec.xor_assoc, ← BitVec.xor_assoc 0x82F63B78#32, BitVec.xor_comm 0x82F63B78#32 (b >>> 1), BitVec.xor_assoc (b >>> 1), BitVec.xor_self, BitVec.xor_zero]
theorem cstepN_xor : ∀ (k : Nat) (a b : BitVec 32), cstepN k (a ^^^ b) = cstepN k a ^^^ cstepN k b
  | 0, _, _ => rfl
  | k + 1, a, b => by unfold cstepN; rw [cstep_xor]; exact cstepN_xor k _ _
theorem cstep_even {x : BitVec 32} (h : x.getLsbD 0 = false) : cstep x = x >>> 1 := by unfold cstep; rw [h]; rfl
/-- As many turns as there are zeros at the low end are a shift. -/
theorem cstepN_low : ∀ (k : Nat) (x : BitVec 32), (∀ i, i < k → x.getLsbD i = false) → cstepN k x = x >>> k
  | 0, x, _ => by simp [cstepN]
  | k + 1, x, h => by
    unfold cstepN
    rw [cstep_even (h 0 (by omega)), cstepN_low k (x >>> 1) (fun i hi => by rw [BitVec.getLsbD_ushiftRight, Nat.add_comm]; exact h (i + 1) (by omega))]
    rw [← BitVec.shiftRight_add, Nat.add_comm]
/-- A byte's turns, by the table. -/
theorem cstep8 (x : BitVec 32) : cstepN 8 x = ctab (x.toNat % 256) ^^^ (x >>> 8) := by
  have e : x = BitVec.ofNat 32 (x.toNat % 256) ^^^ ((x >>> 8) <<< 8) := by
    apply BitVec.eq_of_getLsbD_eq
    intro i hi
    rw [BitVec.getLsbD_xor, BitVec.getLsbD_shiftLeft, BitVec.getLsbD_ushiftRight, BitVec.getLsbD_ofNat]
    have hm : (x.toNat % 256).testBit i = (decide (i < 8) && x.getLsbD i) := by
      rw [show (256 : Nat) = 2 ^ 8 from rfl, Nat.testBit_mod_two_pow]
      rfl
    rw [hm]
    by_cases h8 : i < 8
    · simp [h8, hi]
    · simp [h8, hi, show 8 + (i - 8) = i by omega]
  have hl : cstepN 8 ((x >>> 8) <<< 8) = x >>> 8 := by
    rw [cstepN_low 8 _ (fun i hi => by rw [BitVec.getLsbD_shiftLeft]; simp [hi])]
    apply BitVec.eq_of_getLsbD_eq
    intro i hi
    rw [BitVec.getLsbD_ushiftRight, BitVec.getLsbD_shiftLeft, BitVec.getLsbD_ushiftRight]
    by_cases h : 8 + i < 32
    · simp [h, show 8 + (8 + i - 8) = 8 + i by omega]
    · have : x.getLsbD (8 + i) = false := BitVec.getLsbD_of_ge x _ (by omega)
      simp [h, this]
  conv => lhs; rw [e]
  rw [cstepN_xor, hl]
  rfl
/-- A sum of bytes, inside. -/
def crcIn (x : BitVec 32) (l : List UInt8) : BitVec 32 := l.foldl (fun x c => cstepN 8 (x ^^^ BitVec.ofNat 32 c.toNat)) x
/-- A sum of bytes. -/
def crcOf (l : List UInt8) : BitVec 32 := ~~~ (crcIn (~~~ 0#32) l)
/-- By the table. -/
theorem crc_table (x : BitVec 32) (c : UInt8) : cstepN 8 (x ^^^ BitVec.ofNat 32 c.toNat) = ctab ((x.toNat % 256) ^^^ c.toNat) ^^^ (x >>> 8) := by
  rw [cstep8]
  have hc : c.toNat < 256 := c.toNat_lt
  congr 1
  · congr 1
    rw [BitVec.toNat_xor, BitVec.toNat_ofNat, Nat.mod_eq_of_lt (show c.toNat < 2 ^ 32 by omega)]
    apply Nat.eq_of_testBit_eq
    intro i
    rw [show (256 : Nat) = 2 ^ 8 from rfl, Nat.testBit_mod_two_pow, Nat.testBit_xor, Nat.testBit_xor, Nat.testBit_mod_two_pow]
    by_cases h : i < 8
    · simp [h]
    · have : c.toNat.testBit i = false := Nat.testBit_lt_two_pow (Nat.lt_of_lt_of_le hc (by rw [show (256 : Nat) = 2 ^ 8 from rfl]; exact Nat.pow_le_pow_right (by decide) (by omega)))
      simp [h, this]
  · apply BitVec.eq_of_getLsbD_eq
    intro i hi
    rw [BitVec.getLsbD_ushiftRight, BitVec.getLsbD_ushiftRight, BitVec.getLsbD_xor, BitVec.getLsbD_ofNat]
    have : c.toNat.testBit (8 + i) = false := Nat.testBit_lt_two_pow (Nat.lt_of_lt_of_le hc (by rw [show (256 : Nat) = 2 ^ 8 from rfl]; exact Nat.pow_le_pow_right (by decide) (by omega)))
    simp [this]
end Go.Lec
namespace Go.Lec
theorem mask_or (x : BitVec 32) : (x <<< 17 ||| x >>> 15) = (x >>> 15) + (x <<< 17) := by
  rw [BitVec.add_comm, BitVec.add_eq_or_of_and_eq_zero]
  apply BitVec.eq_of_getLsbD_eq
  intro i hi
  rw [BitVec.getLsbD_and, BitVec.getLsbD_shiftLeft, BitVec.getLsbD_ushiftRight]
  by_cases h : i < 17
  · simp [h]
  · have : x.getLsbD (15 + i) = false := BitVec.getLsbD_of_ge x _ (by omega)
    simp [this]
end Go.Lec
