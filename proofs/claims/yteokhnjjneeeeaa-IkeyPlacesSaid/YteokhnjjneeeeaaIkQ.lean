/- Layer 16: the order of written keys, in plain Lean: what begins like a sort key's bytes has that epoch and sort key; what stands at or behind the place to look from has a number of at most that. -/
import Derived.Test.YteokhnjjneeeeaaIkC
namespace Go.Lec
open Go.RowKit

theorem take_eq_append {α : Type} {a b : List α} (hl : a.length ≤ b.length) (h : b.take a.length = a) : ∃ r, b = a ++ r :=
  ⟨b.drop a.length, by
    have e := List.take_append_drop a.length b
    rw [h] at e
    exact e.symm⟩

/-- What begins as a sort key's keys do is of that epoch and sort key. -/
theorem begins_iff {p q : Nat} (hp : p ≤ 65535) (hq : q ≤ 65535) (s l r : List UInt8) :
    ((be 2 p ++ escT s).length ≤ (be 2 q ++ (escT l ++ r)).length ∧ (be 2 q ++ (escT l ++ r)).take (be 2 p ++ escT s).length = be 2 p ++ escT s) ↔ (q = p ∧ l = s) := by
  constructor
  · rintro ⟨hl, ht⟩
    obtain ⟨x, hx⟩ := take_eq_append hl ht
    rw [List.append_assoc] at hx
    obtain ⟨h1, h2⟩ := List.append_inj hx (by rw [be_length, be_length])
    have hqp : q = p := by
      have a1 := num_be 2 q
      have a2 := num_be 2 p
      rw [h1] at a1
      rw [a1] at a2
      omega
    refine ⟨hqp, ?_⟩
    have u1 := unesc_escT l r
    rw [h2, unesc_escT] at u1
    simp only [Option.some.injEq, Prod.mk.injEq] at u1
    exact u1.1.symm
  · rintro ⟨rfl, rfl⟩
    constructor
    · simp
    · rw [← List.append_assoc]
      exact List.take_left

theorem less_same : ∀ (c x y : List UInt8), Op.bytesLess (c ++ x) (c ++ y) = Op.bytesLess x y
  | [], _, _ => rfl
  | a :: c, x, y => by
    show (decide (a < a) || (a == a && Op.bytesLess (c ++ x) (c ++ y))) = _
    rw [less_same c x y]
    simp [UInt8.lt_irrefl]

theorem byte_lt2 {x y : Nat} (hx : x < 256) (hy : y < 256) : (UInt8.ofNat x < UInt8.ofNat y) ↔ x < y := by
  rw [UInt8.lt_iff_toNat_lt, UInt8.toNat_ofNat', UInt8.toNat_ofNat']
  omega
theorem byte_eq2 {x y : Nat} (hx : x < 256) (hy : y < 256) : (UInt8.ofNat x = UInt8.ofNat y) ↔ x = y := by
  constructor
  · intro h
    have := congrArg UInt8.toNat h
    rw [UInt8.toNat_ofNat', UInt8.toNat_ofNat'] at this
    omega
  · rintro rfl; rfl

theorem mod_step (a P : Nat) : a % (P * 256) = a % P + P * (a / P % 256) := Nat.mod_mul

/-- Numbers of one width compare as their bytes do. -/
theorem less_be : ∀ (k a b : Nat) (r r' : List UInt8), Op.bytesLess (be k a ++ r) (be k b ++ r') = if a % 256 ^ k = b % 256 ^ k then Op.bytesLess r r' else decide (a % 256 ^ k < b % 256 ^ k)
  | 0, a, b, r, r' => by simp [be, Nat.mod_one]
  | k + 1, a, b, r, r' => by
    show (decide (UInt8.ofNat (a / 256 ^ k % 256) < UInt8.ofNat (b / 256 ^ k % 256)) || (UInt8.ofNat (a / 256 ^ k % 256) == UInt8.ofNat (b / 256 ^ k % 256) && Op.bytesLess (be k a ++ r) (be k b ++ r'))) = _
    rw [less_be k a b r r']
    have hP : 0 < 256 ^ k := Nat.pow_pos (by decide)
    have ha : a % 256 ^ (k + 1) = a % 256 ^ k + 256 ^ k * (a / 256 ^ k % 256) := by rw [Nat.pow_succ]; exact mod_step a _
    have hb : b % 256 ^ (k + 1) = b % 256 ^ k + 256 ^ k * (b / 256 ^ k % 256) := by rw [Nat.pow_succ]; exact mod_step b _
    rw [ha, hb]
    have h1 := Nat.mod_lt a hP
    have h2 := Nat.mod_lt b hP
    have h3 : a / 256 ^ k % 256 < 256 := Nat.mod_lt _ (by decide)
    have h4 : b / 256 ^ k % 256 < 256 := Nat.mod_lt _ (by decide)
    have e1 := byte_lt2 h3 h4
    have e2 := byte_eq2 h3 h4
    generalize a / 256 ^ k % 256 = x at *
    generalize b / 256 ^ k % 256 = y at *
    generalize a % 256 ^ k = u at *
    generalize b % 256 ^ k = v at *
    generalize 256 ^ k = P at *
    clear ha hb
    rcases Nat.lt_trichotomy x y with hxy | hxy | hxy
    · have hm : P * (x + 1) ≤ P * y := Nat.mul_le_mul_left P hxy
      rw [Nat.mul_succ] at hm
      rw [decide_eq_true (e1.2 hxy)]
      simp only [Bool.true_or]
      rw [if_neg (by omega)]
      exact (decide_eq_true (by omega)).symm
    · subst hxy
      have : ¬ (UInt8.ofNat x < UInt8.ofNat x) := fun h => Nat.lt_irrefl _ (e1.1 h)
      rw [decide_eq_false this]
      simp
    · have hm : P * (y + 1) ≤ P * x := Nat.mul_le_mul_left P hxy
      rw [Nat.mul_succ] at hm
      have n1 : ¬ (UInt8.ofNat x < UInt8.ofNat y) := fun h => by have := e1.1 h; omega
      have n2 : (UInt8.ofNat x == UInt8.ofNat y) = false := by
        rw [beq_eq_false_iff_ne]
        intro h
        have := e2.1 h
        omega
      rw [decide_eq_false n1, n2]
      simp only [Bool.false_and, Bool.or_self]
      rw [if_neg (by omega)]
      exact (decide_eq_false (by omega)).symm

/-- What stands at or behind the place to look from has a number of at most that. -/
theorem seek_order (c t : List UInt8) (x : UInt8) (a b : Int) (ha : 0 ≤ a) (ha2 : a ≤ 281474976710655) (hb : 0 ≤ b) (hb2 : b ≤ 281474976710655) :
    (!Op.bytesLess (c ++ stampB a ++ [x] ++ t) (c ++ stampB b ++ [0])) = decide (a ≤ b) := by
  simp only [List.append_assoc]
  rw [less_same]
  unfold stampB
  rw [less_be]
  have e1 : (281474976710655 - a).toNat % 256 ^ 6 = (281474976710655 - a).toNat := Nat.mod_eq_of_lt (by omega)
  have e2 : (281474976710655 - b).toNat % 256 ^ 6 = (281474976710655 - b).toNat := Nat.mod_eq_of_lt (by omega)
  rw [e1, e2]
  have hx : Op.bytesLess ([x] ++ t) [0] = false := by
    show (decide (x < 0) || (x == 0 && Op.bytesLess t [])) = false
    have h1 : ¬ (x < 0) := by rw [UInt8.lt_iff_toNat_lt]; simp
    have h2 : Op.bytesLess t [] = false := by cases t <;> rfl
    rw [decide_eq_false h1, h2]
    simp
  split
  · rw [hx]
    exact (decide_eq_true (by omega)).symm
  · rw [Bool.eq_iff_iff]
    simp only [Bool.not_eq_true', decide_eq_false_iff_not, decide_eq_true_eq]
    omega
end Go.Lec
