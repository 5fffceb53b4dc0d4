/- Layer 2: numbers of varying length, as bytes: the plain laws. Nothing here speaks of the program. -/
import Derived.Test.YtedelkifadonjaaMem
namespace Go.Lec
open Go.RowKit
/-- A number, seven bits a byte, the least ahead. -/
def uvar (n : Nat) : List UInt8 := if n < 128 then [UInt8.ofNat n] else UInt8.ofNat (n % 128 + 128) :: uvar (n / 128)
termination_by n
decreasing_by omega
theorem uvar_small {n : Nat} (h : n < 128) : uvar n = [UInt8.ofNat n] := by rw [uvar, if_pos h]
theorem uvar_big {n : Nat} (h : ¬ n < 128) : uvar n = UInt8.ofNat (n % 128 + 128) :: uvar (n / 128) := by rw [uvar, if_neg h]
theorem uvar_pos (n : Nat) : 0 < (uvar n).length := by
  by_cases h : n < 128
  · rw [uvar_small h]; simp
  · rw [uvar_big h]; simp
/-- What bytes are read as: behind i bytes that made acc. -/
def rdUF : List UInt8 → Nat → Nat → Except Int (Nat × Nat)
  | [], _, _ => .error 20
  | c :: r, i, acc =>
    if i = 9 ∧ 1 < c.toNat then .error 21
    else if c.toNat < 128 then (if c.toNat = 0 ∧ 0 < i then .error 21 else .ok (acc + c.toNat % 128 * 128 ^ i, i + 1))
    else rdUF r (i + 1) (acc + c.toNat % 128 * 128 ^ i)
def rdU (l : List UInt8) : Except Int (Nat × Nat) := rdUF l 0 0
theorem ofNat_toNat {n : Nat} (h : n < 256) : (UInt8.ofNat n).toNat = n := by rw [UInt8.toNat_ofNat']; exact Nat.mod_eq_of_lt h
theorem pow_le {i j : Nat} (h : i ≤ j) : (128 : Nat) ^ i ≤ 128 ^ j := Nat.pow_le_pow_right (by decide) h
/-- What is left of a number's room behind i bytes. -/
def room (i : Nat) : Nat := 18446744073709551616 / 128 ^ i
theorem room_div {n i : Nat} (h : n < room i) (hi : i < 9) : n / 128 < room (i + 1) := by
  unfold room at *
  rw [Nat.pow_succ, ← Nat.div_div_eq_div_mul]
  have hd : 18446744073709551616 / 128 ^ i % 128 = 0 := by
    match i, hi with
    | 0, _ => decide
    | 1, _ => decide
    | 2, _ => decide
    | 3, _ => decide
    | 4, _ => decide
    | 5, _ => decide
    | 6, _ => decide
    | 7, _ => decide
    | 8, _ => decide
  have := Nat.div_add_mod (18446744073709551616 / 128 ^ i) 128
  exact Nat.div_lt_of_lt_mul (by omega)
theorem room_big {n i : Nat} (h : n < room i) (hs : ¬ n < 128) : i < 9 := by
  unfold room at h
  by_cases h9 : i < 9
  · exact h9
  · have h1 : (128 : Nat) ^ 9 ≤ 128 ^ i := pow_le (by omega)
    have h2 : 18446744073709551616 / 128 ^ i ≤ 18446744073709551616 / 128 ^ 9 := Nat.div_le_div_left h1 (Nat.pow_pos (by decide))
    have h3 : 18446744073709551616 / 128 ^ 9 = 2 := by decide
    omega
theorem rdUF_uvar (r : List UInt8) : ∀ (n i acc : Nat), n < room i → (0 < i → 0 < n) → rdUF (uvar n ++ r) i acc = .ok (acc + n * 128 ^ i, i + (uvar n).length) := by
  intro n
  induction n using Nat.strongRecOn with
  | _ n ih =>
    intro i acc h h0
    by_cases hs : n < 128
    · rw [uvar_small hs]
      have ht : (UInt8.ofNat n).toNat = n := ofNat_toNat (by omega)
      have h9 : ¬ (i = 9 ∧ 1 < n) := by
        rintro ⟨rfl, h1⟩
        unfold room at h
        omega
      rw [List.singleton_append, rdUF, ht, if_neg h9, if_pos hs, if_neg (by rintro ⟨h1, h2⟩; have := h0 h2; omega), Nat.mod_eq_of_lt hs]
      rfl
    · rw [uvar_big hs]
      have ht : (UInt8.ofNat (n % 128 + 128)).toNat = n % 128 + 128 := ofNat_toNat (by omega)
      have h9 : ¬ (i = 9 ∧ 1 < n % 128 + 128) := by
        rintro ⟨rfl, h1⟩
        unfold room at h
        omega
      rw [List.cons_append, rdUF, ht, if_neg h9, if_neg (by omega), ih (n / 128) (by omega) (i + 1) _ (room_div h (room_big h hs)) (fun _ => by omega)]
      congr 2
      · rw [Nat.pow_succ]
        have h1 : (n % 128 + 128) % 128 = n % 128 := by omega
        have h2 := Nat.div_add_mod n 128
        rw [h1, Nat.add_assoc]
        congr 1
        calc n % 128 * 128 ^ i + n / 128 * (128 ^ i * 128) = (128 * (n / 128) + n % 128) * 128 ^ i := by
              rw [Nat.add_mul, Nat.add_comm]
              congr 1
              rw [Nat.mul_comm 128, Nat.mul_assoc, Nat.mul_comm 128]
          _ = n * 128 ^ i := by rw [h2]
      · rw [List.length_cons]; omega
theorem rdU_uvar (n : Nat) (r : List UInt8) (h : n < 18446744073709551616) : rdU (uvar n ++ r) = .ok (n, (uvar n).length) := by
  rw [rdU, rdUF_uvar r n 0 0 (by unfold room; simpa using h) (fun h => absurd h (by omega))]
  simp
theorem rdUF_inv : ∀ (l : List UInt8) (i acc v j : Nat), i ≤ 9 → rdUF l i acc = .ok (v, j) → ∃ n, v = acc + n * 128 ^ i ∧ n < room i ∧ j = i + (uvar n).length ∧ (0 < i → 0 < n) ∧ l.take (uvar n).length = uvar n
  | [], i, acc, v, j, _, h => by simp [rdUF] at h
  | c :: r, i, acc, v, j, hi, h => by
    rw [rdUF] at h
    have hc := c.toNat_lt
    split at h
    · cases h
    · rename_i h9
      split at h
      · rename_i hs
        split at h
        · cases h
        · rename_i hz
          simp only [Except.ok.injEq, Prod.mk.injEq] at h
          obtain ⟨rfl, rfl⟩ := h
          refine ⟨c.toNat, by rw [Nat.mod_eq_of_lt hs], ?_, by rw [uvar_small hs]; rfl, fun h => by omega, by rw [uvar_small hs]; simp⟩
          unfold room
          by_cases h8 : i = 9
          · subst h8; omega
          · have h1 : (128 : Nat) ^ i ≤ 128 ^ 8 := pow_le (by omega)
            have h2 : 18446744073709551616 / 128 ^ 8 ≤ 18446744073709551616 / 128 ^ i := Nat.div_le_div_left h1 (Nat.pow_pos (by decide))
            have h3 : 18446744073709551616 / 128 ^ 8 = 256 := by decide
            omega
      · rename_i hs
        by_cases h8 : i = 9
        · omega
        · obtain ⟨n, h1, h2, h3, h4, h5⟩ := rdUF_inv r (i + 1) _ v j (by omega) h
          have hn := h4 (by omega)
          have hm : (n * 128 + c.toNat % 128) % 128 = c.toNat % 128 := by omega
          have hd : (n * 128 + c.toNat % 128) / 128 = n := by omega
          have hcc : c.toNat % 128 + 128 = c.toNat := by omega
          have hu : uvar (n * 128 + c.toNat % 128) = c :: uvar n := by
            rw [uvar_big (by omega), hm, hd, hcc, UInt8.ofNat_toNat]
          refine ⟨n * 128 + c.toNat % 128, ?_, ?_, by rw [hu, List.length_cons]; omega, fun _ => by omega, by rw [hu, List.length_cons, List.take_succ_cons, h5]⟩
          · rw [h1, Nat.add_mul, Nat.pow_succ, Nat.add_assoc, Nat.add_comm (c.toNat % 128 * 128 ^ i), Nat.mul_comm (128 ^ i) 128, Nat.mul_assoc]
          · unfold room at *
            rw [Nat.pow_succ, ← Nat.div_div_eq_div_mul] at h2
            have := Nat.div_mul_le_self (18446744073709551616 / 128 ^ i) 128
            omega
/-- What is read is written again as it stood. -/
theorem rdU_inv {l : List UInt8} {n k : Nat} (h : rdU l = .ok (n, k)) : n < 18446744073709551616 ∧ k = (uvar n).length ∧ l.take k = uvar n := by
  obtain ⟨m, h1, h2, h3, _, h5⟩ := rdUF_inv l 0 0 n k (by omega) h
  have : n = m := by simpa using h1
  subst this
  have h4 : k = (uvar n).length := by omega
  exact ⟨by simpa [room] using h2, h4, by rw [h4]; exact h5⟩
theorem rdU_len {l : List UInt8} {n k : Nat} (h : rdU l = .ok (n, k)) : 0 < k ∧ k ≤ l.length := by
  obtain ⟨_, h2, h3⟩ := rdU_inv h
  have := uvar_pos n
  have h4 := congrArg List.length h3
  rw [List.length_take] at h4
  omega
theorem rdUF_err : ∀ (l : List UInt8) (i acc : Nat) (e : Int), rdUF l i acc = .error e → e = 20 ∨ e = 21
  | [], _, _, e, h => by simp [rdUF] at h; exact .inl h.symm
  | c :: r, i, acc, e, h => by
    rw [rdUF] at h
    repeat' split at h
    · cases h; exact .inr rfl
    · cases h; exact .inr rfl
    · cases h
    · exact rdUF_err r _ _ _ h
theorem rdU_err {l : List UInt8} {e : Int} (h : rdU l = .error e) : e = 20 ∨ e = 21 := rdUF_err _ _ _ _ h
/-- How long a number's bytes are. -/
theorem uvar_len : ∀ (k n : Nat), n < 128 ^ (k + 1) → (uvar n).length ≤ k + 1
  | 0, n, h => by rw [uvar_small (by simpa using h)]; simp
  | k + 1, n, h => by
    by_cases hs : n < 128
    · rw [uvar_small hs]; simp
    · rw [uvar_big hs, List.length_cons]
      have := uvar_len k (n / 128) (by rw [Nat.pow_succ] at h; exact Nat.div_lt_of_lt_mul (by rw [Nat.mul_comm]; exact h))
      omega

/-! ### Numbers of four bytes -/
/-- A number's bytes, the least ahead. -/
def le : Nat → Nat → List UInt8
  | 0, _ => []
  | k + 1, n => UInt8.ofNat (n % 256) :: le k (n / 256)
theorem le_length : ∀ k n, (le k n).length = k
  | 0, _ => rfl
  | k + 1, n => by rw [le, List.length_cons, le_length k]
theorem le_get : ∀ (k n i : Nat), i < k → (le k n)[i]? = some (UInt8.ofNat (n / 256 ^ i))
  | 0, _, _, h => absurd h (by omega)
  | k + 1, n, 0, _ => by
    simp only [le, List.getElem?_cons_zero, Nat.pow_zero, Nat.div_one, Option.some.injEq]
    exact UInt8.toNat_inj.1 (by rw [UInt8.toNat_ofNat', UInt8.toNat_ofNat']; omega)
  | k + 1, n, i + 1, h => by rw [le, List.getElem?_cons_succ, le_get k (n / 256) i (by omega), Nat.div_div_eq_div_mul, Nat.pow_succ, Nat.mul_comm]
/-- What a loop that fills a number's bytes holds behind i rounds. -/
theorem le_set (k n i : Nat) (h : i < k) :
    (bcs ((le k n).take i) ++ List.replicate (k - i) (Value.int .u8 0)).set i (bcell (UInt8.ofNat (n / 256 ^ i))) = bcs ((le k n).take (i + 1)) ++ List.replicate (k - (i + 1)) (Value.int .u8 0) := by
  have hl : (bcs ((le k n).take i)).length = i := by rw [bcs_length, List.length_take, le_length]; omega
  have hi : i < (le k n).length := by rw [le_length]; exact h
  have hg : (le k n)[i] = UInt8.ofNat (n / 256 ^ i) := by
    have := le_get k n i h
    rw [List.getElem?_eq_getElem hi] at this
    exact Option.some.inj this
  rw [List.set_append_right _ _ (by rw [hl]; exact Nat.le_refl _), hl, Nat.sub_self, show k - i = (k - (i + 1)) + 1 by omega, List.replicate_succ, List.set_cons_zero]
  rw [List.take_succ_eq_append_getElem hi, bcs_append, hg, List.append_assoc]
  rfl
theorem byte_sh (x j : Nat) : (.int .u8 ((x : Int) / 2 ^ (8 * j) % 256) : Value) = bcell (UInt8.ofNat (x / 256 ^ j)) := by
  rw [bcell_ofNat]
  congr 1
  have : ((2 : Int) ^ (8 * j)) = ((256 ^ j : Nat) : Int) := by rw [Int.pow_mul]; simp
  rw [this]
  rfl
/-- The number that bytes make, the least ahead. -/
def unle : List UInt8 → Nat
  | [] => 0
  | c :: r => c.toNat + 256 * unle r
theorem unle_le : ∀ (k n : Nat), n < 256 ^ k → unle (le k n) = n
  | 0, n, h => by simp at h; subst h; rfl
  | k + 1, n, h => by
    rw [le, unle, unle_le k (n / 256) (by rw [Nat.pow_succ] at h; exact Nat.div_lt_of_lt_mul (by rw [Nat.mul_comm]; exact h)), ofNat_toNat (by omega)]
    omega
theorem le_unle : ∀ (l : List UInt8), le l.length (unle l) = l
  | [] => rfl
  | c :: r => by
    have hc := c.toNat_lt
    rw [List.length_cons, unle, le, show (c.toNat + 256 * unle r) % 256 = c.toNat by omega, show (c.toNat + 256 * unle r) / 256 = unle r by omega, le_unle r, UInt8.ofNat_toNat]
theorem unle_lt : ∀ (l : List UInt8), unle l < 256 ^ l.length
  | [] => by simp [unle]
  | c :: r => by
    have := unle_lt r
    have hc := c.toNat_lt
    rw [unle, List.length_cons, Nat.pow_succ]
    omega
end Go.Lec
