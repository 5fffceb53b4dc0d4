/- Layer 17: records are few; how long frames are. -/
import Derived.Test.YtgilnjngphhhlaaGreatWalP
namespace Go.Lec
open Go.RowKit
theorem tailL_len : ∀ (n : Nat) (l : List UInt8), l.length ≤ n → (tailL l).length ≤ 2 * l.length + 7 := by
  intro n
  induction n with
  | zero => intro l h; rw [tailL_last l (by omega), pieceL_length]; omega
  | succ n ih =>
    intro l h
    by_cases h5 : l.length ≤ 505
    · rw [tailL_last l h5, pieceL_length]; omega
    · rw [tailL_more l h5, List.length_append, pieceL_length]
      have := ih (l.drop 505) (by rw [List.length_drop]; omega)
      rw [List.length_drop] at this
      rw [List.length_take]
      omega
theorem encL_len (p : Nat) (l : List UInt8) : (encL p l).length ≤ 3 * l.length + 20 := by
  have hp : padN p ≤ 6 := by unfold padN; split <;> omega
  unfold encL
  rw [List.length_append, List.length_replicate]
  split
  · rw [pieceL_length]; omega
  · have := tailL_len _ (l.drop (roomN p)) (Nat.le_refl _)
    rw [List.length_drop] at this
    rw [List.length_append, pieceL_length, List.length_take]
    omega
/-- All lengths. -/
def lens (l : List (List UInt8)) : Nat := (l.map List.length).sum
theorem lens_app (a b : List (List UInt8)) : lens (a ++ b) = lens a + lens b := by simp [lens, List.map_append, List.sum_append]
theorem lens_snoc (l : List (List UInt8)) (r : List UInt8) : lens (l ++ [r]) = lens l + r.length := by simp [lens]
theorem lens_take (l : List (List UInt8)) (k : Nat) (hk : k < l.length) : lens (l.take (k + 1)) = lens (l.take k) + l[k].length := by
  rw [List.take_succ_eq_append_getElem hk, lens_snoc]
theorem lens_le (l : List (List UInt8)) (k : Nat) : lens (l.take k) ≤ lens l := by
  have h : l.take k ++ l.drop k = l := List.take_append_drop k l
  have := lens_app (l.take k) (l.drop k)
  rw [h] at this
  omega
theorem lens_mem {l : List (List UInt8)} {r : List UInt8} (h : r ∈ l) : r.length ≤ lens l := by
  obtain ⟨k, hk, rfl⟩ := List.getElem_of_mem h
  have := lens_take l k hk
  have := lens_le l (k + 1)
  omega
theorem lens_bound (l : List (List UInt8)) (M : Nat) (h : ∀ r ∈ l, r.length ≤ M) (k : Nat) : lens (l.take k) ≤ M * k := by
  induction k with
  | zero => simp [lens]
  | succ k ih =>
    by_cases hk : k < l.length
    · have := lens_take l k hk
      have := h l[k] (List.getElem_mem hk)
      rw [Nat.mul_succ]; omega
    · rw [List.take_of_length_le (by omega)] at ih ⊢
      rw [Nat.mul_succ]; omega
theorem framesF_snoc : ∀ (l : List (List UInt8)) (X : List UInt8) (r : List UInt8), framesF X (l ++ [r]) = framesF X l ++ encL ((framesF X l).length % 512) r
  | [], X, r => rfl
  | a :: l, X, r => framesF_snoc l _ r
theorem framesF_len : ∀ (l : List (List UInt8)) (X : List UInt8), (framesF X l).length ≤ X.length + 3 * lens l + 20 * l.length
  | [], X => by simp [framesF, lens]
  | a :: l, X => by
    have h := framesF_len l (X ++ encL (X.length % 512) a)
    have he := encL_len (X.length % 512) a
    rw [List.length_append] at h
    have hl : lens (a :: l) = a.length + lens l := by simp [lens]
    rw [framesF, hl, List.length_cons]
    omega
theorem Rws.take_ {w : World} {B n : Nat} {A : Option Addr} {out : List (List UInt8)} (h : Rws w B A n out) {k : Nat} (hk : k ≤ n) : Rws w B A k (out.take k) := by
  have hl := h.len
  obtain ⟨es, h1, h2, h3⟩ := h
  refine ⟨es.take k, h1.take_ hk, by rw [List.length_take, List.length_take, h2], fun i u l e1 e2 => ?_⟩
  rw [List.getElem?_take] at e1 e2
  by_cases hi : i < k
  · rw [if_pos hi] at e1 e2; exact h3 i u l e1 e2
  · rw [if_neg hi] at e1; cases e1
/-- What the law reckons of 'cut'. -/
theorem cut_in (x : Int) (m : Nat) : ∃ C : Nat, C ≤ m ∧ Int.tmod (Int.tmod x ((m : Int) + 1) + (m : Int) + 1) ((m : Int) + 1) = (C : Int) ∧ -(m : Int) ≤ Int.tmod x ((m : Int) + 1) ∧ Int.tmod x ((m : Int) + 1) ≤ (m : Int) := by
  have hlt : Int.tmod x ((m : Int) + 1) < (m : Int) + 1 := Int.tmod_lt_of_pos x (by omega)
  have hgt : -((m : Int) + 1) < Int.tmod x ((m : Int) + 1) := by
    have := Int.tmod_lt_of_pos (-x) (b := (m : Int) + 1) (by omega)
    rw [Int.neg_tmod] at this
    omega
  have h0 : 0 ≤ Int.tmod x ((m : Int) + 1) + (m : Int) + 1 := by omega
  have hn := Int.tmod_nonneg ((m : Int) + 1) h0
  have hl := Int.tmod_lt_of_pos (Int.tmod x ((m : Int) + 1) + (m : Int) + 1) (b := (m : Int) + 1) (by omega)
  exact ⟨(Int.tmod (Int.tmod x ((m : Int) + 1) + (m : Int) + 1) ((m : Int) + 1)).toNat, by omega, by omega, by omega, by omega⟩
end Go.Lec
namespace Go.Proofs.YtgilnjngphhhlaaGreat
open Go.RowKit Go.Lec
end Go.Proofs.YtgilnjngphhhlaaGreat
