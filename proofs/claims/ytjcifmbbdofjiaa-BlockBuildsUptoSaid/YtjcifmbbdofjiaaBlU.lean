/- Layer 20: how a block is built: plain words; and rows of different kinds lie apart. -/
import Derived.Test.YtjcifmbbdofjiaaBlT
namespace Go.Lec
open Go.RowKit
/-- How many bytes of key i are not written, for they stand ahead. -/
def sameAt (l : List (List UInt8 × List UInt8)) (every i : Nat) : Nat := if i % every = 0 then 0 else com (l.getD (i - 1) ([], [])).1 (l.getD i ([], [])).1
/-- The three numbers of entry i. -/
def numsAt (l : List (List UInt8 × List UInt8)) (every i : Nat) : List Nat := [sameAt l every i, (l.getD i ([], [])).1.length - sameAt l every i, (l.getD i ([], [])).2.length]
/-- Entry i's bytes. -/
def entAt (l : List (List UInt8 × List UInt8)) (every i : Nat) : List UInt8 := (numsAt l every i).flatMap uvar ++ ((l.getD i ([], [])).1.drop (sameAt l every i) ++ (l.getD i ([], [])).2)
/-- The bytes of the first k entries. -/
def bodyTo (l : List (List UInt8 × List UInt8)) (every : Nat) : Nat → List UInt8
  | 0 => []
  | k + 1 => bodyTo l every k ++ entAt l every k
/-- The restarts among the first k. -/
def plTo (l : List (List UInt8 × List UInt8)) (every : Nat) : Nat → List Nat
  | 0 => []
  | k + 1 => if k % every = 0 then plTo l every k ++ [(bodyTo l every k).length] else plTo l every k
/-- A block's bytes. -/
def bld (l : List (List UInt8 × List UInt8)) (every : Nat) : List UInt8 := bodyTo l every l.length ++ (plTo l every l.length ++ [(plTo l every l.length).length]).flatMap (le 4)
/-- How much a list of pairs holds. -/
def tot : List (List UInt8 × List UInt8) → Nat
  | [] => 0
  | p :: l => p.1.length + p.2.length + 1 + tot l
theorem tot_append (a b : List (List UInt8 × List UInt8)) : tot (a ++ b) = tot a + tot b := by
  induction a with
  | nil => simp [tot]
  | cons p a ih => simp [tot, ih]; omega
theorem tot_len (l : List (List UInt8 × List UInt8)) : l.length ≤ tot l := by
  induction l with
  | nil => exact Nat.zero_le _
  | cons p l ih => simp [tot]; omega
theorem tot_take {l : List (List UInt8 × List UInt8)} {k : Nat} {p : List UInt8 × List UInt8} (h : l[k]? = some p) : tot (l.take (k + 1)) = tot (l.take k) + (p.1.length + p.2.length + 1) := by
  obtain ⟨hk, e⟩ := List.getElem?_eq_some_iff.1 h
  rw [List.take_succ_eq_append_getElem hk, tot_append, e]; simp [tot]
theorem tot_take_le (l : List (List UInt8 × List UInt8)) (k : Nat) : tot (l.take k) ≤ tot l := by
  have := tot_append (l.take k) (l.drop k)
  rw [List.take_append_drop] at this
  omega
theorem tot_get {l : List (List UInt8 × List UInt8)} {k : Nat} {p : List UInt8 × List UInt8} (h : l[k]? = some p) : p.1.length + p.2.length + 1 ≤ tot l := by
  have h1 := tot_take h
  have h2 := tot_take_le l (k + 1)
  omega
theorem getD_of {α : Type} {l : List α} {k : Nat} {p d : α} (h : l[k]? = some p) : l.getD k d = p := by rw [List.getD_eq_getElem?_getD, h]; rfl
theorem uvar_len2 {n : Nat} (h : n ≤ 4000) : (uvar n).length ≤ 2 := uvar_len 1 n (by omega)
theorem sameAt_le {l : List (List UInt8 × List UInt8)} {every i : Nat} {p : List UInt8 × List UInt8} (h : l[i]? = some p) : sameAt l every i ≤ p.1.length := by
  rw [sameAt, getD_of h]
  split
  · exact Nat.zero_le _
  · exact com_le2 _ _
theorem entAt_len {l : List (List UInt8 × List UInt8)} {every i : Nat} {p : List UInt8 × List UInt8} (h : l[i]? = some p) (hf : tot l ≤ 4000) : (entAt l every i).length ≤ 6 + p.1.length + p.2.length := by
  have h1 := sameAt_le (every := every) h
  have h2 := tot_get h
  have u1 := uvar_len2 (n := sameAt l every i) (by omega)
  have u2 := uvar_len2 (n := p.1.length - sameAt l every i) (by omega)
  have u3 := uvar_len2 (n := p.2.length) (by omega)
  simp only [entAt, numsAt, getD_of h, List.flatMap_cons, List.flatMap_nil, List.length_append, List.length_nil, List.length_drop]
  omega
theorem bodyTo_len {l : List (List UInt8 × List UInt8)} {every : Nat} (hf : tot l ≤ 4000) : ∀ k, k ≤ l.length → (bodyTo l every k).length ≤ 6 * tot (l.take k)
  | 0, _ => by simp [bodyTo]
  | k + 1, hk => by
    have hp : l[k]? = some l[k] := List.getElem?_eq_getElem (by omega)
    have h1 := bodyTo_len (every := every) hf k (by omega)
    have h2 := entAt_len (every := every) hp hf
    have h3 := tot_take hp
    rw [bodyTo, List.length_append]
    omega
theorem bodyTo_small {l : List (List UInt8 × List UInt8)} {every k : Nat} (hf : tot l ≤ 4000) (hk : k ≤ l.length) : (bodyTo l every k).length ≤ 24000 := by
  have h1 := bodyTo_len (every := every) hf k hk
  have h2 := tot_take_le l k
  omega
theorem plTo_len (l : List (List UInt8 × List UInt8)) (every : Nat) : ∀ k, (plTo l every k).length ≤ k
  | 0 => Nat.le_refl _
  | k + 1 => by
    have := plTo_len l every k
    rw [plTo]
    split
    · simp; omega
    · omega
theorem plTo_lt {l : List (List UInt8 × List UInt8)} {every : Nat} (hf : tot l ≤ 4000) : ∀ k, k ≤ l.length → ∀ x ∈ plTo l every k, x ≤ 24000
  | 0, _, x, hx => by cases hx
  | k + 1, hk, x, hx => by
    rw [plTo] at hx
    split at hx
    · rcases List.mem_append.1 hx with h | h
      · exact plTo_lt hf k (by omega) x h
      · rw [List.mem_singleton] at h; rw [h]; exact bodyTo_small hf (by omega)
    · exact plTo_lt hf k (by omega) x hx
/-- Two rows of different kinds are two rows. -/
theorem own_ne {w : World} {B B' : Nat} {e e' : TypeId} {v v' : Value} {xs ys : List Value} (h : Own w B e v xs) (h' : Own w B' e' v' ys) (hne : e ≠ e') (g : Nat) (hg : v.ownBlock = some g) : v'.ownBlock ≠ some g := by
  intro hg'
  rcases h.2 with ⟨rfl, _⟩ | ⟨g1, cap, cur, rfl, _, hh, _⟩
  · cases hg
  · rcases h'.2 with ⟨rfl, _⟩ | ⟨g2, cap2, cur2, rfl, _, hh2, _⟩
    · cases hg'
    · cases hg
      cases hg'
      rw [hh] at hh2
      cases hh2
      exact hne rfl
/-- A row is no block of another kind. -/
theorem own_bk {w : World} {B b : Nat} {e t : TypeId} {v : Value} {xs : List Value} {cs : Array Value} (h : Own w B e v xs) (hb : Bk w b t cs) (hne : e ≠ t) : some b ≠ v.ownBlock := by
  intro hg
  rcases h.2 with ⟨rfl, _⟩ | ⟨g1, cap, cur, rfl, _, hh, _⟩
  · cases hg
  · cases hg
    have : w.heap[g1]? = some (.cells cs t) := hb
    rw [hh] at this
    cases this
    exact hne rfl
theorem ncs_app (a b : List Nat) : ncs (a ++ b) = ncs a ++ ncs b := by simp [ncs]
theorem bcs_snocU (a : List UInt8) (l : List Nat) (x : Nat) : bcs (a ++ (l ++ [x]).flatMap uvar) = bcs (a ++ l.flatMap uvar) ++ bcs (uvar x) := by simp [List.flatMap_append, bcs_append, List.append_assoc]
theorem bcs_snocF (a : List UInt8) (l : List Nat) (x : Nat) : bcs (a ++ (l ++ [x]).flatMap (le 4)) = bcs (a ++ l.flatMap (le 4)) ++ bcs (le 4 x) := by simp [List.flatMap_append, bcs_append, List.append_assoc]
theorem flat_uvar_len : ∀ l : List Nat, (∀ x ∈ l, x ≤ 4000) → (l.flatMap uvar).length ≤ 2 * l.length
  | [], _ => by simp
  | x :: l, h => by
    have h1 := uvar_len2 (h x List.mem_cons_self)
    have h2 := flat_uvar_len l (fun y hy => h y (List.mem_cons_of_mem _ hy))
    simp only [List.flatMap_cons, List.length_append, List.length_cons]
    omega
theorem flat_le_len : ∀ l : List Nat, (l.flatMap (le 4)).length = 4 * l.length
  | [] => by simp
  | x :: l => by
    simp only [List.flatMap_cons, List.length_append, List.length_cons, le_length, flat_le_len l]
    omega
theorem take_three (a b c i : Nat) (h : i < 3) : ∃ x, [a, b, c].take (i + 1) = [a, b, c].take i ++ [x] ∧ [a, b, c][i]? = some x ∧ (x = a ∨ x = b ∨ x = c) := by
  match i, h with
  | 0, _ => exact ⟨a, rfl, rfl, .inl rfl⟩
  | 1, _ => exact ⟨b, rfl, rfl, .inr (.inl rfl)⟩
  | 2, _ => exact ⟨c, rfl, rfl, .inr (.inr rfl)⟩
theorem three_cell {w : World} {q : Nat} {t : TypeId} {a b c i x : Nat} {A : Int} (h : Bk w q t #[.int .i64 A, .int .i64 (b : Int), .int .i64 (c : Int)]) (hA : A = (a : Int)) (hx : [a, b, c][i]? = some x) : w.cell? ⟨q, i, none⟩ = some (.int .i64 (x : Int)) := by
  subst hA
  rw [h.cell]
  match i, hx with
  | 0, hx => cases hx; rfl
  | 1, hx => cases hx; rfl
  | 2, hx => cases hx; rfl
  | (j + 3), hx => simp at hx
end Go.Lec
