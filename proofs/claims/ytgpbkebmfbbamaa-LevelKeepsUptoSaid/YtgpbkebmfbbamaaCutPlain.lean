/- Layer 24: how pairs are cut into files: the plain law. Nothing here speaks of the program. -/
import Derived.Test.YtgpbkebmfbbamaaSeesLaw
namespace Go.Lec
/-- A key's group, if it is a key. -/
def preO (p : PairB) : Option (List UInt8) := match dec p.1 with
  | .ok K => some (be 2 K.ep ++ escT K.srt)
  | .error _ => none
/-- Keys of one group. -/
def sameG : Option (List UInt8) → Option (List UInt8) → Bool
  | some a, some b => b == a
  | _, _ => false
/-- What is cut off, the piece at hand, its size, the group of the key ahead. -/
structure CSt where
  out : List (List PairB)
  now : List PairB
  n : Int
  last : Option (List UInt8)
def CSt.shut (s : CSt) : CSt := ⟨s.out ++ [s.now], [], 0, s.last⟩
def CSt.add (s : CSt) (p : PairB) : CSt := ⟨s.out, s.now ++ [p], s.n + ((p.1.length : Int) + (p.2.length : Int)), preO p⟩
/-- Whether a piece ends ahead of a pair. -/
def CSt.brk (most : Int) (s : CSt) (p : PairB) : Bool := decide (0 < s.now.length) && decide (most ≤ s.n) && !(sameG s.last (preO p))
def CSt.step (most : Int) (s : CSt) (p : PairB) : CSt := (if s.brk most p then s.shut else s).add p
def cutSt (most : Int) (l : List PairB) : CSt := l.foldl (CSt.step most) ⟨[], [], 0, none⟩
def cutF (most : Int) (l : List PairB) : List (List PairB) := if 0 < (cutSt most l).now.length then (cutSt most l).out ++ [(cutSt most l).now] else (cutSt most l).out
theorem sameG_eq (kn is_ : Bool) (a b : List UInt8) : sameG (if kn then some a else none) (if is_ then some b else none) = (is_ && kn && (b == a)) := by
  cases kn <;> cases is_ <;> simp [sameG]
theorem cutSt_inv (most : Int) (l : List PairB) : (cutSt most l).out.flatten ++ (cutSt most l).now = l ∧ ∀ x ∈ (cutSt most l).out, x ≠ [] := by
  induction l using snoc_ind with
  | h0 => exact ⟨rfl, fun x h => by cases h⟩
  | h1 l p ih =>
    have e : cutSt most (l ++ [p]) = CSt.step most (cutSt most l) p := by simp [cutSt]
    rw [e]
    obtain ⟨i1, i2⟩ := ih
    generalize cutSt most l = s at *
    unfold CSt.step
    cases hb : s.brk most p with
    | false =>
      rw [if_neg (by decide)]
      exact ⟨by rw [CSt.add, ← List.append_assoc, i1], i2⟩
    | true =>
      rw [if_pos rfl]
      have hn : 0 < s.now.length := by
        unfold CSt.brk at hb
        simp only [Bool.and_eq_true, decide_eq_true_eq] at hb
        exact hb.1.1
      refine ⟨by simp [CSt.shut, CSt.add, ← i1], fun x hx => ?_⟩
      rcases List.mem_append.1 hx with hx | hx
      · exact i2 x hx
      · rw [List.mem_singleton.1 hx]
        intro e0
        rw [e0] at hn
        cases hn
theorem cutF_flat (most : Int) (l : List PairB) : (cutF most l).flatten = l := by
  obtain ⟨i1, _⟩ := cutSt_inv most l
  unfold cutF
  split
  · rw [List.flatten_append]; simpa using i1
  · rename_i h
    have : (cutSt most l).now = [] := List.eq_nil_of_length_eq_zero (by omega)
    rw [this, List.append_nil] at i1
    exact i1
theorem cutF_ne (most : Int) (l : List PairB) : ∀ x ∈ cutF most l, x ≠ [] := by
  obtain ⟨_, i2⟩ := cutSt_inv most l
  unfold cutF
  split
  · rename_i h
    intro x hx
    rcases List.mem_append.1 hx with hx | hx
    · exact i2 x hx
    · rw [List.mem_singleton.1 hx]
      intro e0
      rw [e0] at h
      cases h
  · exact i2
end Go.Lec
