/- Layer 24, LevelSees: pairs are few; a number among numbers. -/
import Derived.Test.YtedelkifadonjaaPairsB
import Derived.Test.YtedelkifadonjaaLvB
import Derived.Test.YtedelkifadonjaaSeesLaw
namespace Go.Lec
open Go.RowKit
/-- How long pairs are. -/
def plen (L : List Pr) : Nat := (L.map fun m => m.n1 + m.n2).sum
theorem plen_take (L : List Pr) (k : Nat) (m : Pr) (h : L.take (k + 1) = L.take k ++ [m]) : plen (L.take (k + 1)) = plen (L.take k) + (m.n1 + m.n2) := by rw [h]; simp [plen]
theorem plen_bound (L : List Pr) (M : Nat) (h : ∀ m ∈ L, m.n1 + m.n2 ≤ M) : ∀ k, plen (L.take k) ≤ M * k
  | 0 => by simp [plen]
  | k + 1 => by
    have ih := plen_bound L M h k
    by_cases hk : k < L.length
    · rw [plen_take L k L[k] (List.take_succ_eq_append_getElem hk), Nat.mul_succ]
      have := h L[k] (List.getElem_mem hk)
      omega
    · rw [List.take_of_length_le (by omega)] at ih ⊢
      rw [Nat.mul_succ]
      omega
end Go.Lec
namespace Go.Proofs.Ytedelkifadonjaa
open Go.RowKit Go.Lec

end Go.Proofs.Ytedelkifadonjaa
