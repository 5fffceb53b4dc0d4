/- Layer 24, LevelSees: a number among numbers; a pair in memory of its own. -/
import Derived.Test.YtedelkifadonjaaSeA
namespace Go.Lec
open Go.RowKit
/-- Numbers' cells. -/
def ics (l : List Int) : List Value := l.map fun x => .int .i64 x
theorem ics_length (l : List Int) : (ics l).length = l.length := by simp [ics]
theorem Rd.intAt {w : World} {B n k : Nat} {A : Option Addr} {l : List Int} (h : Rd w B A n (ics l)) (hk : k < n) : ∃ b o, A = some ⟨b, o, none⟩ ∧ b < B ∧ ∀ j (hj : j < l.length), w.cell? ⟨b, o + j, none⟩ = some (.int .i64 l[j]) := by
  obtain ⟨b, o, e, hb, hc⟩ := h.2 (by omega)
  exact ⟨b, o, e, hb, fun j hj => hc j _ (by simp [ics, hj])⟩
end Go.Lec
namespace Go.Proofs.Ytedelkifadonjaa
open Go.RowKit Go.Lec

/-- A pair in memory of its own. -/
def TwinPost (w : World) (k v : List UInt8) (e : Ending) (w' : World) : Prop := ∃ m : Pr, e = .returned (.agg #[.slice m.A1 m.n1 m.c1, .slice m.A2 m.n2 m.c2]) ∧ m.ok w' w'.heap.size ∧ m.hi w.heap.size ∧ m.pl = (k, v) ∧ Below w.heap.size w w'

end Go.Proofs.Ytedelkifadonjaa
