/- Layer 23: an iterator over several lists stands where one over all of them would (MergeWalks). -/
import Derived.Test.YtedelkifadonjaaOpenM
namespace Go.Proofs.Ytedelkifadonjaa
open Go.RowKit Go.Lec Go.Op
/-- Where it stands: nowhere yet, or at a place. -/
def Stands (all : List PairB) (D : Nat → Prop) (w : World) (X : It) (steps : Nat) : Int → Prop
  | .ofNat q => q ≤ all.length ∧ ItAt all D w X steps q
  | .negSucc k => k = 0 ∧ steps = 0 ∧ Makes X all ∧ (∀ b, D b → b < w.heap.size) ∧ ItM D w X 0 0
end Go.Proofs.Ytedelkifadonjaa
