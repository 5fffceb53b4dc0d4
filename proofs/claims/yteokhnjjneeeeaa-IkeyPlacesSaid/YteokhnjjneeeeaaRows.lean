/-
  No cell of these rows narrows 'for every input' (looked for: loops, veiled, ifaces, maps, wideKeys, modest, calm, conditions, laid).
  DERIVED. THE GIVEN ROWS OF THIS SEAT. 3 by the template 'for every input the law returns true; each argument reads behind the call as it read before'; 0 by the template 'total and deterministic' (their statements: YteokhnjjneeeeaaTotals.lean).
  GIVEN WITH THE SEED: the statements are not yours to turn. If you find one false, say at which input.
  Laid BY PROGRAM, IN A SANDBOX (cutbox-rows.mjs): the forced cells as the released guide's own fill.sh prints them over the translation 756435f29fc2f073… (all of the seat's roots in one cut). By AI agents, Wed Nov 11 2026. No macro, syntax, notation, axiom, sorry.
-/
import Derived.Test.YteokhnjjneeeeaaChecked
import GoSem.Claim
import GoSem.ClaimJoined
import GoSem.ClaimMapViews
import Derived.JoinedTies
import Derived.KernelRfl
namespace Go.Proofs.Yteokhnjjneeeeaa
/- THE CELL 'sum', in the pinned program and in every row, IS THE sha256 OF THE DUMP (.gsa) THAT YteokhnjjneeeeaaProg.lean LOADS. Nothing in Lean hashes anything: it is a label: what it is worth is what the hold of that sum in a sandbox is worth. -/
noncomputable def Try.pinned : Pinned := { name := "yteokhnjjneeeeaa", sum := "756435f29fc2f073b4e5ecc2cb6ab36561f7f3fb2c157b4dd0314cda7ade1bb7", checked := Try.checked }
namespace Rows
def none {H : Type} : Left H := { results := [], args := [] }

/-- 'lecternlaw16.IkeyWrites': WHATEVER THE INPUT: true; the input reads as it did. -/
def ikeyWritesSpec : ChangeSpec := { name := "ikeyWrites", fn := fun _ => fun
  | [d] => { results := [.lit (.bool true)], args := [d] }
  | _ => none }
def ikeyWritesRow : OpenClaim := { program := "yteokhnjjneeeeaa", sum := "756435f29fc2f073b4e5ecc2cb6ab36561f7f3fb2c157b4dd0314cda7ade1bb7", func := "lectern/lecternlaw16.IkeyWrites", spec := "ikeyWrites", unfollowed := true, recurses := true, apart := false }
def IkeyWritesSaid : Prop := ikeyWritesRow.holds Try.pinned (OpenSpec.ofChange ikeyWritesSpec)

/-- ITS FALSE NEIGHBOUR: 'it returns false'. Refute it at one input. -/
def ikeyWritesWrong : ChangeSpec := { name := "ikeyWrites", fn := fun _ => fun
  | [d] => { results := [.lit (.bool false)], args := [d] }
  | _ => none }
def IkeyWritesWrongFalsely : Prop := ikeyWritesRow.holds Try.pinned (OpenSpec.ofChange ikeyWritesWrong)

/-- 'lecternlaw16.IkeyReads': WHATEVER THE INPUT: true; the input reads as it did. -/
def ikeyReadsSpec : ChangeSpec := { name := "ikeyReads", fn := fun _ => fun
  | [d1, d2] => { results := [.lit (.bool true)], args := [d1, d2] }
  | _ => none }
def ikeyReadsRow : OpenClaim := { program := "yteokhnjjneeeeaa", sum := "756435f29fc2f073b4e5ecc2cb6ab36561f7f3fb2c157b4dd0314cda7ade1bb7", func := "lectern/lecternlaw16.IkeyReads", spec := "ikeyReads", unfollowed := true, recurses := true, apart := false }
def IkeyReadsSaid : Prop := ikeyReadsRow.holds Try.pinned (OpenSpec.ofChange ikeyReadsSpec)

/-- ITS FALSE NEIGHBOUR: 'it returns false'. Refute it at one input. -/
def ikeyReadsWrong : ChangeSpec := { name := "ikeyReads", fn := fun _ => fun
  | [d1, d2] => { results := [.lit (.bool false)], args := [d1, d2] }
  | _ => none }
def IkeyReadsWrongFalsely : Prop := ikeyReadsRow.holds Try.pinned (OpenSpec.ofChange ikeyReadsWrong)

/-- 'lecternlaw16.IkeyPlaces': WHATEVER THE INPUT: true; the input reads as it did. -/
def ikeyPlacesSpec : ChangeSpec := { name := "ikeyPlaces", fn := fun _ => fun
  | [d1, d2, d3, d4, d5] => { results := [.lit (.bool true)], args := [d1, d2, d3, d4, d5] }
  | _ => none }
def ikeyPlacesRow : OpenClaim := { program := "yteokhnjjneeeeaa", sum := "756435f29fc2f073b4e5ecc2cb6ab36561f7f3fb2c157b4dd0314cda7ade1bb7", func := "lectern/lecternlaw16.IkeyPlaces", spec := "ikeyPlaces", unfollowed := true, recurses := true, apart := false }
def IkeyPlacesSaid : Prop := ikeyPlacesRow.holds Try.pinned (OpenSpec.ofChange ikeyPlacesSpec)

/-- ITS FALSE NEIGHBOUR: 'it returns false'. Refute it at one input. -/
def ikeyPlacesWrong : ChangeSpec := { name := "ikeyPlaces", fn := fun _ => fun
  | [d1, d2, d3, d4, d5] => { results := [.lit (.bool false)], args := [d1, d2, d3, d4, d5] }
  | _ => none }
def IkeyPlacesWrongFalsely : Prop := ikeyPlacesRow.holds Try.pinned (OpenSpec.ofChange ikeyPlacesWrong)

/- THE SECOND FORM. 'bulk': how many values and letters a reading holds, each counted each time it is reached (what is shared counts as often as it is met; a slice's spare places count too). A statement '..UptoSaid' is the law's where the arguments, and the package variables that the reading takes, are together of bulk at most 1048576: NARROWER than '..Said'. Prove '..Said' where nothing that the law and all that it calls make is longer than what came in: it says more and counts as full. Else prove '..UptoSaid'. A law counts once. -/
mutual
def uptoBulk {H : Type} : DataW H → Nat
  | .lit (.string bytes) => bytes.length + 1
  | .lit _ => 1
  | .nil => 1
  | .ptr d => uptoBulk d + 1
  | .slice elems spare => uptoBulkAll elems + uptoBulkAll spare + 1
  | .agg parts => uptoBulkAll parts + 1
  | .iface _ d => uptoBulk d + 1
  | .map entries => uptoBulkEntries entries + 1
  | .held _ => 1
def uptoBulkAll {H : Type} : List (DataW H) → Nat
  | [] => 0
  | d :: r => uptoBulk d + uptoBulkAll r
def uptoBulkEntries {H : Type} : List (Lit × DataW H) → Nat
  | [] => 0
  | x :: r => uptoBulkEntry x + uptoBulkEntries r
def uptoBulkEntry {H : Type} : Lit × DataW H → Nat
  | (.string bytes, d) => bytes.length + uptoBulk d + 1
  | (_, d) => uptoBulk d + 1
 end
def uptoSmall : (H : Type) → List (DataW H) → Bool := fun _ ds => decide (uptoBulkAll ds ≤ 1048576)
def OpenSpec.upto (s : _root_.Go.ChangeSpec) : _root_.Go.OpenSpec := { _root_.Go.OpenSpec.ofChange s with cond := some uptoSmall }

/-- 'lecternlaw16.IkeyWrites', WHERE WHAT IT READS IS OF BULK AT MOST 1048576: true; the input reads as it did. -/
def ikeyWritesUptoRow : OpenClaim := { program := "yteokhnjjneeeeaa", sum := "756435f29fc2f073b4e5ecc2cb6ab36561f7f3fb2c157b4dd0314cda7ade1bb7", func := "lectern/lecternlaw16.IkeyWrites", spec := "ikeyWrites", unfollowed := true, recurses := true, apart := false, narrowed := true }
def IkeyWritesUptoSaid : Prop := ikeyWritesUptoRow.holds Try.pinned (OpenSpec.upto ikeyWritesSpec)

/-- 'lecternlaw16.IkeyReads', WHERE WHAT IT READS IS OF BULK AT MOST 1048576: true; the input reads as it did. -/
def ikeyReadsUptoRow : OpenClaim := { program := "yteokhnjjneeeeaa", sum := "756435f29fc2f073b4e5ecc2cb6ab36561f7f3fb2c157b4dd0314cda7ade1bb7", func := "lectern/lecternlaw16.IkeyReads", spec := "ikeyReads", unfollowed := true, recurses := true, apart := false, narrowed := true }
def IkeyReadsUptoSaid : Prop := ikeyReadsUptoRow.holds Try.pinned (OpenSpec.upto ikeyReadsSpec)

/-- 'lecternlaw16.IkeyPlaces', WHERE WHAT IT READS IS OF BULK AT MOST 1048576: true; the input reads as it did. -/
def ikeyPlacesUptoRow : OpenClaim := { program := "yteokhnjjneeeeaa", sum := "756435f29fc2f073b4e5ecc2cb6ab36561f7f3fb2c157b4dd0314cda7ade1bb7", func := "lectern/lecternlaw16.IkeyPlaces", spec := "ikeyPlaces", unfollowed := true, recurses := true, apart := false, narrowed := true }
def IkeyPlacesUptoSaid : Prop := ikeyPlacesUptoRow.holds Try.pinned (OpenSpec.upto ikeyPlacesSpec)

end Rows
end Go.Proofs.Yteokhnjjneeeeaa
