/-
  No cell of these rows narrows 'for every input' (looked for: loops, veiled, ifaces, maps, wideKeys, modest, calm, conditions, laid).
  DERIVED. THE GIVEN ROWS OF THIS SEAT. 4 by the template 'for every input the law returns true; each argument reads behind the call as it read before'; 0 by the template 'total and deterministic' (their statements: YtgpbkebmfbbamaaTotals.lean).
  GIVEN WITH THE SEED: the statements are not yours to turn. If you find one false, say at which input.
  Laid BY PROGRAM, IN A SANDBOX (cutbox-rows.mjs): the forced cells as the released guide's own fill.sh prints them over the translation e62b50519c6065dd… (all of the seat's roots in one cut). By AI agents, Wed Nov 11 2026. No macro, syntax, notation, axiom, sorry.
-/
import Derived.Test.YtgpbkebmfbbamaaChecked
import GoSem.Claim
import GoSem.ClaimJoined
import GoSem.ClaimMapViews
import Derived.JoinedTies
import Derived.KernelRfl
namespace Go.Proofs.Ytgpbkebmfbbamaa
/- THE CELL 'sum', in the pinned program and in every row, IS THE sha256 OF THE DUMP (.gsa) THAT YtgpbkebmfbbamaaProg.lean LOADS. Nothing in Lean hashes anything: it is a label: what it is worth is what the hold of that sum in a sandbox is worth. -/
noncomputable def Try.pinned : Pinned := { name := "ytgpbkebmfbbamaa", sum := "e62b50519c6065dd78ef99216f435061ec1ab9f5c518a550ccacb269ca34d170", checked := Try.checked }
namespace Rows
def none {H : Type} : Left H := { results := [], args := [] }

/-- 'lecternlaw24.LevelEnds': WHATEVER THE INPUT: true; the input reads as it did. -/
def levelEndsSpec : ChangeSpec := { name := "levelEnds", fn := fun _ => fun
  | [d1, d2] => { results := [.lit (.bool true)], args := [d1, d2] }
  | _ => none }
def levelEndsRow : OpenClaim := { program := "ytgpbkebmfbbamaa", sum := "e62b50519c6065dd78ef99216f435061ec1ab9f5c518a550ccacb269ca34d170", func := "lectern/lecternlaw24.LevelEnds", spec := "levelEnds", inPlace := ["internal/bytealg.Compare"], unfollowed := true, recurses := true, apart := false }
def LevelEndsSaid : Prop := levelEndsRow.holds Try.pinned (OpenSpec.ofChange levelEndsSpec)

/-- ITS FALSE NEIGHBOUR: 'it returns false'. Refute it at one input. -/
def levelEndsWrong : ChangeSpec := { name := "levelEnds", fn := fun _ => fun
  | [d1, d2] => { results := [.lit (.bool false)], args := [d1, d2] }
  | _ => none }
def LevelEndsWrongFalsely : Prop := levelEndsRow.holds Try.pinned (OpenSpec.ofChange levelEndsWrong)

/-- 'lecternlaw24.LevelChanges': WHATEVER THE INPUT: true; the input reads as it did. -/
def levelChangesSpec : ChangeSpec := { name := "levelChanges", fn := fun _ => fun
  | [d1, d2] => { results := [.lit (.bool true)], args := [d1, d2] }
  | _ => none }
def levelChangesRow : OpenClaim := { program := "ytgpbkebmfbbamaa", sum := "e62b50519c6065dd78ef99216f435061ec1ab9f5c518a550ccacb269ca34d170", func := "lectern/lecternlaw24.LevelChanges", spec := "levelChanges", inPlace := ["internal/bytealg.Compare"], unfollowed := true, recurses := true, apart := false }
def LevelChangesSaid : Prop := levelChangesRow.holds Try.pinned (OpenSpec.ofChange levelChangesSpec)

/-- ITS FALSE NEIGHBOUR: 'it returns false'. Refute it at one input. -/
def levelChangesWrong : ChangeSpec := { name := "levelChanges", fn := fun _ => fun
  | [d1, d2] => { results := [.lit (.bool false)], args := [d1, d2] }
  | _ => none }
def LevelChangesWrongFalsely : Prop := levelChangesRow.holds Try.pinned (OpenSpec.ofChange levelChangesWrong)

/-- 'lecternlaw24.LevelSees': WHATEVER THE INPUT: true; the input reads as it did. -/
def levelSeesSpec : ChangeSpec := { name := "levelSees", fn := fun _ => fun
  | [d1, d2, d3, d4, d5] => { results := [.lit (.bool true)], args := [d1, d2, d3, d4, d5] }
  | _ => none }
def levelSeesRow : OpenClaim := { program := "ytgpbkebmfbbamaa", sum := "e62b50519c6065dd78ef99216f435061ec1ab9f5c518a550ccacb269ca34d170", func := "lectern/lecternlaw24.LevelSees", spec := "levelSees", inPlace := ["internal/bytealg.Compare"], unfollowed := true, recurses := true, apart := false }
def LevelSeesSaid : Prop := levelSeesRow.holds Try.pinned (OpenSpec.ofChange levelSeesSpec)

/-- ITS FALSE NEIGHBOUR: 'it returns false'. Refute it at one input. -/
def levelSeesWrong : ChangeSpec := { name := "levelSees", fn := fun _ => fun
  | [d1, d2, d3, d4, d5] => { results := [.lit (.bool false)], args := [d1, d2, d3, d4, d5] }
  | _ => none }
def LevelSeesWrongFalsely : Prop := levelSeesRow.holds Try.pinned (OpenSpec.ofChange levelSeesWrong)

/-- 'lecternlaw24.LevelKeeps': WHATEVER THE INPUT: true; the input reads as it did. -/
def levelKeepsSpec : ChangeSpec := { name := "levelKeeps", fn := fun _ => fun
  | [d1, d2, d3, d4, d5] => { results := [.lit (.bool true)], args := [d1, d2, d3, d4, d5] }
  | _ => none }
def levelKeepsRow : OpenClaim := { program := "ytgpbkebmfbbamaa", sum := "e62b50519c6065dd78ef99216f435061ec1ab9f5c518a550ccacb269ca34d170", func := "lectern/lecternlaw24.LevelKeeps", spec := "levelKeeps", inPlace := ["internal/bytealg.Compare"], unfollowed := true, recurses := true, apart := false }
def LevelKeepsSaid : Prop := levelKeepsRow.holds Try.pinned (OpenSpec.ofChange levelKeepsSpec)

/-- ITS FALSE NEIGHBOUR: 'it returns false'. Refute it at one input. -/
def levelKeepsWrong : ChangeSpec := { name := "levelKeeps", fn := fun _ => fun
  | [d1, d2, d3, d4, d5] => { results := [.lit (.bool false)], args := [d1, d2, d3, d4, d5] }
  | _ => none }
def LevelKeepsWrongFalsely : Prop := levelKeepsRow.holds Try.pinned (OpenSpec.ofChange levelKeepsWrong)

/- THE SECOND FORM. 'bulk': how many values and letters a reading holds, each counted each time it is reached (what is shared counts as often as it is met; a slice's spare places count too). A statement '..UptoSaid' is the law's where the arguments, and the package variables that the reading takes, are together of bulk at most 1048576: NARROWER than '..Said'. Prove '..Said' where nothing that the law and all that it calls make is longer than what came in: it says more and counts as full. Else prove '..UptoSaid'. A law counts once. -/
mutual
def uptoBulk {H : Type} : DataW H → Nat
  | .lit (.string bytes) => bytes.length + 1
  | .lit _ => 1
  | .nil => 1
  | .ptr d => uptoBulk d + 1
  | .slice elems spare => uptoBulkAll elems + uptoBulkAll spare + 1
  | .agg parts => uptoBulkAll parts + 1
  | .iface _ d => uptoBulk d + 1
  | .map entries => uptoBulkEntries entries + 1
  | .held _ => 1
def uptoBulkAll {H : Type} : List (DataW H) → Nat
  | [] => 0
  | d :: r => uptoBulk d + uptoBulkAll r
def uptoBulkEntries {H : Type} : List (Lit × DataW H) → Nat
  | [] => 0
  | x :: r => uptoBulkEntry x + uptoBulkEntries r
def uptoBulkEntry {H : Type} : Lit × DataW H → Nat
  | (.string bytes, d) => bytes.length + uptoBulk d + 1
  | (_, d) => uptoBulk d + 1
 end
def uptoSmall : (H : Type) → List (DataW H) → Bool := fun _ ds => decide (uptoBulkAll ds ≤ 1048576)
def OpenSpec.upto (s : _root_.Go.ChangeSpec) : _root_.Go.OpenSpec := { _root_.Go.OpenSpec.ofChange s with cond := some uptoSmall }

/-- 'lecternlaw24.LevelEnds', WHERE WHAT IT READS IS OF BULK AT MOST 1048576: true; the input reads as it did. -/
def levelEndsUptoRow : OpenClaim := { program := "ytgpbkebmfbbamaa", sum := "e62b50519c6065dd78ef99216f435061ec1ab9f5c518a550ccacb269ca34d170", func := "lectern/lecternlaw24.LevelEnds", spec := "levelEnds", inPlace := ["internal/bytealg.Compare"], unfollowed := true, recurses := true, apart := false, narrowed := true }
def LevelEndsUptoSaid : Prop := levelEndsUptoRow.holds Try.pinned (OpenSpec.upto levelEndsSpec)

/-- 'lecternlaw24.LevelChanges', WHERE WHAT IT READS IS OF BULK AT MOST 1048576: true; the input reads as it did. -/
def levelChangesUptoRow : OpenClaim := { program := "ytgpbkebmfbbamaa", sum := "e62b50519c6065dd78ef99216f435061ec1ab9f5c518a550ccacb269ca34d170", func := "lectern/lecternlaw24.LevelChanges", spec := "levelChanges", inPlace := ["internal/bytealg.Compare"], unfollowed := true, recurses := true, apart := false, narrowed := true }
def LevelChangesUptoSaid : Prop := levelChangesUptoRow.holds Try.pinned (OpenSpec.upto levelChangesSpec)

/-- 'lecternlaw24.LevelSees', WHERE WHAT IT READS IS OF BULK AT MOST 1048576: true; the input reads as it did. -/
def levelSeesUptoRow : OpenClaim := { program := "ytgpbkebmfbbamaa", sum := "e62b50519c6065dd78ef99216f435061ec1ab9f5c518a550ccacb269ca34d170", func := "lectern/lecternlaw24.LevelSees", spec := "levelSees", inPlace := ["internal/bytealg.Compare"], unfollowed := true, recurses := true, apart := false, narrowed := true }
def LevelSeesUptoSaid : Prop := levelSeesUptoRow.holds Try.pinned (OpenSpec.upto levelSeesSpec)

/-- 'lecternlaw24.LevelKeeps', WHERE WHAT IT READS IS OF BULK AT MOST 1048576: true; the input reads as it did. -/
def levelKeepsUptoRow : OpenClaim := { program := "ytgpbkebmfbbamaa", sum := "e62b50519c6065dd78ef99216f435061ec1ab9f5c518a550ccacb269ca34d170", func := "lectern/lecternlaw24.LevelKeeps", spec := "levelKeeps", inPlace := ["internal/bytealg.Compare"], unfollowed := true, recurses := true, apart := false, narrowed := true }
def LevelKeepsUptoSaid : Prop := levelKeepsUptoRow.holds Try.pinned (OpenSpec.upto levelKeepsSpec)

end Rows
end Go.Proofs.Ytgpbkebmfbbamaa
