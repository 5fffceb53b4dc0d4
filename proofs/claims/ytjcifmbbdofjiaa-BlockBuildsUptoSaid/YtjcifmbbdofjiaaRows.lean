/-
  No cell of these rows narrows 'for every input' (looked for: loops, veiled, ifaces, maps, wideKeys, modest, calm, conditions, laid).
  DERIVED. THE GIVEN ROWS OF THIS SEAT. 5 by the template 'for every input the law returns true; each argument reads behind the call as it read before'; 0 by the template 'total and deterministic' (their statements: YtjcifmbbdofjiaaTotals.lean).
  GIVEN WITH THE SEED: the statements are not yours to turn. If you find one false, say at which input.
  Laid BY PROGRAM, IN A SANDBOX (cutbox-rows.mjs): the forced cells as the released guide's own fill.sh prints them over the translation 9c72d1de7d2ccce4… (all of the seat's roots in one cut). By AI agents, Wed Nov 11 2026. No macro, syntax, notation, axiom, sorry.
-/
import Derived.Test.YtjcifmbbdofjiaaChecked
import GoSem.Claim
import GoSem.ClaimJoined
import GoSem.ClaimMapViews
import Derived.JoinedTies
import Derived.KernelRfl
namespace Go.Proofs.Ytjcifmbbdofjiaa
/- THE CELL 'sum', in the pinned program and in every row, IS THE sha256 OF THE DUMP (.gsa) THAT YtjcifmbbdofjiaaProg.lean LOADS. Nothing in Lean hashes anything: it is a label: what it is worth is what the hold of that sum in a sandbox is worth. -/
noncomputable def Try.pinned : Pinned := { name := "ytjcifmbbdofjiaa", sum := "9c72d1de7d2ccce46d320e0245df198770ca2ad6932e8bd8fb38242d2835c04a", checked := Try.checked }
namespace Rows
def none {H : Type} : Left H := { results := [], args := [] }

/-- 'lecternlaw20.BlockBuilds': WHATEVER THE INPUT: true; the input reads as it did. -/
def blockBuildsSpec : ChangeSpec := { name := "blockBuilds", fn := fun _ => fun
  | [d1, d2] => { results := [.lit (.bool true)], args := [d1, d2] }
  | _ => none }
def blockBuildsRow : OpenClaim := { program := "ytjcifmbbdofjiaa", sum := "9c72d1de7d2ccce46d320e0245df198770ca2ad6932e8bd8fb38242d2835c04a", func := "lectern/lecternlaw20.BlockBuilds", spec := "blockBuilds", inPlace := ["internal/bytealg.Compare"], unfollowed := true, recurses := true, apart := false }
def BlockBuildsSaid : Prop := blockBuildsRow.holds Try.pinned (OpenSpec.ofChange blockBuildsSpec)

/-- ITS FALSE NEIGHBOUR: 'it returns false'. Refute it at one input. -/
def blockBuildsWrong : ChangeSpec := { name := "blockBuilds", fn := fun _ => fun
  | [d1, d2] => { results := [.lit (.bool false)], args := [d1, d2] }
  | _ => none }
def BlockBuildsWrongFalsely : Prop := blockBuildsRow.holds Try.pinned (OpenSpec.ofChange blockBuildsWrong)

/-- 'lecternlaw20.BlockReads': WHATEVER THE INPUT: true; the input reads as it did. -/
def blockReadsSpec : ChangeSpec := { name := "blockReads", fn := fun _ => fun
  | [d] => { results := [.lit (.bool true)], args := [d] }
  | _ => none }
def blockReadsRow : OpenClaim := { program := "ytjcifmbbdofjiaa", sum := "9c72d1de7d2ccce46d320e0245df198770ca2ad6932e8bd8fb38242d2835c04a", func := "lectern/lecternlaw20.BlockReads", spec := "blockReads", inPlace := ["internal/bytealg.Compare"], unfollowed := true, recurses := true, apart := false }
def BlockReadsSaid : Prop := blockReadsRow.holds Try.pinned (OpenSpec.ofChange blockReadsSpec)

/-- ITS FALSE NEIGHBOUR: 'it returns false'. Refute it at one input. -/
def blockReadsWrong : ChangeSpec := { name := "blockReads", fn := fun _ => fun
  | [d] => { results := [.lit (.bool false)], args := [d] }
  | _ => none }
def BlockReadsWrongFalsely : Prop := blockReadsRow.holds Try.pinned (OpenSpec.ofChange blockReadsWrong)

/-- 'lecternlaw20.BlockWalks': WHATEVER THE INPUT: true; the input reads as it did. -/
def blockWalksSpec : ChangeSpec := { name := "blockWalks", fn := fun _ => fun
  | [d1, d2, d3] => { results := [.lit (.bool true)], args := [d1, d2, d3] }
  | _ => none }
def blockWalksRow : OpenClaim := { program := "ytjcifmbbdofjiaa", sum := "9c72d1de7d2ccce46d320e0245df198770ca2ad6932e8bd8fb38242d2835c04a", func := "lectern/lecternlaw20.BlockWalks", spec := "blockWalks", inPlace := ["internal/bytealg.Compare"], unfollowed := true, recurses := true, apart := false }
def BlockWalksSaid : Prop := blockWalksRow.holds Try.pinned (OpenSpec.ofChange blockWalksSpec)

/-- ITS FALSE NEIGHBOUR: 'it returns false'. Refute it at one input. -/
def blockWalksWrong : ChangeSpec := { name := "blockWalks", fn := fun _ => fun
  | [d1, d2, d3] => { results := [.lit (.bool false)], args := [d1, d2, d3] }
  | _ => none }
def BlockWalksWrongFalsely : Prop := blockWalksRow.holds Try.pinned (OpenSpec.ofChange blockWalksWrong)

/-- 'lecternlaw20.BlockEach': WHATEVER THE INPUT: true; the input reads as it did. -/
def blockEachSpec : ChangeSpec := { name := "blockEach", fn := fun _ => fun
  | [d1, d2, d3] => { results := [.lit (.bool true)], args := [d1, d2, d3] }
  | _ => none }
def blockEachRow : OpenClaim := { program := "ytjcifmbbdofjiaa", sum := "9c72d1de7d2ccce46d320e0245df198770ca2ad6932e8bd8fb38242d2835c04a", func := "lectern/lecternlaw20.BlockEach", spec := "blockEach", inPlace := ["internal/bytealg.Compare"], unfollowed := true, recurses := true, apart := false }
def BlockEachSaid : Prop := blockEachRow.holds Try.pinned (OpenSpec.ofChange blockEachSpec)

/-- ITS FALSE NEIGHBOUR: 'it returns false'. Refute it at one input. -/
def blockEachWrong : ChangeSpec := { name := "blockEach", fn := fun _ => fun
  | [d1, d2, d3] => { results := [.lit (.bool false)], args := [d1, d2, d3] }
  | _ => none }
def BlockEachWrongFalsely : Prop := blockEachRow.holds Try.pinned (OpenSpec.ofChange blockEachWrong)

/-- 'lecternlaw20.BlockNone': WHATEVER THE INPUT: true; the input reads as it did. -/
def blockNoneSpec : ChangeSpec := { name := "blockNone", fn := fun _ => fun
  | [d] => { results := [.lit (.bool true)], args := [d] }
  | _ => none }
def blockNoneRow : OpenClaim := { program := "ytjcifmbbdofjiaa", sum := "9c72d1de7d2ccce46d320e0245df198770ca2ad6932e8bd8fb38242d2835c04a", func := "lectern/lecternlaw20.BlockNone", spec := "blockNone", inPlace := ["internal/bytealg.Compare"], unfollowed := true, recurses := true, apart := false }
def BlockNoneSaid : Prop := blockNoneRow.holds Try.pinned (OpenSpec.ofChange blockNoneSpec)

/-- ITS FALSE NEIGHBOUR: 'it returns false'. Refute it at one input. -/
def blockNoneWrong : ChangeSpec := { name := "blockNone", fn := fun _ => fun
  | [d] => { results := [.lit (.bool false)], args := [d] }
  | _ => none }
def BlockNoneWrongFalsely : Prop := blockNoneRow.holds Try.pinned (OpenSpec.ofChange blockNoneWrong)

/- THE SECOND FORM. 'bulk': how many values and letters a reading holds, each counted each time it is reached (what is shared counts as often as it is met; a slice's spare places count too). A statement '..UptoSaid' is the law's where the arguments, and the package variables that the reading takes, are together of bulk at most 1048576: NARROWER than '..Said'. Prove '..Said' where nothing that the law and all that it calls make is longer than what came in: it says more and counts as full. Else prove '..UptoSaid'. A law counts once. -/
mutual
def uptoBulk {H : Type} : DataW H → Nat
  | .lit (.string bytes) => bytes.length + 1
  | .lit _ => 1
  | .nil => 1
  | .ptr d => uptoBulk d + 1
  | .slice elems spare => uptoBulkAll elems + uptoBulkAll spare + 1
  | .agg parts => uptoBulkAll parts + 1
  | .iface _ d => uptoBulk d + 1
  | .map entries => uptoBulkEntries entries + 1
  | .held _ => 1
def uptoBulkAll {H : Type} : List (DataW H) → Nat
  | [] => 0
  | d :: r => uptoBulk d + uptoBulkAll r
def uptoBulkEntries {H : Type} : List (Lit × DataW H) → Nat
  | [] => 0
  | x :: r => uptoBulkEntry x + uptoBulkEntries r
def uptoBulkEntry {H : Type} : Lit × DataW H → Nat
  | (.string bytes, d) => bytes.length + uptoBulk d + 1
  | (_, d) => uptoBulk d + 1
 end
def uptoSmall : (H : Type) → List (DataW H) → Bool := fun _ ds => decide (uptoBulkAll ds ≤ 1048576)
def OpenSpec.upto (s : _root_.Go.ChangeSpec) : _root_.Go.OpenSpec := { _root_.Go.OpenSpec.ofChange s with cond := some uptoSmall }

/-- 'lecternlaw20.BlockBuilds', WHERE WHAT IT READS IS OF BULK AT MOST 1048576: true; the input reads as it did. -/
def blockBuildsUptoRow : OpenClaim := { program := "ytjcifmbbdofjiaa", sum := "9c72d1de7d2ccce46d320e0245df198770ca2ad6932e8bd8fb38242d2835c04a", func := "lectern/lecternlaw20.BlockBuilds", spec := "blockBuilds", inPlace := ["internal/bytealg.Compare"], unfollowed := true, recurses := true, apart := false, narrowed := true }
def BlockBuildsUptoSaid : Prop := blockBuildsUptoRow.holds Try.pinned (OpenSpec.upto blockBuildsSpec)

/-- 'lecternlaw20.BlockReads', WHERE WHAT IT READS IS OF BULK AT MOST 1048576: true; the input reads as it did. -/
def blockReadsUptoRow : OpenClaim := { program := "ytjcifmbbdofjiaa", sum := "9c72d1de7d2ccce46d320e0245df198770ca2ad6932e8bd8fb38242d2835c04a", func := "lectern/lecternlaw20.BlockReads", spec := "blockReads", inPlace := ["internal/bytealg.Compare"], unfollowed := true, recurses := true, apart := false, narrowed := true }
def BlockReadsUptoSaid : Prop := blockReadsUptoRow.holds Try.pinned (OpenSpec.upto blockReadsSpec)

/-- 'lecternlaw20.BlockWalks', WHERE WHAT IT READS IS OF BULK AT MOST 1048576: true; the input reads as it did. -/
def blockWalksUptoRow : OpenClaim := { program := "ytjcifmbbdofjiaa", sum := "9c72d1de7d2ccce46d320e0245df198770ca2ad6932e8bd8fb38242d2835c04a", func := "lectern/lecternlaw20.BlockWalks", spec := "blockWalks", inPlace := ["internal/bytealg.Compare"], unfollowed := true, recurses := true, apart := false, narrowed := true }
def BlockWalksUptoSaid : Prop := blockWalksUptoRow.holds Try.pinned (OpenSpec.upto blockWalksSpec)

/-- 'lecternlaw20.BlockEach', WHERE WHAT IT READS IS OF BULK AT MOST 1048576: true; the input reads as it did. -/
def blockEachUptoRow : OpenClaim := { program := "ytjcifmbbdofjiaa", sum := "9c72d1de7d2ccce46d320e0245df198770ca2ad6932e8bd8fb38242d2835c04a", func := "lectern/lecternlaw20.BlockEach", spec := "blockEach", inPlace := ["internal/bytealg.Compare"], unfollowed := true, recurses := true, apart := false, narrowed := true }
def BlockEachUptoSaid : Prop := blockEachUptoRow.holds Try.pinned (OpenSpec.upto blockEachSpec)

/-- 'lecternlaw20.BlockNone', WHERE WHAT IT READS IS OF BULK AT MOST 1048576: true; the input reads as it did. -/
def blockNoneUptoRow : OpenClaim := { program := "ytjcifmbbdofjiaa", sum := "9c72d1de7d2ccce46d320e0245df198770ca2ad6932e8bd8fb38242d2835c04a", func := "lectern/lecternlaw20.BlockNone", spec := "blockNone", inPlace := ["internal/bytealg.Compare"], unfollowed := true, recurses := true, apart := false, narrowed := true }
def BlockNoneUptoSaid : Prop := blockNoneUptoRow.holds Try.pinned (OpenSpec.upto blockNoneSpec)

end Rows
end Go.Proofs.Ytjcifmbbdofjiaa
