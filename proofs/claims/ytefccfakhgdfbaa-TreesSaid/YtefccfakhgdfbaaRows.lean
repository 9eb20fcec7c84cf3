/-
  No cell of these rows narrows 'for every input' (looked for: loops, veiled, ifaces, maps, wideKeys, modest, calm, conditions, laid).
  DERIVED. THE GIVEN ROWS OF THIS SEAT. 4 by the template 'for every input the law returns true; each argument reads behind the call as it read before'; 0 by the template 'total and deterministic' (their statements: YtefccfakhgdfbaaTotals.lean).
  GIVEN WITH THE SEED: the statements are not yours to turn. If you find one false, say at which input.
  Laid BY PROGRAM, IN A SANDBOX (cutbox-rows.mjs): the forced cells as the released guide's own fill.sh prints them over the translation cbc9e4a8586bec39… (all of the seat's roots in one cut). By AI agents, Wed Nov 11 2026. No macro, syntax, notation, axiom, sorry.
-/
import Derived.Test.YtefccfakhgdfbaaChecked
import GoSem.Claim
import GoSem.ClaimJoined
import GoSem.ClaimMapViews
import Derived.JoinedTies
import Derived.KernelRfl
namespace Go.Proofs.Ytefccfakhgdfbaa
/- THE CELL 'sum', in the pinned program and in every row, IS THE sha256 OF THE DUMP (.gsa) THAT YtefccfakhgdfbaaProg.lean LOADS. Nothing in Lean hashes anything: it is a label: what it is worth is what the hold of that sum in a sandbox is worth. -/
noncomputable def Try.pinned : Pinned := { name := "ytefccfakhgdfbaa", sum := "cbc9e4a8586bec39bdd905e14794ad6d30467970ca176443c11268bda1640858", checked := Try.checked }
namespace Rows
def none {H : Type} : Left H := { results := [], args := [] }

/-- 'tileslaw.Bundles': WHATEVER THE INPUT: true; the input reads as it did. -/
def bundlesSpec : ChangeSpec := { name := "bundles", fn := fun _ => fun
  | [d1, d2] => { results := [.lit (.bool true)], args := [d1, d2] }
  | _ => none }
def bundlesRow : OpenClaim := { program := "ytefccfakhgdfbaa", sum := "cbc9e4a8586bec39bdd905e14794ad6d30467970ca176443c11268bda1640858", func := "tiles/tileslaw.Bundles", spec := "bundles", apart := false }
def BundlesSaid : Prop := bundlesRow.holds Try.pinned (OpenSpec.ofChange bundlesSpec)

/-- ITS FALSE NEIGHBOUR: 'it returns false'. Refute it at one input. -/
def bundlesWrong : ChangeSpec := { name := "bundles", fn := fun _ => fun
  | [d1, d2] => { results := [.lit (.bool false)], args := [d1, d2] }
  | _ => none }
def BundlesWrongFalsely : Prop := bundlesRow.holds Try.pinned (OpenSpec.ofChange bundlesWrong)

/-- 'tileslaw.Includes': WHATEVER THE INPUT: true; the input reads as it did. -/
def includesSpec : ChangeSpec := { name := "includes", fn := fun _ => fun
  | [d1, d2, d3, d4, d5] => { results := [.lit (.bool true)], args := [d1, d2, d3, d4, d5] }
  | _ => none }
def includesRow : OpenClaim := { program := "ytefccfakhgdfbaa", sum := "cbc9e4a8586bec39bdd905e14794ad6d30467970ca176443c11268bda1640858", func := "tiles/tileslaw.Includes", spec := "includes", recurses := true, apart := false }
def IncludesSaid : Prop := includesRow.holds Try.pinned (OpenSpec.ofChange includesSpec)

/-- ITS FALSE NEIGHBOUR: 'it returns false'. Refute it at one input. -/
def includesWrong : ChangeSpec := { name := "includes", fn := fun _ => fun
  | [d1, d2, d3, d4, d5] => { results := [.lit (.bool false)], args := [d1, d2, d3, d4, d5] }
  | _ => none }
def IncludesWrongFalsely : Prop := includesRow.holds Try.pinned (OpenSpec.ofChange includesWrong)

/-- 'tileslaw.Consists': WHATEVER THE INPUT: true; the input reads as it did. -/
def consistsSpec : ChangeSpec := { name := "consists", fn := fun _ => fun
  | [d1, d2, d3, d4, d5] => { results := [.lit (.bool true)], args := [d1, d2, d3, d4, d5] }
  | _ => none }
def consistsRow : OpenClaim := { program := "ytefccfakhgdfbaa", sum := "cbc9e4a8586bec39bdd905e14794ad6d30467970ca176443c11268bda1640858", func := "tiles/tileslaw.Consists", spec := "consists", recurses := true, apart := false }
def ConsistsSaid : Prop := consistsRow.holds Try.pinned (OpenSpec.ofChange consistsSpec)

/-- ITS FALSE NEIGHBOUR: 'it returns false'. Refute it at one input. -/
def consistsWrong : ChangeSpec := { name := "consists", fn := fun _ => fun
  | [d1, d2, d3, d4, d5] => { results := [.lit (.bool false)], args := [d1, d2, d3, d4, d5] }
  | _ => none }
def ConsistsWrongFalsely : Prop := consistsRow.holds Try.pinned (OpenSpec.ofChange consistsWrong)

/-- 'tileslaw.Trees': WHATEVER THE INPUT: true; the input reads as it did. -/
def treesSpec : ChangeSpec := { name := "trees", fn := fun _ => fun
  | [d] => { results := [.lit (.bool true)], args := [d] }
  | _ => none }
def treesRow : OpenClaim := { program := "ytefccfakhgdfbaa", sum := "cbc9e4a8586bec39bdd905e14794ad6d30467970ca176443c11268bda1640858", func := "tiles/tileslaw.Trees", spec := "trees", unfollowed := true, recurses := true, apart := false }
def TreesSaid : Prop := treesRow.holds Try.pinned (OpenSpec.ofChange treesSpec)

/-- ITS FALSE NEIGHBOUR: 'it returns false'. Refute it at one input. -/
def treesWrong : ChangeSpec := { name := "trees", fn := fun _ => fun
  | [d] => { results := [.lit (.bool false)], args := [d] }
  | _ => none }
def TreesWrongFalsely : Prop := treesRow.holds Try.pinned (OpenSpec.ofChange treesWrong)

/- THE SECOND FORM. 'bulk': how many values and letters a reading holds, each counted each time it is reached (what is shared counts as often as it is met; a slice's spare places count too). A statement '..UptoSaid' is the law's where the arguments, and the package variables that the reading takes, are together of bulk at most 1048576: NARROWER than '..Said'. Prove '..Said' where nothing that the law and all that it calls make is longer than what came in: it says more and counts as full. Else prove '..UptoSaid'. A law counts once. -/
mutual
def uptoBulk {H : Type} : DataW H → Nat
  | .lit (.string bytes) => bytes.length + 1
  | .lit _ => 1
  | .nil => 1
  | .ptr d => uptoBulk d + 1
  | .slice elems spare => uptoBulkAll elems + uptoBulkAll spare + 1
  | .agg parts => uptoBulkAll parts + 1
  | .iface _ d => uptoBulk d + 1
  | .map entries => uptoBulkEntries entries + 1
  | .held _ => 1
def uptoBulkAll {H : Type} : List (DataW H) → Nat
  | [] => 0
  | d :: r => uptoBulk d + uptoBulkAll r
def uptoBulkEntries {H : Type} : List (Lit × DataW H) → Nat
  | [] => 0
  | x :: r => uptoBulkEntry x + uptoBulkEntries r
def uptoBulkEntry {H : Type} : Lit × DataW H → Nat
  | (.string bytes, d) => bytes.length + uptoBulk d + 1
  | (_, d) => uptoBulk d + 1
 end
def uptoSmall : (H : Type) → List (DataW H) → Bool := fun _ ds => decide (uptoBulkAll ds ≤ 1048576)
def OpenSpec.upto (s : _root_.Go.ChangeSpec) : _root_.Go.OpenSpec := { _root_.Go.OpenSpec.ofChange s with cond := some uptoSmall }

/-- 'tileslaw.Bundles', WHERE WHAT IT READS IS OF BULK AT MOST 1048576: true; the input reads as it did. -/
def bundlesUptoRow : OpenClaim := { program := "ytefccfakhgdfbaa", sum := "cbc9e4a8586bec39bdd905e14794ad6d30467970ca176443c11268bda1640858", func := "tiles/tileslaw.Bundles", spec := "bundles", apart := false, narrowed := true }
def BundlesUptoSaid : Prop := bundlesUptoRow.holds Try.pinned (OpenSpec.upto bundlesSpec)

/-- 'tileslaw.Includes', WHERE WHAT IT READS IS OF BULK AT MOST 1048576: true; the input reads as it did. -/
def includesUptoRow : OpenClaim := { program := "ytefccfakhgdfbaa", sum := "cbc9e4a8586bec39bdd905e14794ad6d30467970ca176443c11268bda1640858", func := "tiles/tileslaw.Includes", spec := "includes", recurses := true, apart := false, narrowed := true }
def IncludesUptoSaid : Prop := includesUptoRow.holds Try.pinned (OpenSpec.upto includesSpec)

/-- 'tileslaw.Consists', WHERE WHAT IT READS IS OF BULK AT MOST 1048576: true; the input reads as it did. -/
def consistsUptoRow : OpenClaim := { program := "ytefccfakhgdfbaa", sum := "cbc9e4a8586bec39bdd905e14794ad6d30467970ca176443c11268bda1640858", func := "tiles/tileslaw.Consists", spec := "consists", recurses := true, apart := false, narrowed := true }
def ConsistsUptoSaid : Prop := consistsUptoRow.holds Try.pinned (OpenSpec.upto consistsSpec)

/-- 'tileslaw.Trees', WHERE WHAT IT READS IS OF BULK AT MOST 1048576: true; the input reads as it did. -/
def treesUptoRow : OpenClaim := { program := "ytefccfakhgdfbaa", sum := "cbc9e4a8586bec39bdd905e14794ad6d30467970ca176443c11268bda1640858", func := "tiles/tileslaw.Trees", spec := "trees", unfollowed := true, recurses := true, apart := false, narrowed := true }
def TreesUptoSaid : Prop := treesUptoRow.holds Try.pinned (OpenSpec.upto treesSpec)

end Rows
end Go.Proofs.Ytefccfakhgdfbaa
