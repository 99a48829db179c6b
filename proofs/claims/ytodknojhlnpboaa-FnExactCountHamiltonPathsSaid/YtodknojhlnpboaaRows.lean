/-
  No cell of these rows narrows 'for every input' (looked for: loops, veiled, ifaces, maps, wideKeys, modest, calm, conditions, laid).
  DERIVED. THE GIVEN ROWS OF THIS SEAT. 12 by the template 'for every input the law returns true; each argument reads behind the call as it read before'; 0 by the template 'total and deterministic' (their statements: YtodknojhlnpboaaTotals.lean).
  GIVEN WITH THE SEED: the statements are not yours to turn. If you find one false, say at which input.
  Laid BY PROGRAM, IN A SANDBOX (cutbox-rows.mjs): the forced cells as the released guide's own fill.sh prints them over the translation 34942c359b3b313a… (all of the seat's roots in one cut). By AI agents, Wed Nov 11 2026. No macro, syntax, notation, axiom, sorry.
-/
import Derived.Test.YtodknojhlnpboaaChecked
import GoSem.Claim
import GoSem.ClaimJoined
import GoSem.ClaimMapViews
import Derived.JoinedTies
import Derived.KernelRfl
namespace Go.Proofs.Ytodknojhlnpboaa
/- THE CELL 'sum', in the pinned program and in every row, IS THE sha256 OF THE DUMP (.gsa) THAT YtodknojhlnpboaaProg.lean LOADS. Nothing in Lean hashes anything: it is a label: what it is worth is what the hold of that sum in a sandbox is worth. -/
noncomputable def Try.pinned : Pinned := { name := "ytodknojhlnpboaa", sum := "34942c359b3b313ae7c66a9494418e1a513bd27cd6f8242c766b0ef6e7ac361e", checked := Try.checked }
namespace Rows
def none {H : Type} : Left H := { results := [], args := [] }

/-- 'laws.FnExactIsCliqueCover': WHATEVER THE INPUT: true; the input reads as it did. -/
def fnExactIsCliqueCoverSpec : ChangeSpec := { name := "fnExactIsCliqueCover", fn := fun _ => fun
  | [d1, d2] => { results := [.lit (.bool true)], args := [d1, d2] }
  | _ => none }
def fnExactIsCliqueCoverRow : OpenClaim := { program := "ytodknojhlnpboaa", sum := "34942c359b3b313ae7c66a9494418e1a513bd27cd6f8242c766b0ef6e7ac361e", func := "loop.example/g02081/laws.FnExactIsCliqueCover", spec := "fnExactIsCliqueCover", apart := false }
def FnExactIsCliqueCoverSaid : Prop := fnExactIsCliqueCoverRow.holds Try.pinned (OpenSpec.ofChange fnExactIsCliqueCoverSpec)

/-- ITS FALSE NEIGHBOUR: 'it returns false'. Refute it at one input. -/
def fnExactIsCliqueCoverWrong : ChangeSpec := { name := "fnExactIsCliqueCover", fn := fun _ => fun
  | [d1, d2] => { results := [.lit (.bool false)], args := [d1, d2] }
  | _ => none }
def FnExactIsCliqueCoverWrongFalsely : Prop := fnExactIsCliqueCoverRow.holds Try.pinned (OpenSpec.ofChange fnExactIsCliqueCoverWrong)

/-- 'laws.FnExactIsWay': WHATEVER THE INPUT: true; the input reads as it did. -/
def fnExactIsWaySpec : ChangeSpec := { name := "fnExactIsWay", fn := fun _ => fun
  | [d1, d2] => { results := [.lit (.bool true)], args := [d1, d2] }
  | _ => none }
def fnExactIsWayRow : OpenClaim := { program := "ytodknojhlnpboaa", sum := "34942c359b3b313ae7c66a9494418e1a513bd27cd6f8242c766b0ef6e7ac361e", func := "loop.example/g02081/laws.FnExactIsWay", spec := "fnExactIsWay", apart := false }
def FnExactIsWaySaid : Prop := fnExactIsWayRow.holds Try.pinned (OpenSpec.ofChange fnExactIsWaySpec)

/-- ITS FALSE NEIGHBOUR: 'it returns false'. Refute it at one input. -/
def fnExactIsWayWrong : ChangeSpec := { name := "fnExactIsWay", fn := fun _ => fun
  | [d1, d2] => { results := [.lit (.bool false)], args := [d1, d2] }
  | _ => none }
def FnExactIsWayWrongFalsely : Prop := fnExactIsWayRow.holds Try.pinned (OpenSpec.ofChange fnExactIsWayWrong)

/-- 'laws.FnExactIsSimple': WHATEVER THE INPUT: true; the input reads as it did. -/
def fnExactIsSimpleSpec : ChangeSpec := { name := "fnExactIsSimple", fn := fun _ => fun
  | [d1, d2, d3] => { results := [.lit (.bool true)], args := [d1, d2, d3] }
  | _ => none }
def fnExactIsSimpleRow : OpenClaim := { program := "ytodknojhlnpboaa", sum := "34942c359b3b313ae7c66a9494418e1a513bd27cd6f8242c766b0ef6e7ac361e", func := "loop.example/g02081/laws.FnExactIsSimple", spec := "fnExactIsSimple", apart := false }
def FnExactIsSimpleSaid : Prop := fnExactIsSimpleRow.holds Try.pinned (OpenSpec.ofChange fnExactIsSimpleSpec)

/-- ITS FALSE NEIGHBOUR: 'it returns false'. Refute it at one input. -/
def fnExactIsSimpleWrong : ChangeSpec := { name := "fnExactIsSimple", fn := fun _ => fun
  | [d1, d2, d3] => { results := [.lit (.bool false)], args := [d1, d2, d3] }
  | _ => none }
def FnExactIsSimpleWrongFalsely : Prop := fnExactIsSimpleRow.holds Try.pinned (OpenSpec.ofChange fnExactIsSimpleWrong)

/-- 'laws.FnExactCountColorings': WHATEVER THE INPUT: true; the input reads as it did. -/
def fnExactCountColoringsSpec : ChangeSpec := { name := "fnExactCountColorings", fn := fun _ => fun
  | [d1, d2] => { results := [.lit (.bool true)], args := [d1, d2] }
  | _ => none }
def fnExactCountColoringsRow : OpenClaim := { program := "ytodknojhlnpboaa", sum := "34942c359b3b313ae7c66a9494418e1a513bd27cd6f8242c766b0ef6e7ac361e", func := "loop.example/g02081/laws.FnExactCountColorings", spec := "fnExactCountColorings", unfollowed := true, recurses := true, apart := false }
def FnExactCountColoringsSaid : Prop := fnExactCountColoringsRow.holds Try.pinned (OpenSpec.ofChange fnExactCountColoringsSpec)

/-- ITS FALSE NEIGHBOUR: 'it returns false'. Refute it at one input. -/
def fnExactCountColoringsWrong : ChangeSpec := { name := "fnExactCountColorings", fn := fun _ => fun
  | [d1, d2] => { results := [.lit (.bool false)], args := [d1, d2] }
  | _ => none }
def FnExactCountColoringsWrongFalsely : Prop := fnExactCountColoringsRow.holds Try.pinned (OpenSpec.ofChange fnExactCountColoringsWrong)

/-- 'laws.FnExactIsSun': WHATEVER THE INPUT: true; the input reads as it did. -/
def fnExactIsSunSpec : ChangeSpec := { name := "fnExactIsSun", fn := fun _ => fun
  | [d1, d2] => { results := [.lit (.bool true)], args := [d1, d2] }
  | _ => none }
def fnExactIsSunRow : OpenClaim := { program := "ytodknojhlnpboaa", sum := "34942c359b3b313ae7c66a9494418e1a513bd27cd6f8242c766b0ef6e7ac361e", func := "loop.example/g02081/laws.FnExactIsSun", spec := "fnExactIsSun", unfollowed := true, recurses := true, apart := false }
def FnExactIsSunSaid : Prop := fnExactIsSunRow.holds Try.pinned (OpenSpec.ofChange fnExactIsSunSpec)

/-- ITS FALSE NEIGHBOUR: 'it returns false'. Refute it at one input. -/
def fnExactIsSunWrong : ChangeSpec := { name := "fnExactIsSun", fn := fun _ => fun
  | [d1, d2] => { results := [.lit (.bool false)], args := [d1, d2] }
  | _ => none }
def FnExactIsSunWrongFalsely : Prop := fnExactIsSunRow.holds Try.pinned (OpenSpec.ofChange fnExactIsSunWrong)

/-- 'laws.FnExactLargestPacking': WHATEVER THE INPUT: true; the input reads as it did. -/
def fnExactLargestPackingSpec : ChangeSpec := { name := "fnExactLargestPacking", fn := fun _ => fun
  | [d] => { results := [.lit (.bool true)], args := [d] }
  | _ => none }
def fnExactLargestPackingRow : OpenClaim := { program := "ytodknojhlnpboaa", sum := "34942c359b3b313ae7c66a9494418e1a513bd27cd6f8242c766b0ef6e7ac361e", func := "loop.example/g02081/laws.FnExactLargestPacking", spec := "fnExactLargestPacking", unfollowed := true, recurses := true, apart := false }
def FnExactLargestPackingSaid : Prop := fnExactLargestPackingRow.holds Try.pinned (OpenSpec.ofChange fnExactLargestPackingSpec)

/-- ITS FALSE NEIGHBOUR: 'it returns false'. Refute it at one input. -/
def fnExactLargestPackingWrong : ChangeSpec := { name := "fnExactLargestPacking", fn := fun _ => fun
  | [d] => { results := [.lit (.bool false)], args := [d] }
  | _ => none }
def FnExactLargestPackingWrongFalsely : Prop := fnExactLargestPackingRow.holds Try.pinned (OpenSpec.ofChange fnExactLargestPackingWrong)

/-- 'laws.FnExactFewestDominating': WHATEVER THE INPUT: true; the input reads as it did. -/
def fnExactFewestDominatingSpec : ChangeSpec := { name := "fnExactFewestDominating", fn := fun _ => fun
  | [d] => { results := [.lit (.bool true)], args := [d] }
  | _ => none }
def fnExactFewestDominatingRow : OpenClaim := { program := "ytodknojhlnpboaa", sum := "34942c359b3b313ae7c66a9494418e1a513bd27cd6f8242c766b0ef6e7ac361e", func := "loop.example/g02081/laws.FnExactFewestDominating", spec := "fnExactFewestDominating", unfollowed := true, recurses := true, apart := false }
def FnExactFewestDominatingSaid : Prop := fnExactFewestDominatingRow.holds Try.pinned (OpenSpec.ofChange fnExactFewestDominatingSpec)

/-- ITS FALSE NEIGHBOUR: 'it returns false'. Refute it at one input. -/
def fnExactFewestDominatingWrong : ChangeSpec := { name := "fnExactFewestDominating", fn := fun _ => fun
  | [d] => { results := [.lit (.bool false)], args := [d] }
  | _ => none }
def FnExactFewestDominatingWrongFalsely : Prop := fnExactFewestDominatingRow.holds Try.pinned (OpenSpec.ofChange fnExactFewestDominatingWrong)

/-- 'laws.FnExactChromaticNumber': WHATEVER THE INPUT: true; the input reads as it did. -/
def fnExactChromaticNumberSpec : ChangeSpec := { name := "fnExactChromaticNumber", fn := fun _ => fun
  | [d] => { results := [.lit (.bool true)], args := [d] }
  | _ => none }
def fnExactChromaticNumberRow : OpenClaim := { program := "ytodknojhlnpboaa", sum := "34942c359b3b313ae7c66a9494418e1a513bd27cd6f8242c766b0ef6e7ac361e", func := "loop.example/g02081/laws.FnExactChromaticNumber", spec := "fnExactChromaticNumber", unfollowed := true, recurses := true, apart := false }
def FnExactChromaticNumberSaid : Prop := fnExactChromaticNumberRow.holds Try.pinned (OpenSpec.ofChange fnExactChromaticNumberSpec)

/-- ITS FALSE NEIGHBOUR: 'it returns false'. Refute it at one input. -/
def fnExactChromaticNumberWrong : ChangeSpec := { name := "fnExactChromaticNumber", fn := fun _ => fun
  | [d] => { results := [.lit (.bool false)], args := [d] }
  | _ => none }
def FnExactChromaticNumberWrongFalsely : Prop := fnExactChromaticNumberRow.holds Try.pinned (OpenSpec.ofChange fnExactChromaticNumberWrong)

/-- 'laws.FnExactColoringWith': WHATEVER THE INPUT: true; the input reads as it did. -/
def fnExactColoringWithSpec : ChangeSpec := { name := "fnExactColoringWith", fn := fun _ => fun
  | [d1, d2] => { results := [.lit (.bool true)], args := [d1, d2] }
  | _ => none }
def fnExactColoringWithRow : OpenClaim := { program := "ytodknojhlnpboaa", sum := "34942c359b3b313ae7c66a9494418e1a513bd27cd6f8242c766b0ef6e7ac361e", func := "loop.example/g02081/laws.FnExactColoringWith", spec := "fnExactColoringWith", unfollowed := true, recurses := true, apart := false }
def FnExactColoringWithSaid : Prop := fnExactColoringWithRow.holds Try.pinned (OpenSpec.ofChange fnExactColoringWithSpec)

/-- ITS FALSE NEIGHBOUR: 'it returns false'. Refute it at one input. -/
def fnExactColoringWithWrong : ChangeSpec := { name := "fnExactColoringWith", fn := fun _ => fun
  | [d1, d2] => { results := [.lit (.bool false)], args := [d1, d2] }
  | _ => none }
def FnExactColoringWithWrongFalsely : Prop := fnExactColoringWithRow.holds Try.pinned (OpenSpec.ofChange fnExactColoringWithWrong)

/-- 'laws.FnExactCutArcs': WHATEVER THE INPUT: true; the input reads as it did. -/
def fnExactCutArcsSpec : ChangeSpec := { name := "fnExactCutArcs", fn := fun _ => fun
  | [d1, d2] => { results := [.lit (.bool true)], args := [d1, d2] }
  | _ => none }
def fnExactCutArcsRow : OpenClaim := { program := "ytodknojhlnpboaa", sum := "34942c359b3b313ae7c66a9494418e1a513bd27cd6f8242c766b0ef6e7ac361e", func := "loop.example/g02081/laws.FnExactCutArcs", spec := "fnExactCutArcs", apart := false }
def FnExactCutArcsSaid : Prop := fnExactCutArcsRow.holds Try.pinned (OpenSpec.ofChange fnExactCutArcsSpec)

/-- ITS FALSE NEIGHBOUR: 'it returns false'. Refute it at one input. -/
def fnExactCutArcsWrong : ChangeSpec := { name := "fnExactCutArcs", fn := fun _ => fun
  | [d1, d2] => { results := [.lit (.bool false)], args := [d1, d2] }
  | _ => none }
def FnExactCutArcsWrongFalsely : Prop := fnExactCutArcsRow.holds Try.pinned (OpenSpec.ofChange fnExactCutArcsWrong)

/-- 'laws.FnExactCutOf': WHATEVER THE INPUT: true; the input reads as it did. -/
def fnExactCutOfSpec : ChangeSpec := { name := "fnExactCutOf", fn := fun _ => fun
  | [d1, d2] => { results := [.lit (.bool true)], args := [d1, d2] }
  | _ => none }
def fnExactCutOfRow : OpenClaim := { program := "ytodknojhlnpboaa", sum := "34942c359b3b313ae7c66a9494418e1a513bd27cd6f8242c766b0ef6e7ac361e", func := "loop.example/g02081/laws.FnExactCutOf", spec := "fnExactCutOf", apart := false }
def FnExactCutOfSaid : Prop := fnExactCutOfRow.holds Try.pinned (OpenSpec.ofChange fnExactCutOfSpec)

/-- ITS FALSE NEIGHBOUR: 'it returns false'. Refute it at one input. -/
def fnExactCutOfWrong : ChangeSpec := { name := "fnExactCutOf", fn := fun _ => fun
  | [d1, d2] => { results := [.lit (.bool false)], args := [d1, d2] }
  | _ => none }
def FnExactCutOfWrongFalsely : Prop := fnExactCutOfRow.holds Try.pinned (OpenSpec.ofChange fnExactCutOfWrong)

/-- 'laws.FnExactCountHamiltonPaths': WHATEVER THE INPUT: true; the input reads as it did. -/
def fnExactCountHamiltonPathsSpec : ChangeSpec := { name := "fnExactCountHamiltonPaths", fn := fun _ => fun
  | [d] => { results := [.lit (.bool true)], args := [d] }
  | _ => none }
def fnExactCountHamiltonPathsRow : OpenClaim := { program := "ytodknojhlnpboaa", sum := "34942c359b3b313ae7c66a9494418e1a513bd27cd6f8242c766b0ef6e7ac361e", func := "loop.example/g02081/laws.FnExactCountHamiltonPaths", spec := "fnExactCountHamiltonPaths", unfollowed := true, recurses := true, apart := false }
def FnExactCountHamiltonPathsSaid : Prop := fnExactCountHamiltonPathsRow.holds Try.pinned (OpenSpec.ofChange fnExactCountHamiltonPathsSpec)

/-- ITS FALSE NEIGHBOUR: 'it returns false'. Refute it at one input. -/
def fnExactCountHamiltonPathsWrong : ChangeSpec := { name := "fnExactCountHamiltonPaths", fn := fun _ => fun
  | [d] => { results := [.lit (.bool false)], args := [d] }
  | _ => none }
def FnExactCountHamiltonPathsWrongFalsely : Prop := fnExactCountHamiltonPathsRow.holds Try.pinned (OpenSpec.ofChange fnExactCountHamiltonPathsWrong)

/- THE SECOND FORM. 'bulk': how many values and letters a reading holds, each counted each time it is reached (what is shared counts as often as it is met; a slice's spare places count too). A statement '..UptoSaid' is the law's where the arguments, and the package variables that the reading takes, are together of bulk at most 1048576: NARROWER than '..Said'. Prove '..Said' where nothing that the law and all that it calls make is longer than what came in: it says more and counts as full. Else prove '..UptoSaid'. A law counts once. -/
mutual
def uptoBulk {H : Type} : DataW H → Nat
  | .lit (.string bytes) => bytes.length + 1
  | .lit _ => 1
  | .nil => 1
  | .ptr d => uptoBulk d + 1
  | .slice elems spare => uptoBulkAll elems + uptoBulkAll spare + 1
  | .agg parts => uptoBulkAll parts + 1
  | .iface _ d => uptoBulk d + 1
  | .map entries => uptoBulkEntries entries + 1
  | .held _ => 1
def uptoBulkAll {H : Type} : List (DataW H) → Nat
  | [] => 0
  | d :: r => uptoBulk d + uptoBulkAll r
def uptoBulkEntries {H : Type} : List (Lit × DataW H) → Nat
  | [] => 0
  | x :: r => uptoBulkEntry x + uptoBulkEntries r
def uptoBulkEntry {H : Type} : Lit × DataW H → Nat
  | (.string bytes, d) => bytes.length + uptoBulk d + 1
  | (_, d) => uptoBulk d + 1
 end
def uptoSmall : (H : Type) → List (DataW H) → Bool := fun _ ds => decide (uptoBulkAll ds ≤ 1048576)
def OpenSpec.upto (s : _root_.Go.ChangeSpec) : _root_.Go.OpenSpec := { _root_.Go.OpenSpec.ofChange s with cond := some uptoSmall }

/-- 'laws.FnExactIsCliqueCover', WHERE WHAT IT READS IS OF BULK AT MOST 1048576: true; the input reads as it did. -/
def fnExactIsCliqueCoverUptoRow : OpenClaim := { program := "ytodknojhlnpboaa", sum := "34942c359b3b313ae7c66a9494418e1a513bd27cd6f8242c766b0ef6e7ac361e", func := "loop.example/g02081/laws.FnExactIsCliqueCover", spec := "fnExactIsCliqueCover", apart := false, narrowed := true }
def FnExactIsCliqueCoverUptoSaid : Prop := fnExactIsCliqueCoverUptoRow.holds Try.pinned (OpenSpec.upto fnExactIsCliqueCoverSpec)

/-- 'laws.FnExactIsWay', WHERE WHAT IT READS IS OF BULK AT MOST 1048576: true; the input reads as it did. -/
def fnExactIsWayUptoRow : OpenClaim := { program := "ytodknojhlnpboaa", sum := "34942c359b3b313ae7c66a9494418e1a513bd27cd6f8242c766b0ef6e7ac361e", func := "loop.example/g02081/laws.FnExactIsWay", spec := "fnExactIsWay", apart := false, narrowed := true }
def FnExactIsWayUptoSaid : Prop := fnExactIsWayUptoRow.holds Try.pinned (OpenSpec.upto fnExactIsWaySpec)

/-- 'laws.FnExactIsSimple', WHERE WHAT IT READS IS OF BULK AT MOST 1048576: true; the input reads as it did. -/
def fnExactIsSimpleUptoRow : OpenClaim := { program := "ytodknojhlnpboaa", sum := "34942c359b3b313ae7c66a9494418e1a513bd27cd6f8242c766b0ef6e7ac361e", func := "loop.example/g02081/laws.FnExactIsSimple", spec := "fnExactIsSimple", apart := false, narrowed := true }
def FnExactIsSimpleUptoSaid : Prop := fnExactIsSimpleUptoRow.holds Try.pinned (OpenSpec.upto fnExactIsSimpleSpec)

/-- 'laws.FnExactCountColorings', WHERE WHAT IT READS IS OF BULK AT MOST 1048576: true; the input reads as it did. -/
def fnExactCountColoringsUptoRow : OpenClaim := { program := "ytodknojhlnpboaa", sum := "34942c359b3b313ae7c66a9494418e1a513bd27cd6f8242c766b0ef6e7ac361e", func := "loop.example/g02081/laws.FnExactCountColorings", spec := "fnExactCountColorings", unfollowed := true, recurses := true, apart := false, narrowed := true }
def FnExactCountColoringsUptoSaid : Prop := fnExactCountColoringsUptoRow.holds Try.pinned (OpenSpec.upto fnExactCountColoringsSpec)

/-- 'laws.FnExactIsSun', WHERE WHAT IT READS IS OF BULK AT MOST 1048576: true; the input reads as it did. -/
def fnExactIsSunUptoRow : OpenClaim := { program := "ytodknojhlnpboaa", sum := "34942c359b3b313ae7c66a9494418e1a513bd27cd6f8242c766b0ef6e7ac361e", func := "loop.example/g02081/laws.FnExactIsSun", spec := "fnExactIsSun", unfollowed := true, recurses := true, apart := false, narrowed := true }
def FnExactIsSunUptoSaid : Prop := fnExactIsSunUptoRow.holds Try.pinned (OpenSpec.upto fnExactIsSunSpec)

/-- 'laws.FnExactLargestPacking', WHERE WHAT IT READS IS OF BULK AT MOST 1048576: true; the input reads as it did. -/
def fnExactLargestPackingUptoRow : OpenClaim := { program := "ytodknojhlnpboaa", sum := "34942c359b3b313ae7c66a9494418e1a513bd27cd6f8242c766b0ef6e7ac361e", func := "loop.example/g02081/laws.FnExactLargestPacking", spec := "fnExactLargestPacking", unfollowed := true, recurses := true, apart := false, narrowed := true }
def FnExactLargestPackingUptoSaid : Prop := fnExactLargestPackingUptoRow.holds Try.pinned (OpenSpec.upto fnExactLargestPackingSpec)

/-- 'laws.FnExactFewestDominating', WHERE WHAT IT READS IS OF BULK AT MOST 1048576: true; the input reads as it did. -/
def fnExactFewestDominatingUptoRow : OpenClaim := { program := "ytodknojhlnpboaa", sum := "34942c359b3b313ae7c66a9494418e1a513bd27cd6f8242c766b0ef6e7ac361e", func := "loop.example/g02081/laws.FnExactFewestDominating", spec := "fnExactFewestDominating", unfollowed := true, recurses := true, apart := false, narrowed := true }
def FnExactFewestDominatingUptoSaid : Prop := fnExactFewestDominatingUptoRow.holds Try.pinned (OpenSpec.upto fnExactFewestDominatingSpec)

/-- 'laws.FnExactChromaticNumber', WHERE WHAT IT READS IS OF BULK AT MOST 1048576: true; the input reads as it did. -/
def fnExactChromaticNumberUptoRow : OpenClaim := { program := "ytodknojhlnpboaa", sum := "34942c359b3b313ae7c66a9494418e1a513bd27cd6f8242c766b0ef6e7ac361e", func := "loop.example/g02081/laws.FnExactChromaticNumber", spec := "fnExactChromaticNumber", unfollowed := true, recurses := true, apart := false, narrowed := true }
def FnExactChromaticNumberUptoSaid : Prop := fnExactChromaticNumberUptoRow.holds Try.pinned (OpenSpec.upto fnExactChromaticNumberSpec)

/-- 'laws.FnExactColoringWith', WHERE WHAT IT READS IS OF BULK AT MOST 1048576: true; the input reads as it did. -/
def fnExactColoringWithUptoRow : OpenClaim := { program := "ytodknojhlnpboaa", sum := "34942c359b3b313ae7c66a9494418e1a513bd27cd6f8242c766b0ef6e7ac361e", func := "loop.example/g02081/laws.FnExactColoringWith", spec := "fnExactColoringWith", unfollowed := true, recurses := true, apart := false, narrowed := true }
def FnExactColoringWithUptoSaid : Prop := fnExactColoringWithUptoRow.holds Try.pinned (OpenSpec.upto fnExactColoringWithSpec)

/-- 'laws.FnExactCutArcs', WHERE WHAT IT READS IS OF BULK AT MOST 1048576: true; the input reads as it did. -/
def fnExactCutArcsUptoRow : OpenClaim := { program := "ytodknojhlnpboaa", sum := "34942c359b3b313ae7c66a9494418e1a513bd27cd6f8242c766b0ef6e7ac361e", func := "loop.example/g02081/laws.FnExactCutArcs", spec := "fnExactCutArcs", apart := false, narrowed := true }
def FnExactCutArcsUptoSaid : Prop := fnExactCutArcsUptoRow.holds Try.pinned (OpenSpec.upto fnExactCutArcsSpec)

/-- 'laws.FnExactCutOf', WHERE WHAT IT READS IS OF BULK AT MOST 1048576: true; the input reads as it did. -/
def fnExactCutOfUptoRow : OpenClaim := { program := "ytodknojhlnpboaa", sum := "34942c359b3b313ae7c66a9494418e1a513bd27cd6f8242c766b0ef6e7ac361e", func := "loop.example/g02081/laws.FnExactCutOf", spec := "fnExactCutOf", apart := false, narrowed := true }
def FnExactCutOfUptoSaid : Prop := fnExactCutOfUptoRow.holds Try.pinned (OpenSpec.upto fnExactCutOfSpec)

/-- 'laws.FnExactCountHamiltonPaths', WHERE WHAT IT READS IS OF BULK AT MOST 1048576: true; the input reads as it did. -/
def fnExactCountHamiltonPathsUptoRow : OpenClaim := { program := "ytodknojhlnpboaa", sum := "34942c359b3b313ae7c66a9494418e1a513bd27cd6f8242c766b0ef6e7ac361e", func := "loop.example/g02081/laws.FnExactCountHamiltonPaths", spec := "fnExactCountHamiltonPaths", unfollowed := true, recurses := true, apart := false, narrowed := true }
def FnExactCountHamiltonPathsUptoSaid : Prop := fnExactCountHamiltonPathsUptoRow.holds Try.pinned (OpenSpec.upto fnExactCountHamiltonPathsSpec)

end Rows
end Go.Proofs.Ytodknojhlnpboaa
