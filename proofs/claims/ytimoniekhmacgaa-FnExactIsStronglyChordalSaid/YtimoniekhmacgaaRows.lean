/-
  No cell of these rows narrows 'for every input' (looked for: loops, veiled, ifaces, maps, wideKeys, modest, calm, conditions, laid).
  DERIVED. THE GIVEN ROWS OF THIS SEAT. 12 by the template 'for every input the law returns true; each argument reads behind the call as it read before'; 0 by the template 'total and deterministic' (their statements: YtimoniekhmacgaaTotals.lean).
  GIVEN WITH THE SEED: the statements are not yours to turn. If you find one false, say at which input.
  Laid BY PROGRAM, IN A SANDBOX (cutbox-rows.mjs): the forced cells as the released guide's own fill.sh prints them over the translation 27f6908aa2f2a531… (all of the seat's roots in one cut). By AI agents, Wed Nov 11 2026. No macro, syntax, notation, axiom, sorry.
-/
import Derived.Test.YtimoniekhmacgaaChecked
import GoSem.Claim
import GoSem.ClaimJoined
import GoSem.ClaimMapViews
import Derived.JoinedTies
import Derived.KernelRfl
namespace Go.Proofs.Ytimoniekhmacgaa
/- THE CELL 'sum', in the pinned program and in every row, IS THE sha256 OF THE DUMP (.gsa) THAT YtimoniekhmacgaaProg.lean LOADS. Nothing in Lean hashes anything: it is a label: what it is worth is what the hold of that sum in a sandbox is worth. -/
noncomputable def Try.pinned : Pinned := { name := "ytimoniekhmacgaa", sum := "27f6908aa2f2a531cdf9299b7d6d07fa65972d695d3e24e2f05b98035151b75b", checked := Try.checked }
namespace Rows
def none {H : Type} : Left H := { results := [], args := [] }

/-- 'laws.FnExactIsPerfectObstacle': WHATEVER THE INPUT: true; the input reads as it did. -/
def fnExactIsPerfectObstacleSpec : ChangeSpec := { name := "fnExactIsPerfectObstacle", fn := fun _ => fun
  | [d1, d2] => { results := [.lit (.bool true)], args := [d1, d2] }
  | _ => none }
def fnExactIsPerfectObstacleRow : OpenClaim := { program := "ytimoniekhmacgaa", sum := "27f6908aa2f2a531cdf9299b7d6d07fa65972d695d3e24e2f05b98035151b75b", func := "loop.example/g02081/laws.FnExactIsPerfectObstacle", spec := "fnExactIsPerfectObstacle", unfollowed := true, recurses := true, apart := false }
def FnExactIsPerfectObstacleSaid : Prop := fnExactIsPerfectObstacleRow.holds Try.pinned (OpenSpec.ofChange fnExactIsPerfectObstacleSpec)

/-- ITS FALSE NEIGHBOUR: 'it returns false'. Refute it at one input. -/
def fnExactIsPerfectObstacleWrong : ChangeSpec := { name := "fnExactIsPerfectObstacle", fn := fun _ => fun
  | [d1, d2] => { results := [.lit (.bool false)], args := [d1, d2] }
  | _ => none }
def FnExactIsPerfectObstacleWrongFalsely : Prop := fnExactIsPerfectObstacleRow.holds Try.pinned (OpenSpec.ofChange fnExactIsPerfectObstacleWrong)

/-- 'laws.FnExactCutVertices': WHATEVER THE INPUT: true; the input reads as it did. -/
def fnExactCutVerticesSpec : ChangeSpec := { name := "fnExactCutVertices", fn := fun _ => fun
  | [d] => { results := [.lit (.bool true)], args := [d] }
  | _ => none }
def fnExactCutVerticesRow : OpenClaim := { program := "ytimoniekhmacgaa", sum := "27f6908aa2f2a531cdf9299b7d6d07fa65972d695d3e24e2f05b98035151b75b", func := "loop.example/g02081/laws.FnExactCutVertices", spec := "fnExactCutVertices", apart := false }
def FnExactCutVerticesSaid : Prop := fnExactCutVerticesRow.holds Try.pinned (OpenSpec.ofChange fnExactCutVerticesSpec)

/-- ITS FALSE NEIGHBOUR: 'it returns false'. Refute it at one input. -/
def fnExactCutVerticesWrong : ChangeSpec := { name := "fnExactCutVertices", fn := fun _ => fun
  | [d] => { results := [.lit (.bool false)], args := [d] }
  | _ => none }
def FnExactCutVerticesWrongFalsely : Prop := fnExactCutVerticesRow.holds Try.pinned (OpenSpec.ofChange fnExactCutVerticesWrong)

/-- 'laws.FnExactGraphOfArcs': WHATEVER THE INPUT: true; the input reads as it did. -/
def fnExactGraphOfArcsSpec : ChangeSpec := { name := "fnExactGraphOfArcs", fn := fun _ => fun
  | [d] => { results := [.lit (.bool true)], args := [d] }
  | _ => none }
def fnExactGraphOfArcsRow : OpenClaim := { program := "ytimoniekhmacgaa", sum := "27f6908aa2f2a531cdf9299b7d6d07fa65972d695d3e24e2f05b98035151b75b", func := "loop.example/g02081/laws.FnExactGraphOfArcs", spec := "fnExactGraphOfArcs", unfollowed := true, recurses := true, apart := false }
def FnExactGraphOfArcsSaid : Prop := fnExactGraphOfArcsRow.holds Try.pinned (OpenSpec.ofChange fnExactGraphOfArcsSpec)

/-- ITS FALSE NEIGHBOUR: 'it returns false'. Refute it at one input. -/
def fnExactGraphOfArcsWrong : ChangeSpec := { name := "fnExactGraphOfArcs", fn := fun _ => fun
  | [d] => { results := [.lit (.bool false)], args := [d] }
  | _ => none }
def FnExactGraphOfArcsWrongFalsely : Prop := fnExactGraphOfArcsRow.holds Try.pinned (OpenSpec.ofChange fnExactGraphOfArcsWrong)

/-- 'laws.FnExactIsStronglyChordal': WHATEVER THE INPUT: true; the input reads as it did. -/
def fnExactIsStronglyChordalSpec : ChangeSpec := { name := "fnExactIsStronglyChordal", fn := fun _ => fun
  | [d] => { results := [.lit (.bool true)], args := [d] }
  | _ => none }
def fnExactIsStronglyChordalRow : OpenClaim := { program := "ytimoniekhmacgaa", sum := "27f6908aa2f2a531cdf9299b7d6d07fa65972d695d3e24e2f05b98035151b75b", func := "loop.example/g02081/laws.FnExactIsStronglyChordal", spec := "fnExactIsStronglyChordal", unfollowed := true, recurses := true, apart := false }
def FnExactIsStronglyChordalSaid : Prop := fnExactIsStronglyChordalRow.holds Try.pinned (OpenSpec.ofChange fnExactIsStronglyChordalSpec)

/-- ITS FALSE NEIGHBOUR: 'it returns false'. Refute it at one input. -/
def fnExactIsStronglyChordalWrong : ChangeSpec := { name := "fnExactIsStronglyChordal", fn := fun _ => fun
  | [d] => { results := [.lit (.bool false)], args := [d] }
  | _ => none }
def FnExactIsStronglyChordalWrongFalsely : Prop := fnExactIsStronglyChordalRow.holds Try.pinned (OpenSpec.ofChange fnExactIsStronglyChordalWrong)

/-- 'laws.FnExactIsHereditary': WHATEVER THE INPUT: true; the input reads as it did. -/
def fnExactIsHereditarySpec : ChangeSpec := { name := "fnExactIsHereditary", fn := fun _ => fun
  | [d] => { results := [.lit (.bool true)], args := [d] }
  | _ => none }
def fnExactIsHereditaryRow : OpenClaim := { program := "ytimoniekhmacgaa", sum := "27f6908aa2f2a531cdf9299b7d6d07fa65972d695d3e24e2f05b98035151b75b", func := "loop.example/g02081/laws.FnExactIsHereditary", spec := "fnExactIsHereditary", apart := false }
def FnExactIsHereditarySaid : Prop := fnExactIsHereditaryRow.holds Try.pinned (OpenSpec.ofChange fnExactIsHereditarySpec)

/-- ITS FALSE NEIGHBOUR: 'it returns false'. Refute it at one input. -/
def fnExactIsHereditaryWrong : ChangeSpec := { name := "fnExactIsHereditary", fn := fun _ => fun
  | [d] => { results := [.lit (.bool false)], args := [d] }
  | _ => none }
def FnExactIsHereditaryWrongFalsely : Prop := fnExactIsHereditaryRow.holds Try.pinned (OpenSpec.ofChange fnExactIsHereditaryWrong)

/-- 'laws.FnExactSimpleOrder': WHATEVER THE INPUT: true; the input reads as it did. -/
def fnExactSimpleOrderSpec : ChangeSpec := { name := "fnExactSimpleOrder", fn := fun _ => fun
  | [d] => { results := [.lit (.bool true)], args := [d] }
  | _ => none }
def fnExactSimpleOrderRow : OpenClaim := { program := "ytimoniekhmacgaa", sum := "27f6908aa2f2a531cdf9299b7d6d07fa65972d695d3e24e2f05b98035151b75b", func := "loop.example/g02081/laws.FnExactSimpleOrder", spec := "fnExactSimpleOrder", unfollowed := true, recurses := true, apart := false }
def FnExactSimpleOrderSaid : Prop := fnExactSimpleOrderRow.holds Try.pinned (OpenSpec.ofChange fnExactSimpleOrderSpec)

/-- ITS FALSE NEIGHBOUR: 'it returns false'. Refute it at one input. -/
def fnExactSimpleOrderWrong : ChangeSpec := { name := "fnExactSimpleOrder", fn := fun _ => fun
  | [d] => { results := [.lit (.bool false)], args := [d] }
  | _ => none }
def FnExactSimpleOrderWrongFalsely : Prop := fnExactSimpleOrderRow.holds Try.pinned (OpenSpec.ofChange fnExactSimpleOrderWrong)

/-- 'laws.FnExactPathwidthOf': WHATEVER THE INPUT: true; the input reads as it did. -/
def fnExactPathwidthOfSpec : ChangeSpec := { name := "fnExactPathwidthOf", fn := fun _ => fun
  | [d] => { results := [.lit (.bool true)], args := [d] }
  | _ => none }
def fnExactPathwidthOfRow : OpenClaim := { program := "ytimoniekhmacgaa", sum := "27f6908aa2f2a531cdf9299b7d6d07fa65972d695d3e24e2f05b98035151b75b", func := "loop.example/g02081/laws.FnExactPathwidthOf", spec := "fnExactPathwidthOf", unfollowed := true, recurses := true, apart := false }
def FnExactPathwidthOfSaid : Prop := fnExactPathwidthOfRow.holds Try.pinned (OpenSpec.ofChange fnExactPathwidthOfSpec)

/-- ITS FALSE NEIGHBOUR: 'it returns false'. Refute it at one input. -/
def fnExactPathwidthOfWrong : ChangeSpec := { name := "fnExactPathwidthOf", fn := fun _ => fun
  | [d] => { results := [.lit (.bool false)], args := [d] }
  | _ => none }
def FnExactPathwidthOfWrongFalsely : Prop := fnExactPathwidthOfRow.holds Try.pinned (OpenSpec.ofChange fnExactPathwidthOfWrong)

/-- 'laws.FnExactDominationGap': WHATEVER THE INPUT: true; the input reads as it did. -/
def fnExactDominationGapSpec : ChangeSpec := { name := "fnExactDominationGap", fn := fun _ => fun
  | [d] => { results := [.lit (.bool true)], args := [d] }
  | _ => none }
def fnExactDominationGapRow : OpenClaim := { program := "ytimoniekhmacgaa", sum := "27f6908aa2f2a531cdf9299b7d6d07fa65972d695d3e24e2f05b98035151b75b", func := "loop.example/g02081/laws.FnExactDominationGap", spec := "fnExactDominationGap", unfollowed := true, recurses := true, apart := false }
def FnExactDominationGapSaid : Prop := fnExactDominationGapRow.holds Try.pinned (OpenSpec.ofChange fnExactDominationGapSpec)

/-- ITS FALSE NEIGHBOUR: 'it returns false'. Refute it at one input. -/
def fnExactDominationGapWrong : ChangeSpec := { name := "fnExactDominationGap", fn := fun _ => fun
  | [d] => { results := [.lit (.bool false)], args := [d] }
  | _ => none }
def FnExactDominationGapWrongFalsely : Prop := fnExactDominationGapRow.holds Try.pinned (OpenSpec.ofChange fnExactDominationGapWrong)

/-- 'laws.FnExactBestBand': WHATEVER THE INPUT: true; the input reads as it did. -/
def fnExactBestBandSpec : ChangeSpec := { name := "fnExactBestBand", fn := fun _ => fun
  | [d] => { results := [.lit (.bool true)], args := [d] }
  | _ => none }
def fnExactBestBandRow : OpenClaim := { program := "ytimoniekhmacgaa", sum := "27f6908aa2f2a531cdf9299b7d6d07fa65972d695d3e24e2f05b98035151b75b", func := "loop.example/g02081/laws.FnExactBestBand", spec := "fnExactBestBand", unfollowed := true, recurses := true, apart := false }
def FnExactBestBandSaid : Prop := fnExactBestBandRow.holds Try.pinned (OpenSpec.ofChange fnExactBestBandSpec)

/-- ITS FALSE NEIGHBOUR: 'it returns false'. Refute it at one input. -/
def fnExactBestBandWrong : ChangeSpec := { name := "fnExactBestBand", fn := fun _ => fun
  | [d] => { results := [.lit (.bool false)], args := [d] }
  | _ => none }
def FnExactBestBandWrongFalsely : Prop := fnExactBestBandRow.holds Try.pinned (OpenSpec.ofChange fnExactBestBandWrong)

/-- 'laws.FnExactFindOddCycle': WHATEVER THE INPUT: true; the input reads as it did. -/
def fnExactFindOddCycleSpec : ChangeSpec := { name := "fnExactFindOddCycle", fn := fun _ => fun
  | [d] => { results := [.lit (.bool true)], args := [d] }
  | _ => none }
def fnExactFindOddCycleRow : OpenClaim := { program := "ytimoniekhmacgaa", sum := "27f6908aa2f2a531cdf9299b7d6d07fa65972d695d3e24e2f05b98035151b75b", func := "loop.example/g02081/laws.FnExactFindOddCycle", spec := "fnExactFindOddCycle", unfollowed := true, recurses := true, apart := false }
def FnExactFindOddCycleSaid : Prop := fnExactFindOddCycleRow.holds Try.pinned (OpenSpec.ofChange fnExactFindOddCycleSpec)

/-- ITS FALSE NEIGHBOUR: 'it returns false'. Refute it at one input. -/
def fnExactFindOddCycleWrong : ChangeSpec := { name := "fnExactFindOddCycle", fn := fun _ => fun
  | [d] => { results := [.lit (.bool false)], args := [d] }
  | _ => none }
def FnExactFindOddCycleWrongFalsely : Prop := fnExactFindOddCycleRow.holds Try.pinned (OpenSpec.ofChange fnExactFindOddCycleWrong)

/-- 'laws.FnExactIsCritical': WHATEVER THE INPUT: true; the input reads as it did. -/
def fnExactIsCriticalSpec : ChangeSpec := { name := "fnExactIsCritical", fn := fun _ => fun
  | [d1, d2] => { results := [.lit (.bool true)], args := [d1, d2] }
  | _ => none }
def fnExactIsCriticalRow : OpenClaim := { program := "ytimoniekhmacgaa", sum := "27f6908aa2f2a531cdf9299b7d6d07fa65972d695d3e24e2f05b98035151b75b", func := "loop.example/g02081/laws.FnExactIsCritical", spec := "fnExactIsCritical", unfollowed := true, recurses := true, apart := false }
def FnExactIsCriticalSaid : Prop := fnExactIsCriticalRow.holds Try.pinned (OpenSpec.ofChange fnExactIsCriticalSpec)

/-- ITS FALSE NEIGHBOUR: 'it returns false'. Refute it at one input. -/
def fnExactIsCriticalWrong : ChangeSpec := { name := "fnExactIsCritical", fn := fun _ => fun
  | [d1, d2] => { results := [.lit (.bool false)], args := [d1, d2] }
  | _ => none }
def FnExactIsCriticalWrongFalsely : Prop := fnExactIsCriticalRow.holds Try.pinned (OpenSpec.ofChange fnExactIsCriticalWrong)

/-- 'laws.FnExactFindSun': WHATEVER THE INPUT: true; the input reads as it did. -/
def fnExactFindSunSpec : ChangeSpec := { name := "fnExactFindSun", fn := fun _ => fun
  | [d] => { results := [.lit (.bool true)], args := [d] }
  | _ => none }
def fnExactFindSunRow : OpenClaim := { program := "ytimoniekhmacgaa", sum := "27f6908aa2f2a531cdf9299b7d6d07fa65972d695d3e24e2f05b98035151b75b", func := "loop.example/g02081/laws.FnExactFindSun", spec := "fnExactFindSun", unfollowed := true, recurses := true, apart := false }
def FnExactFindSunSaid : Prop := fnExactFindSunRow.holds Try.pinned (OpenSpec.ofChange fnExactFindSunSpec)

/-- ITS FALSE NEIGHBOUR: 'it returns false'. Refute it at one input. -/
def fnExactFindSunWrong : ChangeSpec := { name := "fnExactFindSun", fn := fun _ => fun
  | [d] => { results := [.lit (.bool false)], args := [d] }
  | _ => none }
def FnExactFindSunWrongFalsely : Prop := fnExactFindSunRow.holds Try.pinned (OpenSpec.ofChange fnExactFindSunWrong)

/- THE SECOND FORM. 'bulk': how many values and letters a reading holds, each counted each time it is reached (what is shared counts as often as it is met; a slice's spare places count too). A statement '..UptoSaid' is the law's where the arguments, and the package variables that the reading takes, are together of bulk at most 1048576: NARROWER than '..Said'. Prove '..Said' where nothing that the law and all that it calls make is longer than what came in: it says more and counts as full. Else prove '..UptoSaid'. A law counts once. -/
mutual
def uptoBulk {H : Type} : DataW H → Nat
  | .lit (.string bytes) => bytes.length + 1
  | .lit _ => 1
  | .nil => 1
  | .ptr d => uptoBulk d + 1
  | .slice elems spare => uptoBulkAll elems + uptoBulkAll spare + 1
  | .agg parts => uptoBulkAll parts + 1
  | .iface _ d => uptoBulk d + 1
  | .map entries => uptoBulkEntries entries + 1
  | .held _ => 1
def uptoBulkAll {H : Type} : List (DataW H) → Nat
  | [] => 0
  | d :: r => uptoBulk d + uptoBulkAll r
def uptoBulkEntries {H : Type} : List (Lit × DataW H) → Nat
  | [] => 0
  | x :: r => uptoBulkEntry x + uptoBulkEntries r
def uptoBulkEntry {H : Type} : Lit × DataW H → Nat
  | (.string bytes, d) => bytes.length + uptoBulk d + 1
  | (_, d) => uptoBulk d + 1
 end
def uptoSmall : (H : Type) → List (DataW H) → Bool := fun _ ds => decide (uptoBulkAll ds ≤ 1048576)
def OpenSpec.upto (s : _root_.Go.ChangeSpec) : _root_.Go.OpenSpec := { _root_.Go.OpenSpec.ofChange s with cond := some uptoSmall }

/-- 'laws.FnExactIsPerfectObstacle', WHERE WHAT IT READS IS OF BULK AT MOST 1048576: true; the input reads as it did. -/
def fnExactIsPerfectObstacleUptoRow : OpenClaim := { program := "ytimoniekhmacgaa", sum := "27f6908aa2f2a531cdf9299b7d6d07fa65972d695d3e24e2f05b98035151b75b", func := "loop.example/g02081/laws.FnExactIsPerfectObstacle", spec := "fnExactIsPerfectObstacle", unfollowed := true, recurses := true, apart := false, narrowed := true }
def FnExactIsPerfectObstacleUptoSaid : Prop := fnExactIsPerfectObstacleUptoRow.holds Try.pinned (OpenSpec.upto fnExactIsPerfectObstacleSpec)

/-- 'laws.FnExactCutVertices', WHERE WHAT IT READS IS OF BULK AT MOST 1048576: true; the input reads as it did. -/
def fnExactCutVerticesUptoRow : OpenClaim := { program := "ytimoniekhmacgaa", sum := "27f6908aa2f2a531cdf9299b7d6d07fa65972d695d3e24e2f05b98035151b75b", func := "loop.example/g02081/laws.FnExactCutVertices", spec := "fnExactCutVertices", apart := false, narrowed := true }
def FnExactCutVerticesUptoSaid : Prop := fnExactCutVerticesUptoRow.holds Try.pinned (OpenSpec.upto fnExactCutVerticesSpec)

/-- 'laws.FnExactGraphOfArcs', WHERE WHAT IT READS IS OF BULK AT MOST 1048576: true; the input reads as it did. -/
def fnExactGraphOfArcsUptoRow : OpenClaim := { program := "ytimoniekhmacgaa", sum := "27f6908aa2f2a531cdf9299b7d6d07fa65972d695d3e24e2f05b98035151b75b", func := "loop.example/g02081/laws.FnExactGraphOfArcs", spec := "fnExactGraphOfArcs", unfollowed := true, recurses := true, apart := false, narrowed := true }
def FnExactGraphOfArcsUptoSaid : Prop := fnExactGraphOfArcsUptoRow.holds Try.pinned (OpenSpec.upto fnExactGraphOfArcsSpec)

/-- 'laws.FnExactIsStronglyChordal', WHERE WHAT IT READS IS OF BULK AT MOST 1048576: true; the input reads as it did. -/
def fnExactIsStronglyChordalUptoRow : OpenClaim := { program := "ytimoniekhmacgaa", sum := "27f6908aa2f2a531cdf9299b7d6d07fa65972d695d3e24e2f05b98035151b75b", func := "loop.example/g02081/laws.FnExactIsStronglyChordal", spec := "fnExactIsStronglyChordal", unfollowed := true, recurses := true, apart := false, narrowed := true }
def FnExactIsStronglyChordalUptoSaid : Prop := fnExactIsStronglyChordalUptoRow.holds Try.pinned (OpenSpec.upto fnExactIsStronglyChordalSpec)

/-- 'laws.FnExactIsHereditary', WHERE WHAT IT READS IS OF BULK AT MOST 1048576: true; the input reads as it did. -/
def fnExactIsHereditaryUptoRow : OpenClaim := { program := "ytimoniekhmacgaa", sum := "27f6908aa2f2a531cdf9299b7d6d07fa65972d695d3e24e2f05b98035151b75b", func := "loop.example/g02081/laws.FnExactIsHereditary", spec := "fnExactIsHereditary", apart := false, narrowed := true }
def FnExactIsHereditaryUptoSaid : Prop := fnExactIsHereditaryUptoRow.holds Try.pinned (OpenSpec.upto fnExactIsHereditarySpec)

/-- 'laws.FnExactSimpleOrder', WHERE WHAT IT READS IS OF BULK AT MOST 1048576: true; the input reads as it did. -/
def fnExactSimpleOrderUptoRow : OpenClaim := { program := "ytimoniekhmacgaa", sum := "27f6908aa2f2a531cdf9299b7d6d07fa65972d695d3e24e2f05b98035151b75b", func := "loop.example/g02081/laws.FnExactSimpleOrder", spec := "fnExactSimpleOrder", unfollowed := true, recurses := true, apart := false, narrowed := true }
def FnExactSimpleOrderUptoSaid : Prop := fnExactSimpleOrderUptoRow.holds Try.pinned (OpenSpec.upto fnExactSimpleOrderSpec)

/-- 'laws.FnExactPathwidthOf', WHERE WHAT IT READS IS OF BULK AT MOST 1048576: true; the input reads as it did. -/
def fnExactPathwidthOfUptoRow : OpenClaim := { program := "ytimoniekhmacgaa", sum := "27f6908aa2f2a531cdf9299b7d6d07fa65972d695d3e24e2f05b98035151b75b", func := "loop.example/g02081/laws.FnExactPathwidthOf", spec := "fnExactPathwidthOf", unfollowed := true, recurses := true, apart := false, narrowed := true }
def FnExactPathwidthOfUptoSaid : Prop := fnExactPathwidthOfUptoRow.holds Try.pinned (OpenSpec.upto fnExactPathwidthOfSpec)

/-- 'laws.FnExactDominationGap', WHERE WHAT IT READS IS OF BULK AT MOST 1048576: true; the input reads as it did. -/
def fnExactDominationGapUptoRow : OpenClaim := { program := "ytimoniekhmacgaa", sum := "27f6908aa2f2a531cdf9299b7d6d07fa65972d695d3e24e2f05b98035151b75b", func := "loop.example/g02081/laws.FnExactDominationGap", spec := "fnExactDominationGap", unfollowed := true, recurses := true, apart := false, narrowed := true }
def FnExactDominationGapUptoSaid : Prop := fnExactDominationGapUptoRow.holds Try.pinned (OpenSpec.upto fnExactDominationGapSpec)

/-- 'laws.FnExactBestBand', WHERE WHAT IT READS IS OF BULK AT MOST 1048576: true; the input reads as it did. -/
def fnExactBestBandUptoRow : OpenClaim := { program := "ytimoniekhmacgaa", sum := "27f6908aa2f2a531cdf9299b7d6d07fa65972d695d3e24e2f05b98035151b75b", func := "loop.example/g02081/laws.FnExactBestBand", spec := "fnExactBestBand", unfollowed := true, recurses := true, apart := false, narrowed := true }
def FnExactBestBandUptoSaid : Prop := fnExactBestBandUptoRow.holds Try.pinned (OpenSpec.upto fnExactBestBandSpec)

/-- 'laws.FnExactFindOddCycle', WHERE WHAT IT READS IS OF BULK AT MOST 1048576: true; the input reads as it did. -/
def fnExactFindOddCycleUptoRow : OpenClaim := { program := "ytimoniekhmacgaa", sum := "27f6908aa2f2a531cdf9299b7d6d07fa65972d695d3e24e2f05b98035151b75b", func := "loop.example/g02081/laws.FnExactFindOddCycle", spec := "fnExactFindOddCycle", unfollowed := true, recurses := true, apart := false, narrowed := true }
def FnExactFindOddCycleUptoSaid : Prop := fnExactFindOddCycleUptoRow.holds Try.pinned (OpenSpec.upto fnExactFindOddCycleSpec)

/-- 'laws.FnExactIsCritical', WHERE WHAT IT READS IS OF BULK AT MOST 1048576: true; the input reads as it did. -/
def fnExactIsCriticalUptoRow : OpenClaim := { program := "ytimoniekhmacgaa", sum := "27f6908aa2f2a531cdf9299b7d6d07fa65972d695d3e24e2f05b98035151b75b", func := "loop.example/g02081/laws.FnExactIsCritical", spec := "fnExactIsCritical", unfollowed := true, recurses := true, apart := false, narrowed := true }
def FnExactIsCriticalUptoSaid : Prop := fnExactIsCriticalUptoRow.holds Try.pinned (OpenSpec.upto fnExactIsCriticalSpec)

/-- 'laws.FnExactFindSun', WHERE WHAT IT READS IS OF BULK AT MOST 1048576: true; the input reads as it did. -/
def fnExactFindSunUptoRow : OpenClaim := { program := "ytimoniekhmacgaa", sum := "27f6908aa2f2a531cdf9299b7d6d07fa65972d695d3e24e2f05b98035151b75b", func := "loop.example/g02081/laws.FnExactFindSun", spec := "fnExactFindSun", unfollowed := true, recurses := true, apart := false, narrowed := true }
def FnExactFindSunUptoSaid : Prop := fnExactFindSunUptoRow.holds Try.pinned (OpenSpec.upto fnExactFindSunSpec)

end Rows
end Go.Proofs.Ytimoniekhmacgaa
