/-
  No cell of these rows narrows 'for every input' (looked for: loops, veiled, ifaces, maps, wideKeys, modest, calm, conditions, laid).
  DERIVED. THE GIVEN ROWS OF THIS SEAT. 12 by the template 'for every input the law returns true; each argument reads behind the call as it read before'; 0 by the template 'total and deterministic' (their statements: YtenbckofnkamnaaTotals.lean).
  GIVEN WITH THE SEED: the statements are not yours to turn. If you find one false, say at which input.
  Laid BY PROGRAM, IN A SANDBOX (cutbox-rows.mjs): the forced cells as the released guide's own fill.sh prints them over the translation 449e9bebaa9ca166… (all of the seat's roots in one cut). By AI agents, Wed Nov 11 2026. No macro, syntax, notation, axiom, sorry.
-/
import Derived.Test.YtenbckofnkamnaaChecked
import GoSem.Claim
import GoSem.ClaimJoined
import GoSem.ClaimMapViews
import Derived.JoinedTies
import Derived.KernelRfl
namespace Go.Proofs.Ytenbckofnkamnaa
/- THE CELL 'sum', in the pinned program and in every row, IS THE sha256 OF THE DUMP (.gsa) THAT YtenbckofnkamnaaProg.lean LOADS. Nothing in Lean hashes anything: it is a label: what it is worth is what the hold of that sum in a sandbox is worth. -/
noncomputable def Try.pinned : Pinned := { name := "ytenbckofnkamnaa", sum := "449e9bebaa9ca166023da7e5ea5b843261dd0639e49087c64b02551a1bb49a8b", checked := Try.checked }
namespace Rows
def none {H : Type} : Left H := { results := [], args := [] }

/-- 'laws.FnExactCliqueCoverOf': WHATEVER THE INPUT: true; the input reads as it did. -/
def fnExactCliqueCoverOfSpec : ChangeSpec := { name := "fnExactCliqueCoverOf", fn := fun _ => fun
  | [d] => { results := [.lit (.bool true)], args := [d] }
  | _ => none }
def fnExactCliqueCoverOfRow : OpenClaim := { program := "ytenbckofnkamnaa", sum := "449e9bebaa9ca166023da7e5ea5b843261dd0639e49087c64b02551a1bb49a8b", func := "loop.example/g02081/laws.FnExactCliqueCoverOf", spec := "fnExactCliqueCoverOf", unfollowed := true, recurses := true, apart := false }
def FnExactCliqueCoverOfSaid : Prop := fnExactCliqueCoverOfRow.holds Try.pinned (OpenSpec.ofChange fnExactCliqueCoverOfSpec)

/-- ITS FALSE NEIGHBOUR: 'it returns false'. Refute it at one input. -/
def fnExactCliqueCoverOfWrong : ChangeSpec := { name := "fnExactCliqueCoverOf", fn := fun _ => fun
  | [d] => { results := [.lit (.bool false)], args := [d] }
  | _ => none }
def FnExactCliqueCoverOfWrongFalsely : Prop := fnExactCliqueCoverOfRow.holds Try.pinned (OpenSpec.ofChange fnExactCliqueCoverOfWrong)

/-- 'laws.FnExactIsBipartite': WHATEVER THE INPUT: true; the input reads as it did. -/
def fnExactIsBipartiteSpec : ChangeSpec := { name := "fnExactIsBipartite", fn := fun _ => fun
  | [d] => { results := [.lit (.bool true)], args := [d] }
  | _ => none }
def fnExactIsBipartiteRow : OpenClaim := { program := "ytenbckofnkamnaa", sum := "449e9bebaa9ca166023da7e5ea5b843261dd0639e49087c64b02551a1bb49a8b", func := "loop.example/g02081/laws.FnExactIsBipartite", spec := "fnExactIsBipartite", apart := false }
def FnExactIsBipartiteSaid : Prop := fnExactIsBipartiteRow.holds Try.pinned (OpenSpec.ofChange fnExactIsBipartiteSpec)

/-- ITS FALSE NEIGHBOUR: 'it returns false'. Refute it at one input. -/
def fnExactIsBipartiteWrong : ChangeSpec := { name := "fnExactIsBipartite", fn := fun _ => fun
  | [d] => { results := [.lit (.bool false)], args := [d] }
  | _ => none }
def FnExactIsBipartiteWrongFalsely : Prop := fnExactIsBipartiteRow.holds Try.pinned (OpenSpec.ofChange fnExactIsBipartiteWrong)

/-- 'laws.FnExactBandwidthOf': WHATEVER THE INPUT: true; the input reads as it did. -/
def fnExactBandwidthOfSpec : ChangeSpec := { name := "fnExactBandwidthOf", fn := fun _ => fun
  | [d] => { results := [.lit (.bool true)], args := [d] }
  | _ => none }
def fnExactBandwidthOfRow : OpenClaim := { program := "ytenbckofnkamnaa", sum := "449e9bebaa9ca166023da7e5ea5b843261dd0639e49087c64b02551a1bb49a8b", func := "loop.example/g02081/laws.FnExactBandwidthOf", spec := "fnExactBandwidthOf", unfollowed := true, recurses := true, apart := false }
def FnExactBandwidthOfSaid : Prop := fnExactBandwidthOfRow.holds Try.pinned (OpenSpec.ofChange fnExactBandwidthOfSpec)

/-- ITS FALSE NEIGHBOUR: 'it returns false'. Refute it at one input. -/
def fnExactBandwidthOfWrong : ChangeSpec := { name := "fnExactBandwidthOf", fn := fun _ => fun
  | [d] => { results := [.lit (.bool false)], args := [d] }
  | _ => none }
def FnExactBandwidthOfWrongFalsely : Prop := fnExactBandwidthOfRow.holds Try.pinned (OpenSpec.ofChange fnExactBandwidthOfWrong)

/-- 'laws.FnExactFindOddHole': WHATEVER THE INPUT: true; the input reads as it did. -/
def fnExactFindOddHoleSpec : ChangeSpec := { name := "fnExactFindOddHole", fn := fun _ => fun
  | [d] => { results := [.lit (.bool true)], args := [d] }
  | _ => none }
def fnExactFindOddHoleRow : OpenClaim := { program := "ytenbckofnkamnaa", sum := "449e9bebaa9ca166023da7e5ea5b843261dd0639e49087c64b02551a1bb49a8b", func := "loop.example/g02081/laws.FnExactFindOddHole", spec := "fnExactFindOddHole", unfollowed := true, recurses := true, apart := false }
def FnExactFindOddHoleSaid : Prop := fnExactFindOddHoleRow.holds Try.pinned (OpenSpec.ofChange fnExactFindOddHoleSpec)

/-- ITS FALSE NEIGHBOUR: 'it returns false'. Refute it at one input. -/
def fnExactFindOddHoleWrong : ChangeSpec := { name := "fnExactFindOddHole", fn := fun _ => fun
  | [d] => { results := [.lit (.bool false)], args := [d] }
  | _ => none }
def FnExactFindOddHoleWrongFalsely : Prop := fnExactFindOddHoleRow.holds Try.pinned (OpenSpec.ofChange fnExactFindOddHoleWrong)

/-- 'laws.FnExactPruneOrder': WHATEVER THE INPUT: true; the input reads as it did. -/
def fnExactPruneOrderSpec : ChangeSpec := { name := "fnExactPruneOrder", fn := fun _ => fun
  | [d] => { results := [.lit (.bool true)], args := [d] }
  | _ => none }
def fnExactPruneOrderRow : OpenClaim := { program := "ytenbckofnkamnaa", sum := "449e9bebaa9ca166023da7e5ea5b843261dd0639e49087c64b02551a1bb49a8b", func := "loop.example/g02081/laws.FnExactPruneOrder", spec := "fnExactPruneOrder", apart := false }
def FnExactPruneOrderSaid : Prop := fnExactPruneOrderRow.holds Try.pinned (OpenSpec.ofChange fnExactPruneOrderSpec)

/-- ITS FALSE NEIGHBOUR: 'it returns false'. Refute it at one input. -/
def fnExactPruneOrderWrong : ChangeSpec := { name := "fnExactPruneOrder", fn := fun _ => fun
  | [d] => { results := [.lit (.bool false)], args := [d] }
  | _ => none }
def FnExactPruneOrderWrongFalsely : Prop := fnExactPruneOrderRow.holds Try.pinned (OpenSpec.ofChange fnExactPruneOrderWrong)

/-- 'laws.FnExactGreedyDominating': WHATEVER THE INPUT: true; the input reads as it did. -/
def fnExactGreedyDominatingSpec : ChangeSpec := { name := "fnExactGreedyDominating", fn := fun _ => fun
  | [d] => { results := [.lit (.bool true)], args := [d] }
  | _ => none }
def fnExactGreedyDominatingRow : OpenClaim := { program := "ytenbckofnkamnaa", sum := "449e9bebaa9ca166023da7e5ea5b843261dd0639e49087c64b02551a1bb49a8b", func := "loop.example/g02081/laws.FnExactGreedyDominating", spec := "fnExactGreedyDominating", unfollowed := true, recurses := true, apart := false }
def FnExactGreedyDominatingSaid : Prop := fnExactGreedyDominatingRow.holds Try.pinned (OpenSpec.ofChange fnExactGreedyDominatingSpec)

/-- ITS FALSE NEIGHBOUR: 'it returns false'. Refute it at one input. -/
def fnExactGreedyDominatingWrong : ChangeSpec := { name := "fnExactGreedyDominating", fn := fun _ => fun
  | [d] => { results := [.lit (.bool false)], args := [d] }
  | _ => none }
def FnExactGreedyDominatingWrongFalsely : Prop := fnExactGreedyDominatingRow.holds Try.pinned (OpenSpec.ofChange fnExactGreedyDominatingWrong)

/-- 'laws.FnExactWidthOfOrder': WHATEVER THE INPUT: true; the input reads as it did. -/
def fnExactWidthOfOrderSpec : ChangeSpec := { name := "fnExactWidthOfOrder", fn := fun _ => fun
  | [d1, d2] => { results := [.lit (.bool true)], args := [d1, d2] }
  | _ => none }
def fnExactWidthOfOrderRow : OpenClaim := { program := "ytenbckofnkamnaa", sum := "449e9bebaa9ca166023da7e5ea5b843261dd0639e49087c64b02551a1bb49a8b", func := "loop.example/g02081/laws.FnExactWidthOfOrder", spec := "fnExactWidthOfOrder", apart := false }
def FnExactWidthOfOrderSaid : Prop := fnExactWidthOfOrderRow.holds Try.pinned (OpenSpec.ofChange fnExactWidthOfOrderSpec)

/-- ITS FALSE NEIGHBOUR: 'it returns false'. Refute it at one input. -/
def fnExactWidthOfOrderWrong : ChangeSpec := { name := "fnExactWidthOfOrder", fn := fun _ => fun
  | [d1, d2] => { results := [.lit (.bool false)], args := [d1, d2] }
  | _ => none }
def FnExactWidthOfOrderWrongFalsely : Prop := fnExactWidthOfOrderRow.holds Try.pinned (OpenSpec.ofChange fnExactWidthOfOrderWrong)

/-- 'laws.FnExactKeepsDistances': WHATEVER THE INPUT: true; the input reads as it did. -/
def fnExactKeepsDistancesSpec : ChangeSpec := { name := "fnExactKeepsDistances", fn := fun _ => fun
  | [d1, d2] => { results := [.lit (.bool true)], args := [d1, d2] }
  | _ => none }
def fnExactKeepsDistancesRow : OpenClaim := { program := "ytenbckofnkamnaa", sum := "449e9bebaa9ca166023da7e5ea5b843261dd0639e49087c64b02551a1bb49a8b", func := "loop.example/g02081/laws.FnExactKeepsDistances", spec := "fnExactKeepsDistances", apart := false }
def FnExactKeepsDistancesSaid : Prop := fnExactKeepsDistancesRow.holds Try.pinned (OpenSpec.ofChange fnExactKeepsDistancesSpec)

/-- ITS FALSE NEIGHBOUR: 'it returns false'. Refute it at one input. -/
def fnExactKeepsDistancesWrong : ChangeSpec := { name := "fnExactKeepsDistances", fn := fun _ => fun
  | [d1, d2] => { results := [.lit (.bool false)], args := [d1, d2] }
  | _ => none }
def FnExactKeepsDistancesWrongFalsely : Prop := fnExactKeepsDistancesRow.holds Try.pinned (OpenSpec.ofChange fnExactKeepsDistancesWrong)

/-- 'laws.FnExactTreewidthOf': WHATEVER THE INPUT: true; the input reads as it did. -/
def fnExactTreewidthOfSpec : ChangeSpec := { name := "fnExactTreewidthOf", fn := fun _ => fun
  | [d] => { results := [.lit (.bool true)], args := [d] }
  | _ => none }
def fnExactTreewidthOfRow : OpenClaim := { program := "ytenbckofnkamnaa", sum := "449e9bebaa9ca166023da7e5ea5b843261dd0639e49087c64b02551a1bb49a8b", func := "loop.example/g02081/laws.FnExactTreewidthOf", spec := "fnExactTreewidthOf", unfollowed := true, recurses := true, apart := false }
def FnExactTreewidthOfSaid : Prop := fnExactTreewidthOfRow.holds Try.pinned (OpenSpec.ofChange fnExactTreewidthOfSpec)

/-- ITS FALSE NEIGHBOUR: 'it returns false'. Refute it at one input. -/
def fnExactTreewidthOfWrong : ChangeSpec := { name := "fnExactTreewidthOf", fn := fun _ => fun
  | [d] => { results := [.lit (.bool false)], args := [d] }
  | _ => none }
def FnExactTreewidthOfWrongFalsely : Prop := fnExactTreewidthOfRow.holds Try.pinned (OpenSpec.ofChange fnExactTreewidthOfWrong)

/-- 'laws.FnExactFindAntihole': WHATEVER THE INPUT: true; the input reads as it did. -/
def fnExactFindAntiholeSpec : ChangeSpec := { name := "fnExactFindAntihole", fn := fun _ => fun
  | [d] => { results := [.lit (.bool true)], args := [d] }
  | _ => none }
def fnExactFindAntiholeRow : OpenClaim := { program := "ytenbckofnkamnaa", sum := "449e9bebaa9ca166023da7e5ea5b843261dd0639e49087c64b02551a1bb49a8b", func := "loop.example/g02081/laws.FnExactFindAntihole", spec := "fnExactFindAntihole", unfollowed := true, recurses := true, apart := false }
def FnExactFindAntiholeSaid : Prop := fnExactFindAntiholeRow.holds Try.pinned (OpenSpec.ofChange fnExactFindAntiholeSpec)

/-- ITS FALSE NEIGHBOUR: 'it returns false'. Refute it at one input. -/
def fnExactFindAntiholeWrong : ChangeSpec := { name := "fnExactFindAntihole", fn := fun _ => fun
  | [d] => { results := [.lit (.bool false)], args := [d] }
  | _ => none }
def FnExactFindAntiholeWrongFalsely : Prop := fnExactFindAntiholeRow.holds Try.pinned (OpenSpec.ofChange fnExactFindAntiholeWrong)

/-- 'laws.FnExactFindStretched': WHATEVER THE INPUT: true; the input reads as it did. -/
def fnExactFindStretchedSpec : ChangeSpec := { name := "fnExactFindStretched", fn := fun _ => fun
  | [d] => { results := [.lit (.bool true)], args := [d] }
  | _ => none }
def fnExactFindStretchedRow : OpenClaim := { program := "ytenbckofnkamnaa", sum := "449e9bebaa9ca166023da7e5ea5b843261dd0639e49087c64b02551a1bb49a8b", func := "loop.example/g02081/laws.FnExactFindStretched", spec := "fnExactFindStretched", unfollowed := true, recurses := true, apart := false }
def FnExactFindStretchedSaid : Prop := fnExactFindStretchedRow.holds Try.pinned (OpenSpec.ofChange fnExactFindStretchedSpec)

/-- ITS FALSE NEIGHBOUR: 'it returns false'. Refute it at one input. -/
def fnExactFindStretchedWrong : ChangeSpec := { name := "fnExactFindStretched", fn := fun _ => fun
  | [d] => { results := [.lit (.bool false)], args := [d] }
  | _ => none }
def FnExactFindStretchedWrongFalsely : Prop := fnExactFindStretchedRow.holds Try.pinned (OpenSpec.ofChange fnExactFindStretchedWrong)

/-- 'laws.FnExactPerfectObstacle': WHATEVER THE INPUT: true; the input reads as it did. -/
def fnExactPerfectObstacleSpec : ChangeSpec := { name := "fnExactPerfectObstacle", fn := fun _ => fun
  | [d] => { results := [.lit (.bool true)], args := [d] }
  | _ => none }
def fnExactPerfectObstacleRow : OpenClaim := { program := "ytenbckofnkamnaa", sum := "449e9bebaa9ca166023da7e5ea5b843261dd0639e49087c64b02551a1bb49a8b", func := "loop.example/g02081/laws.FnExactPerfectObstacle", spec := "fnExactPerfectObstacle", unfollowed := true, recurses := true, apart := false }
def FnExactPerfectObstacleSaid : Prop := fnExactPerfectObstacleRow.holds Try.pinned (OpenSpec.ofChange fnExactPerfectObstacleSpec)

/-- ITS FALSE NEIGHBOUR: 'it returns false'. Refute it at one input. -/
def fnExactPerfectObstacleWrong : ChangeSpec := { name := "fnExactPerfectObstacle", fn := fun _ => fun
  | [d] => { results := [.lit (.bool false)], args := [d] }
  | _ => none }
def FnExactPerfectObstacleWrongFalsely : Prop := fnExactPerfectObstacleRow.holds Try.pinned (OpenSpec.ofChange fnExactPerfectObstacleWrong)

/- THE SECOND FORM. 'bulk': how many values and letters a reading holds, each counted each time it is reached (what is shared counts as often as it is met; a slice's spare places count too). A statement '..UptoSaid' is the law's where the arguments, and the package variables that the reading takes, are together of bulk at most 1048576: NARROWER than '..Said'. Prove '..Said' where nothing that the law and all that it calls make is longer than what came in: it says more and counts as full. Else prove '..UptoSaid'. A law counts once. -/
mutual
def uptoBulk {H : Type} : DataW H → Nat
  | .lit (.string bytes) => bytes.length + 1
  | .lit _ => 1
  | .nil => 1
  | .ptr d => uptoBulk d + 1
  | .slice elems spare => uptoBulkAll elems + uptoBulkAll spare + 1
  | .agg parts => uptoBulkAll parts + 1
  | .iface _ d => uptoBulk d + 1
  | .map entries => uptoBulkEntries entries + 1
  | .held _ => 1
def uptoBulkAll {H : Type} : List (DataW H) → Nat
  | [] => 0
  | d :: r => uptoBulk d + uptoBulkAll r
def uptoBulkEntries {H : Type} : List (Lit × DataW H) → Nat
  | [] => 0
  | x :: r => uptoBulkEntry x + uptoBulkEntries r
def uptoBulkEntry {H : Type} : Lit × DataW H → Nat
  | (.string bytes, d) => bytes.length + uptoBulk d + 1
  | (_, d) => uptoBulk d + 1
 end
def uptoSmall : (H : Type) → List (DataW H) → Bool := fun _ ds => decide (uptoBulkAll ds ≤ 1048576)
def OpenSpec.upto (s : _root_.Go.ChangeSpec) : _root_.Go.OpenSpec := { _root_.Go.OpenSpec.ofChange s with cond := some uptoSmall }

/-- 'laws.FnExactCliqueCoverOf', WHERE WHAT IT READS IS OF BULK AT MOST 1048576: true; the input reads as it did. -/
def fnExactCliqueCoverOfUptoRow : OpenClaim := { program := "ytenbckofnkamnaa", sum := "449e9bebaa9ca166023da7e5ea5b843261dd0639e49087c64b02551a1bb49a8b", func := "loop.example/g02081/laws.FnExactCliqueCoverOf", spec := "fnExactCliqueCoverOf", unfollowed := true, recurses := true, apart := false, narrowed := true }
def FnExactCliqueCoverOfUptoSaid : Prop := fnExactCliqueCoverOfUptoRow.holds Try.pinned (OpenSpec.upto fnExactCliqueCoverOfSpec)

/-- 'laws.FnExactIsBipartite', WHERE WHAT IT READS IS OF BULK AT MOST 1048576: true; the input reads as it did. -/
def fnExactIsBipartiteUptoRow : OpenClaim := { program := "ytenbckofnkamnaa", sum := "449e9bebaa9ca166023da7e5ea5b843261dd0639e49087c64b02551a1bb49a8b", func := "loop.example/g02081/laws.FnExactIsBipartite", spec := "fnExactIsBipartite", apart := false, narrowed := true }
def FnExactIsBipartiteUptoSaid : Prop := fnExactIsBipartiteUptoRow.holds Try.pinned (OpenSpec.upto fnExactIsBipartiteSpec)

/-- 'laws.FnExactBandwidthOf', WHERE WHAT IT READS IS OF BULK AT MOST 1048576: true; the input reads as it did. -/
def fnExactBandwidthOfUptoRow : OpenClaim := { program := "ytenbckofnkamnaa", sum := "449e9bebaa9ca166023da7e5ea5b843261dd0639e49087c64b02551a1bb49a8b", func := "loop.example/g02081/laws.FnExactBandwidthOf", spec := "fnExactBandwidthOf", unfollowed := true, recurses := true, apart := false, narrowed := true }
def FnExactBandwidthOfUptoSaid : Prop := fnExactBandwidthOfUptoRow.holds Try.pinned (OpenSpec.upto fnExactBandwidthOfSpec)

/-- 'laws.FnExactFindOddHole', WHERE WHAT IT READS IS OF BULK AT MOST 1048576: true; the input reads as it did. -/
def fnExactFindOddHoleUptoRow : OpenClaim := { program := "ytenbckofnkamnaa", sum := "449e9bebaa9ca166023da7e5ea5b843261dd0639e49087c64b02551a1bb49a8b", func := "loop.example/g02081/laws.FnExactFindOddHole", spec := "fnExactFindOddHole", unfollowed := true, recurses := true, apart := false, narrowed := true }
def FnExactFindOddHoleUptoSaid : Prop := fnExactFindOddHoleUptoRow.holds Try.pinned (OpenSpec.upto fnExactFindOddHoleSpec)

/-- 'laws.FnExactPruneOrder', WHERE WHAT IT READS IS OF BULK AT MOST 1048576: true; the input reads as it did. -/
def fnExactPruneOrderUptoRow : OpenClaim := { program := "ytenbckofnkamnaa", sum := "449e9bebaa9ca166023da7e5ea5b843261dd0639e49087c64b02551a1bb49a8b", func := "loop.example/g02081/laws.FnExactPruneOrder", spec := "fnExactPruneOrder", apart := false, narrowed := true }
def FnExactPruneOrderUptoSaid : Prop := fnExactPruneOrderUptoRow.holds Try.pinned (OpenSpec.upto fnExactPruneOrderSpec)

/-- 'laws.FnExactGreedyDominating', WHERE WHAT IT READS IS OF BULK AT MOST 1048576: true; the input reads as it did. -/
def fnExactGreedyDominatingUptoRow : OpenClaim := { program := "ytenbckofnkamnaa", sum := "449e9bebaa9ca166023da7e5ea5b843261dd0639e49087c64b02551a1bb49a8b", func := "loop.example/g02081/laws.FnExactGreedyDominating", spec := "fnExactGreedyDominating", unfollowed := true, recurses := true, apart := false, narrowed := true }
def FnExactGreedyDominatingUptoSaid : Prop := fnExactGreedyDominatingUptoRow.holds Try.pinned (OpenSpec.upto fnExactGreedyDominatingSpec)

/-- 'laws.FnExactWidthOfOrder', WHERE WHAT IT READS IS OF BULK AT MOST 1048576: true; the input reads as it did. -/
def fnExactWidthOfOrderUptoRow : OpenClaim := { program := "ytenbckofnkamnaa", sum := "449e9bebaa9ca166023da7e5ea5b843261dd0639e49087c64b02551a1bb49a8b", func := "loop.example/g02081/laws.FnExactWidthOfOrder", spec := "fnExactWidthOfOrder", apart := false, narrowed := true }
def FnExactWidthOfOrderUptoSaid : Prop := fnExactWidthOfOrderUptoRow.holds Try.pinned (OpenSpec.upto fnExactWidthOfOrderSpec)

/-- 'laws.FnExactKeepsDistances', WHERE WHAT IT READS IS OF BULK AT MOST 1048576: true; the input reads as it did. -/
def fnExactKeepsDistancesUptoRow : OpenClaim := { program := "ytenbckofnkamnaa", sum := "449e9bebaa9ca166023da7e5ea5b843261dd0639e49087c64b02551a1bb49a8b", func := "loop.example/g02081/laws.FnExactKeepsDistances", spec := "fnExactKeepsDistances", apart := false, narrowed := true }
def FnExactKeepsDistancesUptoSaid : Prop := fnExactKeepsDistancesUptoRow.holds Try.pinned (OpenSpec.upto fnExactKeepsDistancesSpec)

/-- 'laws.FnExactTreewidthOf', WHERE WHAT IT READS IS OF BULK AT MOST 1048576: true; the input reads as it did. -/
def fnExactTreewidthOfUptoRow : OpenClaim := { program := "ytenbckofnkamnaa", sum := "449e9bebaa9ca166023da7e5ea5b843261dd0639e49087c64b02551a1bb49a8b", func := "loop.example/g02081/laws.FnExactTreewidthOf", spec := "fnExactTreewidthOf", unfollowed := true, recurses := true, apart := false, narrowed := true }
def FnExactTreewidthOfUptoSaid : Prop := fnExactTreewidthOfUptoRow.holds Try.pinned (OpenSpec.upto fnExactTreewidthOfSpec)

/-- 'laws.FnExactFindAntihole', WHERE WHAT IT READS IS OF BULK AT MOST 1048576: true; the input reads as it did. -/
def fnExactFindAntiholeUptoRow : OpenClaim := { program := "ytenbckofnkamnaa", sum := "449e9bebaa9ca166023da7e5ea5b843261dd0639e49087c64b02551a1bb49a8b", func := "loop.example/g02081/laws.FnExactFindAntihole", spec := "fnExactFindAntihole", unfollowed := true, recurses := true, apart := false, narrowed := true }
def FnExactFindAntiholeUptoSaid : Prop := fnExactFindAntiholeUptoRow.holds Try.pinned (OpenSpec.upto fnExactFindAntiholeSpec)

/-- 'laws.FnExactFindStretched', WHERE WHAT IT READS IS OF BULK AT MOST 1048576: true; the input reads as it did. -/
def fnExactFindStretchedUptoRow : OpenClaim := { program := "ytenbckofnkamnaa", sum := "449e9bebaa9ca166023da7e5ea5b843261dd0639e49087c64b02551a1bb49a8b", func := "loop.example/g02081/laws.FnExactFindStretched", spec := "fnExactFindStretched", unfollowed := true, recurses := true, apart := false, narrowed := true }
def FnExactFindStretchedUptoSaid : Prop := fnExactFindStretchedUptoRow.holds Try.pinned (OpenSpec.upto fnExactFindStretchedSpec)

/-- 'laws.FnExactPerfectObstacle', WHERE WHAT IT READS IS OF BULK AT MOST 1048576: true; the input reads as it did. -/
def fnExactPerfectObstacleUptoRow : OpenClaim := { program := "ytenbckofnkamnaa", sum := "449e9bebaa9ca166023da7e5ea5b843261dd0639e49087c64b02551a1bb49a8b", func := "loop.example/g02081/laws.FnExactPerfectObstacle", spec := "fnExactPerfectObstacle", unfollowed := true, recurses := true, apart := false, narrowed := true }
def FnExactPerfectObstacleUptoSaid : Prop := fnExactPerfectObstacleUptoRow.holds Try.pinned (OpenSpec.upto fnExactPerfectObstacleSpec)

end Rows
end Go.Proofs.Ytenbckofnkamnaa
