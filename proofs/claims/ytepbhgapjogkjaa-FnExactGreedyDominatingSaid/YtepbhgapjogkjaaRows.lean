/-
  No cell of these rows narrows 'for every input' (looked for: loops, veiled, ifaces, maps, wideKeys, modest, calm, conditions, laid).
  DERIVED. THE GIVEN ROWS OF THIS SEAT. 12 by the template 'for every input the law returns true; each argument reads behind the call as it read before'; 0 by the template 'total and deterministic' (their statements: YtepbhgapjogkjaaTotals.lean).
  GIVEN WITH THE SEED: the statements are not yours to turn. If you find one false, say at which input.
  Laid BY PROGRAM, IN A SANDBOX (cutbox-rows.mjs): the forced cells as the released guide's own fill.sh prints them over the translation ef4ec7705c9cb138… (all of the seat's roots in one cut). By AI agents, Wed Nov 11 2026. No macro, syntax, notation, axiom, sorry.
-/
import Derived.Test.YtepbhgapjogkjaaChecked
import GoSem.Claim
import GoSem.ClaimJoined
import GoSem.ClaimMapViews
import Derived.JoinedTies
import Derived.KernelRfl
namespace Go.Proofs.Ytepbhgapjogkjaa
/- THE CELL 'sum', in the pinned program and in every row, IS THE sha256 OF THE DUMP (.gsa) THAT YtepbhgapjogkjaaProg.lean LOADS. Nothing in Lean hashes anything: it is a label: what it is worth is what the hold of that sum in a sandbox is worth. -/
noncomputable def Try.pinned : Pinned := { name := "ytepbhgapjogkjaa", sum := "ef4ec7705c9cb1382f7eac6da7ca6e8caa7817e6a4aaec38aae10e620d9d1398", checked := Try.checked }
namespace Rows
def none {H : Type} : Left H := { results := [], args := [] }

/-- 'laws.FnExactGreedyDominating': WHATEVER THE INPUT: true; the input reads as it did. -/
def fnExactGreedyDominatingSpec : ChangeSpec := { name := "fnExactGreedyDominating", fn := fun _ => fun
  | [d] => { results := [.lit (.bool true)], args := [d] }
  | _ => none }
def fnExactGreedyDominatingRow : OpenClaim := { program := "ytepbhgapjogkjaa", sum := "ef4ec7705c9cb1382f7eac6da7ca6e8caa7817e6a4aaec38aae10e620d9d1398", func := "loop.example/g02081/laws.FnExactGreedyDominating", spec := "fnExactGreedyDominating", unfollowed := true, recurses := true, apart := false }
def FnExactGreedyDominatingSaid : Prop := fnExactGreedyDominatingRow.holds Try.pinned (OpenSpec.ofChange fnExactGreedyDominatingSpec)

/-- ITS FALSE NEIGHBOUR: 'it returns false'. Refute it at one input. -/
def fnExactGreedyDominatingWrong : ChangeSpec := { name := "fnExactGreedyDominating", fn := fun _ => fun
  | [d] => { results := [.lit (.bool false)], args := [d] }
  | _ => none }
def FnExactGreedyDominatingWrongFalsely : Prop := fnExactGreedyDominatingRow.holds Try.pinned (OpenSpec.ofChange fnExactGreedyDominatingWrong)

/-- 'laws.FnExactIsCritical': WHATEVER THE INPUT: true; the input reads as it did. -/
def fnExactIsCriticalSpec : ChangeSpec := { name := "fnExactIsCritical", fn := fun _ => fun
  | [d1, d2] => { results := [.lit (.bool true)], args := [d1, d2] }
  | _ => none }
def fnExactIsCriticalRow : OpenClaim := { program := "ytepbhgapjogkjaa", sum := "ef4ec7705c9cb1382f7eac6da7ca6e8caa7817e6a4aaec38aae10e620d9d1398", func := "loop.example/g02081/laws.FnExactIsCritical", spec := "fnExactIsCritical", unfollowed := true, recurses := true, apart := false }
def FnExactIsCriticalSaid : Prop := fnExactIsCriticalRow.holds Try.pinned (OpenSpec.ofChange fnExactIsCriticalSpec)

/-- ITS FALSE NEIGHBOUR: 'it returns false'. Refute it at one input. -/
def fnExactIsCriticalWrong : ChangeSpec := { name := "fnExactIsCritical", fn := fun _ => fun
  | [d1, d2] => { results := [.lit (.bool false)], args := [d1, d2] }
  | _ => none }
def FnExactIsCriticalWrongFalsely : Prop := fnExactIsCriticalRow.holds Try.pinned (OpenSpec.ofChange fnExactIsCriticalWrong)

/-- 'laws.FnExactCliqueCoverOf': WHATEVER THE INPUT: true; the input reads as it did. -/
def fnExactCliqueCoverOfSpec : ChangeSpec := { name := "fnExactCliqueCoverOf", fn := fun _ => fun
  | [d] => { results := [.lit (.bool true)], args := [d] }
  | _ => none }
def fnExactCliqueCoverOfRow : OpenClaim := { program := "ytepbhgapjogkjaa", sum := "ef4ec7705c9cb1382f7eac6da7ca6e8caa7817e6a4aaec38aae10e620d9d1398", func := "loop.example/g02081/laws.FnExactCliqueCoverOf", spec := "fnExactCliqueCoverOf", unfollowed := true, recurses := true, apart := false }
def FnExactCliqueCoverOfSaid : Prop := fnExactCliqueCoverOfRow.holds Try.pinned (OpenSpec.ofChange fnExactCliqueCoverOfSpec)

/-- ITS FALSE NEIGHBOUR: 'it returns false'. Refute it at one input. -/
def fnExactCliqueCoverOfWrong : ChangeSpec := { name := "fnExactCliqueCoverOf", fn := fun _ => fun
  | [d] => { results := [.lit (.bool false)], args := [d] }
  | _ => none }
def FnExactCliqueCoverOfWrongFalsely : Prop := fnExactCliqueCoverOfRow.holds Try.pinned (OpenSpec.ofChange fnExactCliqueCoverOfWrong)

/-- 'laws.FnExactLeastImperfect': WHATEVER THE INPUT: true; the input reads as it did. -/
def fnExactLeastImperfectSpec : ChangeSpec := { name := "fnExactLeastImperfect", fn := fun _ => fun
  | [d] => { results := [.lit (.bool true)], args := [d] }
  | _ => none }
def fnExactLeastImperfectRow : OpenClaim := { program := "ytepbhgapjogkjaa", sum := "ef4ec7705c9cb1382f7eac6da7ca6e8caa7817e6a4aaec38aae10e620d9d1398", func := "loop.example/g02081/laws.FnExactLeastImperfect", spec := "fnExactLeastImperfect", unfollowed := true, recurses := true, apart := false }
def FnExactLeastImperfectSaid : Prop := fnExactLeastImperfectRow.holds Try.pinned (OpenSpec.ofChange fnExactLeastImperfectSpec)

/-- ITS FALSE NEIGHBOUR: 'it returns false'. Refute it at one input. -/
def fnExactLeastImperfectWrong : ChangeSpec := { name := "fnExactLeastImperfect", fn := fun _ => fun
  | [d] => { results := [.lit (.bool false)], args := [d] }
  | _ => none }
def FnExactLeastImperfectWrongFalsely : Prop := fnExactLeastImperfectRow.holds Try.pinned (OpenSpec.ofChange fnExactLeastImperfectWrong)

/-- 'laws.FnExactIsPerfect': WHATEVER THE INPUT: true; the input reads as it did. -/
def fnExactIsPerfectSpec : ChangeSpec := { name := "fnExactIsPerfect", fn := fun _ => fun
  | [d] => { results := [.lit (.bool true)], args := [d] }
  | _ => none }
def fnExactIsPerfectRow : OpenClaim := { program := "ytepbhgapjogkjaa", sum := "ef4ec7705c9cb1382f7eac6da7ca6e8caa7817e6a4aaec38aae10e620d9d1398", func := "loop.example/g02081/laws.FnExactIsPerfect", spec := "fnExactIsPerfect", unfollowed := true, recurses := true, apart := false }
def FnExactIsPerfectSaid : Prop := fnExactIsPerfectRow.holds Try.pinned (OpenSpec.ofChange fnExactIsPerfectSpec)

/-- ITS FALSE NEIGHBOUR: 'it returns false'. Refute it at one input. -/
def fnExactIsPerfectWrong : ChangeSpec := { name := "fnExactIsPerfect", fn := fun _ => fun
  | [d] => { results := [.lit (.bool false)], args := [d] }
  | _ => none }
def FnExactIsPerfectWrongFalsely : Prop := fnExactIsPerfectRow.holds Try.pinned (OpenSpec.ofChange fnExactIsPerfectWrong)

/-- 'laws.FnExactCutVertices': WHATEVER THE INPUT: true; the input reads as it did. -/
def fnExactCutVerticesSpec : ChangeSpec := { name := "fnExactCutVertices", fn := fun _ => fun
  | [d] => { results := [.lit (.bool true)], args := [d] }
  | _ => none }
def fnExactCutVerticesRow : OpenClaim := { program := "ytepbhgapjogkjaa", sum := "ef4ec7705c9cb1382f7eac6da7ca6e8caa7817e6a4aaec38aae10e620d9d1398", func := "loop.example/g02081/laws.FnExactCutVertices", spec := "fnExactCutVertices", apart := false }
def FnExactCutVerticesSaid : Prop := fnExactCutVerticesRow.holds Try.pinned (OpenSpec.ofChange fnExactCutVerticesSpec)

/-- ITS FALSE NEIGHBOUR: 'it returns false'. Refute it at one input. -/
def fnExactCutVerticesWrong : ChangeSpec := { name := "fnExactCutVertices", fn := fun _ => fun
  | [d] => { results := [.lit (.bool false)], args := [d] }
  | _ => none }
def FnExactCutVerticesWrongFalsely : Prop := fnExactCutVerticesRow.holds Try.pinned (OpenSpec.ofChange fnExactCutVerticesWrong)

/-- 'laws.FnExactIsBipartite': WHATEVER THE INPUT: true; the input reads as it did. -/
def fnExactIsBipartiteSpec : ChangeSpec := { name := "fnExactIsBipartite", fn := fun _ => fun
  | [d] => { results := [.lit (.bool true)], args := [d] }
  | _ => none }
def fnExactIsBipartiteRow : OpenClaim := { program := "ytepbhgapjogkjaa", sum := "ef4ec7705c9cb1382f7eac6da7ca6e8caa7817e6a4aaec38aae10e620d9d1398", func := "loop.example/g02081/laws.FnExactIsBipartite", spec := "fnExactIsBipartite", apart := false }
def FnExactIsBipartiteSaid : Prop := fnExactIsBipartiteRow.holds Try.pinned (OpenSpec.ofChange fnExactIsBipartiteSpec)

/-- ITS FALSE NEIGHBOUR: 'it returns false'. Refute it at one input. -/
def fnExactIsBipartiteWrong : ChangeSpec := { name := "fnExactIsBipartite", fn := fun _ => fun
  | [d] => { results := [.lit (.bool false)], args := [d] }
  | _ => none }
def FnExactIsBipartiteWrongFalsely : Prop := fnExactIsBipartiteRow.holds Try.pinned (OpenSpec.ofChange fnExactIsBipartiteWrong)

/-- 'laws.FnExactKeepsDistances': WHATEVER THE INPUT: true; the input reads as it did. -/
def fnExactKeepsDistancesSpec : ChangeSpec := { name := "fnExactKeepsDistances", fn := fun _ => fun
  | [d1, d2] => { results := [.lit (.bool true)], args := [d1, d2] }
  | _ => none }
def fnExactKeepsDistancesRow : OpenClaim := { program := "ytepbhgapjogkjaa", sum := "ef4ec7705c9cb1382f7eac6da7ca6e8caa7817e6a4aaec38aae10e620d9d1398", func := "loop.example/g02081/laws.FnExactKeepsDistances", spec := "fnExactKeepsDistances", apart := false }
def FnExactKeepsDistancesSaid : Prop := fnExactKeepsDistancesRow.holds Try.pinned (OpenSpec.ofChange fnExactKeepsDistancesSpec)

/-- ITS FALSE NEIGHBOUR: 'it returns false'. Refute it at one input. -/
def fnExactKeepsDistancesWrong : ChangeSpec := { name := "fnExactKeepsDistances", fn := fun _ => fun
  | [d1, d2] => { results := [.lit (.bool false)], args := [d1, d2] }
  | _ => none }
def FnExactKeepsDistancesWrongFalsely : Prop := fnExactKeepsDistancesRow.holds Try.pinned (OpenSpec.ofChange fnExactKeepsDistancesWrong)

/-- 'laws.FnExactFindStretched': WHATEVER THE INPUT: true; the input reads as it did. -/
def fnExactFindStretchedSpec : ChangeSpec := { name := "fnExactFindStretched", fn := fun _ => fun
  | [d] => { results := [.lit (.bool true)], args := [d] }
  | _ => none }
def fnExactFindStretchedRow : OpenClaim := { program := "ytepbhgapjogkjaa", sum := "ef4ec7705c9cb1382f7eac6da7ca6e8caa7817e6a4aaec38aae10e620d9d1398", func := "loop.example/g02081/laws.FnExactFindStretched", spec := "fnExactFindStretched", unfollowed := true, recurses := true, apart := false }
def FnExactFindStretchedSaid : Prop := fnExactFindStretchedRow.holds Try.pinned (OpenSpec.ofChange fnExactFindStretchedSpec)

/-- ITS FALSE NEIGHBOUR: 'it returns false'. Refute it at one input. -/
def fnExactFindStretchedWrong : ChangeSpec := { name := "fnExactFindStretched", fn := fun _ => fun
  | [d] => { results := [.lit (.bool false)], args := [d] }
  | _ => none }
def FnExactFindStretchedWrongFalsely : Prop := fnExactFindStretchedRow.holds Try.pinned (OpenSpec.ofChange fnExactFindStretchedWrong)

/-- 'laws.FnExactIsHereditary': WHATEVER THE INPUT: true; the input reads as it did. -/
def fnExactIsHereditarySpec : ChangeSpec := { name := "fnExactIsHereditary", fn := fun _ => fun
  | [d] => { results := [.lit (.bool true)], args := [d] }
  | _ => none }
def fnExactIsHereditaryRow : OpenClaim := { program := "ytepbhgapjogkjaa", sum := "ef4ec7705c9cb1382f7eac6da7ca6e8caa7817e6a4aaec38aae10e620d9d1398", func := "loop.example/g02081/laws.FnExactIsHereditary", spec := "fnExactIsHereditary", apart := false }
def FnExactIsHereditarySaid : Prop := fnExactIsHereditaryRow.holds Try.pinned (OpenSpec.ofChange fnExactIsHereditarySpec)

/-- ITS FALSE NEIGHBOUR: 'it returns false'. Refute it at one input. -/
def fnExactIsHereditaryWrong : ChangeSpec := { name := "fnExactIsHereditary", fn := fun _ => fun
  | [d] => { results := [.lit (.bool false)], args := [d] }
  | _ => none }
def FnExactIsHereditaryWrongFalsely : Prop := fnExactIsHereditaryRow.holds Try.pinned (OpenSpec.ofChange fnExactIsHereditaryWrong)

/-- 'laws.FnExactPruneOrder': WHATEVER THE INPUT: true; the input reads as it did. -/
def fnExactPruneOrderSpec : ChangeSpec := { name := "fnExactPruneOrder", fn := fun _ => fun
  | [d] => { results := [.lit (.bool true)], args := [d] }
  | _ => none }
def fnExactPruneOrderRow : OpenClaim := { program := "ytepbhgapjogkjaa", sum := "ef4ec7705c9cb1382f7eac6da7ca6e8caa7817e6a4aaec38aae10e620d9d1398", func := "loop.example/g02081/laws.FnExactPruneOrder", spec := "fnExactPruneOrder", apart := false }
def FnExactPruneOrderSaid : Prop := fnExactPruneOrderRow.holds Try.pinned (OpenSpec.ofChange fnExactPruneOrderSpec)

/-- ITS FALSE NEIGHBOUR: 'it returns false'. Refute it at one input. -/
def fnExactPruneOrderWrong : ChangeSpec := { name := "fnExactPruneOrder", fn := fun _ => fun
  | [d] => { results := [.lit (.bool false)], args := [d] }
  | _ => none }
def FnExactPruneOrderWrongFalsely : Prop := fnExactPruneOrderRow.holds Try.pinned (OpenSpec.ofChange fnExactPruneOrderWrong)

/-- 'laws.FnExactCutArcs': WHATEVER THE INPUT: true; the input reads as it did. -/
def fnExactCutArcsSpec : ChangeSpec := { name := "fnExactCutArcs", fn := fun _ => fun
  | [d1, d2] => { results := [.lit (.bool true)], args := [d1, d2] }
  | _ => none }
def fnExactCutArcsRow : OpenClaim := { program := "ytepbhgapjogkjaa", sum := "ef4ec7705c9cb1382f7eac6da7ca6e8caa7817e6a4aaec38aae10e620d9d1398", func := "loop.example/g02081/laws.FnExactCutArcs", spec := "fnExactCutArcs", apart := false }
def FnExactCutArcsSaid : Prop := fnExactCutArcsRow.holds Try.pinned (OpenSpec.ofChange fnExactCutArcsSpec)

/-- ITS FALSE NEIGHBOUR: 'it returns false'. Refute it at one input. -/
def fnExactCutArcsWrong : ChangeSpec := { name := "fnExactCutArcs", fn := fun _ => fun
  | [d1, d2] => { results := [.lit (.bool false)], args := [d1, d2] }
  | _ => none }
def FnExactCutArcsWrongFalsely : Prop := fnExactCutArcsRow.holds Try.pinned (OpenSpec.ofChange fnExactCutArcsWrong)

/- THE SECOND FORM. 'bulk': how many values and letters a reading holds, each counted each time it is reached (what is shared counts as often as it is met; a slice's spare places count too). A statement '..UptoSaid' is the law's where the arguments, and the package variables that the reading takes, are together of bulk at most 1048576: NARROWER than '..Said'. Prove '..Said' where nothing that the law and all that it calls make is longer than what came in: it says more and counts as full. Else prove '..UptoSaid'. A law counts once. -/
mutual
def uptoBulk {H : Type} : DataW H → Nat
  | .lit (.string bytes) => bytes.length + 1
  | .lit _ => 1
  | .nil => 1
  | .ptr d => uptoBulk d + 1
  | .slice elems spare => uptoBulkAll elems + uptoBulkAll spare + 1
  | .agg parts => uptoBulkAll parts + 1
  | .iface _ d => uptoBulk d + 1
  | .map entries => uptoBulkEntries entries + 1
  | .held _ => 1
def uptoBulkAll {H : Type} : List (DataW H) → Nat
  | [] => 0
  | d :: r => uptoBulk d + uptoBulkAll r
def uptoBulkEntries {H : Type} : List (Lit × DataW H) → Nat
  | [] => 0
  | x :: r => uptoBulkEntry x + uptoBulkEntries r
def uptoBulkEntry {H : Type} : Lit × DataW H → Nat
  | (.string bytes, d) => bytes.length + uptoBulk d + 1
  | (_, d) => uptoBulk d + 1
 end
def uptoSmall : (H : Type) → List (DataW H) → Bool := fun _ ds => decide (uptoBulkAll ds ≤ 1048576)
def OpenSpec.upto (s : _root_.Go.ChangeSpec) : _root_.Go.OpenSpec := { _root_.Go.OpenSpec.ofChange s with cond := some uptoSmall }

/-- 'laws.FnExactGreedyDominating', WHERE WHAT IT READS IS OF BULK AT MOST 1048576: true; the input reads as it did. -/
def fnExactGreedyDominatingUptoRow : OpenClaim := { program := "ytepbhgapjogkjaa", sum := "ef4ec7705c9cb1382f7eac6da7ca6e8caa7817e6a4aaec38aae10e620d9d1398", func := "loop.example/g02081/laws.FnExactGreedyDominating", spec := "fnExactGreedyDominating", unfollowed := true, recurses := true, apart := false, narrowed := true }
def FnExactGreedyDominatingUptoSaid : Prop := fnExactGreedyDominatingUptoRow.holds Try.pinned (OpenSpec.upto fnExactGreedyDominatingSpec)

/-- 'laws.FnExactIsCritical', WHERE WHAT IT READS IS OF BULK AT MOST 1048576: true; the input reads as it did. -/
def fnExactIsCriticalUptoRow : OpenClaim := { program := "ytepbhgapjogkjaa", sum := "ef4ec7705c9cb1382f7eac6da7ca6e8caa7817e6a4aaec38aae10e620d9d1398", func := "loop.example/g02081/laws.FnExactIsCritical", spec := "fnExactIsCritical", unfollowed := true, recurses := true, apart := false, narrowed := true }
def FnExactIsCriticalUptoSaid : Prop := fnExactIsCriticalUptoRow.holds Try.pinned (OpenSpec.upto fnExactIsCriticalSpec)

/-- 'laws.FnExactCliqueCoverOf', WHERE WHAT IT READS IS OF BULK AT MOST 1048576: true; the input reads as it did. -/
def fnExactCliqueCoverOfUptoRow : OpenClaim := { program := "ytepbhgapjogkjaa", sum := "ef4ec7705c9cb1382f7eac6da7ca6e8caa7817e6a4aaec38aae10e620d9d1398", func := "loop.example/g02081/laws.FnExactCliqueCoverOf", spec := "fnExactCliqueCoverOf", unfollowed := true, recurses := true, apart := false, narrowed := true }
def FnExactCliqueCoverOfUptoSaid : Prop := fnExactCliqueCoverOfUptoRow.holds Try.pinned (OpenSpec.upto fnExactCliqueCoverOfSpec)

/-- 'laws.FnExactLeastImperfect', WHERE WHAT IT READS IS OF BULK AT MOST 1048576: true; the input reads as it did. -/
def fnExactLeastImperfectUptoRow : OpenClaim := { program := "ytepbhgapjogkjaa", sum := "ef4ec7705c9cb1382f7eac6da7ca6e8caa7817e6a4aaec38aae10e620d9d1398", func := "loop.example/g02081/laws.FnExactLeastImperfect", spec := "fnExactLeastImperfect", unfollowed := true, recurses := true, apart := false, narrowed := true }
def FnExactLeastImperfectUptoSaid : Prop := fnExactLeastImperfectUptoRow.holds Try.pinned (OpenSpec.upto fnExactLeastImperfectSpec)

/-- 'laws.FnExactIsPerfect', WHERE WHAT IT READS IS OF BULK AT MOST 1048576: true; the input reads as it did. -/
def fnExactIsPerfectUptoRow : OpenClaim := { program := "ytepbhgapjogkjaa", sum := "ef4ec7705c9cb1382f7eac6da7ca6e8caa7817e6a4aaec38aae10e620d9d1398", func := "loop.example/g02081/laws.FnExactIsPerfect", spec := "fnExactIsPerfect", unfollowed := true, recurses := true, apart := false, narrowed := true }
def FnExactIsPerfectUptoSaid : Prop := fnExactIsPerfectUptoRow.holds Try.pinned (OpenSpec.upto fnExactIsPerfectSpec)

/-- 'laws.FnExactCutVertices', WHERE WHAT IT READS IS OF BULK AT MOST 1048576: true; the input reads as it did. -/
def fnExactCutVerticesUptoRow : OpenClaim := { program := "ytepbhgapjogkjaa", sum := "ef4ec7705c9cb1382f7eac6da7ca6e8caa7817e6a4aaec38aae10e620d9d1398", func := "loop.example/g02081/laws.FnExactCutVertices", spec := "fnExactCutVertices", apart := false, narrowed := true }
def FnExactCutVerticesUptoSaid : Prop := fnExactCutVerticesUptoRow.holds Try.pinned (OpenSpec.upto fnExactCutVerticesSpec)

/-- 'laws.FnExactIsBipartite', WHERE WHAT IT READS IS OF BULK AT MOST 1048576: true; the input reads as it did. -/
def fnExactIsBipartiteUptoRow : OpenClaim := { program := "ytepbhgapjogkjaa", sum := "ef4ec7705c9cb1382f7eac6da7ca6e8caa7817e6a4aaec38aae10e620d9d1398", func := "loop.example/g02081/laws.FnExactIsBipartite", spec := "fnExactIsBipartite", apart := false, narrowed := true }
def FnExactIsBipartiteUptoSaid : Prop := fnExactIsBipartiteUptoRow.holds Try.pinned (OpenSpec.upto fnExactIsBipartiteSpec)

/-- 'laws.FnExactKeepsDistances', WHERE WHAT IT READS IS OF BULK AT MOST 1048576: true; the input reads as it did. -/
def fnExactKeepsDistancesUptoRow : OpenClaim := { program := "ytepbhgapjogkjaa", sum := "ef4ec7705c9cb1382f7eac6da7ca6e8caa7817e6a4aaec38aae10e620d9d1398", func := "loop.example/g02081/laws.FnExactKeepsDistances", spec := "fnExactKeepsDistances", apart := false, narrowed := true }
def FnExactKeepsDistancesUptoSaid : Prop := fnExactKeepsDistancesUptoRow.holds Try.pinned (OpenSpec.upto fnExactKeepsDistancesSpec)

/-- 'laws.FnExactFindStretched', WHERE WHAT IT READS IS OF BULK AT MOST 1048576: true; the input reads as it did. -/
def fnExactFindStretchedUptoRow : OpenClaim := { program := "ytepbhgapjogkjaa", sum := "ef4ec7705c9cb1382f7eac6da7ca6e8caa7817e6a4aaec38aae10e620d9d1398", func := "loop.example/g02081/laws.FnExactFindStretched", spec := "fnExactFindStretched", unfollowed := true, recurses := true, apart := false, narrowed := true }
def FnExactFindStretchedUptoSaid : Prop := fnExactFindStretchedUptoRow.holds Try.pinned (OpenSpec.upto fnExactFindStretchedSpec)

/-- 'laws.FnExactIsHereditary', WHERE WHAT IT READS IS OF BULK AT MOST 1048576: true; the input reads as it did. -/
def fnExactIsHereditaryUptoRow : OpenClaim := { program := "ytepbhgapjogkjaa", sum := "ef4ec7705c9cb1382f7eac6da7ca6e8caa7817e6a4aaec38aae10e620d9d1398", func := "loop.example/g02081/laws.FnExactIsHereditary", spec := "fnExactIsHereditary", apart := false, narrowed := true }
def FnExactIsHereditaryUptoSaid : Prop := fnExactIsHereditaryUptoRow.holds Try.pinned (OpenSpec.upto fnExactIsHereditarySpec)

/-- 'laws.FnExactPruneOrder', WHERE WHAT IT READS IS OF BULK AT MOST 1048576: true; the input reads as it did. -/
def fnExactPruneOrderUptoRow : OpenClaim := { program := "ytepbhgapjogkjaa", sum := "ef4ec7705c9cb1382f7eac6da7ca6e8caa7817e6a4aaec38aae10e620d9d1398", func := "loop.example/g02081/laws.FnExactPruneOrder", spec := "fnExactPruneOrder", apart := false, narrowed := true }
def FnExactPruneOrderUptoSaid : Prop := fnExactPruneOrderUptoRow.holds Try.pinned (OpenSpec.upto fnExactPruneOrderSpec)

/-- 'laws.FnExactCutArcs', WHERE WHAT IT READS IS OF BULK AT MOST 1048576: true; the input reads as it did. -/
def fnExactCutArcsUptoRow : OpenClaim := { program := "ytepbhgapjogkjaa", sum := "ef4ec7705c9cb1382f7eac6da7ca6e8caa7817e6a4aaec38aae10e620d9d1398", func := "loop.example/g02081/laws.FnExactCutArcs", spec := "fnExactCutArcs", apart := false, narrowed := true }
def FnExactCutArcsUptoSaid : Prop := fnExactCutArcsUptoRow.holds Try.pinned (OpenSpec.upto fnExactCutArcsSpec)

end Rows
end Go.Proofs.Ytepbhgapjogkjaa
