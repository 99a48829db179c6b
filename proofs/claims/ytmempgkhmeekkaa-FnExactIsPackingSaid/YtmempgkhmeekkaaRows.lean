/-
  No cell of these rows narrows 'for every input' (looked for: loops, veiled, ifaces, maps, wideKeys, modest, calm, conditions, laid).
  DERIVED. THE GIVEN ROWS OF THIS SEAT. 6 by the template 'for every input the law returns true; each argument reads behind the call as it read before'; 0 by the template 'total and deterministic' (their statements: YtmempgkhmeekkaaTotals.lean).
  GIVEN WITH THE SEED: the statements are not yours to turn. If you find one false, say at which input.
  Laid BY PROGRAM, IN A SANDBOX (cutbox-rows.mjs): the forced cells as the released guide's own fill.sh prints them over the translation d64b7697d130ec8b… (all of the seat's roots in one cut). By AI agents, Wed Nov 11 2026. No macro, syntax, notation, axiom, sorry.
-/
import Derived.Test.YtmempgkhmeekkaaChecked
import GoSem.Claim
import GoSem.ClaimJoined
import GoSem.ClaimMapViews
import Derived.JoinedTies
import Derived.KernelRfl
namespace Go.Proofs.Ytmempgkhmeekkaa
/- THE CELL 'sum', in the pinned program and in every row, IS THE sha256 OF THE DUMP (.gsa) THAT YtmempgkhmeekkaaProg.lean LOADS. Nothing in Lean hashes anything: it is a label: what it is worth is what the hold of that sum in a sandbox is worth. -/
noncomputable def Try.pinned : Pinned := { name := "ytmempgkhmeekkaa", sum := "d64b7697d130ec8bda4064a4afe87b3d46907ee12f953d0c9b7478c3279dc581", checked := Try.checked }
namespace Rows
def none {H : Type} : Left H := { results := [], args := [] }

/-- 'laws.FnExactIsArcs': WHATEVER THE INPUT: true; the input reads as it did. -/
def fnExactIsArcsSpec : ChangeSpec := { name := "fnExactIsArcs", fn := fun _ => fun
  | [d] => { results := [.lit (.bool true)], args := [d] }
  | _ => none }
def fnExactIsArcsRow : OpenClaim := { program := "ytmempgkhmeekkaa", sum := "d64b7697d130ec8bda4064a4afe87b3d46907ee12f953d0c9b7478c3279dc581", func := "loop.example/g02081/laws.FnExactIsArcs", spec := "fnExactIsArcs", apart := false }
def FnExactIsArcsSaid : Prop := fnExactIsArcsRow.holds Try.pinned (OpenSpec.ofChange fnExactIsArcsSpec)

/-- ITS FALSE NEIGHBOUR: 'it returns false'. Refute it at one input. -/
def fnExactIsArcsWrong : ChangeSpec := { name := "fnExactIsArcs", fn := fun _ => fun
  | [d] => { results := [.lit (.bool false)], args := [d] }
  | _ => none }
def FnExactIsArcsWrongFalsely : Prop := fnExactIsArcsRow.holds Try.pinned (OpenSpec.ofChange fnExactIsArcsWrong)

/-- 'laws.FnExactArcsAt': WHATEVER THE INPUT: true; the input reads as it did. -/
def fnExactArcsAtSpec : ChangeSpec := { name := "fnExactArcsAt", fn := fun _ => fun
  | [d1, d2] => { results := [.lit (.bool true)], args := [d1, d2] }
  | _ => none }
def fnExactArcsAtRow : OpenClaim := { program := "ytmempgkhmeekkaa", sum := "d64b7697d130ec8bda4064a4afe87b3d46907ee12f953d0c9b7478c3279dc581", func := "loop.example/g02081/laws.FnExactArcsAt", spec := "fnExactArcsAt", apart := false }
def FnExactArcsAtSaid : Prop := fnExactArcsAtRow.holds Try.pinned (OpenSpec.ofChange fnExactArcsAtSpec)

/-- ITS FALSE NEIGHBOUR: 'it returns false'. Refute it at one input. -/
def fnExactArcsAtWrong : ChangeSpec := { name := "fnExactArcsAt", fn := fun _ => fun
  | [d1, d2] => { results := [.lit (.bool false)], args := [d1, d2] }
  | _ => none }
def FnExactArcsAtWrongFalsely : Prop := fnExactArcsAtRow.holds Try.pinned (OpenSpec.ofChange fnExactArcsAtWrong)

/-- 'laws.FnExactCoversCircle': WHATEVER THE INPUT: true; the input reads as it did. -/
def fnExactCoversCircleSpec : ChangeSpec := { name := "fnExactCoversCircle", fn := fun _ => fun
  | [d1, d2] => { results := [.lit (.bool true)], args := [d1, d2] }
  | _ => none }
def fnExactCoversCircleRow : OpenClaim := { program := "ytmempgkhmeekkaa", sum := "d64b7697d130ec8bda4064a4afe87b3d46907ee12f953d0c9b7478c3279dc581", func := "loop.example/g02081/laws.FnExactCoversCircle", spec := "fnExactCoversCircle", apart := false }
def FnExactCoversCircleSaid : Prop := fnExactCoversCircleRow.holds Try.pinned (OpenSpec.ofChange fnExactCoversCircleSpec)

/-- ITS FALSE NEIGHBOUR: 'it returns false'. Refute it at one input. -/
def fnExactCoversCircleWrong : ChangeSpec := { name := "fnExactCoversCircle", fn := fun _ => fun
  | [d1, d2] => { results := [.lit (.bool false)], args := [d1, d2] }
  | _ => none }
def FnExactCoversCircleWrongFalsely : Prop := fnExactCoversCircleRow.holds Try.pinned (OpenSpec.ofChange fnExactCoversCircleWrong)

/-- 'laws.FnExactFreePoint': WHATEVER THE INPUT: true; the input reads as it did. -/
def fnExactFreePointSpec : ChangeSpec := { name := "fnExactFreePoint", fn := fun _ => fun
  | [d] => { results := [.lit (.bool true)], args := [d] }
  | _ => none }
def fnExactFreePointRow : OpenClaim := { program := "ytmempgkhmeekkaa", sum := "d64b7697d130ec8bda4064a4afe87b3d46907ee12f953d0c9b7478c3279dc581", func := "loop.example/g02081/laws.FnExactFreePoint", spec := "fnExactFreePoint", apart := false }
def FnExactFreePointSaid : Prop := fnExactFreePointRow.holds Try.pinned (OpenSpec.ofChange fnExactFreePointSpec)

/-- ITS FALSE NEIGHBOUR: 'it returns false'. Refute it at one input. -/
def fnExactFreePointWrong : ChangeSpec := { name := "fnExactFreePoint", fn := fun _ => fun
  | [d] => { results := [.lit (.bool false)], args := [d] }
  | _ => none }
def FnExactFreePointWrongFalsely : Prop := fnExactFreePointRow.holds Try.pinned (OpenSpec.ofChange fnExactFreePointWrong)

/-- 'laws.FnExactIsDominating': WHATEVER THE INPUT: true; the input reads as it did. -/
def fnExactIsDominatingSpec : ChangeSpec := { name := "fnExactIsDominating", fn := fun _ => fun
  | [d1, d2] => { results := [.lit (.bool true)], args := [d1, d2] }
  | _ => none }
def fnExactIsDominatingRow : OpenClaim := { program := "ytmempgkhmeekkaa", sum := "d64b7697d130ec8bda4064a4afe87b3d46907ee12f953d0c9b7478c3279dc581", func := "loop.example/g02081/laws.FnExactIsDominating", spec := "fnExactIsDominating", apart := false }
def FnExactIsDominatingSaid : Prop := fnExactIsDominatingRow.holds Try.pinned (OpenSpec.ofChange fnExactIsDominatingSpec)

/-- ITS FALSE NEIGHBOUR: 'it returns false'. Refute it at one input. -/
def fnExactIsDominatingWrong : ChangeSpec := { name := "fnExactIsDominating", fn := fun _ => fun
  | [d1, d2] => { results := [.lit (.bool false)], args := [d1, d2] }
  | _ => none }
def FnExactIsDominatingWrongFalsely : Prop := fnExactIsDominatingRow.holds Try.pinned (OpenSpec.ofChange fnExactIsDominatingWrong)

/-- 'laws.FnExactIsPacking': WHATEVER THE INPUT: true; the input reads as it did. -/
def fnExactIsPackingSpec : ChangeSpec := { name := "fnExactIsPacking", fn := fun _ => fun
  | [d1, d2] => { results := [.lit (.bool true)], args := [d1, d2] }
  | _ => none }
def fnExactIsPackingRow : OpenClaim := { program := "ytmempgkhmeekkaa", sum := "d64b7697d130ec8bda4064a4afe87b3d46907ee12f953d0c9b7478c3279dc581", func := "loop.example/g02081/laws.FnExactIsPacking", spec := "fnExactIsPacking", apart := false }
def FnExactIsPackingSaid : Prop := fnExactIsPackingRow.holds Try.pinned (OpenSpec.ofChange fnExactIsPackingSpec)

/-- ITS FALSE NEIGHBOUR: 'it returns false'. Refute it at one input. -/
def fnExactIsPackingWrong : ChangeSpec := { name := "fnExactIsPacking", fn := fun _ => fun
  | [d1, d2] => { results := [.lit (.bool false)], args := [d1, d2] }
  | _ => none }
def FnExactIsPackingWrongFalsely : Prop := fnExactIsPackingRow.holds Try.pinned (OpenSpec.ofChange fnExactIsPackingWrong)

/- THE SECOND FORM. 'bulk': how many values and letters a reading holds, each counted each time it is reached (what is shared counts as often as it is met; a slice's spare places count too). A statement '..UptoSaid' is the law's where the arguments, and the package variables that the reading takes, are together of bulk at most 1048576: NARROWER than '..Said'. Prove '..Said' where nothing that the law and all that it calls make is longer than what came in: it says more and counts as full. Else prove '..UptoSaid'. A law counts once. -/
mutual
def uptoBulk {H : Type} : DataW H → Nat
  | .lit (.string bytes) => bytes.length + 1
  | .lit _ => 1
  | .nil => 1
  | .ptr d => uptoBulk d + 1
  | .slice elems spare => uptoBulkAll elems + uptoBulkAll spare + 1
  | .agg parts => uptoBulkAll parts + 1
  | .iface _ d => uptoBulk d + 1
  | .map entries => uptoBulkEntries entries + 1
  | .held _ => 1
def uptoBulkAll {H : Type} : List (DataW H) → Nat
  | [] => 0
  | d :: r => uptoBulk d + uptoBulkAll r
def uptoBulkEntries {H : Type} : List (Lit × DataW H) → Nat
  | [] => 0
  | x :: r => uptoBulkEntry x + uptoBulkEntries r
def uptoBulkEntry {H : Type} : Lit × DataW H → Nat
  | (.string bytes, d) => bytes.length + uptoBulk d + 1
  | (_, d) => uptoBulk d + 1
 end
def uptoSmall : (H : Type) → List (DataW H) → Bool := fun _ ds => decide (uptoBulkAll ds ≤ 1048576)
def OpenSpec.upto (s : _root_.Go.ChangeSpec) : _root_.Go.OpenSpec := { _root_.Go.OpenSpec.ofChange s with cond := some uptoSmall }

/-- 'laws.FnExactIsArcs', WHERE WHAT IT READS IS OF BULK AT MOST 1048576: true; the input reads as it did. -/
def fnExactIsArcsUptoRow : OpenClaim := { program := "ytmempgkhmeekkaa", sum := "d64b7697d130ec8bda4064a4afe87b3d46907ee12f953d0c9b7478c3279dc581", func := "loop.example/g02081/laws.FnExactIsArcs", spec := "fnExactIsArcs", apart := false, narrowed := true }
def FnExactIsArcsUptoSaid : Prop := fnExactIsArcsUptoRow.holds Try.pinned (OpenSpec.upto fnExactIsArcsSpec)

/-- 'laws.FnExactArcsAt', WHERE WHAT IT READS IS OF BULK AT MOST 1048576: true; the input reads as it did. -/
def fnExactArcsAtUptoRow : OpenClaim := { program := "ytmempgkhmeekkaa", sum := "d64b7697d130ec8bda4064a4afe87b3d46907ee12f953d0c9b7478c3279dc581", func := "loop.example/g02081/laws.FnExactArcsAt", spec := "fnExactArcsAt", apart := false, narrowed := true }
def FnExactArcsAtUptoSaid : Prop := fnExactArcsAtUptoRow.holds Try.pinned (OpenSpec.upto fnExactArcsAtSpec)

/-- 'laws.FnExactCoversCircle', WHERE WHAT IT READS IS OF BULK AT MOST 1048576: true; the input reads as it did. -/
def fnExactCoversCircleUptoRow : OpenClaim := { program := "ytmempgkhmeekkaa", sum := "d64b7697d130ec8bda4064a4afe87b3d46907ee12f953d0c9b7478c3279dc581", func := "loop.example/g02081/laws.FnExactCoversCircle", spec := "fnExactCoversCircle", apart := false, narrowed := true }
def FnExactCoversCircleUptoSaid : Prop := fnExactCoversCircleUptoRow.holds Try.pinned (OpenSpec.upto fnExactCoversCircleSpec)

/-- 'laws.FnExactFreePoint', WHERE WHAT IT READS IS OF BULK AT MOST 1048576: true; the input reads as it did. -/
def fnExactFreePointUptoRow : OpenClaim := { program := "ytmempgkhmeekkaa", sum := "d64b7697d130ec8bda4064a4afe87b3d46907ee12f953d0c9b7478c3279dc581", func := "loop.example/g02081/laws.FnExactFreePoint", spec := "fnExactFreePoint", apart := false, narrowed := true }
def FnExactFreePointUptoSaid : Prop := fnExactFreePointUptoRow.holds Try.pinned (OpenSpec.upto fnExactFreePointSpec)

/-- 'laws.FnExactIsDominating', WHERE WHAT IT READS IS OF BULK AT MOST 1048576: true; the input reads as it did. -/
def fnExactIsDominatingUptoRow : OpenClaim := { program := "ytmempgkhmeekkaa", sum := "d64b7697d130ec8bda4064a4afe87b3d46907ee12f953d0c9b7478c3279dc581", func := "loop.example/g02081/laws.FnExactIsDominating", spec := "fnExactIsDominating", apart := false, narrowed := true }
def FnExactIsDominatingUptoSaid : Prop := fnExactIsDominatingUptoRow.holds Try.pinned (OpenSpec.upto fnExactIsDominatingSpec)

/-- 'laws.FnExactIsPacking', WHERE WHAT IT READS IS OF BULK AT MOST 1048576: true; the input reads as it did. -/
def fnExactIsPackingUptoRow : OpenClaim := { program := "ytmempgkhmeekkaa", sum := "d64b7697d130ec8bda4064a4afe87b3d46907ee12f953d0c9b7478c3279dc581", func := "loop.example/g02081/laws.FnExactIsPacking", spec := "fnExactIsPacking", apart := false, narrowed := true }
def FnExactIsPackingUptoSaid : Prop := fnExactIsPackingUptoRow.holds Try.pinned (OpenSpec.upto fnExactIsPackingSpec)

end Rows
end Go.Proofs.Ytmempgkhmeekkaa
