/-
  No cell of these rows narrows 'for every input' (looked for: loops, veiled, ifaces, maps, wideKeys, modest, calm, conditions, laid).
  DERIVED. THE GIVEN ROWS OF THIS SEAT. 9 by the template 'for every input the law returns true; each argument reads behind the call as it read before'; 0 by the template 'total and deterministic' (their statements: YtdbaflimcbidjaaTotals.lean).
  GIVEN WITH THE SEED: the statements are not yours to turn. If you find one false, say at which input.
  Laid BY PROGRAM, IN A SANDBOX (cutbox-rows.mjs): the forced cells as the released guide's own fill.sh prints them over the translation 917c20328e98d17b… (all of the seat's roots in one cut). By AI agents, Wed Nov 11 2026. No macro, syntax, notation, axiom, sorry.
-/
import Derived.Test.YtdbaflimcbidjaaChecked
import GoSem.Claim
import GoSem.ClaimJoined
import GoSem.ClaimMapViews
import Derived.JoinedTies
import Derived.KernelRfl
namespace Go.Proofs.Ytdbaflimcbidjaa
/- THE CELL 'sum', in the pinned program and in every row, IS THE sha256 OF THE DUMP (.gsa) THAT YtdbaflimcbidjaaProg.lean LOADS. Nothing in Lean hashes anything: it is a label: what it is worth is what the hold of that sum in a sandbox is worth. -/
noncomputable def Try.pinned : Pinned := { name := "ytdbaflimcbidjaa", sum := "917c20328e98d17bbab381c036c88b313cd4aa1952f64ec8a391244f4126192d", checked := Try.checked }
namespace Rows
def none {H : Type} : Left H := { results := [], args := [] }

/-- 'laws.FnExactCutArcs': WHATEVER THE INPUT: true; the input reads as it did. -/
def fnExactCutArcsSpec : ChangeSpec := { name := "fnExactCutArcs", fn := fun _ => fun
  | [d1, d2] => { results := [.lit (.bool true)], args := [d1, d2] }
  | _ => none }
def fnExactCutArcsRow : OpenClaim := { program := "ytdbaflimcbidjaa", sum := "917c20328e98d17bbab381c036c88b313cd4aa1952f64ec8a391244f4126192d", func := "loop.example/g02081/laws.FnExactCutArcs", spec := "fnExactCutArcs", apart := false }
def FnExactCutArcsSaid : Prop := fnExactCutArcsRow.holds Try.pinned (OpenSpec.ofChange fnExactCutArcsSpec)

/-- ITS FALSE NEIGHBOUR: 'it returns false'. Refute it at one input. -/
def fnExactCutArcsWrong : ChangeSpec := { name := "fnExactCutArcs", fn := fun _ => fun
  | [d1, d2] => { results := [.lit (.bool false)], args := [d1, d2] }
  | _ => none }
def FnExactCutArcsWrongFalsely : Prop := fnExactCutArcsRow.holds Try.pinned (OpenSpec.ofChange fnExactCutArcsWrong)

/-- 'laws.FnExactGraphOfArcs': WHATEVER THE INPUT: true; the input reads as it did. -/
def fnExactGraphOfArcsSpec : ChangeSpec := { name := "fnExactGraphOfArcs", fn := fun _ => fun
  | [d] => { results := [.lit (.bool true)], args := [d] }
  | _ => none }
def fnExactGraphOfArcsRow : OpenClaim := { program := "ytdbaflimcbidjaa", sum := "917c20328e98d17bbab381c036c88b313cd4aa1952f64ec8a391244f4126192d", func := "loop.example/g02081/laws.FnExactGraphOfArcs", spec := "fnExactGraphOfArcs", unfollowed := true, recurses := true, apart := false }
def FnExactGraphOfArcsSaid : Prop := fnExactGraphOfArcsRow.holds Try.pinned (OpenSpec.ofChange fnExactGraphOfArcsSpec)

/-- ITS FALSE NEIGHBOUR: 'it returns false'. Refute it at one input. -/
def fnExactGraphOfArcsWrong : ChangeSpec := { name := "fnExactGraphOfArcs", fn := fun _ => fun
  | [d] => { results := [.lit (.bool false)], args := [d] }
  | _ => none }
def FnExactGraphOfArcsWrongFalsely : Prop := fnExactGraphOfArcsRow.holds Try.pinned (OpenSpec.ofChange fnExactGraphOfArcsWrong)

/-- 'laws.FnExactIsHereditary': WHATEVER THE INPUT: true; the input reads as it did. -/
def fnExactIsHereditarySpec : ChangeSpec := { name := "fnExactIsHereditary", fn := fun _ => fun
  | [d] => { results := [.lit (.bool true)], args := [d] }
  | _ => none }
def fnExactIsHereditaryRow : OpenClaim := { program := "ytdbaflimcbidjaa", sum := "917c20328e98d17bbab381c036c88b313cd4aa1952f64ec8a391244f4126192d", func := "loop.example/g02081/laws.FnExactIsHereditary", spec := "fnExactIsHereditary", apart := false }
def FnExactIsHereditarySaid : Prop := fnExactIsHereditaryRow.holds Try.pinned (OpenSpec.ofChange fnExactIsHereditarySpec)

/-- ITS FALSE NEIGHBOUR: 'it returns false'. Refute it at one input. -/
def fnExactIsHereditaryWrong : ChangeSpec := { name := "fnExactIsHereditary", fn := fun _ => fun
  | [d] => { results := [.lit (.bool false)], args := [d] }
  | _ => none }
def FnExactIsHereditaryWrongFalsely : Prop := fnExactIsHereditaryRow.holds Try.pinned (OpenSpec.ofChange fnExactIsHereditaryWrong)

/-- 'laws.FnExactBestBand': WHATEVER THE INPUT: true; the input reads as it did. -/
def fnExactBestBandSpec : ChangeSpec := { name := "fnExactBestBand", fn := fun _ => fun
  | [d] => { results := [.lit (.bool true)], args := [d] }
  | _ => none }
def fnExactBestBandRow : OpenClaim := { program := "ytdbaflimcbidjaa", sum := "917c20328e98d17bbab381c036c88b313cd4aa1952f64ec8a391244f4126192d", func := "loop.example/g02081/laws.FnExactBestBand", spec := "fnExactBestBand", unfollowed := true, recurses := true, apart := false }
def FnExactBestBandSaid : Prop := fnExactBestBandRow.holds Try.pinned (OpenSpec.ofChange fnExactBestBandSpec)

/-- ITS FALSE NEIGHBOUR: 'it returns false'. Refute it at one input. -/
def fnExactBestBandWrong : ChangeSpec := { name := "fnExactBestBand", fn := fun _ => fun
  | [d] => { results := [.lit (.bool false)], args := [d] }
  | _ => none }
def FnExactBestBandWrongFalsely : Prop := fnExactBestBandRow.holds Try.pinned (OpenSpec.ofChange fnExactBestBandWrong)

/-- 'laws.FnExactBandwidthOf': WHATEVER THE INPUT: true; the input reads as it did. -/
def fnExactBandwidthOfSpec : ChangeSpec := { name := "fnExactBandwidthOf", fn := fun _ => fun
  | [d] => { results := [.lit (.bool true)], args := [d] }
  | _ => none }
def fnExactBandwidthOfRow : OpenClaim := { program := "ytdbaflimcbidjaa", sum := "917c20328e98d17bbab381c036c88b313cd4aa1952f64ec8a391244f4126192d", func := "loop.example/g02081/laws.FnExactBandwidthOf", spec := "fnExactBandwidthOf", unfollowed := true, recurses := true, apart := false }
def FnExactBandwidthOfSaid : Prop := fnExactBandwidthOfRow.holds Try.pinned (OpenSpec.ofChange fnExactBandwidthOfSpec)

/-- ITS FALSE NEIGHBOUR: 'it returns false'. Refute it at one input. -/
def fnExactBandwidthOfWrong : ChangeSpec := { name := "fnExactBandwidthOf", fn := fun _ => fun
  | [d] => { results := [.lit (.bool false)], args := [d] }
  | _ => none }
def FnExactBandwidthOfWrongFalsely : Prop := fnExactBandwidthOfRow.holds Try.pinned (OpenSpec.ofChange fnExactBandwidthOfWrong)

/-- 'laws.FnExactPruneOrder': WHATEVER THE INPUT: true; the input reads as it did. -/
def fnExactPruneOrderSpec : ChangeSpec := { name := "fnExactPruneOrder", fn := fun _ => fun
  | [d] => { results := [.lit (.bool true)], args := [d] }
  | _ => none }
def fnExactPruneOrderRow : OpenClaim := { program := "ytdbaflimcbidjaa", sum := "917c20328e98d17bbab381c036c88b313cd4aa1952f64ec8a391244f4126192d", func := "loop.example/g02081/laws.FnExactPruneOrder", spec := "fnExactPruneOrder", apart := false }
def FnExactPruneOrderSaid : Prop := fnExactPruneOrderRow.holds Try.pinned (OpenSpec.ofChange fnExactPruneOrderSpec)

/-- ITS FALSE NEIGHBOUR: 'it returns false'. Refute it at one input. -/
def fnExactPruneOrderWrong : ChangeSpec := { name := "fnExactPruneOrder", fn := fun _ => fun
  | [d] => { results := [.lit (.bool false)], args := [d] }
  | _ => none }
def FnExactPruneOrderWrongFalsely : Prop := fnExactPruneOrderRow.holds Try.pinned (OpenSpec.ofChange fnExactPruneOrderWrong)

/-- 'laws.FnExactWidthOfOrder': WHATEVER THE INPUT: true; the input reads as it did. -/
def fnExactWidthOfOrderSpec : ChangeSpec := { name := "fnExactWidthOfOrder", fn := fun _ => fun
  | [d1, d2] => { results := [.lit (.bool true)], args := [d1, d2] }
  | _ => none }
def fnExactWidthOfOrderRow : OpenClaim := { program := "ytdbaflimcbidjaa", sum := "917c20328e98d17bbab381c036c88b313cd4aa1952f64ec8a391244f4126192d", func := "loop.example/g02081/laws.FnExactWidthOfOrder", spec := "fnExactWidthOfOrder", apart := false }
def FnExactWidthOfOrderSaid : Prop := fnExactWidthOfOrderRow.holds Try.pinned (OpenSpec.ofChange fnExactWidthOfOrderSpec)

/-- ITS FALSE NEIGHBOUR: 'it returns false'. Refute it at one input. -/
def fnExactWidthOfOrderWrong : ChangeSpec := { name := "fnExactWidthOfOrder", fn := fun _ => fun
  | [d1, d2] => { results := [.lit (.bool false)], args := [d1, d2] }
  | _ => none }
def FnExactWidthOfOrderWrongFalsely : Prop := fnExactWidthOfOrderRow.holds Try.pinned (OpenSpec.ofChange fnExactWidthOfOrderWrong)

/-- 'laws.FnExactTreewidthOf': WHATEVER THE INPUT: true; the input reads as it did. -/
def fnExactTreewidthOfSpec : ChangeSpec := { name := "fnExactTreewidthOf", fn := fun _ => fun
  | [d] => { results := [.lit (.bool true)], args := [d] }
  | _ => none }
def fnExactTreewidthOfRow : OpenClaim := { program := "ytdbaflimcbidjaa", sum := "917c20328e98d17bbab381c036c88b313cd4aa1952f64ec8a391244f4126192d", func := "loop.example/g02081/laws.FnExactTreewidthOf", spec := "fnExactTreewidthOf", unfollowed := true, recurses := true, apart := false }
def FnExactTreewidthOfSaid : Prop := fnExactTreewidthOfRow.holds Try.pinned (OpenSpec.ofChange fnExactTreewidthOfSpec)

/-- ITS FALSE NEIGHBOUR: 'it returns false'. Refute it at one input. -/
def fnExactTreewidthOfWrong : ChangeSpec := { name := "fnExactTreewidthOf", fn := fun _ => fun
  | [d] => { results := [.lit (.bool false)], args := [d] }
  | _ => none }
def FnExactTreewidthOfWrongFalsely : Prop := fnExactTreewidthOfRow.holds Try.pinned (OpenSpec.ofChange fnExactTreewidthOfWrong)

/-- 'laws.FnExactGraphOfPrunes': WHATEVER THE INPUT: true; the input reads as it did. -/
def fnExactGraphOfPrunesSpec : ChangeSpec := { name := "fnExactGraphOfPrunes", fn := fun _ => fun
  | [d] => { results := [.lit (.bool true)], args := [d] }
  | _ => none }
def fnExactGraphOfPrunesRow : OpenClaim := { program := "ytdbaflimcbidjaa", sum := "917c20328e98d17bbab381c036c88b313cd4aa1952f64ec8a391244f4126192d", func := "loop.example/g02081/laws.FnExactGraphOfPrunes", spec := "fnExactGraphOfPrunes", recurses := true, apart := false }
def FnExactGraphOfPrunesSaid : Prop := fnExactGraphOfPrunesRow.holds Try.pinned (OpenSpec.ofChange fnExactGraphOfPrunesSpec)

/-- ITS FALSE NEIGHBOUR: 'it returns false'. Refute it at one input. -/
def fnExactGraphOfPrunesWrong : ChangeSpec := { name := "fnExactGraphOfPrunes", fn := fun _ => fun
  | [d] => { results := [.lit (.bool false)], args := [d] }
  | _ => none }
def FnExactGraphOfPrunesWrongFalsely : Prop := fnExactGraphOfPrunesRow.holds Try.pinned (OpenSpec.ofChange fnExactGraphOfPrunesWrong)

/- THE SECOND FORM. 'bulk': how many values and letters a reading holds, each counted each time it is reached (what is shared counts as often as it is met; a slice's spare places count too). A statement '..UptoSaid' is the law's where the arguments, and the package variables that the reading takes, are together of bulk at most 1048576: NARROWER than '..Said'. Prove '..Said' where nothing that the law and all that it calls make is longer than what came in: it says more and counts as full. Else prove '..UptoSaid'. A law counts once. -/
mutual
def uptoBulk {H : Type} : DataW H → Nat
  | .lit (.string bytes) => bytes.length + 1
  | .lit _ => 1
  | .nil => 1
  | .ptr d => uptoBulk d + 1
  | .slice elems spare => uptoBulkAll elems + uptoBulkAll spare + 1
  | .agg parts => uptoBulkAll parts + 1
  | .iface _ d => uptoBulk d + 1
  | .map entries => uptoBulkEntries entries + 1
  | .held _ => 1
def uptoBulkAll {H : Type} : List (DataW H) → Nat
  | [] => 0
  | d :: r => uptoBulk d + uptoBulkAll r
def uptoBulkEntries {H : Type} : List (Lit × DataW H) → Nat
  | [] => 0
  | x :: r => uptoBulkEntry x + uptoBulkEntries r
def uptoBulkEntry {H : Type} : Lit × DataW H → Nat
  | (.string bytes, d) => bytes.length + uptoBulk d + 1
  | (_, d) => uptoBulk d + 1
 end
def uptoSmall : (H : Type) → List (DataW H) → Bool := fun _ ds => decide (uptoBulkAll ds ≤ 1048576)
def OpenSpec.upto (s : _root_.Go.ChangeSpec) : _root_.Go.OpenSpec := { _root_.Go.OpenSpec.ofChange s with cond := some uptoSmall }

/-- 'laws.FnExactCutArcs', WHERE WHAT IT READS IS OF BULK AT MOST 1048576: true; the input reads as it did. -/
def fnExactCutArcsUptoRow : OpenClaim := { program := "ytdbaflimcbidjaa", sum := "917c20328e98d17bbab381c036c88b313cd4aa1952f64ec8a391244f4126192d", func := "loop.example/g02081/laws.FnExactCutArcs", spec := "fnExactCutArcs", apart := false, narrowed := true }
def FnExactCutArcsUptoSaid : Prop := fnExactCutArcsUptoRow.holds Try.pinned (OpenSpec.upto fnExactCutArcsSpec)

/-- 'laws.FnExactGraphOfArcs', WHERE WHAT IT READS IS OF BULK AT MOST 1048576: true; the input reads as it did. -/
def fnExactGraphOfArcsUptoRow : OpenClaim := { program := "ytdbaflimcbidjaa", sum := "917c20328e98d17bbab381c036c88b313cd4aa1952f64ec8a391244f4126192d", func := "loop.example/g02081/laws.FnExactGraphOfArcs", spec := "fnExactGraphOfArcs", unfollowed := true, recurses := true, apart := false, narrowed := true }
def FnExactGraphOfArcsUptoSaid : Prop := fnExactGraphOfArcsUptoRow.holds Try.pinned (OpenSpec.upto fnExactGraphOfArcsSpec)

/-- 'laws.FnExactIsHereditary', WHERE WHAT IT READS IS OF BULK AT MOST 1048576: true; the input reads as it did. -/
def fnExactIsHereditaryUptoRow : OpenClaim := { program := "ytdbaflimcbidjaa", sum := "917c20328e98d17bbab381c036c88b313cd4aa1952f64ec8a391244f4126192d", func := "loop.example/g02081/laws.FnExactIsHereditary", spec := "fnExactIsHereditary", apart := false, narrowed := true }
def FnExactIsHereditaryUptoSaid : Prop := fnExactIsHereditaryUptoRow.holds Try.pinned (OpenSpec.upto fnExactIsHereditarySpec)

/-- 'laws.FnExactBestBand', WHERE WHAT IT READS IS OF BULK AT MOST 1048576: true; the input reads as it did. -/
def fnExactBestBandUptoRow : OpenClaim := { program := "ytdbaflimcbidjaa", sum := "917c20328e98d17bbab381c036c88b313cd4aa1952f64ec8a391244f4126192d", func := "loop.example/g02081/laws.FnExactBestBand", spec := "fnExactBestBand", unfollowed := true, recurses := true, apart := false, narrowed := true }
def FnExactBestBandUptoSaid : Prop := fnExactBestBandUptoRow.holds Try.pinned (OpenSpec.upto fnExactBestBandSpec)

/-- 'laws.FnExactBandwidthOf', WHERE WHAT IT READS IS OF BULK AT MOST 1048576: true; the input reads as it did. -/
def fnExactBandwidthOfUptoRow : OpenClaim := { program := "ytdbaflimcbidjaa", sum := "917c20328e98d17bbab381c036c88b313cd4aa1952f64ec8a391244f4126192d", func := "loop.example/g02081/laws.FnExactBandwidthOf", spec := "fnExactBandwidthOf", unfollowed := true, recurses := true, apart := false, narrowed := true }
def FnExactBandwidthOfUptoSaid : Prop := fnExactBandwidthOfUptoRow.holds Try.pinned (OpenSpec.upto fnExactBandwidthOfSpec)

/-- 'laws.FnExactPruneOrder', WHERE WHAT IT READS IS OF BULK AT MOST 1048576: true; the input reads as it did. -/
def fnExactPruneOrderUptoRow : OpenClaim := { program := "ytdbaflimcbidjaa", sum := "917c20328e98d17bbab381c036c88b313cd4aa1952f64ec8a391244f4126192d", func := "loop.example/g02081/laws.FnExactPruneOrder", spec := "fnExactPruneOrder", apart := false, narrowed := true }
def FnExactPruneOrderUptoSaid : Prop := fnExactPruneOrderUptoRow.holds Try.pinned (OpenSpec.upto fnExactPruneOrderSpec)

/-- 'laws.FnExactWidthOfOrder', WHERE WHAT IT READS IS OF BULK AT MOST 1048576: true; the input reads as it did. -/
def fnExactWidthOfOrderUptoRow : OpenClaim := { program := "ytdbaflimcbidjaa", sum := "917c20328e98d17bbab381c036c88b313cd4aa1952f64ec8a391244f4126192d", func := "loop.example/g02081/laws.FnExactWidthOfOrder", spec := "fnExactWidthOfOrder", apart := false, narrowed := true }
def FnExactWidthOfOrderUptoSaid : Prop := fnExactWidthOfOrderUptoRow.holds Try.pinned (OpenSpec.upto fnExactWidthOfOrderSpec)

/-- 'laws.FnExactTreewidthOf', WHERE WHAT IT READS IS OF BULK AT MOST 1048576: true; the input reads as it did. -/
def fnExactTreewidthOfUptoRow : OpenClaim := { program := "ytdbaflimcbidjaa", sum := "917c20328e98d17bbab381c036c88b313cd4aa1952f64ec8a391244f4126192d", func := "loop.example/g02081/laws.FnExactTreewidthOf", spec := "fnExactTreewidthOf", unfollowed := true, recurses := true, apart := false, narrowed := true }
def FnExactTreewidthOfUptoSaid : Prop := fnExactTreewidthOfUptoRow.holds Try.pinned (OpenSpec.upto fnExactTreewidthOfSpec)

/-- 'laws.FnExactGraphOfPrunes', WHERE WHAT IT READS IS OF BULK AT MOST 1048576: true; the input reads as it did. -/
def fnExactGraphOfPrunesUptoRow : OpenClaim := { program := "ytdbaflimcbidjaa", sum := "917c20328e98d17bbab381c036c88b313cd4aa1952f64ec8a391244f4126192d", func := "loop.example/g02081/laws.FnExactGraphOfPrunes", spec := "fnExactGraphOfPrunes", recurses := true, apart := false, narrowed := true }
def FnExactGraphOfPrunesUptoSaid : Prop := fnExactGraphOfPrunesUptoRow.holds Try.pinned (OpenSpec.upto fnExactGraphOfPrunesSpec)

end Rows
end Go.Proofs.Ytdbaflimcbidjaa
