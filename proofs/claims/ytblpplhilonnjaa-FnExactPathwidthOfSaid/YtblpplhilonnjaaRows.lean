/-
  No cell of these rows narrows 'for every input' (looked for: loops, veiled, ifaces, maps, wideKeys, modest, calm, conditions, laid).
  DERIVED. THE GIVEN ROWS OF THIS SEAT. 9 by the template 'for every input the law returns true; each argument reads behind the call as it read before'; 0 by the template 'total and deterministic' (their statements: YtblpplhilonnjaaTotals.lean).
  GIVEN WITH THE SEED: the statements are not yours to turn. If you find one false, say at which input.
  Laid BY PROGRAM, IN A SANDBOX (cutbox-rows.mjs): the forced cells as the released guide's own fill.sh prints them over the translation f97e06af296e57cb… (all of the seat's roots in one cut). By AI agents, Wed Nov 11 2026. No macro, syntax, notation, axiom, sorry.
-/
import Derived.Test.YtblpplhilonnjaaChecked
import GoSem.Claim
import GoSem.ClaimJoined
import GoSem.ClaimMapViews
import Derived.JoinedTies
import Derived.KernelRfl
namespace Go.Proofs.Ytblpplhilonnjaa
/- THE CELL 'sum', in the pinned program and in every row, IS THE sha256 OF THE DUMP (.gsa) THAT YtblpplhilonnjaaProg.lean LOADS. Nothing in Lean hashes anything: it is a label: what it is worth is what the hold of that sum in a sandbox is worth. -/
noncomputable def Try.pinned : Pinned := { name := "ytblpplhilonnjaa", sum := "f97e06af296e57cb9477cb328b4bd47ed569b997a60dbb08e8a52439a55dee22", checked := Try.checked }
namespace Rows
def none {H : Type} : Left H := { results := [], args := [] }

/-- 'laws.FnExactGraphOfArcs': WHATEVER THE INPUT: true; the input reads as it did. -/
def fnExactGraphOfArcsSpec : ChangeSpec := { name := "fnExactGraphOfArcs", fn := fun _ => fun
  | [d] => { results := [.lit (.bool true)], args := [d] }
  | _ => none }
def fnExactGraphOfArcsRow : OpenClaim := { program := "ytblpplhilonnjaa", sum := "f97e06af296e57cb9477cb328b4bd47ed569b997a60dbb08e8a52439a55dee22", func := "loop.example/g02081/laws.FnExactGraphOfArcs", spec := "fnExactGraphOfArcs", unfollowed := true, recurses := true, apart := false }
def FnExactGraphOfArcsSaid : Prop := fnExactGraphOfArcsRow.holds Try.pinned (OpenSpec.ofChange fnExactGraphOfArcsSpec)

/-- ITS FALSE NEIGHBOUR: 'it returns false'. Refute it at one input. -/
def fnExactGraphOfArcsWrong : ChangeSpec := { name := "fnExactGraphOfArcs", fn := fun _ => fun
  | [d] => { results := [.lit (.bool false)], args := [d] }
  | _ => none }
def FnExactGraphOfArcsWrongFalsely : Prop := fnExactGraphOfArcsRow.holds Try.pinned (OpenSpec.ofChange fnExactGraphOfArcsWrong)

/-- 'laws.FnExactPathwidthOf': WHATEVER THE INPUT: true; the input reads as it did. -/
def fnExactPathwidthOfSpec : ChangeSpec := { name := "fnExactPathwidthOf", fn := fun _ => fun
  | [d] => { results := [.lit (.bool true)], args := [d] }
  | _ => none }
def fnExactPathwidthOfRow : OpenClaim := { program := "ytblpplhilonnjaa", sum := "f97e06af296e57cb9477cb328b4bd47ed569b997a60dbb08e8a52439a55dee22", func := "loop.example/g02081/laws.FnExactPathwidthOf", spec := "fnExactPathwidthOf", unfollowed := true, recurses := true, apart := false }
def FnExactPathwidthOfSaid : Prop := fnExactPathwidthOfRow.holds Try.pinned (OpenSpec.ofChange fnExactPathwidthOfSpec)

/-- ITS FALSE NEIGHBOUR: 'it returns false'. Refute it at one input. -/
def fnExactPathwidthOfWrong : ChangeSpec := { name := "fnExactPathwidthOf", fn := fun _ => fun
  | [d] => { results := [.lit (.bool false)], args := [d] }
  | _ => none }
def FnExactPathwidthOfWrongFalsely : Prop := fnExactPathwidthOfRow.holds Try.pinned (OpenSpec.ofChange fnExactPathwidthOfWrong)

/-- 'laws.FnExactBestBand': WHATEVER THE INPUT: true; the input reads as it did. -/
def fnExactBestBandSpec : ChangeSpec := { name := "fnExactBestBand", fn := fun _ => fun
  | [d] => { results := [.lit (.bool true)], args := [d] }
  | _ => none }
def fnExactBestBandRow : OpenClaim := { program := "ytblpplhilonnjaa", sum := "f97e06af296e57cb9477cb328b4bd47ed569b997a60dbb08e8a52439a55dee22", func := "loop.example/g02081/laws.FnExactBestBand", spec := "fnExactBestBand", unfollowed := true, recurses := true, apart := false }
def FnExactBestBandSaid : Prop := fnExactBestBandRow.holds Try.pinned (OpenSpec.ofChange fnExactBestBandSpec)

/-- ITS FALSE NEIGHBOUR: 'it returns false'. Refute it at one input. -/
def fnExactBestBandWrong : ChangeSpec := { name := "fnExactBestBand", fn := fun _ => fun
  | [d] => { results := [.lit (.bool false)], args := [d] }
  | _ => none }
def FnExactBestBandWrongFalsely : Prop := fnExactBestBandRow.holds Try.pinned (OpenSpec.ofChange fnExactBestBandWrong)

/-- 'laws.FnExactBandwidthOf': WHATEVER THE INPUT: true; the input reads as it did. -/
def fnExactBandwidthOfSpec : ChangeSpec := { name := "fnExactBandwidthOf", fn := fun _ => fun
  | [d] => { results := [.lit (.bool true)], args := [d] }
  | _ => none }
def fnExactBandwidthOfRow : OpenClaim := { program := "ytblpplhilonnjaa", sum := "f97e06af296e57cb9477cb328b4bd47ed569b997a60dbb08e8a52439a55dee22", func := "loop.example/g02081/laws.FnExactBandwidthOf", spec := "fnExactBandwidthOf", unfollowed := true, recurses := true, apart := false }
def FnExactBandwidthOfSaid : Prop := fnExactBandwidthOfRow.holds Try.pinned (OpenSpec.ofChange fnExactBandwidthOfSpec)

/-- ITS FALSE NEIGHBOUR: 'it returns false'. Refute it at one input. -/
def fnExactBandwidthOfWrong : ChangeSpec := { name := "fnExactBandwidthOf", fn := fun _ => fun
  | [d] => { results := [.lit (.bool false)], args := [d] }
  | _ => none }
def FnExactBandwidthOfWrongFalsely : Prop := fnExactBandwidthOfRow.holds Try.pinned (OpenSpec.ofChange fnExactBandwidthOfWrong)

/-- 'laws.FnExactWidthOfOrder': WHATEVER THE INPUT: true; the input reads as it did. -/
def fnExactWidthOfOrderSpec : ChangeSpec := { name := "fnExactWidthOfOrder", fn := fun _ => fun
  | [d1, d2] => { results := [.lit (.bool true)], args := [d1, d2] }
  | _ => none }
def fnExactWidthOfOrderRow : OpenClaim := { program := "ytblpplhilonnjaa", sum := "f97e06af296e57cb9477cb328b4bd47ed569b997a60dbb08e8a52439a55dee22", func := "loop.example/g02081/laws.FnExactWidthOfOrder", spec := "fnExactWidthOfOrder", apart := false }
def FnExactWidthOfOrderSaid : Prop := fnExactWidthOfOrderRow.holds Try.pinned (OpenSpec.ofChange fnExactWidthOfOrderSpec)

/-- ITS FALSE NEIGHBOUR: 'it returns false'. Refute it at one input. -/
def fnExactWidthOfOrderWrong : ChangeSpec := { name := "fnExactWidthOfOrder", fn := fun _ => fun
  | [d1, d2] => { results := [.lit (.bool false)], args := [d1, d2] }
  | _ => none }
def FnExactWidthOfOrderWrongFalsely : Prop := fnExactWidthOfOrderRow.holds Try.pinned (OpenSpec.ofChange fnExactWidthOfOrderWrong)

/-- 'laws.FnExactTreewidthOf': WHATEVER THE INPUT: true; the input reads as it did. -/
def fnExactTreewidthOfSpec : ChangeSpec := { name := "fnExactTreewidthOf", fn := fun _ => fun
  | [d] => { results := [.lit (.bool true)], args := [d] }
  | _ => none }
def fnExactTreewidthOfRow : OpenClaim := { program := "ytblpplhilonnjaa", sum := "f97e06af296e57cb9477cb328b4bd47ed569b997a60dbb08e8a52439a55dee22", func := "loop.example/g02081/laws.FnExactTreewidthOf", spec := "fnExactTreewidthOf", unfollowed := true, recurses := true, apart := false }
def FnExactTreewidthOfSaid : Prop := fnExactTreewidthOfRow.holds Try.pinned (OpenSpec.ofChange fnExactTreewidthOfSpec)

/-- ITS FALSE NEIGHBOUR: 'it returns false'. Refute it at one input. -/
def fnExactTreewidthOfWrong : ChangeSpec := { name := "fnExactTreewidthOf", fn := fun _ => fun
  | [d] => { results := [.lit (.bool false)], args := [d] }
  | _ => none }
def FnExactTreewidthOfWrongFalsely : Prop := fnExactTreewidthOfRow.holds Try.pinned (OpenSpec.ofChange fnExactTreewidthOfWrong)

/-- 'laws.FnExactGraphOfPrunes': WHATEVER THE INPUT: true; the input reads as it did. -/
def fnExactGraphOfPrunesSpec : ChangeSpec := { name := "fnExactGraphOfPrunes", fn := fun _ => fun
  | [d] => { results := [.lit (.bool true)], args := [d] }
  | _ => none }
def fnExactGraphOfPrunesRow : OpenClaim := { program := "ytblpplhilonnjaa", sum := "f97e06af296e57cb9477cb328b4bd47ed569b997a60dbb08e8a52439a55dee22", func := "loop.example/g02081/laws.FnExactGraphOfPrunes", spec := "fnExactGraphOfPrunes", recurses := true, apart := false }
def FnExactGraphOfPrunesSaid : Prop := fnExactGraphOfPrunesRow.holds Try.pinned (OpenSpec.ofChange fnExactGraphOfPrunesSpec)

/-- ITS FALSE NEIGHBOUR: 'it returns false'. Refute it at one input. -/
def fnExactGraphOfPrunesWrong : ChangeSpec := { name := "fnExactGraphOfPrunes", fn := fun _ => fun
  | [d] => { results := [.lit (.bool false)], args := [d] }
  | _ => none }
def FnExactGraphOfPrunesWrongFalsely : Prop := fnExactGraphOfPrunesRow.holds Try.pinned (OpenSpec.ofChange fnExactGraphOfPrunesWrong)

/-- 'laws.FnColors': WHATEVER THE INPUT: true; the input reads as it did. -/
def fnColorsSpec : ChangeSpec := { name := "fnColors", fn := fun _ => fun
  | [d] => { results := [.lit (.bool true)], args := [d] }
  | _ => none }
def fnColorsRow : OpenClaim := { program := "ytblpplhilonnjaa", sum := "f97e06af296e57cb9477cb328b4bd47ed569b997a60dbb08e8a52439a55dee22", func := "loop.example/g02081/laws.FnColors", spec := "fnColors", unfollowed := true, recurses := true, apart := false }
def FnColorsSaid : Prop := fnColorsRow.holds Try.pinned (OpenSpec.ofChange fnColorsSpec)

/-- ITS FALSE NEIGHBOUR: 'it returns false'. Refute it at one input. -/
def fnColorsWrong : ChangeSpec := { name := "fnColors", fn := fun _ => fun
  | [d] => { results := [.lit (.bool false)], args := [d] }
  | _ => none }
def FnColorsWrongFalsely : Prop := fnColorsRow.holds Try.pinned (OpenSpec.ofChange fnColorsWrong)

/-- 'laws.FnDomination': WHATEVER THE INPUT: true; the input reads as it did. -/
def fnDominationSpec : ChangeSpec := { name := "fnDomination", fn := fun _ => fun
  | [d] => { results := [.lit (.bool true)], args := [d] }
  | _ => none }
def fnDominationRow : OpenClaim := { program := "ytblpplhilonnjaa", sum := "f97e06af296e57cb9477cb328b4bd47ed569b997a60dbb08e8a52439a55dee22", func := "loop.example/g02081/laws.FnDomination", spec := "fnDomination", unfollowed := true, recurses := true, apart := false }
def FnDominationSaid : Prop := fnDominationRow.holds Try.pinned (OpenSpec.ofChange fnDominationSpec)

/-- ITS FALSE NEIGHBOUR: 'it returns false'. Refute it at one input. -/
def fnDominationWrong : ChangeSpec := { name := "fnDomination", fn := fun _ => fun
  | [d] => { results := [.lit (.bool false)], args := [d] }
  | _ => none }
def FnDominationWrongFalsely : Prop := fnDominationRow.holds Try.pinned (OpenSpec.ofChange fnDominationWrong)

/- THE SECOND FORM. 'bulk': how many values and letters a reading holds, each counted each time it is reached (what is shared counts as often as it is met; a slice's spare places count too). A statement '..UptoSaid' is the law's where the arguments, and the package variables that the reading takes, are together of bulk at most 1048576: NARROWER than '..Said'. Prove '..Said' where nothing that the law and all that it calls make is longer than what came in: it says more and counts as full. Else prove '..UptoSaid'. A law counts once. -/
mutual
def uptoBulk {H : Type} : DataW H → Nat
  | .lit (.string bytes) => bytes.length + 1
  | .lit _ => 1
  | .nil => 1
  | .ptr d => uptoBulk d + 1
  | .slice elems spare => uptoBulkAll elems + uptoBulkAll spare + 1
  | .agg parts => uptoBulkAll parts + 1
  | .iface _ d => uptoBulk d + 1
  | .map entries => uptoBulkEntries entries + 1
  | .held _ => 1
def uptoBulkAll {H : Type} : List (DataW H) → Nat
  | [] => 0
  | d :: r => uptoBulk d + uptoBulkAll r
def uptoBulkEntries {H : Type} : List (Lit × DataW H) → Nat
  | [] => 0
  | x :: r => uptoBulkEntry x + uptoBulkEntries r
def uptoBulkEntry {H : Type} : Lit × DataW H → Nat
  | (.string bytes, d) => bytes.length + uptoBulk d + 1
  | (_, d) => uptoBulk d + 1
 end
def uptoSmall : (H : Type) → List (DataW H) → Bool := fun _ ds => decide (uptoBulkAll ds ≤ 1048576)
def OpenSpec.upto (s : _root_.Go.ChangeSpec) : _root_.Go.OpenSpec := { _root_.Go.OpenSpec.ofChange s with cond := some uptoSmall }

/-- 'laws.FnExactGraphOfArcs', WHERE WHAT IT READS IS OF BULK AT MOST 1048576: true; the input reads as it did. -/
def fnExactGraphOfArcsUptoRow : OpenClaim := { program := "ytblpplhilonnjaa", sum := "f97e06af296e57cb9477cb328b4bd47ed569b997a60dbb08e8a52439a55dee22", func := "loop.example/g02081/laws.FnExactGraphOfArcs", spec := "fnExactGraphOfArcs", unfollowed := true, recurses := true, apart := false, narrowed := true }
def FnExactGraphOfArcsUptoSaid : Prop := fnExactGraphOfArcsUptoRow.holds Try.pinned (OpenSpec.upto fnExactGraphOfArcsSpec)

/-- 'laws.FnExactPathwidthOf', WHERE WHAT IT READS IS OF BULK AT MOST 1048576: true; the input reads as it did. -/
def fnExactPathwidthOfUptoRow : OpenClaim := { program := "ytblpplhilonnjaa", sum := "f97e06af296e57cb9477cb328b4bd47ed569b997a60dbb08e8a52439a55dee22", func := "loop.example/g02081/laws.FnExactPathwidthOf", spec := "fnExactPathwidthOf", unfollowed := true, recurses := true, apart := false, narrowed := true }
def FnExactPathwidthOfUptoSaid : Prop := fnExactPathwidthOfUptoRow.holds Try.pinned (OpenSpec.upto fnExactPathwidthOfSpec)

/-- 'laws.FnExactBestBand', WHERE WHAT IT READS IS OF BULK AT MOST 1048576: true; the input reads as it did. -/
def fnExactBestBandUptoRow : OpenClaim := { program := "ytblpplhilonnjaa", sum := "f97e06af296e57cb9477cb328b4bd47ed569b997a60dbb08e8a52439a55dee22", func := "loop.example/g02081/laws.FnExactBestBand", spec := "fnExactBestBand", unfollowed := true, recurses := true, apart := false, narrowed := true }
def FnExactBestBandUptoSaid : Prop := fnExactBestBandUptoRow.holds Try.pinned (OpenSpec.upto fnExactBestBandSpec)

/-- 'laws.FnExactBandwidthOf', WHERE WHAT IT READS IS OF BULK AT MOST 1048576: true; the input reads as it did. -/
def fnExactBandwidthOfUptoRow : OpenClaim := { program := "ytblpplhilonnjaa", sum := "f97e06af296e57cb9477cb328b4bd47ed569b997a60dbb08e8a52439a55dee22", func := "loop.example/g02081/laws.FnExactBandwidthOf", spec := "fnExactBandwidthOf", unfollowed := true, recurses := true, apart := false, narrowed := true }
def FnExactBandwidthOfUptoSaid : Prop := fnExactBandwidthOfUptoRow.holds Try.pinned (OpenSpec.upto fnExactBandwidthOfSpec)

/-- 'laws.FnExactWidthOfOrder', WHERE WHAT IT READS IS OF BULK AT MOST 1048576: true; the input reads as it did. -/
def fnExactWidthOfOrderUptoRow : OpenClaim := { program := "ytblpplhilonnjaa", sum := "f97e06af296e57cb9477cb328b4bd47ed569b997a60dbb08e8a52439a55dee22", func := "loop.example/g02081/laws.FnExactWidthOfOrder", spec := "fnExactWidthOfOrder", apart := false, narrowed := true }
def FnExactWidthOfOrderUptoSaid : Prop := fnExactWidthOfOrderUptoRow.holds Try.pinned (OpenSpec.upto fnExactWidthOfOrderSpec)

/-- 'laws.FnExactTreewidthOf', WHERE WHAT IT READS IS OF BULK AT MOST 1048576: true; the input reads as it did. -/
def fnExactTreewidthOfUptoRow : OpenClaim := { program := "ytblpplhilonnjaa", sum := "f97e06af296e57cb9477cb328b4bd47ed569b997a60dbb08e8a52439a55dee22", func := "loop.example/g02081/laws.FnExactTreewidthOf", spec := "fnExactTreewidthOf", unfollowed := true, recurses := true, apart := false, narrowed := true }
def FnExactTreewidthOfUptoSaid : Prop := fnExactTreewidthOfUptoRow.holds Try.pinned (OpenSpec.upto fnExactTreewidthOfSpec)

/-- 'laws.FnExactGraphOfPrunes', WHERE WHAT IT READS IS OF BULK AT MOST 1048576: true; the input reads as it did. -/
def fnExactGraphOfPrunesUptoRow : OpenClaim := { program := "ytblpplhilonnjaa", sum := "f97e06af296e57cb9477cb328b4bd47ed569b997a60dbb08e8a52439a55dee22", func := "loop.example/g02081/laws.FnExactGraphOfPrunes", spec := "fnExactGraphOfPrunes", recurses := true, apart := false, narrowed := true }
def FnExactGraphOfPrunesUptoSaid : Prop := fnExactGraphOfPrunesUptoRow.holds Try.pinned (OpenSpec.upto fnExactGraphOfPrunesSpec)

/-- 'laws.FnColors', WHERE WHAT IT READS IS OF BULK AT MOST 1048576: true; the input reads as it did. -/
def fnColorsUptoRow : OpenClaim := { program := "ytblpplhilonnjaa", sum := "f97e06af296e57cb9477cb328b4bd47ed569b997a60dbb08e8a52439a55dee22", func := "loop.example/g02081/laws.FnColors", spec := "fnColors", unfollowed := true, recurses := true, apart := false, narrowed := true }
def FnColorsUptoSaid : Prop := fnColorsUptoRow.holds Try.pinned (OpenSpec.upto fnColorsSpec)

/-- 'laws.FnDomination', WHERE WHAT IT READS IS OF BULK AT MOST 1048576: true; the input reads as it did. -/
def fnDominationUptoRow : OpenClaim := { program := "ytblpplhilonnjaa", sum := "f97e06af296e57cb9477cb328b4bd47ed569b997a60dbb08e8a52439a55dee22", func := "loop.example/g02081/laws.FnDomination", spec := "fnDomination", unfollowed := true, recurses := true, apart := false, narrowed := true }
def FnDominationUptoSaid : Prop := fnDominationUptoRow.holds Try.pinned (OpenSpec.upto fnDominationSpec)

end Rows
end Go.Proofs.Ytblpplhilonnjaa
