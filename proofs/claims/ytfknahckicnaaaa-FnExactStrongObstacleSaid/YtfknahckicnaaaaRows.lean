/-
  No cell of these rows narrows 'for every input' (looked for: loops, veiled, ifaces, maps, wideKeys, modest, calm, conditions, laid).
  DERIVED. THE GIVEN ROWS OF THIS SEAT. 4 by the template 'for every input the law returns true; each argument reads behind the call as it read before'; 0 by the template 'total and deterministic' (their statements: YtfknahckicnaaaaTotals.lean).
  GIVEN WITH THE SEED: the statements are not yours to turn. If you find one false, say at which input.
  Laid BY PROGRAM, IN A SANDBOX (cutbox-rows.mjs): the forced cells as the released guide's own fill.sh prints them over the translation 7fa232b38f821ba7… (all of the seat's roots in one cut). By AI agents, Wed Nov 11 2026. No macro, syntax, notation, axiom, sorry.
-/
import Derived.Test.YtfknahckicnaaaaChecked
import GoSem.Claim
import GoSem.ClaimJoined
import GoSem.ClaimMapViews
import Derived.JoinedTies
import Derived.KernelRfl
namespace Go.Proofs.Ytfknahckicnaaaa
/- THE CELL 'sum', in the pinned program and in every row, IS THE sha256 OF THE DUMP (.gsa) THAT YtfknahckicnaaaaProg.lean LOADS. Nothing in Lean hashes anything: it is a label: what it is worth is what the hold of that sum in a sandbox is worth. -/
noncomputable def Try.pinned : Pinned := { name := "ytfknahckicnaaaa", sum := "7fa232b38f821ba7a7ac228f1dafcfd5e1ee9f042cc02e2a7052094953b0bb92", checked := Try.checked }
namespace Rows
def none {H : Type} : Left H := { results := [], args := [] }

/-- 'laws.FnExactLeastImperfect': WHATEVER THE INPUT: true; the input reads as it did. -/
def fnExactLeastImperfectSpec : ChangeSpec := { name := "fnExactLeastImperfect", fn := fun _ => fun
  | [d] => { results := [.lit (.bool true)], args := [d] }
  | _ => none }
def fnExactLeastImperfectRow : OpenClaim := { program := "ytfknahckicnaaaa", sum := "7fa232b38f821ba7a7ac228f1dafcfd5e1ee9f042cc02e2a7052094953b0bb92", func := "loop.example/g02081/laws.FnExactLeastImperfect", spec := "fnExactLeastImperfect", unfollowed := true, recurses := true, apart := false }
def FnExactLeastImperfectSaid : Prop := fnExactLeastImperfectRow.holds Try.pinned (OpenSpec.ofChange fnExactLeastImperfectSpec)

/-- ITS FALSE NEIGHBOUR: 'it returns false'. Refute it at one input. -/
def fnExactLeastImperfectWrong : ChangeSpec := { name := "fnExactLeastImperfect", fn := fun _ => fun
  | [d] => { results := [.lit (.bool false)], args := [d] }
  | _ => none }
def FnExactLeastImperfectWrongFalsely : Prop := fnExactLeastImperfectRow.holds Try.pinned (OpenSpec.ofChange fnExactLeastImperfectWrong)

/-- 'laws.FnExactIsPerfect': WHATEVER THE INPUT: true; the input reads as it did. -/
def fnExactIsPerfectSpec : ChangeSpec := { name := "fnExactIsPerfect", fn := fun _ => fun
  | [d] => { results := [.lit (.bool true)], args := [d] }
  | _ => none }
def fnExactIsPerfectRow : OpenClaim := { program := "ytfknahckicnaaaa", sum := "7fa232b38f821ba7a7ac228f1dafcfd5e1ee9f042cc02e2a7052094953b0bb92", func := "loop.example/g02081/laws.FnExactIsPerfect", spec := "fnExactIsPerfect", unfollowed := true, recurses := true, apart := false }
def FnExactIsPerfectSaid : Prop := fnExactIsPerfectRow.holds Try.pinned (OpenSpec.ofChange fnExactIsPerfectSpec)

/-- ITS FALSE NEIGHBOUR: 'it returns false'. Refute it at one input. -/
def fnExactIsPerfectWrong : ChangeSpec := { name := "fnExactIsPerfect", fn := fun _ => fun
  | [d] => { results := [.lit (.bool false)], args := [d] }
  | _ => none }
def FnExactIsPerfectWrongFalsely : Prop := fnExactIsPerfectRow.holds Try.pinned (OpenSpec.ofChange fnExactIsPerfectWrong)

/-- 'laws.FnExactStrongObstacle': WHATEVER THE INPUT: true; the input reads as it did. -/
def fnExactStrongObstacleSpec : ChangeSpec := { name := "fnExactStrongObstacle", fn := fun _ => fun
  | [d] => { results := [.lit (.bool true)], args := [d] }
  | _ => none }
def fnExactStrongObstacleRow : OpenClaim := { program := "ytfknahckicnaaaa", sum := "7fa232b38f821ba7a7ac228f1dafcfd5e1ee9f042cc02e2a7052094953b0bb92", func := "loop.example/g02081/laws.FnExactStrongObstacle", spec := "fnExactStrongObstacle", unfollowed := true, recurses := true, apart := false }
def FnExactStrongObstacleSaid : Prop := fnExactStrongObstacleRow.holds Try.pinned (OpenSpec.ofChange fnExactStrongObstacleSpec)

/-- ITS FALSE NEIGHBOUR: 'it returns false'. Refute it at one input. -/
def fnExactStrongObstacleWrong : ChangeSpec := { name := "fnExactStrongObstacle", fn := fun _ => fun
  | [d] => { results := [.lit (.bool false)], args := [d] }
  | _ => none }
def FnExactStrongObstacleWrongFalsely : Prop := fnExactStrongObstacleRow.holds Try.pinned (OpenSpec.ofChange fnExactStrongObstacleWrong)

/-- 'laws.FnExactGraphOfPrunes': WHATEVER THE INPUT: true; the input reads as it did. -/
def fnExactGraphOfPrunesSpec : ChangeSpec := { name := "fnExactGraphOfPrunes", fn := fun _ => fun
  | [d] => { results := [.lit (.bool true)], args := [d] }
  | _ => none }
def fnExactGraphOfPrunesRow : OpenClaim := { program := "ytfknahckicnaaaa", sum := "7fa232b38f821ba7a7ac228f1dafcfd5e1ee9f042cc02e2a7052094953b0bb92", func := "loop.example/g02081/laws.FnExactGraphOfPrunes", spec := "fnExactGraphOfPrunes", recurses := true, apart := false }
def FnExactGraphOfPrunesSaid : Prop := fnExactGraphOfPrunesRow.holds Try.pinned (OpenSpec.ofChange fnExactGraphOfPrunesSpec)

/-- ITS FALSE NEIGHBOUR: 'it returns false'. Refute it at one input. -/
def fnExactGraphOfPrunesWrong : ChangeSpec := { name := "fnExactGraphOfPrunes", fn := fun _ => fun
  | [d] => { results := [.lit (.bool false)], args := [d] }
  | _ => none }
def FnExactGraphOfPrunesWrongFalsely : Prop := fnExactGraphOfPrunesRow.holds Try.pinned (OpenSpec.ofChange fnExactGraphOfPrunesWrong)

/- THE SECOND FORM. 'bulk': how many values and letters a reading holds, each counted each time it is reached (what is shared counts as often as it is met; a slice's spare places count too). A statement '..UptoSaid' is the law's where the arguments, and the package variables that the reading takes, are together of bulk at most 1048576: NARROWER than '..Said'. Prove '..Said' where nothing that the law and all that it calls make is longer than what came in: it says more and counts as full. Else prove '..UptoSaid'. A law counts once. -/
mutual
def uptoBulk {H : Type} : DataW H → Nat
  | .lit (.string bytes) => bytes.length + 1
  | .lit _ => 1
  | .nil => 1
  | .ptr d => uptoBulk d + 1
  | .slice elems spare => uptoBulkAll elems + uptoBulkAll spare + 1
  | .agg parts => uptoBulkAll parts + 1
  | .iface _ d => uptoBulk d + 1
  | .map entries => uptoBulkEntries entries + 1
  | .held _ => 1
def uptoBulkAll {H : Type} : List (DataW H) → Nat
  | [] => 0
  | d :: r => uptoBulk d + uptoBulkAll r
def uptoBulkEntries {H : Type} : List (Lit × DataW H) → Nat
  | [] => 0
  | x :: r => uptoBulkEntry x + uptoBulkEntries r
def uptoBulkEntry {H : Type} : Lit × DataW H → Nat
  | (.string bytes, d) => bytes.length + uptoBulk d + 1
  | (_, d) => uptoBulk d + 1
 end
def uptoSmall : (H : Type) → List (DataW H) → Bool := fun _ ds => decide (uptoBulkAll ds ≤ 1048576)
def OpenSpec.upto (s : _root_.Go.ChangeSpec) : _root_.Go.OpenSpec := { _root_.Go.OpenSpec.ofChange s with cond := some uptoSmall }

/-- 'laws.FnExactLeastImperfect', WHERE WHAT IT READS IS OF BULK AT MOST 1048576: true; the input reads as it did. -/
def fnExactLeastImperfectUptoRow : OpenClaim := { program := "ytfknahckicnaaaa", sum := "7fa232b38f821ba7a7ac228f1dafcfd5e1ee9f042cc02e2a7052094953b0bb92", func := "loop.example/g02081/laws.FnExactLeastImperfect", spec := "fnExactLeastImperfect", unfollowed := true, recurses := true, apart := false, narrowed := true }
def FnExactLeastImperfectUptoSaid : Prop := fnExactLeastImperfectUptoRow.holds Try.pinned (OpenSpec.upto fnExactLeastImperfectSpec)

/-- 'laws.FnExactIsPerfect', WHERE WHAT IT READS IS OF BULK AT MOST 1048576: true; the input reads as it did. -/
def fnExactIsPerfectUptoRow : OpenClaim := { program := "ytfknahckicnaaaa", sum := "7fa232b38f821ba7a7ac228f1dafcfd5e1ee9f042cc02e2a7052094953b0bb92", func := "loop.example/g02081/laws.FnExactIsPerfect", spec := "fnExactIsPerfect", unfollowed := true, recurses := true, apart := false, narrowed := true }
def FnExactIsPerfectUptoSaid : Prop := fnExactIsPerfectUptoRow.holds Try.pinned (OpenSpec.upto fnExactIsPerfectSpec)

/-- 'laws.FnExactStrongObstacle', WHERE WHAT IT READS IS OF BULK AT MOST 1048576: true; the input reads as it did. -/
def fnExactStrongObstacleUptoRow : OpenClaim := { program := "ytfknahckicnaaaa", sum := "7fa232b38f821ba7a7ac228f1dafcfd5e1ee9f042cc02e2a7052094953b0bb92", func := "loop.example/g02081/laws.FnExactStrongObstacle", spec := "fnExactStrongObstacle", unfollowed := true, recurses := true, apart := false, narrowed := true }
def FnExactStrongObstacleUptoSaid : Prop := fnExactStrongObstacleUptoRow.holds Try.pinned (OpenSpec.upto fnExactStrongObstacleSpec)

/-- 'laws.FnExactGraphOfPrunes', WHERE WHAT IT READS IS OF BULK AT MOST 1048576: true; the input reads as it did. -/
def fnExactGraphOfPrunesUptoRow : OpenClaim := { program := "ytfknahckicnaaaa", sum := "7fa232b38f821ba7a7ac228f1dafcfd5e1ee9f042cc02e2a7052094953b0bb92", func := "loop.example/g02081/laws.FnExactGraphOfPrunes", spec := "fnExactGraphOfPrunes", recurses := true, apart := false, narrowed := true }
def FnExactGraphOfPrunesUptoSaid : Prop := fnExactGraphOfPrunesUptoRow.holds Try.pinned (OpenSpec.upto fnExactGraphOfPrunesSpec)

end Rows
end Go.Proofs.Ytfknahckicnaaaa
