/-
  DERIVED. GIVEN WITH THE SEED: THE CARDS: each row of YtfkehmpckhmkbaaDoorRows.lean that lists a variable, with what it lists TIED to the program's text (the seventh form; the later family's looks); each row that meets fmt, with fmt's text TOLD by the authors' own Lean function (tested against real Go, not proved from fmt's source: count such statements apart). THE CARD IS WHAT COUNTS. Prove the row's statement (the work); the ties are given (YtfkehmpckhmkbaaDoorTie.lean); close each card by the builder's one call (the guide's Derived/Test/ToyasCard.lean, 'card_holds'). Laid BY PROGRAM, IN A SANDBOX (cutbox-door.mjs). By AI agents, Wed Nov 11 2026. No macro, syntax, notation, axiom, sorry.
-/
import Derived.Test.YtfkehmpckhmkbaaDoorRows
import GoSem.ClaimSeven
namespace Go.Proofs.YtfkehmpckhmkbaaDoor
namespace Rows

/-- THE TIED CARD OF 'laws.FnArcs'. -/
def fnArcsCard : Claim7 := { stood := { row := fnArcsRow, standIns := [], harness := (true, "6129f91d3c78f850ff0e78ac6893740bf2ad08fe8b0967a267709dd06d1fe55c"), looks := false }, kinds := [], alts := [], laidByText := true, laidKinds := [.data, .data, .data], laidTests := true, laidLooks := .later }
def FnArcsCardSaid : Prop := Claim7.holds Tryd.pinned (.plain (OpenSpec.ofChange fnArcsSpec)) fnArcsCard

/-- THE SECOND FORM's CARD OF 'laws.FnArcs'. -/
def fnArcsUptoCard : Claim7 := { stood := { row := fnArcsUptoRow, standIns := [], harness := (true, "6129f91d3c78f850ff0e78ac6893740bf2ad08fe8b0967a267709dd06d1fe55c"), looks := false }, kinds := [], alts := [], laidByText := true, laidKinds := [.data, .data, .data], laidTests := true, laidLooks := .later }
def FnArcsUptoCardSaid : Prop := Claim7.holds Tryd.pinned (.plain (OpenSpec.upto fnArcsSpec)) fnArcsUptoCard
end Rows
end Go.Proofs.YtfkehmpckhmkbaaDoor
