/-
  DERIVED. GIVEN WITH THE SEED: THE CARDS: each row of YtfjljfjnooieoaaDoorRows.lean that lists a variable, with what it lists TIED to the program's text (the seventh form; the later family's looks); each row that meets fmt, with fmt's text TOLD by the authors' own Lean function (tested against real Go, not proved from fmt's source: count such statements apart). THE CARD IS WHAT COUNTS. Prove the row's statement (the work); the ties are given (YtfjljfjnooieoaaDoorTie.lean); close each card by the builder's one call (the guide's Derived/Test/ToyasCard.lean, 'card_holds'). Laid BY PROGRAM, IN A SANDBOX (cutbox-door.mjs). By AI agents, Wed Nov 11 2026. No macro, syntax, notation, axiom, sorry.
-/
import Derived.Test.YtfjljfjnooieoaaDoorRows
import GoSem.ClaimSeven
namespace Go.Proofs.YtfjljfjnooieoaaDoor
namespace Rows

/-- THE TIED CARD OF 'laws.FnExactFormatArcs'. -/
def fnExactFormatArcsCard : Claim7 := { stood := { row := fnExactFormatArcsRow, standIns := [], harness := (true, "4b90902df9ee11d67568936ef27f31ba11e31e7aaaea1db9e86b3bda107adde4"), looks := false }, kinds := [], alts := [], laidByText := true, laidKinds := [.data, .data, .data], laidTests := true, laidLooks := .later }
def FnExactFormatArcsCardSaid : Prop := Claim7.holds Tryd.pinned (.plain (OpenSpec.ofChange fnExactFormatArcsSpec)) fnExactFormatArcsCard

/-- THE TIED CARD OF 'laws.FnExactFormatPrunes'. -/
def fnExactFormatPrunesCard : Claim7 := { stood := { row := fnExactFormatPrunesRow, standIns := [], harness := (true, "4b90902df9ee11d67568936ef27f31ba11e31e7aaaea1db9e86b3bda107adde4"), looks := false }, kinds := [], alts := [], laidByText := true, laidKinds := [.data, .data, .data], laidTests := true, laidLooks := .later }
def FnExactFormatPrunesCardSaid : Prop := Claim7.holds Tryd.pinned (.plain (OpenSpec.ofChange fnExactFormatPrunesSpec)) fnExactFormatPrunesCard

/-- THE SECOND FORM's CARD OF 'laws.FnExactFormatArcs'. -/
def fnExactFormatArcsUptoCard : Claim7 := { stood := { row := fnExactFormatArcsUptoRow, standIns := [], harness := (true, "4b90902df9ee11d67568936ef27f31ba11e31e7aaaea1db9e86b3bda107adde4"), looks := false }, kinds := [], alts := [], laidByText := true, laidKinds := [.data, .data, .data], laidTests := true, laidLooks := .later }
def FnExactFormatArcsUptoCardSaid : Prop := Claim7.holds Tryd.pinned (.plain (OpenSpec.upto fnExactFormatArcsSpec)) fnExactFormatArcsUptoCard

/-- THE SECOND FORM's CARD OF 'laws.FnExactFormatPrunes'. -/
def fnExactFormatPrunesUptoCard : Claim7 := { stood := { row := fnExactFormatPrunesUptoRow, standIns := [], harness := (true, "4b90902df9ee11d67568936ef27f31ba11e31e7aaaea1db9e86b3bda107adde4"), looks := false }, kinds := [], alts := [], laidByText := true, laidKinds := [.data, .data, .data], laidTests := true, laidLooks := .later }
def FnExactFormatPrunesUptoCardSaid : Prop := Claim7.holds Tryd.pinned (.plain (OpenSpec.upto fnExactFormatPrunesSpec)) fnExactFormatPrunesUptoCard
end Rows
end Go.Proofs.YtfjljfjnooieoaaDoor
