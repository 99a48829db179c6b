/-
  DERIVED. GIVEN WITH THE SEED: THE CARDS: each row of YtgklgheaojoimaaDoorRows.lean that lists a variable, with what it lists TIED to the program's text (the seventh form; the later family's looks); each row that meets fmt, with fmt's text TOLD by the authors' own Lean function (tested against real Go, not proved from fmt's source: count such statements apart). THE CARD IS WHAT COUNTS. Prove the row's statement (the work); the ties are given (YtgklgheaojoimaaDoorTie.lean); close each card by the builder's one call (the guide's Derived/Test/ToyasCard.lean, 'card_holds'). Laid BY PROGRAM, IN A SANDBOX (cutbox-door.mjs). By AI agents, Wed Nov 11 2026. No macro, syntax, notation, axiom, sorry.
-/
import Derived.Test.YtgklgheaojoimaaDoorRows
import GoSem.ClaimSeven
namespace Go.Proofs.YtgklgheaojoimaaDoor
namespace Rows

/-- THE TIED CARD OF 'laws.FnArcs'. -/
def fnArcsCard : Claim7 := { stood := { row := fnArcsRow, standIns := [], harness := (true, "788f9da62782be9014f5ca40b0ba8b0743f3ca56df3ff3401679afdd494a87f3"), looks := false }, kinds := [], alts := [], laidByText := true, laidKinds := [.data, .data, .data], laidTests := true, laidLooks := .later }
def FnArcsCardSaid : Prop := Claim7.holds Tryd.pinned (.plain (OpenSpec.ofChange fnArcsSpec)) fnArcsCard

/-- THE TIED CARD OF 'laws.FnExactFormatPrunes'. -/
def fnExactFormatPrunesCard : Claim7 := { stood := { row := fnExactFormatPrunesRow, standIns := [], harness := (true, "788f9da62782be9014f5ca40b0ba8b0743f3ca56df3ff3401679afdd494a87f3"), looks := false }, kinds := [], alts := [], laidByText := true, laidKinds := [.data, .data, .data], laidTests := true, laidLooks := .later }
def FnExactFormatPrunesCardSaid : Prop := Claim7.holds Tryd.pinned (.plain (OpenSpec.ofChange fnExactFormatPrunesSpec)) fnExactFormatPrunesCard

/-- THE SECOND FORM's CARD OF 'laws.FnArcs'. -/
def fnArcsUptoCard : Claim7 := { stood := { row := fnArcsUptoRow, standIns := [], harness := (true, "788f9da62782be9014f5ca40b0ba8b0743f3ca56df3ff3401679afdd494a87f3"), looks := false }, kinds := [], alts := [], laidByText := true, laidKinds := [.data, .data, .data], laidTests := true, laidLooks := .later }
def FnArcsUptoCardSaid : Prop := Claim7.holds Tryd.pinned (.plain (OpenSpec.upto fnArcsSpec)) fnArcsUptoCard

/-- THE SECOND FORM's CARD OF 'laws.FnExactFormatPrunes'. -/
def fnExactFormatPrunesUptoCard : Claim7 := { stood := { row := fnExactFormatPrunesUptoRow, standIns := [], harness := (true, "788f9da62782be9014f5ca40b0ba8b0743f3ca56df3ff3401679afdd494a87f3"), looks := false }, kinds := [], alts := [], laidByText := true, laidKinds := [.data, .data, .data], laidTests := true, laidLooks := .later }
def FnExactFormatPrunesUptoCardSaid : Prop := Claim7.holds Tryd.pinned (.plain (OpenSpec.upto fnExactFormatPrunesSpec)) fnExactFormatPrunesUptoCard
end Rows
end Go.Proofs.YtgklgheaojoimaaDoor
