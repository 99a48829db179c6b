/-
  DERIVED. GIVEN WITH THE SEED: THE CARDS: each row of YtjikmjhpmkakoaaGreatDoorRows.lean that lists a variable, with what it lists TIED to the program's text (the seventh form; the later family's looks); each row that meets fmt, with fmt's text TOLD by the authors' own Lean function (tested against real Go, not proved from fmt's source: count such statements apart). THE CARD IS WHAT COUNTS. Prove the row's statement (the work); the ties are given (YtjikmjhpmkakoaaGreatDoorTie.lean); close each card by the builder's one call (the guide's Derived/Test/ToyasCard.lean, 'card_holds'). Laid BY PROGRAM, IN A SANDBOX (cutbox-door.mjs). By AI agents, Wed Nov 11 2026. No macro, syntax, notation, axiom, sorry.
-/
import Derived.Test.YtjikmjhpmkakoaaGreatDoorRows
import GoSem.ClaimSeven
namespace Go.Proofs.YtjikmjhpmkakoaaGreatDoor
namespace Rows

/-- THE TIED CARD OF 'laws.FnHereditary'. -/
def fnHereditaryCard : Claim7 := { stood := { row := fnHereditaryRow, standIns := [], harness := (true, "4e97a1e352224b2fdd3a1b906148eb39b50648caa2cdfd8f7d218b1c878fc4b1"), looks := false }, kinds := [], alts := [], laidByText := true, laidKinds := [.data, .data, .data], laidTests := true, laidLooks := .later }
def FnHereditaryCardSaid : Prop := Claim7.holds Tryz.pinned (.plain (OpenSpec.ofChange fnHereditarySpec)) fnHereditaryCard

/-- THE TIED CARD OF 'laws.FnCographs'. -/
def fnCographsCard : Claim7 := { stood := { row := fnCographsRow, standIns := [], harness := (true, "4e97a1e352224b2fdd3a1b906148eb39b50648caa2cdfd8f7d218b1c878fc4b1"), looks := false }, kinds := [], alts := [], laidByText := true, laidKinds := [.data, .data, .data], laidTests := true, laidLooks := .later }
def FnCographsCardSaid : Prop := Claim7.holds Tryz.pinned (.plain (OpenSpec.ofChange fnCographsSpec)) fnCographsCard

/-- THE SECOND FORM's CARD OF 'laws.FnHereditary'. -/
def fnHereditaryUptoCard : Claim7 := { stood := { row := fnHereditaryUptoRow, standIns := [], harness := (true, "4e97a1e352224b2fdd3a1b906148eb39b50648caa2cdfd8f7d218b1c878fc4b1"), looks := false }, kinds := [], alts := [], laidByText := true, laidKinds := [.data, .data, .data], laidTests := true, laidLooks := .later }
def FnHereditaryUptoCardSaid : Prop := Claim7.holds Tryz.pinned (.plain (OpenSpec.upto fnHereditarySpec)) fnHereditaryUptoCard

/-- THE SECOND FORM's CARD OF 'laws.FnCographs'. -/
def fnCographsUptoCard : Claim7 := { stood := { row := fnCographsUptoRow, standIns := [], harness := (true, "4e97a1e352224b2fdd3a1b906148eb39b50648caa2cdfd8f7d218b1c878fc4b1"), looks := false }, kinds := [], alts := [], laidByText := true, laidKinds := [.data, .data, .data], laidTests := true, laidLooks := .later }
def FnCographsUptoCardSaid : Prop := Claim7.holds Tryz.pinned (.plain (OpenSpec.upto fnCographsSpec)) fnCographsUptoCard
end Rows
end Go.Proofs.YtjikmjhpmkakoaaGreatDoor
