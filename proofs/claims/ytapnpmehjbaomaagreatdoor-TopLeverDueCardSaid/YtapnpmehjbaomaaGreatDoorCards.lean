/-
  DERIVED. GIVEN WITH THE SEED: THE CARDS: each row of YtapnpmehjbaomaaGreatDoorRows.lean that lists a variable, with what it lists TIED to the program's text (the seventh form; the later family's looks); each row that meets fmt, with fmt's text TOLD by the authors' own Lean function (tested against real Go, not proved from fmt's source: count such statements apart). THE CARD IS WHAT COUNTS. Prove the row's statement (the work); the ties are given (YtapnpmehjbaomaaGreatDoorTie.lean); close each card by the builder's one call (the guide's Derived/Test/ToyasCard.lean, 'card_holds'). Laid BY PROGRAM, IN A SANDBOX (cutbox-door.mjs). By AI agents, Wed Nov 11 2026. No macro, syntax, notation, axiom, sorry.
-/
import Derived.Test.YtapnpmehjbaomaaGreatDoorRows
import GoSem.ClaimSeven
namespace Go.Proofs.YtapnpmehjbaomaaGreatDoor
namespace Rows

/-- THE TIED CARD OF 'versinetop.TopLeverDue'. -/
def topLeverDueCard : Claim7 := { stood := { row := topLeverDueRow, standIns := [], harness := (true, "4d011d5a3a05fc86807142c4d80923e1e6d84320e86f6833b56d5d2269156bb3"), looks := false }, kinds := [], alts := [], laidByText := true, laidKinds := [.data], laidTests := true, laidLooks := .later }
def TopLeverDueCardSaid : Prop := Claim7.holds Tryz.pinned (.plain (OpenSpec.ofChange topLeverDueSpec)) topLeverDueCard

/-- THE SECOND FORM's CARD OF 'versinetop.TopLeverDue'. -/
def topLeverDueUptoCard : Claim7 := { stood := { row := topLeverDueUptoRow, standIns := [], harness := (true, "4d011d5a3a05fc86807142c4d80923e1e6d84320e86f6833b56d5d2269156bb3"), looks := false }, kinds := [], alts := [], laidByText := true, laidKinds := [.data], laidTests := true, laidLooks := .later }
def TopLeverDueUptoCardSaid : Prop := Claim7.holds Tryz.pinned (.plain (OpenSpec.upto topLeverDueSpec)) topLeverDueUptoCard
end Rows
end Go.Proofs.YtapnpmehjbaomaaGreatDoor
