/-
  DERIVED. GIVEN WITH THE SEED: THE CARDS: each row of YtdpnlnfpjmjgaaaGreatDoorRows.lean that lists a variable, with what it lists TIED to the program's text (the seventh form; the later family's looks); each row that meets fmt, with fmt's text TOLD by the authors' own Lean function (tested against real Go, not proved from fmt's source: count such statements apart). THE CARD IS WHAT COUNTS. Prove the row's statement (the work); the ties are given (YtdpnlnfpjmjgaaaGreatDoorTie.lean); close each card by the builder's one call (the guide's Derived/Test/ToyasCard.lean, 'card_holds'). Laid BY PROGRAM, IN A SANDBOX (cutbox-door.mjs). By AI agents, Wed Nov 11 2026. No macro, syntax, notation, axiom, sorry.
-/
import Derived.Test.YtdpnlnfpjmjgaaaGreatDoorRows
import GoSem.ClaimSeven
namespace Go.Proofs.YtdpnlnfpjmjgaaaGreatDoor
namespace Rows

/-- THE TIED CARD OF 'versinelaw08.QualityRanks'. -/
def qualityRanksCard : Claim7 := { stood := { row := qualityRanksRow, standIns := [], harness := (true, "745d676ec441a96fc7de1898fd3ec8953fc90b6341174dbb2d891262250e1b55"), looks := false }, kinds := [], alts := [], laidByText := true, laidKinds := [.data, .data, .data], laidTests := true, laidLooks := .later }
def QualityRanksCardSaid : Prop := Claim7.holds Tryz.pinned (.plain (OpenSpec.ofChange qualityRanksSpec)) qualityRanksCard

/-- THE SECOND FORM's CARD OF 'versinelaw08.QualityRanks'. -/
def qualityRanksUptoCard : Claim7 := { stood := { row := qualityRanksUptoRow, standIns := [], harness := (true, "745d676ec441a96fc7de1898fd3ec8953fc90b6341174dbb2d891262250e1b55"), looks := false }, kinds := [], alts := [], laidByText := true, laidKinds := [.data, .data, .data], laidTests := true, laidLooks := .later }
def QualityRanksUptoCardSaid : Prop := Claim7.holds Tryz.pinned (.plain (OpenSpec.upto qualityRanksSpec)) qualityRanksUptoCard
end Rows
end Go.Proofs.YtdpnlnfpjmjgaaaGreatDoor
