/-
  DERIVED. GIVEN WITH THE SEED: THE CARDS: each row of YtgcniklghjfogaaDoorRows.lean that lists a variable, with what it lists TIED to the program's text (the seventh form; the later family's looks); each row that meets fmt, with fmt's text TOLD by the authors' own Lean function (tested against real Go, not proved from fmt's source: count such statements apart). THE CARD IS WHAT COUNTS. Prove the row's statement (the work); the ties are given (YtgcniklghjfogaaDoorTie.lean); close each card by the builder's one call (the guide's Derived/Test/ToyasCard.lean, 'card_holds'). Laid BY PROGRAM, IN A SANDBOX (cutbox-door.mjs). By AI agents, Wed Nov 11 2026. No macro, syntax, notation, axiom, sorry.
-/
import Derived.Test.YtgcniklghjfogaaDoorRows
import GoSem.ClaimSeven
namespace Go.Proofs.YtgcniklghjfogaaDoor
namespace Rows

/-- THE TIED CARD OF 'versinetop.TopLeverRaw'. -/
def topLeverRawCard : Claim7 := { stood := { row := topLeverRawRow, standIns := [], harness := (true, "be101c7218cff0f5af4db30dc53cfbef5f71eb330644abba2131aa7aca9d922d"), looks := false }, kinds := [], alts := [], laidByText := true, laidKinds := [.data], laidTests := true, laidLooks := .later }
def TopLeverRawCardSaid : Prop := Claim7.holds Tryd.pinned (.plain (OpenSpec.ofChange topLeverRawSpec)) topLeverRawCard

/-- THE SECOND FORM's CARD OF 'versinetop.TopLeverRaw'. -/
def topLeverRawUptoCard : Claim7 := { stood := { row := topLeverRawUptoRow, standIns := [], harness := (true, "be101c7218cff0f5af4db30dc53cfbef5f71eb330644abba2131aa7aca9d922d"), looks := false }, kinds := [], alts := [], laidByText := true, laidKinds := [.data], laidTests := true, laidLooks := .later }
def TopLeverRawUptoCardSaid : Prop := Claim7.holds Tryd.pinned (.plain (OpenSpec.upto topLeverRawSpec)) topLeverRawUptoCard
end Rows
end Go.Proofs.YtgcniklghjfogaaDoor
