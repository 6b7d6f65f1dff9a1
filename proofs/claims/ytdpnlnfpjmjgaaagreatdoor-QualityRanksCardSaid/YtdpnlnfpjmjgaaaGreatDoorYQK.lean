/- Closed facts of the row. -/
import Derived.LaidMore
import Derived.OpenShut
import Derived.Stop.Joined
import Derived.Lib.SmallJoins
import Derived.SevenTiedAt
import Derived.Test.YtdpnlnfpjmjgaaaGreatDoorCards
import Derived.Test.YtdpnlnfpjmjgaaaGreatDoorTie
open Go
namespace Go.Proofs.YtdpnlnfpjmjgaaaGreatDoor.Ranks
open Go.ChangeShapes Go.WideShapes Go.ChangeAt Go.WideMaps Go.WideElems Go.RowKit Go.Joins

theorem k_in : (Rows.qualityRanksRow.inPlace == Tryz.prog.inPlace 3) = true := by kernel_rfl
theorem k_un : (Rows.qualityRanksRow.unfollowed == Tryz.prog.unfollowed 3) = true := by kernel_rfl
theorem k_re : (Rows.qualityRanksRow.recurses == Tryz.prog.recurses 3) = true := by kernel_rfl
theorem k_na : (Rows.qualityRanksRow.named == Tryz.prog.varsNamed 3) = true := by kernel_rfl
theorem closed : joinedFacts Tryz.prog 3 Tryz.f3 Rows.qualityRanksSpec Rows.qualityRanksRow = true := by
  unfold joinedFacts
  rw [k_in, k_un, k_re, k_na]
  kernel_rfl
theorem k_lo : false = Tryz.prog.looks [] := by kernel_rfl
theorem k_go : false = Rows.qualityRanksRow.goesBy Tryz.prog := by kernel_rfl
theorem k_fn : Tryz.prog.funcNamed "versine/versinelaw08.QualityRanks" = some 3 := by kernel_rfl
theorem k_wf : Rows.qualityRanksRow.wfByText (OpenSpec.ofChange Rows.qualityRanksSpec) = true := by kernel_rfl
theorem k_main : Tryz.pinned.checked.prog.mainIs = some (true, "745d676ec441a96fc7de1898fd3ec8953fc90b6341174dbb2d891262250e1b55".toList) := by kernel_rfl
theorem k_inst : Tryz.f3.isInstance Tryz.pinned.checked.prog Rows.qualityRanksRow.origin Rows.qualityRanksRow.targs := of_decide_eq_true (by kernel_rfl)
end Go.Proofs.YtdpnlnfpjmjgaaaGreatDoor.Ranks
