/- Closed facts of row 15. -/
import Derived.LaidMore
import Derived.OpenShut
import Derived.Stop.Joined
import Derived.Lib.SmallJoins
import Derived.SevenTiedAt
import Derived.Test.YtaigknknfaeajaaGreatDoorCards
import Derived.Test.YtaigknknfaeajaaGreatDoorTie
open Go
namespace Go.Proofs.YtaigknknfaeajaaGreatDoor.Spread
open Go.ChangeShapes Go.WideShapes Go.ChangeAt Go.WideMaps Go.WideElems Go.RowKit Go.Joins

theorem k_in : (Rows.qualitySpreadRow.inPlace == Tryz.prog.inPlace 15) = true := by kernel_rfl
theorem k_un : (Rows.qualitySpreadRow.unfollowed == Tryz.prog.unfollowed 15) = true := by kernel_rfl
theorem k_re : (Rows.qualitySpreadRow.recurses == Tryz.prog.recurses 15) = true := by kernel_rfl
theorem k_na : (Rows.qualitySpreadRow.named == Tryz.prog.varsNamed 15) = true := by kernel_rfl
theorem closed : joinedFacts Tryz.prog 15 Tryz.f15 Rows.qualitySpreadSpec Rows.qualitySpreadRow = true := by
  unfold joinedFacts
  rw [k_in, k_un, k_re, k_na]
  kernel_rfl
theorem k_lo : false = Tryz.prog.looks [] := by kernel_rfl
theorem k_go : false = Rows.qualitySpreadRow.goesBy Tryz.prog := by kernel_rfl
theorem k_fn : Tryz.prog.funcNamed "versine/versinelaw08.QualitySpread" = some 15 := by kernel_rfl
theorem k_wf : Rows.qualitySpreadRow.wfByText (OpenSpec.ofChange Rows.qualitySpreadSpec) = true := by kernel_rfl
theorem k_main : Tryz.pinned.checked.prog.mainIs = some (true, "476780b8474583dd50713e090344d8796cd804ebab54954e5d6f57dab0c3dc78".toList) := by kernel_rfl
theorem k_inst : Tryz.f15.isInstance Tryz.pinned.checked.prog Rows.qualitySpreadRow.origin Rows.qualitySpreadRow.targs := of_decide_eq_true (by kernel_rfl)
end Go.Proofs.YtaigknknfaeajaaGreatDoor.Spread
