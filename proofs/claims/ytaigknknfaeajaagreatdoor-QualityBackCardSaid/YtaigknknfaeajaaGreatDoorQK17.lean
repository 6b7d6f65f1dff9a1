/- Closed facts of row 17. -/
import Derived.LaidMore
import Derived.OpenShut
import Derived.Stop.Joined
import Derived.Lib.SmallJoins
import Derived.SevenTiedAt
import Derived.Test.YtaigknknfaeajaaGreatDoorCards
import Derived.Test.YtaigknknfaeajaaGreatDoorTie
open Go
namespace Go.Proofs.YtaigknknfaeajaaGreatDoor.Back
open Go.ChangeShapes Go.WideShapes Go.ChangeAt Go.WideMaps Go.WideElems Go.RowKit Go.Joins

theorem k_in : (Rows.qualityBackRow.inPlace == Tryz.prog.inPlace 17) = true := by kernel_rfl
theorem k_un : (Rows.qualityBackRow.unfollowed == Tryz.prog.unfollowed 17) = true := by kernel_rfl
theorem k_re : (Rows.qualityBackRow.recurses == Tryz.prog.recurses 17) = true := by kernel_rfl
theorem k_na : (Rows.qualityBackRow.named == Tryz.prog.varsNamed 17) = true := by kernel_rfl
theorem closed : joinedFacts Tryz.prog 17 Tryz.f17 Rows.qualityBackSpec Rows.qualityBackRow = true := by
  unfold joinedFacts
  rw [k_in, k_un, k_re, k_na]
  kernel_rfl
theorem k_lo : false = Tryz.prog.looks [] := by kernel_rfl
theorem k_go : false = Rows.qualityBackRow.goesBy Tryz.prog := by kernel_rfl
theorem k_fn : Tryz.prog.funcNamed "versine/versinelaw08.QualityBack" = some 17 := by kernel_rfl
theorem k_wf : Rows.qualityBackRow.wfByText (OpenSpec.ofChange Rows.qualityBackSpec) = true := by kernel_rfl
theorem k_main : Tryz.pinned.checked.prog.mainIs = some (true, "476780b8474583dd50713e090344d8796cd804ebab54954e5d6f57dab0c3dc78".toList) := by kernel_rfl
theorem k_inst : Tryz.f17.isInstance Tryz.pinned.checked.prog Rows.qualityBackRow.origin Rows.qualityBackRow.targs := of_decide_eq_true (by kernel_rfl)
end Go.Proofs.YtaigknknfaeajaaGreatDoor.Back
