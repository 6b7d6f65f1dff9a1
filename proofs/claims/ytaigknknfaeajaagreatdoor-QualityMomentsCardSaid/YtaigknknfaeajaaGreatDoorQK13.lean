/- Closed facts of the row on moments. -/
import Derived.LaidMore
import Derived.OpenShut
import Derived.Stop.Joined
import Derived.Lib.SmallJoins
import Derived.SevenTiedAt
import Derived.Test.YtaigknknfaeajaaGreatDoorCards
import Derived.Test.YtaigknknfaeajaaGreatDoorTie
open Go
namespace Go.Proofs.YtaigknknfaeajaaGreatDoor.Moments
open Go.ChangeShapes Go.WideShapes Go.ChangeAt Go.WideMaps Go.WideElems Go.RowKit Go.Joins

theorem k_in : (Rows.qualityMomentsRow.inPlace == Tryz.prog.inPlace 13) = true := by kernel_rfl
theorem k_un : (Rows.qualityMomentsRow.unfollowed == Tryz.prog.unfollowed 13) = true := by kernel_rfl
theorem k_re : (Rows.qualityMomentsRow.recurses == Tryz.prog.recurses 13) = true := by kernel_rfl
theorem k_na : (Rows.qualityMomentsRow.named == Tryz.prog.varsNamed 13) = true := by kernel_rfl
theorem closed : joinedFacts Tryz.prog 13 Tryz.f13 Rows.qualityMomentsSpec Rows.qualityMomentsRow = true := by
  unfold joinedFacts
  rw [k_in, k_un, k_re, k_na]
  kernel_rfl
theorem k_lo : false = Tryz.prog.looks [] := by kernel_rfl
theorem k_go : false = Rows.qualityMomentsRow.goesBy Tryz.prog := by kernel_rfl
theorem k_fn : Tryz.prog.funcNamed "versine/versinelaw08.QualityMoments" = some 13 := by kernel_rfl
theorem k_wf : Rows.qualityMomentsRow.wfByText (OpenSpec.ofChange Rows.qualityMomentsSpec) = true := by kernel_rfl
theorem k_main : Tryz.pinned.checked.prog.mainIs = some (true, "476780b8474583dd50713e090344d8796cd804ebab54954e5d6f57dab0c3dc78".toList) := by kernel_rfl
theorem k_inst : Tryz.f13.isInstance Tryz.pinned.checked.prog Rows.qualityMomentsRow.origin Rows.qualityMomentsRow.targs := of_decide_eq_true (by kernel_rfl)
end Go.Proofs.YtaigknknfaeajaaGreatDoor.Moments
