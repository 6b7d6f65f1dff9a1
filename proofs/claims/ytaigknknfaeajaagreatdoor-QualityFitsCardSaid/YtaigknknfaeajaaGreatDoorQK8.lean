/- Closed facts of row 8. -/
import Derived.LaidMore
import Derived.OpenShut
import Derived.Stop.Joined
import Derived.Lib.SmallJoins
import Derived.SevenTiedAt
import Derived.Test.YtaigknknfaeajaaGreatDoorCards
import Derived.Test.YtaigknknfaeajaaGreatDoorTie
open Go
namespace Go.Proofs.YtaigknknfaeajaaGreatDoor.Fits
open Go.ChangeShapes Go.WideShapes Go.ChangeAt Go.WideMaps Go.WideElems Go.RowKit Go.Joins

theorem k_in : (Rows.qualityFitsRow.inPlace == Tryz.prog.inPlace 8) = true := by kernel_rfl
theorem k_un : (Rows.qualityFitsRow.unfollowed == Tryz.prog.unfollowed 8) = true := by kernel_rfl
theorem k_re : (Rows.qualityFitsRow.recurses == Tryz.prog.recurses 8) = true := by kernel_rfl
theorem k_na : (Rows.qualityFitsRow.named == Tryz.prog.varsNamed 8) = true := by kernel_rfl
theorem closed : joinedFacts Tryz.prog 8 Tryz.f8 Rows.qualityFitsSpec Rows.qualityFitsRow = true := by
  unfold joinedFacts
  rw [k_in, k_un, k_re, k_na]
  kernel_rfl
theorem k_lo : false = Tryz.prog.looks [] := by kernel_rfl
theorem k_go : false = Rows.qualityFitsRow.goesBy Tryz.prog := by kernel_rfl
theorem k_fn : Tryz.prog.funcNamed "versine/versinelaw08.QualityFits" = some 8 := by kernel_rfl
theorem k_wf : Rows.qualityFitsRow.wfByText (OpenSpec.ofChange Rows.qualityFitsSpec) = true := by kernel_rfl
theorem k_main : Tryz.pinned.checked.prog.mainIs = some (true, "476780b8474583dd50713e090344d8796cd804ebab54954e5d6f57dab0c3dc78".toList) := by kernel_rfl
theorem k_inst : Tryz.f8.isInstance Tryz.pinned.checked.prog Rows.qualityFitsRow.origin Rows.qualityFitsRow.targs := of_decide_eq_true (by kernel_rfl)
end Go.Proofs.YtaigknknfaeajaaGreatDoor.Fits
