/- Closed facts of row 7. -/
import Derived.LaidMore
import Derived.OpenShut
import Derived.Stop.Joined
import Derived.Lib.SmallJoins
import Derived.SevenTiedAt
import Derived.Test.YtaigknknfaeajaaGreatDoorCards
import Derived.Test.YtaigknknfaeajaaGreatDoorTie
open Go
namespace Go.Proofs.YtaigknknfaeajaaGreatDoor.Left
open Go.ChangeShapes Go.WideShapes Go.ChangeAt Go.WideMaps Go.WideElems Go.RowKit Go.Joins

theorem k_in : (Rows.qualityLeftRow.inPlace == Tryz.prog.inPlace 7) = true := by kernel_rfl
theorem k_un : (Rows.qualityLeftRow.unfollowed == Tryz.prog.unfollowed 7) = true := by kernel_rfl
theorem k_re : (Rows.qualityLeftRow.recurses == Tryz.prog.recurses 7) = true := by kernel_rfl
theorem k_na : (Rows.qualityLeftRow.named == Tryz.prog.varsNamed 7) = true := by kernel_rfl
theorem closed : joinedFacts Tryz.prog 7 Tryz.f7 Rows.qualityLeftSpec Rows.qualityLeftRow = true := by
  unfold joinedFacts
  rw [k_in, k_un, k_re, k_na]
  kernel_rfl
theorem k_lo : false = Tryz.prog.looks [] := by kernel_rfl
theorem k_go : false = Rows.qualityLeftRow.goesBy Tryz.prog := by kernel_rfl
theorem k_fn : Tryz.prog.funcNamed "versine/versinelaw08.QualityLeft" = some 7 := by kernel_rfl
theorem k_wf : Rows.qualityLeftRow.wfByText (OpenSpec.ofChange Rows.qualityLeftSpec) = true := by kernel_rfl
theorem k_main : Tryz.pinned.checked.prog.mainIs = some (true, "476780b8474583dd50713e090344d8796cd804ebab54954e5d6f57dab0c3dc78".toList) := by kernel_rfl
theorem k_inst : Tryz.f7.isInstance Tryz.pinned.checked.prog Rows.qualityLeftRow.origin Rows.qualityLeftRow.targs := of_decide_eq_true (by kernel_rfl)
end Go.Proofs.YtaigknknfaeajaaGreatDoor.Left
