/- Closed facts of row 12. -/
import Derived.LaidMore
import Derived.OpenShut
import Derived.Stop.Joined
import Derived.Lib.SmallJoins
import Derived.SevenTiedAt
import Derived.Test.YtaigknknfaeajaaGreatDoorCards
import Derived.Test.YtaigknknfaeajaaGreatDoorTie
open Go
namespace Go.Proofs.YtaigknknfaeajaaGreatDoor.Bounds
open Go.ChangeShapes Go.WideShapes Go.ChangeAt Go.WideMaps Go.WideElems Go.RowKit Go.Joins

theorem k_in : (Rows.qualityBoundsRow.inPlace == Tryz.prog.inPlace 12) = true := by kernel_rfl
theorem k_un : (Rows.qualityBoundsRow.unfollowed == Tryz.prog.unfollowed 12) = true := by kernel_rfl
theorem k_re : (Rows.qualityBoundsRow.recurses == Tryz.prog.recurses 12) = true := by kernel_rfl
theorem k_na : (Rows.qualityBoundsRow.named == Tryz.prog.varsNamed 12) = true := by kernel_rfl
theorem closed : joinedFacts Tryz.prog 12 Tryz.f12 Rows.qualityBoundsSpec Rows.qualityBoundsRow = true := by
  unfold joinedFacts
  rw [k_in, k_un, k_re, k_na]
  kernel_rfl
theorem k_lo : false = Tryz.prog.looks [] := by kernel_rfl
theorem k_go : false = Rows.qualityBoundsRow.goesBy Tryz.prog := by kernel_rfl
theorem k_fn : Tryz.prog.funcNamed "versine/versinelaw08.QualityBounds" = some 12 := by kernel_rfl
theorem k_wf : Rows.qualityBoundsRow.wfByText (OpenSpec.ofChange Rows.qualityBoundsSpec) = true := by kernel_rfl
theorem k_main : Tryz.pinned.checked.prog.mainIs = some (true, "476780b8474583dd50713e090344d8796cd804ebab54954e5d6f57dab0c3dc78".toList) := by kernel_rfl
theorem k_inst : Tryz.f12.isInstance Tryz.pinned.checked.prog Rows.qualityBoundsRow.origin Rows.qualityBoundsRow.targs := of_decide_eq_true (by kernel_rfl)
end Go.Proofs.YtaigknknfaeajaaGreatDoor.Bounds
