/- Closed facts of row 11. -/
import Derived.LaidMore
import Derived.OpenShut
import Derived.Stop.Joined
import Derived.Lib.SmallJoins
import Derived.SevenTiedAt
import Derived.Test.YtaigknknfaeajaaGreatDoorCards
import Derived.Test.YtaigknknfaeajaaGreatDoorTie
open Go
namespace Go.Proofs.YtaigknknfaeajaaGreatDoor.Exact
open Go.ChangeShapes Go.WideShapes Go.ChangeAt Go.WideMaps Go.WideElems Go.RowKit Go.Joins

theorem k_in : (Rows.qualityExactRow.inPlace == Tryz.prog.inPlace 11) = true := by kernel_rfl
theorem k_un : (Rows.qualityExactRow.unfollowed == Tryz.prog.unfollowed 11) = true := by kernel_rfl
theorem k_re : (Rows.qualityExactRow.recurses == Tryz.prog.recurses 11) = true := by kernel_rfl
theorem k_na : (Rows.qualityExactRow.named == Tryz.prog.varsNamed 11) = true := by kernel_rfl
theorem closed : joinedFacts Tryz.prog 11 Tryz.f11 Rows.qualityExactSpec Rows.qualityExactRow = true := by
  unfold joinedFacts
  rw [k_in, k_un, k_re, k_na]
  kernel_rfl
theorem k_lo : false = Tryz.prog.looks [] := by kernel_rfl
theorem k_go : false = Rows.qualityExactRow.goesBy Tryz.prog := by kernel_rfl
theorem k_fn : Tryz.prog.funcNamed "versine/versinelaw08.QualityExact" = some 11 := by kernel_rfl
theorem k_wf : Rows.qualityExactRow.wfByText (OpenSpec.ofChange Rows.qualityExactSpec) = true := by kernel_rfl
theorem k_main : Tryz.pinned.checked.prog.mainIs = some (true, "476780b8474583dd50713e090344d8796cd804ebab54954e5d6f57dab0c3dc78".toList) := by kernel_rfl
theorem k_inst : Tryz.f11.isInstance Tryz.pinned.checked.prog Rows.qualityExactRow.origin Rows.qualityExactRow.targs := of_decide_eq_true (by kernel_rfl)
end Go.Proofs.YtaigknknfaeajaaGreatDoor.Exact
