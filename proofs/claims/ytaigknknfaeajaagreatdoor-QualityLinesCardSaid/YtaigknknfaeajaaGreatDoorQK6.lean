/- Closed facts of row 6. -/
import Derived.LaidMore
import Derived.OpenShut
import Derived.Stop.Joined
import Derived.Lib.SmallJoins
import Derived.SevenTiedAt
import Derived.Test.YtaigknknfaeajaaGreatDoorCards
import Derived.Test.YtaigknknfaeajaaGreatDoorTie
open Go
namespace Go.Proofs.YtaigknknfaeajaaGreatDoor.Lines
open Go.ChangeShapes Go.WideShapes Go.ChangeAt Go.WideMaps Go.WideElems Go.RowKit Go.Joins

theorem k_in : (Rows.qualityLinesRow.inPlace == Tryz.prog.inPlace 6) = true := by kernel_rfl
theorem k_un : (Rows.qualityLinesRow.unfollowed == Tryz.prog.unfollowed 6) = true := by kernel_rfl
theorem k_re : (Rows.qualityLinesRow.recurses == Tryz.prog.recurses 6) = true := by kernel_rfl
theorem k_na : (Rows.qualityLinesRow.named == Tryz.prog.varsNamed 6) = true := by kernel_rfl
theorem closed : joinedFacts Tryz.prog 6 Tryz.f6 Rows.qualityLinesSpec Rows.qualityLinesRow = true := by
  unfold joinedFacts
  rw [k_in, k_un, k_re, k_na]
  kernel_rfl
theorem k_lo : false = Tryz.prog.looks [] := by kernel_rfl
theorem k_go : false = Rows.qualityLinesRow.goesBy Tryz.prog := by kernel_rfl
theorem k_fn : Tryz.prog.funcNamed "versine/versinelaw08.QualityLines" = some 6 := by kernel_rfl
theorem k_wf : Rows.qualityLinesRow.wfByText (OpenSpec.ofChange Rows.qualityLinesSpec) = true := by kernel_rfl
theorem k_main : Tryz.pinned.checked.prog.mainIs = some (true, "476780b8474583dd50713e090344d8796cd804ebab54954e5d6f57dab0c3dc78".toList) := by kernel_rfl
theorem k_inst : Tryz.f6.isInstance Tryz.pinned.checked.prog Rows.qualityLinesRow.origin Rows.qualityLinesRow.targs := of_decide_eq_true (by kernel_rfl)
end Go.Proofs.YtaigknknfaeajaaGreatDoor.Lines
