/- Closed facts of row 9. -/
import Derived.LaidMore
import Derived.OpenShut
import Derived.Stop.Joined
import Derived.Lib.SmallJoins
import Derived.SevenTiedAt
import Derived.Test.YtaigknknfaeajaaGreatDoorCards
import Derived.Test.YtaigknknfaeajaaGreatDoorTie
open Go
namespace Go.Proofs.YtaigknknfaeajaaGreatDoor.Ranges
open Go.ChangeShapes Go.WideShapes Go.ChangeAt Go.WideMaps Go.WideElems Go.RowKit Go.Joins

theorem k_in : (Rows.qualityRangesRow.inPlace == Tryz.prog.inPlace 9) = true := by kernel_rfl
theorem k_un : (Rows.qualityRangesRow.unfollowed == Tryz.prog.unfollowed 9) = true := by kernel_rfl
theorem k_re : (Rows.qualityRangesRow.recurses == Tryz.prog.recurses 9) = true := by kernel_rfl
theorem k_na : (Rows.qualityRangesRow.named == Tryz.prog.varsNamed 9) = true := by kernel_rfl
theorem closed : joinedFacts Tryz.prog 9 Tryz.f9 Rows.qualityRangesSpec Rows.qualityRangesRow = true := by
  unfold joinedFacts
  rw [k_in, k_un, k_re, k_na]
  kernel_rfl
theorem k_lo : false = Tryz.prog.looks [] := by kernel_rfl
theorem k_go : false = Rows.qualityRangesRow.goesBy Tryz.prog := by kernel_rfl
theorem k_fn : Tryz.prog.funcNamed "versine/versinelaw08.QualityRanges" = some 9 := by kernel_rfl
theorem k_wf : Rows.qualityRangesRow.wfByText (OpenSpec.ofChange Rows.qualityRangesSpec) = true := by kernel_rfl
theorem k_main : Tryz.pinned.checked.prog.mainIs = some (true, "476780b8474583dd50713e090344d8796cd804ebab54954e5d6f57dab0c3dc78".toList) := by kernel_rfl
theorem k_inst : Tryz.f9.isInstance Tryz.pinned.checked.prog Rows.qualityRangesRow.origin Rows.qualityRangesRow.targs := of_decide_eq_true (by kernel_rfl)
end Go.Proofs.YtaigknknfaeajaaGreatDoor.Ranges
