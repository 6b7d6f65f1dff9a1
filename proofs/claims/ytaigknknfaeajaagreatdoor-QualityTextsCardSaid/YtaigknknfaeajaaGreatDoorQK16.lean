/- Closed facts of row 16. -/
import Derived.LaidMore
import Derived.OpenShut
import Derived.Stop.Joined
import Derived.Lib.SmallJoins
import Derived.SevenTiedAt
import Derived.Test.YtaigknknfaeajaaGreatDoorCards
import Derived.Test.YtaigknknfaeajaaGreatDoorTie
open Go
namespace Go.Proofs.YtaigknknfaeajaaGreatDoor.Texts
open Go.ChangeShapes Go.WideShapes Go.ChangeAt Go.WideMaps Go.WideElems Go.RowKit Go.Joins

theorem k_in : (Rows.qualityTextsRow.inPlace == Tryz.prog.inPlace 16) = true := by kernel_rfl
theorem k_un : (Rows.qualityTextsRow.unfollowed == Tryz.prog.unfollowed 16) = true := by kernel_rfl
theorem k_re : (Rows.qualityTextsRow.recurses == Tryz.prog.recurses 16) = true := by kernel_rfl
theorem k_na : (Rows.qualityTextsRow.named == Tryz.prog.varsNamed 16) = true := by kernel_rfl
theorem closed : joinedFacts Tryz.prog 16 Tryz.f16 Rows.qualityTextsSpec Rows.qualityTextsRow = true := by
  unfold joinedFacts
  rw [k_in, k_un, k_re, k_na]
  kernel_rfl
theorem k_lo : false = Tryz.prog.looks [] := by kernel_rfl
theorem k_go : false = Rows.qualityTextsRow.goesBy Tryz.prog := by kernel_rfl
theorem k_fn : Tryz.prog.funcNamed "versine/versinelaw08.QualityTexts" = some 16 := by kernel_rfl
theorem k_wf : Rows.qualityTextsRow.wfByText (OpenSpec.ofChange Rows.qualityTextsSpec) = true := by kernel_rfl
theorem k_main : Tryz.pinned.checked.prog.mainIs = some (true, "476780b8474583dd50713e090344d8796cd804ebab54954e5d6f57dab0c3dc78".toList) := by kernel_rfl
theorem k_inst : Tryz.f16.isInstance Tryz.pinned.checked.prog Rows.qualityTextsRow.origin Rows.qualityTextsRow.targs := of_decide_eq_true (by kernel_rfl)
end Go.Proofs.YtaigknknfaeajaaGreatDoor.Texts
