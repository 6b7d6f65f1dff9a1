/- Closed facts of row 5. -/
import Derived.LaidMore
import Derived.OpenShut
import Derived.Stop.Joined
import Derived.Lib.SmallJoins
import Derived.SevenTiedAt
import Derived.Test.YtaigknknfaeajaaGreatDoorCards
import Derived.Test.YtaigknknfaeajaaGreatDoorTie
open Go
namespace Go.Proofs.YtaigknknfaeajaaGreatDoor.Sections
open Go.ChangeShapes Go.WideShapes Go.ChangeAt Go.WideMaps Go.WideElems Go.RowKit Go.Joins

theorem k_in : (Rows.qualitySectionsRow.inPlace == Tryz.prog.inPlace 5) = true := by kernel_rfl
theorem k_un : (Rows.qualitySectionsRow.unfollowed == Tryz.prog.unfollowed 5) = true := by kernel_rfl
theorem k_re : (Rows.qualitySectionsRow.recurses == Tryz.prog.recurses 5) = true := by kernel_rfl
theorem k_na : (Rows.qualitySectionsRow.named == Tryz.prog.varsNamed 5) = true := by kernel_rfl
theorem closed : joinedFacts Tryz.prog 5 Tryz.f5 Rows.qualitySectionsSpec Rows.qualitySectionsRow = true := by
  unfold joinedFacts
  rw [k_in, k_un, k_re, k_na]
  kernel_rfl
theorem k_lo : false = Tryz.prog.looks [] := by kernel_rfl
theorem k_go : false = Rows.qualitySectionsRow.goesBy Tryz.prog := by kernel_rfl
theorem k_fn : Tryz.prog.funcNamed "versine/versinelaw08.QualitySections" = some 5 := by kernel_rfl
theorem k_wf : Rows.qualitySectionsRow.wfByText (OpenSpec.ofChange Rows.qualitySectionsSpec) = true := by kernel_rfl
theorem k_main : Tryz.pinned.checked.prog.mainIs = some (true, "476780b8474583dd50713e090344d8796cd804ebab54954e5d6f57dab0c3dc78".toList) := by kernel_rfl
theorem k_inst : Tryz.f5.isInstance Tryz.pinned.checked.prog Rows.qualitySectionsRow.origin Rows.qualitySectionsRow.targs := of_decide_eq_true (by kernel_rfl)
end Go.Proofs.YtaigknknfaeajaaGreatDoor.Sections
