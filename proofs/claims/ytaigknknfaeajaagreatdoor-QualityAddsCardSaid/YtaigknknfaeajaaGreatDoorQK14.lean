/- Closed facts of row 14. -/
import Derived.LaidMore
import Derived.OpenShut
import Derived.Stop.Joined
import Derived.Lib.SmallJoins
import Derived.SevenTiedAt
import Derived.Test.YtaigknknfaeajaaGreatDoorCards
import Derived.Test.YtaigknknfaeajaaGreatDoorTie
open Go
namespace Go.Proofs.YtaigknknfaeajaaGreatDoor.Adds
open Go.ChangeShapes Go.WideShapes Go.ChangeAt Go.WideMaps Go.WideElems Go.RowKit Go.Joins

theorem k_in : (Rows.qualityAddsRow.inPlace == Tryz.prog.inPlace 14) = true := by kernel_rfl
theorem k_un : (Rows.qualityAddsRow.unfollowed == Tryz.prog.unfollowed 14) = true := by kernel_rfl
theorem k_re : (Rows.qualityAddsRow.recurses == Tryz.prog.recurses 14) = true := by kernel_rfl
theorem k_na : (Rows.qualityAddsRow.named == Tryz.prog.varsNamed 14) = true := by kernel_rfl
theorem closed : joinedFacts Tryz.prog 14 Tryz.f14 Rows.qualityAddsSpec Rows.qualityAddsRow = true := by
  unfold joinedFacts
  rw [k_in, k_un, k_re, k_na]
  kernel_rfl
theorem k_lo : false = Tryz.prog.looks [] := by kernel_rfl
theorem k_go : false = Rows.qualityAddsRow.goesBy Tryz.prog := by kernel_rfl
theorem k_fn : Tryz.prog.funcNamed "versine/versinelaw08.QualityAdds" = some 14 := by kernel_rfl
theorem k_wf : Rows.qualityAddsRow.wfByText (OpenSpec.ofChange Rows.qualityAddsSpec) = true := by kernel_rfl
theorem k_main : Tryz.pinned.checked.prog.mainIs = some (true, "476780b8474583dd50713e090344d8796cd804ebab54954e5d6f57dab0c3dc78".toList) := by kernel_rfl
theorem k_inst : Tryz.f14.isInstance Tryz.pinned.checked.prog Rows.qualityAddsRow.origin Rows.qualityAddsRow.targs := of_decide_eq_true (by kernel_rfl)
end Go.Proofs.YtaigknknfaeajaaGreatDoor.Adds
