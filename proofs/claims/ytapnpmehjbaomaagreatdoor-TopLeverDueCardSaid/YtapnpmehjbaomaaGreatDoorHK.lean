/- Closed facts of the row. -/
import Derived.LaidMore
import Derived.OpenShut
import Derived.Stop.Joined
import Derived.Lib.SmallJoins
import Derived.SevenTiedAt
import Derived.Test.YtapnpmehjbaomaaGreatDoorCards
import Derived.Test.YtapnpmehjbaomaaGreatDoorTie
open Go
namespace Go.Proofs.YtapnpmehjbaomaaGreatDoor.Due
open Go.ChangeShapes Go.WideShapes Go.ChangeAt Go.WideMaps Go.WideElems Go.RowKit Go.Joins

theorem k_in : (Rows.topLeverDueRow.inPlace == Tryz.prog.inPlace 3) = true := by kernel_rfl
theorem k_un : (Rows.topLeverDueRow.unfollowed == Tryz.prog.unfollowed 3) = true := by kernel_rfl
theorem k_re : (Rows.topLeverDueRow.recurses == Tryz.prog.recurses 3) = true := by kernel_rfl
theorem k_na : (Rows.topLeverDueRow.named == Tryz.prog.varsNamed 3) = true := by kernel_rfl
theorem closed : joinedFacts Tryz.prog 3 Tryz.f3 Rows.topLeverDueSpec Rows.topLeverDueRow = true := by
  unfold joinedFacts
  rw [k_in, k_un, k_re, k_na]
  kernel_rfl
theorem k_lo : false = Tryz.prog.looks [] := by kernel_rfl
theorem k_go : false = Rows.topLeverDueRow.goesBy Tryz.prog := by kernel_rfl
theorem k_fn : Tryz.prog.funcNamed "versine/versinetop.TopLeverDue" = some 3 := by kernel_rfl
theorem k_wf : Rows.topLeverDueRow.wfByText (OpenSpec.ofChange Rows.topLeverDueSpec) = true := by kernel_rfl
theorem k_main : Tryz.pinned.checked.prog.mainIs = some (true, "4d011d5a3a05fc86807142c4d80923e1e6d84320e86f6833b56d5d2269156bb3".toList) := by kernel_rfl
theorem k_inst : Tryz.f3.isInstance Tryz.pinned.checked.prog Rows.topLeverDueRow.origin Rows.topLeverDueRow.targs := of_decide_eq_true (by kernel_rfl)
end Go.Proofs.YtapnpmehjbaomaaGreatDoor.Due
