/- Closed facts of the row. -/
import Derived.LaidMore
import Derived.OpenShut
import Derived.Stop.Joined
import Derived.Lib.SmallJoins
import Derived.SevenTiedAt
import Derived.Test.YtgcniklghjfogaaDoorCards
import Derived.Test.YtgcniklghjfogaaDoorTie
open Go
namespace Go.Proofs.YtgcniklghjfogaaDoor.Raw
open Go.ChangeShapes Go.WideShapes Go.ChangeAt Go.WideMaps Go.WideElems Go.RowKit Go.Joins

theorem k_in : (Rows.topLeverRawRow.inPlace == Tryd.prog.inPlace 3) = true := by kernel_rfl
theorem k_un : (Rows.topLeverRawRow.unfollowed == Tryd.prog.unfollowed 3) = true := by kernel_rfl
theorem k_re : (Rows.topLeverRawRow.recurses == Tryd.prog.recurses 3) = true := by kernel_rfl
theorem k_na : (Rows.topLeverRawRow.named == Tryd.prog.varsNamed 3) = true := by kernel_rfl
theorem closed : joinedFacts Tryd.prog 3 Tryd.f3 Rows.topLeverRawSpec Rows.topLeverRawRow = true := by
  unfold joinedFacts
  rw [k_in, k_un, k_re, k_na]
  kernel_rfl
theorem k_lo : false = Tryd.prog.looks [] := by kernel_rfl
theorem k_go : false = Rows.topLeverRawRow.goesBy Tryd.prog := by kernel_rfl
theorem k_fn : Tryd.prog.funcNamed "versine/versinetop.TopLeverRaw" = some 3 := by kernel_rfl
theorem k_wf : Rows.topLeverRawRow.wfByText (OpenSpec.ofChange Rows.topLeverRawSpec) = true := by kernel_rfl
theorem k_main : Tryd.pinned.checked.prog.mainIs = some (true, "be101c7218cff0f5af4db30dc53cfbef5f71eb330644abba2131aa7aca9d922d".toList) := by kernel_rfl
theorem k_inst : Tryd.f3.isInstance Tryd.pinned.checked.prog Rows.topLeverRawRow.origin Rows.topLeverRawRow.targs := of_decide_eq_true (by kernel_rfl)
end Go.Proofs.YtgcniklghjfogaaDoor.Raw
