/- Closed facts of the row. -/
import Derived.LaidMore
import Derived.OpenShut
import Derived.Stop.Joined
import Derived.Lib.SmallJoins
import Derived.SevenTiedAt
import Derived.Test.YtellllnlidiljaaRows
open Go
namespace Go.Proofs.Ytellllnlidiljaa.Heard
open Go.ChangeShapes Go.WideShapes Go.ChangeAt Go.WideMaps Go.WideElems Go.RowKit Go.Joins

theorem k_in : (Rows.topShovelHeardRow.inPlace == Try.prog.inPlace 3) = true := by kernel_rfl
theorem k_un : (Rows.topShovelHeardRow.unfollowed == Try.prog.unfollowed 3) = true := by kernel_rfl
theorem k_re : (Rows.topShovelHeardRow.recurses == Try.prog.recurses 3) = true := by kernel_rfl
theorem k_na : (Rows.topShovelHeardRow.named == Try.prog.varsNamed 3) = true := by kernel_rfl
theorem closed : joinedFacts Try.prog 3 Try.f3 Rows.topShovelHeardSpec Rows.topShovelHeardRow = true := by
  unfold joinedFacts
  rw [k_in, k_un, k_re, k_na]
  kernel_rfl
theorem k_fn : Try.prog.funcNamed "versine/versinetop.TopShovelHeard" = some 3 := by kernel_rfl
theorem k_inst : Try.f3.isInstance Try.pinned.checked.prog Rows.topShovelHeardRow.origin Rows.topShovelHeardRow.targs := of_decide_eq_true (by kernel_rfl)
end Go.Proofs.Ytellllnlidiljaa.Heard
