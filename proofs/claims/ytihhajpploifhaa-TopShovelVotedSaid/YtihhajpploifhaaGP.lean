/- Closed facts of the row. -/
import Derived.LaidMore
import Derived.OpenShut
import Derived.Stop.Joined
import Derived.Lib.SmallJoins
import Derived.SevenTiedAt
import Derived.Test.YtihhajpploifhaaRows
open Go
namespace Go.Proofs.Ytihhajpploifhaa.Voted
open Go.ChangeShapes Go.WideShapes Go.ChangeAt Go.WideMaps Go.WideElems Go.RowKit Go.Joins

theorem k_in : (Rows.topShovelVotedRow.inPlace == Try.prog.inPlace 3) = true := by kernel_rfl
theorem k_un : (Rows.topShovelVotedRow.unfollowed == Try.prog.unfollowed 3) = true := by kernel_rfl
theorem k_re : (Rows.topShovelVotedRow.recurses == Try.prog.recurses 3) = true := by kernel_rfl
theorem k_na : (Rows.topShovelVotedRow.named == Try.prog.varsNamed 3) = true := by kernel_rfl
theorem closed : joinedFacts Try.prog 3 Try.f3 Rows.topShovelVotedSpec Rows.topShovelVotedRow = true := by
  unfold joinedFacts
  rw [k_in, k_un, k_re, k_na]
  kernel_rfl
theorem k_fn : Try.prog.funcNamed "versine/versinetop.TopShovelVoted" = some 3 := by kernel_rfl
theorem k_inst : Try.f3.isInstance Try.pinned.checked.prog Rows.topShovelVotedRow.origin Rows.topShovelVotedRow.targs := of_decide_eq_true (by kernel_rfl)
end Go.Proofs.Ytihhajpploifhaa.Voted
