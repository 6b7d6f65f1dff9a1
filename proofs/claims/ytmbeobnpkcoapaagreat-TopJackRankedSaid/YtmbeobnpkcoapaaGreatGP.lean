/- Closed facts of the row. -/
import Derived.LaidMore
import Derived.OpenShut
import Derived.Stop.Joined
import Derived.Lib.SmallJoins
import Derived.SevenTiedAt
import Derived.Test.YtmbeobnpkcoapaaGreatRows
open Go
namespace Go.Proofs.YtmbeobnpkcoapaaGreat.Ranked
open Go.ChangeShapes Go.WideShapes Go.ChangeAt Go.WideMaps Go.WideElems Go.RowKit Go.Joins

theorem k_in : (Rows.topJackRankedRow.inPlace == Tryz.prog.inPlace 3) = true := by kernel_rfl
theorem k_un : (Rows.topJackRankedRow.unfollowed == Tryz.prog.unfollowed 3) = true := by kernel_rfl
theorem k_re : (Rows.topJackRankedRow.recurses == Tryz.prog.recurses 3) = true := by kernel_rfl
theorem k_na : (Rows.topJackRankedRow.named == Tryz.prog.varsNamed 3) = true := by kernel_rfl
theorem closed : joinedFacts Tryz.prog 3 Tryz.f3 Rows.topJackRankedSpec Rows.topJackRankedRow = true := by
  unfold joinedFacts
  rw [k_in, k_un, k_re, k_na]
  kernel_rfl
theorem k_fn : Tryz.prog.funcNamed "versine/versinetop.TopJackRanked" = some 3 := by kernel_rfl
theorem k_inst : Tryz.f3.isInstance Tryz.pinned.checked.prog Rows.topJackRankedRow.origin Rows.topJackRankedRow.targs := of_decide_eq_true (by kernel_rfl)
end Go.Proofs.YtmbeobnpkcoapaaGreat.Ranked
