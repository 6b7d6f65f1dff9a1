/- Closed facts of the row. -/
import Derived.LaidMore
import Derived.OpenShut
import Derived.Stop.Joined
import Derived.Lib.SmallJoins
import Derived.SevenTiedAt
import Derived.Test.YtjcncnppohmoeaaRows
open Go
namespace Go.Proofs.Ytjcncnppohmoeaa.Ground
open Go.ChangeShapes Go.WideShapes Go.ChangeAt Go.WideMaps Go.WideElems Go.RowKit Go.Joins

theorem k_in : (Rows.topJackGroundRow.inPlace == Try.prog.inPlace 3) = true := by kernel_rfl
theorem k_un : (Rows.topJackGroundRow.unfollowed == Try.prog.unfollowed 3) = true := by kernel_rfl
theorem k_re : (Rows.topJackGroundRow.recurses == Try.prog.recurses 3) = true := by kernel_rfl
theorem k_na : (Rows.topJackGroundRow.named == Try.prog.varsNamed 3) = true := by kernel_rfl
theorem closed : joinedFacts Try.prog 3 Try.f3 Rows.topJackGroundSpec Rows.topJackGroundRow = true := by
  unfold joinedFacts
  rw [k_in, k_un, k_re, k_na]
  kernel_rfl
theorem k_fn : Try.prog.funcNamed "versine/versinetop.TopJackGround" = some 3 := by kernel_rfl
theorem k_inst : Try.f3.isInstance Try.pinned.checked.prog Rows.topJackGroundRow.origin Rows.topJackGroundRow.targs := of_decide_eq_true (by kernel_rfl)
end Go.Proofs.Ytjcncnppohmoeaa.Ground
