/- The table under which awake is evaluated. -/
import Derived.Test.YtaigknknfaeajaaGreatDoorQC
import Derived.Test.YtaigknknfaeajaaGreatDoorQD
import Derived.Test.YtaigknknfaeajaaGreatDoorVmW
open Go Go.Vm Go.Proofs Sp
namespace Qq
noncomputable section
noncomputable def tabA : List (Nat × Orc) := (119, orcIdx) :: (lib0 ++ t2)
theorem tabA_all : ∀ p ∈ tabA, Ok Tryz.prog p.1 p.2 := all_cons okIdx (by
  intro p hp
  rcases List.mem_append.1 hp with h | h
  · exact lib0_all p h
  · exact t2_all p h)
noncomputable def ctxA : CallF := ctx Tryz.prog tabA
theorem ctxA_ok : CallOK Tryz.prog ctxA := ctx_ok hm tabA_all
