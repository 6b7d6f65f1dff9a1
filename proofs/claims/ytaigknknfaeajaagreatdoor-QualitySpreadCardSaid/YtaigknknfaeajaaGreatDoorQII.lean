/- The lines through two measurements: as both list them. -/
import Derived.Test.YtaigknknfaeajaaGreatDoorQFF
import Derived.Test.YtaigknknfaeajaaGreatDoorZO
open Go Go.Vm Go.Proofs Sp
namespace Qq
noncomputable section
/- The reference's. -/
/-- Measurements whose days grow. -/
structure Pts (zs : List Int) (off m : Nat) : Prop where
  part : Part zs off m
  up : ∀ i j, i < j → j < m → zs.getD (off + i * 2) 0 < zs.getD (off + j * 2) 0
end
end Qq
