/- The law about sections. -/
import Derived.Test.YtaigknknfaeajaaGreatDoorZG
import Derived.Test.YtaigknknfaeajaaGreatDoorQE
open Go Go.Vm Go.Proofs Sp
namespace Qq
noncomputable section

end
end Qq
