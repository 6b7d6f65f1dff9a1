/- What an intervention leaves: the program's answer. -/
import Derived.Test.YtaigknknfaeajaaGreatDoorZH
open Go Go.Vm Go.Proofs Sp
namespace Qq
noncomputable section
end
end Qq
