/- The law about what an intervention leaves. -/
import Derived.Test.YtaigknknfaeajaaGreatDoorQDD
import Derived.Test.YtaigknknfaeajaaGreatDoorQEE
open Go Go.Vm Go.Proofs Sp
namespace Qq
noncomputable section
noncomputable def l7 : List (Nat × Orc) := [(18, orcTrue), (28, orcFirst), (53, orcWhen)]
end
end Qq
