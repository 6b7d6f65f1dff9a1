/- The law about lines: its own functions. -/
import Derived.Test.YtaigknknfaeajaaGreatDoorZH
import Derived.Test.YtaigknknfaeajaaGreatDoorQJ
open Go Go.Vm Go.Proofs Sp
namespace Qq
noncomputable section
noncomputable def bx (cs : List Value) : Option AObj := some (.row cs 0 false true true)
noncomputable def i0 : Value := .int .i64 0
end
end Qq
