/- Parts of the proof: QU, QV, QW, QX, QY, QZ, QAA, QBB, QCC. -/
import Derived.Test.YtaigknknfaeajaaGreatDoorZG
import Derived.Test.YtaigknknfaeajaaGreatDoorZD
section
/- The program's lines of periods. -/
open Go Go.Vm Go.Proofs Sp
namespace Sp
noncomputable section
end
end Sp
namespace Qq
noncomputable section
end
end Qq
end
section
/- The program's answers about lines. -/
open Go Go.Vm Go.Proofs Sp
namespace Qq
noncomputable section
end
end Qq
namespace Sp
noncomputable section
noncomputable def gz (e x : Int) : Int := if e = 0 then x else 0
end
end Sp
namespace Qq
noncomputable section
end
end Qq
end
section
/- The program's predictions. -/
open Go Go.Vm Go.Proofs Sp
namespace Qq
noncomputable section
end
end Qq
end
section
/- When a line reaches a limit. -/
open Go Go.Vm Go.Proofs Sp
namespace Qq
noncomputable section
end
end Qq
end
section
/- When a line reaches a limit: the contract. -/
open Go Go.Vm Go.Proofs Sp
namespace Sp
noncomputable section
structure RcOK (a b c d l f : Int) : Prop where
  a0 : 0 ≤ a
  a1 : a ≤ 100000
  f0 : 0 ≤ f
  f1 : f ≤ 100000
  b0 : -1024000000000000000 ≤ b
  b1 : b ≤ 1024000000000000000
  p0 : -1024000000000000000 ≤ c * (f - a)
  p1 : c * (f - a) ≤ 1024000000000000000
  c1 : c ≤ 10240000000000
  q0 : 0 ≤ l * d
  q1 : l * d ≤ 1024000000000000000
end
end Sp
namespace Qq
noncomputable section
end
end Qq
end
section
/- The program's Reached. -/
open Go Go.Vm Go.Proofs Sp
namespace Qq
noncomputable section
end
end Qq
end
section
/- The program's Reached, with its checks. -/
open Go Go.Vm Go.Proofs Sp
namespace Qq
noncomputable section
end
end Qq
end
section
/- The reference's answers about lines. -/
open Go Go.Vm Go.Proofs Sp
namespace Qq
noncomputable section
end
end Qq
end
section
/- The reference's answers about lines: contracts. -/
open Go Go.Vm Go.Proofs Sp
namespace Qq
noncomputable section
end
end Qq
end
