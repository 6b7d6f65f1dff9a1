/- Parts of the proof: QRA, QRB, QRC, QRE. -/
import Derived.Test.YtaigknknfaeajaaGreatDoorZP
import Derived.Test.YtaigknknfaeajaaGreatDoorQKK
import Derived.Test.YtaigknknfaeajaaGreatDoorQDD
section
/- Range, Earliest, Latest: contracts. -/
open Go Go.Vm Go.Proofs Sp
namespace Sp
noncomputable section
end
end Sp
namespace Qq
noncomputable section
/- Below a limit on a day. -/
/- The reference's Earliest and Latest. -/
theorem CqIn.day {q : Ln} {x y : Int} (h : CqIn q x) (y0 : 0 ≤ y) (y1 : y ≤ 100000) : CqIn q y :=
  ⟨⟨h.ln.a0, h.ln.a1, h.ln.b0, h.ln.b1, h.ln.s0, h.ln.s1, h.ln.d0, h.ln.d1, y0, y1⟩, h.u1, h.b0, h.b1, h.v0, h.v1⟩
end
end Qq
end
section
/- Range, Earliest, Latest: the program's. -/
open Go Go.Vm Go.Proofs Sp
namespace Sp
noncomputable section
end
end Sp
namespace Qq
noncomputable section
/- Any line below a limit. -/
/- Earliest. -/
/- Latest. -/
end
end Qq
end
section
/- The law about ranges: what it calls. -/
open Go Go.Vm Go.Proofs Sp
namespace Qq
noncomputable section
theorem SmallRes.shut {P : Program} {f : FuncId} {args : List Value} {H H' : Heap} {v : Value} (h : SmallRes P f args H v H') (ids : List Nat) : SmallRes P f args H v (sealH ids H') := by
  intro F A ψ w args' hh hb hA hψ hl
  refine (h F A ψ w args' hh hb hA hψ hl).mono ?_
  rintro e w' ⟨v', A', ψ', rfl, k1, k2, k3⟩
  exact ⟨v', A', ψ', rfl, k1.shut ids, fun id hid => by rw [seal_len]; exact k2 id hid, k3⟩
end
end Qq
end
section
/- The law about ranges: plain facts. -/
open Go Go.Vm Go.Proofs Sp
namespace Qq
noncomputable section
end
end Qq
end
