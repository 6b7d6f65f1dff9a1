/- The law about moments of parts: it answers true. -/
import Derived.Test.YtaigknknfaeajaaGreatDoorRG
open Go Go.Vm Go.Proofs Sp
namespace Qq
noncomputable section
theorem shB_small {nm : ByteArray} {n k : Nat} (h : shB nm n k = true) : n ≤ 4097 ∧ k ≤ 12 := by
  simp only [shB, Bool.and_eq_true, Bool.or_eq_true, decide_eq_true_eq, beq_iff_eq] at h
  omega
end
end Qq
