/- The law about sections. -/
import Derived.Test.YtaigknknfaeajaaGreatDoorZG
import Derived.Test.YtaigknknfaeajaaGreatDoorQE
open Go Go.Vm Go.Proofs Sp
namespace Qq
noncomputable section

theorem shortS_ok {nm : ByteArray} {n : Nat} {ks : List (Int × ByteArray)} {k : Nat} (h : shortS nm n ks k = true) : n ≤ 33 ∧ k ≤ 17 := by
  simp only [shortS, Bool.and_eq_true, Bool.or_eq_true, decide_eq_true_eq, beq_iff_eq] at h
  omega
end
end Qq
