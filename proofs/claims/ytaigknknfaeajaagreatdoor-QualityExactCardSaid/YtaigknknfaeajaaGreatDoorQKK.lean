/- Fits, and the law about it. -/
import Derived.Test.YtaigknknfaeajaaGreatDoorQHH
import Derived.Test.YtaigknknfaeajaaGreatDoorQII
open Go Go.Vm Go.Proofs Sp
namespace Qq
noncomputable section
theorem ptP_len {zs : List Int} {off m : Nat} (h : off + m * 2 ≤ zs.length) : (ptP zs off m).length = m * 2 := by
  rw [ptP, List.length_take, List.length_drop]; omega
theorem FitIn.own {zs : List Int} {off m : Nat} {w a b s d : Int} (h : FitIn zs off m w a b s d) : FitIn (ptP zs off m) 0 m w a b s d := by
  obtain ⟨h1, h2, h3, h4, h5, h6, h7, h8, h9, h10, h11, h12, h13, h14⟩ := h
  refine ⟨by rw [ptP_len h1]; omega, h2, h3, h4, h5, h6, h7, h8, h9, h10, h11, h12, fun i hi => ?_, fun i hi => ?_⟩
  · rw [Nat.zero_add, ptP, pP_get (by omega)]; exact h13 i hi
  · rw [Nat.zero_add, ptP, pP_get (by omega), ← Nat.add_assoc]; exact h14 i hi
end
end Qq
