/- Texts: the law. -/
import Derived.Test.YtaigknknfaeajaaGreatDoorTN
import Derived.Test.YtaigknknfaeajaaGreatDoorZL
import Derived.Test.YtaigknknfaeajaaGreatDoorZR
import Derived.Test.YtaigknknfaeajaaGreatDoorQJ
import Derived.Test.YtaigknknfaeajaaGreatDoorZS
open Go Go.Vm Go.Proofs Sp
namespace Qq
noncomputable section
theorem ps_sec {t : ByteArray} (ht : t.size ≤ 900 ∨ 4096 < t.size) : isSec (psZ t) (psK t) (psn t) (psk t) (ints (psZ t)) (acs (psK t)) := by
  by_cases h : psE t = 0
  · obtain ⟨v1, v2, v3⟩ := st_even (psL t) ((psL t).length - 1)
    have hs : t.size ≤ 900 := by
      rcases ht with h1 | h1
      · exact h1
      · rw [psE, if_pos h1] at h; cases h
    have := psL_len t
    rw [psZ, psK, psn, psk, gqL_z h, gqK_z h, gqN_z h, gqN_z h]
    exact ⟨rfl, rfl, v1, rfl, by omega, by omega⟩
  · rw [psZ, psK, psn, psk, gqL_n h, gqK_n h, gqN_n h, gqN_n h]
    exact ⟨rfl, rfl, rfl, rfl, by omega, by omega⟩
end
end Qq
