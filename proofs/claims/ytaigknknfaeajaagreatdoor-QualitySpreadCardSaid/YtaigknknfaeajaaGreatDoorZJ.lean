/- Parts of the proof: QLR, QLC, QLP, QXP. -/
import Derived.Test.YtaigknknfaeajaaGreatDoorZH
section
/- Quotients in lowest terms, and lines through two points: plain laws. -/
open Go Go.Vm Go.Proofs Sp
namespace Qq
noncomputable section

theorem low_spec {a d : Int} (h0 : 0 < d) (h1 : d < 9223372036854775808) (a0 : -9223372036854775808 < a) (a1 : a < 9223372036854775808) :
    ∃ g : Int, 0 < g ∧ lowN a d * g = a ∧ lowD a d * g = d ∧ 0 < lowD a d ∧ (lowN a d).natAbs.gcd (lowD a d).natAbs = 1 := by
  obtain ⟨g, hg⟩ : ∃ g, g = Nat.gcd a.natAbs d.natAbs := ⟨_, rfl⟩
  have g0 : 0 < g := by rw [hg]; exact Nat.gcd_pos_of_pos_right _ (by omega)
  obtain ⟨x, hx⟩ : (g : Int) ∣ a := by rw [hg]; exact Int.ofNat_dvd_left.2 (Nat.gcd_dvd_left _ _)
  obtain ⟨y, hy⟩ : (g : Int) ∣ d := by rw [hg]; exact Int.ofNat_dvd_left.2 (Nat.gcd_dvd_right _ _)
  have ea : a.natAbs = g * x.natAbs := by rw [hx, Int.natAbs_mul, Int.natAbs_natCast]
  have ed : d.natAbs = g * y.natAbs := by rw [hy, Int.natAbs_mul, Int.natAbs_natCast]
  have bx : x.natAbs ≤ a.natAbs := by rw [ea]; exact Nat.le_mul_of_pos_left _ g0
  have by' : y.natAbs ≤ d.natAbs := by rw [ed]; exact Nat.le_mul_of_pos_left _ g0
  have e1 : lowN a d = x := by
    rw [lowN, ← hg]
    have : a.tdiv (g : Int) = x := by rw [hx]; exact Int.mul_tdiv_cancel_left _ (by omega)
    rw [this, W, wrap_eq (by omega) (by omega)]
  have e2 : lowD a d = y := by
    rw [lowD, ← hg]
    have : d.tdiv (g : Int) = y := by rw [hy]; exact Int.mul_tdiv_cancel_left _ (by omega)
    rw [this, W, wrap_eq (by omega) (by omega)]
  have y0 : 0 < y := by
    by_cases h : 0 < y
    · exact h
    · have := Int.mul_nonneg (show (0 : Int) ≤ g by omega) (show 0 ≤ -y by omega)
      rw [Int.mul_neg] at this
      omega
  have c : x.natAbs.gcd y.natAbs = 1 := by
    rw [ea, ed, Nat.gcd_mul_left] at hg
    exact Nat.eq_of_mul_eq_mul_left g0 (by omega)
  rw [e1, e2]
  exact ⟨g, by omega, by rw [hx, Int.mul_comm], by rw [hy, Int.mul_comm], y0, c⟩

/-- A quotient in lowest terms. -/
structure Low (r : Int × Int) : Prop where
  pos : 0 < r.2
  one : r.1.natAbs.gcd r.2.natAbs = 1
noncomputable def low (a d : Int) : Int × Int := (lowN a d, lowD a d)
structure LowIn (a d : Int) : Prop where
  h0 : 0 < d
  h1 : d < 9223372036854775808
  a0 : -9223372036854775808 < a
  a1 : a < 9223372036854775808
theorem LowIn.low {a d : Int} (h : LowIn a d) : Low (low a d) := by
  obtain ⟨g, _, _, _, p, c⟩ := low_spec h.h0 h.h1 h.a0 h.a1
  exact ⟨p, c⟩
end
end Qq
end
section
/- Lines through two measurements, each plus or less an error: as the program lists them, and as the reference does. -/
open Go Go.Vm Go.Proofs Sp
namespace Sp
noncomputable section
/-- A line: a day, the level there, the slope, the denominator. -/
abbrev Ln := Int × Int × Int × Int
noncomputable def lnat (l : Ln) (x : Int) : Int := l.2.1 + l.2.2.1 * (x - l.1)
noncomputable def fitB (w : Int) (l : Ln) : List Int → Bool
  | t :: y :: r => !decide (w * l.2.2.2 < ((lnat l t - y * l.2.2.2).natAbs : Int)) && fitB w l r
  | _ => true
noncomputable def sgR (a : Nat) : Int := 2 * a - 1
noncomputable def cqR (L : List Int) (w : Int) (i k a b : Nat) : Ln := (L.getD (i * 2) 0, L.getD (i * 2 + 1) 0 + sgR a * w, L.getD (k * 2) 0, L.getD (k * 2 + 1) 0 + sgR b * w)
noncomputable def lnOf (c : Ln) : Ln := (c.1, c.2.1 * (c.2.2.1 - c.1), c.2.2.2 - c.2.1, c.2.2.1 - c.1)
noncomputable def oneR (L : List Int) (w : Int) (i k a b : Nat) : List Ln := if fitB w (lnOf (cqR L w i k a b)) L = true then [cqR L w i k a b] else []
end
end Sp
namespace Qq
noncomputable section
end
end Qq
end
section
/- A line that fits lies, on any day, between lines through two measurements: plain laws. -/
open Go Go.Vm Go.Proofs Sp
namespace Qq
noncomputable section
end
end Qq
end
section
/- Lines of measurements that are near each other: plain laws. -/
open Go Go.Vm Go.Proofs Sp
namespace Qq
noncomputable section
/-- What a quotient in lowest terms stands for. -/
theorem low_rep {a d : Int} (h : LowIn a d) : lowN a d * d = a * lowD a d ∧ 0 < lowD a d ∧ lowD a d ≤ d ∧ (lowN a d).natAbs ≤ a.natAbs := by
  obtain ⟨g, g0, e1, e2, p, _⟩ := low_spec h.h0 h.h1 h.a0 h.a1
  refine ⟨?_, p, ?_, ?_⟩
  · generalize lowN a d = N at *
    generalize lowD a d = E at *
    subst e1; subst e2
    grind
  · have := Int.mul_le_mul_of_nonneg_left (show 1 ≤ g by omega) (show 0 ≤ lowD a d by omega)
    omega
  · have := Nat.le_mul_of_pos_right (lowN a d).natAbs (show 0 < g.natAbs by omega)
    rw [← Int.natAbs_mul, e1] at this
    exact this
/-- Measurements near the first one. -/
structure Near (zs : List Int) (off m : Nat) : Prop where
  len : off + m * 2 ≤ zs.length
  few : m ≤ 8
  day : ∀ i, i < m → 0 ≤ zs.getD (off + i * 2) 0 - d0 zs off ∧ zs.getD (off + i * 2) 0 - d0 zs off ≤ 400
  idx : ∀ i, i < m → 0 ≤ zs.getD (off + i * 2 + 1) 0 ∧ zs.getD (off + i * 2 + 1) 0 ≤ 400
theorem Near.sums {zs : List Int} {off m : Nat} (h : Near zs off m) {i : Nat} (hi : i ≤ m) :
    (0 ≤ sX zs off i ∧ sX zs off i ≤ 3200) ∧ (0 ≤ sY zs off i ∧ sY zs off i ≤ 3200) ∧ (0 ≤ sXX zs off i ∧ sXX zs off i ≤ 1280000) ∧ (0 ≤ sXY zs off i ∧ sXY zs off i ≤ 1280000) := by
  have hm := h.few
  have up : ∀ {s B : Int}, 0 ≤ B → 0 ≤ s ∧ s ≤ B * i → 0 ≤ s ∧ s ≤ B * 8 := fun {s B} hB ⟨a, b⟩ => ⟨a, Int.le_trans b (Int.mul_le_mul_of_nonneg_left (by omega) hB)⟩
  refine ⟨up (B := 400) (by omega) (sumP_le h.len (fun j hj => h.day j hj) i hi), up (B := 400) (by omega) (sumP_le h.len (fun j hj => h.idx j hj) i hi), up (B := 160000) (by omega) (sumP_le h.len (fun j hj => ?_) i hi), up (B := 160000) (by omega) (sumP_le h.len (fun j hj => ?_) i hi)⟩
  · obtain ⟨q1, q2⟩ := h.day j hj
    have := mul_in q1 q2 q1 q2
    exact ⟨this.1, by omega⟩
  · obtain ⟨q1, q2⟩ := h.day j hj
    obtain ⟨q3, q4⟩ := h.idx j hj
    have := mul_in q1 q2 q3 q4
    exact ⟨this.1, by omega⟩
end
end Qq
end
