/- Lines that fit: the loops. -/
import Derived.Test.YtaigknknfaeajaaGreatDoorZJ
open Go Go.Vm Go.Proofs Sp
namespace Qq
noncomputable section
theorem bmul {a b A B : Int} (_ : 0 ≤ A) (_ : 0 ≤ B) (a0 : -A ≤ a) (a1 : a ≤ A) (b0 : -B ≤ b) (b1 : b ≤ B) : -(A * B) ≤ a * b ∧ a * b ≤ A * B := by
  have := mul_in (a := a.natAbs) (b := b.natAbs) (A := A) (B := B) (by omega) (by omega) (by omega) (by omega)
  rw [← Int.natCast_mul, ← Int.natAbs_mul] at this
  omega
/-- A line and measurements whose numbers do not leave the machine's integers. -/
structure FitIn (zs : List Int) (off m : Nat) (w a b s d : Int) : Prop where
  len : off + m * 2 ≤ zs.length
  few : m ≤ 1000
  w0 : 0 ≤ w
  w1 : w ≤ 100000
  a0 : 0 ≤ a
  a1 : a ≤ 100000
  b0 : -1000000000000 ≤ b
  b1 : b ≤ 1000000000000
  s0 : -1000000000000 ≤ s
  s1 : s ≤ 1000000000000
  d0 : 0 < d
  d1 : d ≤ 1000000000000
  day : ∀ i, i < m → 0 ≤ zs.getD (off + i * 2) 0 ∧ zs.getD (off + i * 2) 0 ≤ 100000
  idx : ∀ i, i < m → 0 ≤ zs.getD (off + i * 2 + 1) 0 ∧ zs.getD (off + i * 2 + 1) 0 ≤ 100000
/-- A line through two points, near measurements. -/
structure CoIn (zs : List Int) (off m : Nat) (w x y u v : Int) : Prop where
  len : off + m * 2 ≤ zs.length
  few : m ≤ 1000
  w0 : 0 ≤ w
  w1 : w ≤ 100000
  x0 : 0 ≤ x
  xu : x < u
  u1 : u ≤ 100000
  y0 : -200000 ≤ y
  y1 : y ≤ 200000
  v0 : -200000 ≤ v
  v1 : v ≤ 200000
  day : ∀ i, i < m → 0 ≤ zs.getD (off + i * 2) 0 ∧ zs.getD (off + i * 2) 0 ≤ 100000
  idx : ∀ i, i < m → 0 ≤ zs.getD (off + i * 2 + 1) 0 ∧ zs.getD (off + i * 2 + 1) 0 ≤ 100000
end
end Qq
