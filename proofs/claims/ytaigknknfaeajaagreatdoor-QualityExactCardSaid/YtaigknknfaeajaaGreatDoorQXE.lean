/- The quotients that the law about exact lines holds against each other. -/
import Derived.Test.YtaigknknfaeajaaGreatDoorQXD
open Go Go.Vm Go.Proofs Sp
namespace Qq
noncomputable section
theorem gz0 (x : Int) : gz 0 x = x := if_pos rfl
theorem wrap_abs {x : Int} {B : Int} (h0 : -B ≤ x) (h1 : x ≤ B) (hB : B ≤ 9000000000000000000) : IntKind.wrap .i64 x = x := wrap_eq (by omega) (by omega)
/-- Bounds of a quotient in lowest terms. -/
theorem low_bd {a d A D : Int} (h : LowIn a d) (a0 : -A ≤ a) (a1 : a ≤ A) (d1 : d ≤ D) : -A ≤ lowN a d ∧ lowN a d ≤ A ∧ 0 < lowD a d ∧ lowD a d ≤ D := by
  obtain ⟨_, e2, e3, e4⟩ := low_rep h
  omega
/-- m times the level is what the sums say: as quotients. -/
theorem two_low {m X Y L S D : Int} (hD : 0 < D) (hD1 : D ≤ 10240000) (hL0 : -4096000000 ≤ L) (hL1 : L ≤ 4096000000) (hS0 : -10240000 ≤ S) (hS1 : S ≤ 10240000)
    (m0 : 0 ≤ m) (m1 : m ≤ 3200) (X0 : 0 ≤ X) (X1 : X ≤ 1280000) (Y0 : 0 ≤ Y) (Y1 : Y ≤ 1280000) (h : m * L = Y * D - X * S) :
    (0 < lowD L D ∧ lowD L D < 9223372036854775808 ∧ -9223372036854775808 < IntKind.wrap .i64 (m * lowN L D) ∧ IntKind.wrap .i64 (m * lowN L D) < 9223372036854775808) ∧
    (0 < lowD S D ∧ lowD S D < 9223372036854775808 ∧ -9223372036854775808 < IntKind.wrap .i64 (IntKind.wrap .i64 (Y * lowD S D) - IntKind.wrap .i64 (X * lowN S D)) ∧ IntKind.wrap .i64 (IntKind.wrap .i64 (Y * lowD S D) - IntKind.wrap .i64 (X * lowN S D)) < 9223372036854775808) ∧
    lowN (IntKind.wrap .i64 (m * lowN L D)) (lowD L D) = lowN (IntKind.wrap .i64 (IntKind.wrap .i64 (Y * lowD S D) - IntKind.wrap .i64 (X * lowN S D))) (lowD S D) ∧
    lowD (IntKind.wrap .i64 (m * lowN L D)) (lowD L D) = lowD (IntKind.wrap .i64 (IntKind.wrap .i64 (Y * lowD S D) - IntKind.wrap .i64 (X * lowN S D))) (lowD S D) := by
  have hL : LowIn L D := ⟨hD, by omega, by omega, by omega⟩
  have hS : LowIn S D := ⟨hD, by omega, by omega, by omega⟩
  obtain ⟨a0, a1, a2, a3⟩ := low_bd hL (A := 4096000000) (D := 10240000) (by omega) (by omega) hD1
  obtain ⟨b0, b1, b2, b3⟩ := low_bd hS (A := 10240000) (D := 10240000) (by omega) (by omega) hD1
  have p1 := abs_mul (a := m) (b := lowN L D) (A := 3200) (B := 4096000000) (by omega) (by omega) a0 a1
  have p2 := abs_mul (a := Y) (b := lowD S D) (A := 1280000) (B := 10240000) (by omega) (by omega) (by omega) b3
  have p3 := abs_mul (a := X) (b := lowN S D) (A := 1280000) (B := 10240000) (by omega) (by omega) b0 b1
  have w1 : IntKind.wrap .i64 (m * lowN L D) = m * lowN L D := wrap_eq (by omega) (by omega)
  have w2 : IntKind.wrap .i64 (Y * lowD S D) = Y * lowD S D := wrap_eq (by omega) (by omega)
  have w3 : IntKind.wrap .i64 (X * lowN S D) = X * lowN S D := wrap_eq (by omega) (by omega)
  have w4 : IntKind.wrap .i64 (Y * lowD S D - X * lowN S D) = Y * lowD S D - X * lowN S D := wrap_eq (by omega) (by omega)
  rw [w1, w2, w3, w4]
  refine ⟨⟨a2, by omega, by omega, by omega⟩, ⟨b2, by omega, by omega, by omega⟩, ?_⟩
  exact low_same ⟨a2, by omega, by omega, by omega⟩ ⟨b2, by omega, by omega, by omega⟩ (ratio_sum hL hS h)
/-- A day's step is the slope: as quotients. -/
theorem step_low {A S D : Int} (hD : 0 < D) (hD1 : D ≤ 10240000) (hA0 : -14346240000 ≤ A) (hA1 : A ≤ 14346240000) (hB0 : -14346240000 ≤ A + S) (hB1 : A + S ≤ 14346240000) (hS0 : -10240000 ≤ S) (hS1 : S ≤ 10240000) :
    (0 < IntKind.wrap .i64 (lowD A D * lowD (A + S) D) ∧ IntKind.wrap .i64 (lowD A D * lowD (A + S) D) < 9223372036854775808 ∧
      -9223372036854775808 < IntKind.wrap .i64 (IntKind.wrap .i64 (lowN (A + S) D * lowD A D) - IntKind.wrap .i64 (lowN A D * lowD (A + S) D)) ∧ IntKind.wrap .i64 (IntKind.wrap .i64 (lowN (A + S) D * lowD A D) - IntKind.wrap .i64 (lowN A D * lowD (A + S) D)) < 9223372036854775808) ∧
    lowN (IntKind.wrap .i64 (IntKind.wrap .i64 (lowN (A + S) D * lowD A D) - IntKind.wrap .i64 (lowN A D * lowD (A + S) D))) (IntKind.wrap .i64 (lowD A D * lowD (A + S) D)) = lowN S D ∧
    lowD (IntKind.wrap .i64 (IntKind.wrap .i64 (lowN (A + S) D * lowD A D) - IntKind.wrap .i64 (lowN A D * lowD (A + S) D))) (IntKind.wrap .i64 (lowD A D * lowD (A + S) D)) = lowD S D := by
  have hA : LowIn A D := ⟨hD, by omega, by omega, by omega⟩
  have hB : LowIn (A + S) D := ⟨hD, by omega, by omega, by omega⟩
  have hS : LowIn S D := ⟨hD, by omega, by omega, by omega⟩
  obtain ⟨a0, a1, a2, a3⟩ := low_bd hA (A := 14346240000) (D := 10240000) (by omega) (by omega) hD1
  obtain ⟨b0, b1, b2, b3⟩ := low_bd hB (A := 14346240000) (D := 10240000) (by omega) (by omega) hD1
  have p1 := abs_mul (a := lowN (A + S) D) (b := lowD A D) (A := 14346240000) (B := 10240000) b0 b1 (by omega) a3
  have p2 := abs_mul (a := lowN A D) (b := lowD (A + S) D) (A := 14346240000) (B := 10240000) a0 a1 (by omega) b3
  have p3 := abs_mul (a := lowD A D) (b := lowD (A + S) D) (A := 10240000) (B := 10240000) (by omega) a3 (by omega) b3
  have p4 : 0 < lowD A D * lowD (A + S) D := Int.mul_pos a2 b2
  have w1 : IntKind.wrap .i64 (lowN (A + S) D * lowD A D) = lowN (A + S) D * lowD A D := wrap_eq (by omega) (by omega)
  have w2 : IntKind.wrap .i64 (lowN A D * lowD (A + S) D) = lowN A D * lowD (A + S) D := wrap_eq (by omega) (by omega)
  have w3 : IntKind.wrap .i64 (lowD A D * lowD (A + S) D) = lowD A D * lowD (A + S) D := wrap_eq (by omega) (by omega)
  have w4 : IntKind.wrap .i64 (lowN (A + S) D * lowD A D - lowN A D * lowD (A + S) D) = lowN (A + S) D * lowD A D - lowN A D * lowD (A + S) D := wrap_eq (by omega) (by omega)
  rw [w1, w2, w3, w4]
  refine ⟨⟨p4, by omega, by omega, by omega⟩, ?_⟩
  exact low_as ⟨p4, by omega, by omega, by omega⟩ hS (ratio_step hA hB hS)
/-- A prediction against a limit. -/
theorem cmp_low {A D l : Int} (hD : 0 < D) (hD1 : D ≤ 10240000) (hA0 : -1100000000000 ≤ A) (hA1 : A ≤ 1100000000000) (l0 : 0 ≤ l) (l1 : l ≤ 400) :
    IntKind.wrap .i64 (l * lowD A D) = l * lowD A D ∧ 0 < lowD A D ∧ (l * lowD A D ≤ lowN A D ↔ l * D ≤ A) ∧ IntKind.wrap .i64 (lowN A D) = lowN A D := by
  have hA : LowIn A D := ⟨hD, by omega, by omega, by omega⟩
  obtain ⟨a0, a1, a2, a3⟩ := low_bd hA (A := 1100000000000) (D := 10240000) (by omega) (by omega) hD1
  have p1 := abs_mul (a := l) (b := lowD A D) (A := 400) (B := 10240000) (by omega) (by omega) (by omega) a3
  exact ⟨wrap_eq (by omega) (by omega), a2, low_ge hA, wrap_eq (by omega) (by omega)⟩
section
variable {nm : ByteArray} {zs : List Int} {n : Nat} {ks : List (Int × ByteArray)} {k : Nat}
theorem pA_first (j : Nat) : pA zs ks n k (j : Int) (p0D zs ks (j : Int)) = pL zs ks n k (j : Int) := by
  have e : zs.getD (pf zs ks (j : Int) * 2) 0 = p0D zs ks (j : Int) := rfl
  rw [pA, e, Int.sub_self, Int.mul_zero, Int.add_zero]
theorem pA_next (j : Nat) (x : Int) : pA zs ks n k (j : Int) (x + 1) = pA zs ks n k (j : Int) x + pS zs ks n k (j : Int) := by
  unfold pA
  have : pS zs ks n k (j : Int) * (x + 1 - zs.getD (pf zs ks (j : Int) * 2) 0) = pS zs ks n k (j : Int) * (x - zs.getD (pf zs ks (j : Int) * 2) 0) + pS zs ks n k (j : Int) := by grind
  rw [this]; omega
/-- A prediction on any day. -/
theorem xp_far (hS : NearS nm zs n ks k) (hz : zs.length = n * 2) (hk : ks.length = k) {j : Nat} (hj : j ≤ k) (h : 2 ≤ upto zs ks n k j - frm zs ks j) {x : Int} (x0 : 0 ≤ x) (x1 : x ≤ 100000) :
    -1100000000000 ≤ pA zs ks n k (j : Int) x ∧ pA zs ks n k (j : Int) x ≤ 1100000000000 := by
  obtain ⟨⟨a0, a1⟩, ⟨b0, b1⟩, _⟩ := xp_line hS hz hk hj h
  obtain ⟨z0, z1⟩ := xp_first hS hz hk hj (by omega)
  have := abs_mul (a := pS zs ks n k (j : Int)) (b := x - p0D zs ks (j : Int)) (A := 10240000) (B := 100000) b0 b1 (by omega) (by omega)
  unfold pA
  have e : zs.getD (pf zs ks (j : Int) * 2) 0 = p0D zs ks (j : Int) := rfl
  rw [e]
  omega
theorem tmod_in {x m : Int} (x0 : 0 ≤ x) (hm : 0 < m) : 0 ≤ x.tmod m ∧ x.tmod m < m := ⟨Int.tmod_nonneg _ x0, Int.tmod_lt_of_pos _ hm⟩
/-- Reached, or not. -/
theorem xp_re (hS : NearS nm zs n ks k) {j : Nat} (hj : j ≤ k) (h : 2 ≤ upto zs ks n k j - frm zs ks j) {l : Int} (l0 : 0 ≤ l) (l1 : l ≤ 400) : reE nm zs n ks k (j : Int) l = wh (!rdB zs ks n k (j : Int) l) 7 := by
  have h1 : fi [perE nm zs n ks k (j : Int), wi l 0 100000] = 0 := by
    refine fi_zero.2 fun e he => ?_
    simp only [List.mem_cons, List.not_mem_nil, or_false] at he
    rcases he with rfl | rfl
    · exact xp_perE hS hj
    · exact wi_zero.2 ⟨l0, by omega⟩
  rw [reE, sel, if_pos h1, rdE, pm_x, decide_eq_false (by omega)]
  rfl
theorem rd_no {j : Nat} {l : Int} (h : rdB zs ks n k (j : Int) l = false) : ¬ l * pD zs ks n k (j : Int) ≤ pA zs ks n k (j : Int) (pZ zs ks n k (j : Int)) := by
  intro hh
  rw [rdB, rcB, Bool.or_eq_false_iff] at h
  have h1 := of_decide_eq_false h.1
  have e : zs.getD (pf zs ks (j : Int) * 2) 0 = p0D zs ks (j : Int) := rfl
  rw [pA, e] at hh
  unfold rcS at h1
  omega
theorem rd_yes {j : Nat} {l : Int} (h : rdB zs ks n k (j : Int) l = true) :
    l * pD zs ks n k (j : Int) ≤ pA zs ks n k (j : Int) (rdN zs ks n k (j : Int) l) ∧ pZ zs ks n k (j : Int) ≤ rdN zs ks n k (j : Int) l ∧ (pZ zs ks n k (j : Int) < rdN zs ks n k (j : Int) l → pA zs ks n k (j : Int) (rdN zs ks n k (j : Int) l - 1) < l * pD zs ks n k (j : Int)) := rc_reach h
theorem rd_late {j : Nat} {l : Int} (h : rdB zs ks n k (j : Int) l = true) (hZ : pZ zs ks n k (j : Int) ≤ 100000) : rdN zs ks n k (j : Int) l ≤ 100000 := by
  rw [rdB, rcB] at h
  rw [rdN, rcN]
  split
  · exact hZ
  · rename_i h1
    rw [decide_eq_false h1, Bool.false_or, Bool.and_eq_true] at h
    split
    · omega
    · exact of_decide_eq_true h.2
end
end
end Qq
