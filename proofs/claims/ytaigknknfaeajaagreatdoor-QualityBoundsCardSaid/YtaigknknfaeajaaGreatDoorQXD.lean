/- A section that is near: its lines, plain facts. -/
import Derived.Test.YtaigknknfaeajaaGreatDoorQXB
import Derived.Test.YtaigknknfaeajaaGreatDoorZJ
import Derived.Test.YtaigknknfaeajaaGreatDoorQGG
open Go Go.Vm Go.Proofs Sp
namespace Qq
noncomputable section
section
variable {nm : ByteArray} {zs : List Int} {n : Nat} {ks : List (Int × ByteArray)} {k : Nat}
theorem abs_mul {a b A B : Int} (a0 : -A ≤ a) (a1 : a ≤ A) (b0 : -B ≤ b) (b1 : b ≤ B) : -(A * B) ≤ a * b ∧ a * b ≤ A * B := by
  have h1 : a.natAbs ≤ A.natAbs := by omega
  have h2 : b.natAbs ≤ B.natAbs := by omega
  have h3 := Nat.mul_le_mul h1 h2
  have e1 : (a * b).natAbs = a.natAbs * b.natAbs := Int.natAbs_mul a b
  have e2 : (A * B).natAbs = A.natAbs * B.natAbs := Int.natAbs_mul A B
  have h4 : 0 ≤ A * B := Int.mul_nonneg (by omega) (by omega)
  omega
theorem xp_per (hS : NearS nm zs n ks k) (hz : zs.length = n * 2) (hk : ks.length = k) {j : Nat} (hj : j ≤ k) : isPer zs ks n k (j : Int) (ints zs) (acs ks) := by
  obtain ⟨h1, h2⟩ := secE_ok hS.ok
  exact ⟨⟨rfl, rfl, hz, hk, by have := hS.n8; omega, by have := hS.k6; omega⟩, h1, h2, by have := hS.n8; omega, by omega, by omega⟩
theorem xp_perE (hS : NearS nm zs n ks k) {j : Nat} (hj : j ≤ k) : perE nm zs n ks k (j : Int) = 0 := by
  rw [perE]
  refine fi_zero.2 fun e he => ?_
  simp only [List.mem_cons, List.not_mem_nil, or_false] at he
  rcases he with rfl | rfl
  · exact hS.ok
  · rw [decide_eq_false (by omega), decide_eq_false (by omega)]; rfl
theorem pm_x (j : Nat) : pm zs ks n k (j : Int) = upto zs ks n k j - frm zs ks j := rfl
theorem pf_x (j : Nat) : pf zs ks (j : Int) = frm zs ks j := rfl
theorem xp_fe (hS : NearS nm zs n ks k) {j : Nat} (hj : j ≤ k) (h : 2 ≤ upto zs ks n k j - frm zs ks j) : feE nm zs n ks k (j : Int) = 0 := by
  rw [feE, xp_perE hS hj, sel, if_pos rfl, pm_x, decide_eq_false (by omega)]; rfl
theorem xp_pr (hS : NearS nm zs n ks k) {j : Nat} (hj : j ≤ k) (h : 2 ≤ upto zs ks n k j - frm zs ks j) {x : Int} (x0 : 0 ≤ x) (x1 : x ≤ 100000) : prE nm zs n ks k (j : Int) x = 0 := by
  rw [prE, sel, if_pos, pm_x, decide_eq_false (by omega)]
  · rfl
  · refine fi_zero.2 fun e he => ?_
    simp only [List.mem_cons, List.not_mem_nil, or_false] at he
    rcases he with rfl | rfl
    · exact xp_perE hS hj
    · exact wi_zero.2 ⟨x0, x1⟩
/-- A period's measurements are near each other. -/
theorem xp_near (hS : NearS nm zs n ks k) (hz : zs.length = n * 2) (hk : ks.length = k) {j : Nat} (hj : j ≤ k) : Near zs (frm zs ks j * 2) (upto zs ks n k j - frm zs ks j) := by
  obtain ⟨h1, h2⟩ := secE_ok hS.ok
  obtain ⟨u1, u2⟩ := upto_le (n := n) hz hk h2 hj
  have hp := (per_part (xp_per hS hz hk hj)).1
  have hn := hS.n8
  refine ⟨by omega, by omega, fun i hi => ?_, fun i hi => ?_⟩
  · have hd := hp.day i hi
    have ha := hS.all (frm zs ks j + i) (by omega)
    have e : frm zs ks j * 2 + i * 2 = (frm zs ks j + i) * 2 := by omega
    rw [pf_x] at hd
    rw [e] at hd ⊢
    have e0 : zs.getD 0 0 ≤ d0 zs (frm zs ks j * 2) := by
      rcases Nat.eq_zero_or_pos (frm zs ks j) with h | h
      · rw [h]; exact Int.le_refl _
      · have := mchk_up zs (-1) h1 0 (frm zs ks j) h (by omega)
        rw [Nat.zero_mul] at this
        exact Int.le_of_lt this
    omega
  · have ha := hS.all (frm zs ks j + i) (by omega)
    have hx := hp.idx i hi
    have e : frm zs ks j * 2 + i * 2 + 1 = (frm zs ks j + i) * 2 + 1 := by omega
    rw [pf_x] at hx
    rw [e] at hx ⊢
    omega
/-- The numbers of a line, their bounds. -/
theorem xp_line (hS : NearS nm zs n ks k) (hz : zs.length = n * 2) (hk : ks.length = k) {j : Nat} (hj : j ≤ k) (h : 2 ≤ upto zs ks n k j - frm zs ks j) :
    (-4096000000 ≤ pL zs ks n k (j : Int) ∧ pL zs ks n k (j : Int) ≤ 4096000000) ∧ (-10240000 ≤ pS zs ks n k (j : Int) ∧ pS zs ks n k (j : Int) ≤ 10240000) ∧ 0 < pD zs ks n k (j : Int) ∧ pD zs ks n k (j : Int) ≤ 10240000 := by
  obtain ⟨a, b, c⟩ := (xp_near hS hz hk hj).line
  exact ⟨a, b, (per_part (xp_per hS hz hk hj)).2 h, c⟩
theorem snd_ok {a d : Int} (d0 : 0 < d) (d1 : d ≤ 16777216) (a0 : -68719476736 ≤ a) (a1 : a ≤ 68719476736) : sndB (lowN a d) (lowD a d) = true := by
  obtain ⟨_, e2, e3, e4⟩ := low_rep (a := a) (d := d) ⟨d0, by omega, by omega, by omega⟩
  rw [sndB, decide_eq_true (by omega), decide_eq_true (by omega), decide_eq_true (by omega), decide_eq_true (by omega)]
  rfl
/-- The first day of a period, and its last one. -/
theorem xp_first (hS : NearS nm zs n ks k) (hz : zs.length = n * 2) (hk : ks.length = k) {j : Nat} (hj : j ≤ k) (h : 0 < upto zs ks n k j - frm zs ks j) : 0 ≤ p0D zs ks (j : Int) ∧ p0D zs ks (j : Int) ≤ 100000 := by
  have hp := (per_part (xp_per hS hz hk hj)).1
  have h1 := (hp.day 0 h).2
  rw [Nat.zero_mul, Nat.add_zero] at h1
  exact ⟨hp.z0, h1⟩
/-! ### Quotients in lowest terms -/
/-! ### When a limit is reached -/
theorem rc_reach {a b c d l f : Int} (hB : rcB a b c d l f = true) : l * d ≤ b + c * (rcN a b c d l f - a) ∧ f ≤ rcN a b c d l f ∧ (f < rcN a b c d l f → b + c * (rcN a b c d l f - 1 - a) < l * d) := by
  by_cases hs : rcS a b c d l f ≤ 0
  · have e : rcN a b c d l f = f := if_pos hs
    rw [e]
    unfold rcS at hs
    exact ⟨by omega, Int.le_refl _, fun h => by omega⟩
  · have hc : ¬ c ≤ 0 := by
      intro hc
      rw [rcB, decide_eq_false hs, decide_eq_true hc] at hB
      cases hB
    have e : rcN a b c d l f = f - (-rcS a b c d l f) / c := by rw [rcN, if_neg hs, if_neg hc]
    rw [e]
    generalize hq : (-rcS a b c d l f) / c = q
    have c0 : 0 < c := by omega
    have m1 := Int.emod_nonneg (-rcS a b c d l f) (show c ≠ 0 by omega)
    have m2 := Int.emod_lt_of_pos (-rcS a b c d l f) c0
    have m3 := Int.mul_ediv_add_emod (-rcS a b c d l f) c
    rw [hq] at m3
    have hq0 : q < 0 := by
      have : (-rcS a b c d l f) / c < 0 := Int.ediv_neg_of_neg_of_pos (by omega) c0
      omega
    have e1 : c * (f - q - a) = c * (f - a) - c * q := by grind
    have e2 : c * (f - q - 1 - a) = c * (f - a) - c * q - c := by grind
    rw [e1, e2]
    have hs2 : rcS a b c d l f = l * d - (b + c * (f - a)) := rfl
    generalize rcS a b c d l f = r at *
    generalize c * (f - a) = u at *
    generalize c * q = v at *
    exact ⟨by omega, by omega, fun _ => by omega⟩
end
end
end Qq
