/- Parts of the proof: FlC, FlD. -/
import Derived.Test.YtaigknknfaeajaaGreatDoorZU
section
/- Samples that are made of integers. -/
open Go
namespace Sp
noncomputable section
/-- The sample of an integer. -/
def smO (n : Int) : Nat := fDiv (fOf n) 1098907648
end
end Sp
namespace Fl
open Ieee Sp
theorem shl_div {m a b : Nat} (h : b ≤ a) : m <<< a / 2 ^ b = m * 2 ^ (a - b) ∧ m <<< a % 2 ^ b = 0 := by
  have e : m <<< a = m * 2 ^ (a - b) * 2 ^ b := by rw [Nat.shiftLeft_eq, Nat.mul_assoc, ← Nat.pow_add, Nat.sub_add_cancel h]
  rw [e]
  exact ⟨Nat.mul_div_cancel _ (Nat.pow_pos (by decide)), Nat.mul_mod_left _ _⟩
theorem pow4 {m a b c : Nat} (h : a + c + 1 + 4 = b) : 2 * (m * 2 ^ a) * 2 ^ c * 16 = m * 2 ^ b := by
  subst h
  simp only [Nat.pow_add, Nat.pow_one]
  have e : (2 : Nat) ^ 4 = 16 := rfl
  rw [e]
  generalize 2 ^ a = x
  generalize 2 ^ c = y
  grind
theorem read_16 : single.read 1098907648 = .number false (2 ^ 23) (-19) := by decide +kernel
theorem log_23 : (2 ^ 23).log2 = 23 := by decide +kernel
theorem Has.div16 {x : Nat} (h : IsF x) : ∃ r t, (single.read x).quotient 25 (single.read 1098907648) = some r ∧ Has r (-200) t ∧ t * 16 = val x := by
  obtain ⟨s, m, i, h1, h2, h3, h4⟩ := h
  rw [h1, read_16]
  have hl : m.log2 ≤ 23 := by
    by_cases h0 : m = 0
    · subst h0; decide
    · exact Nat.le_of_lt_succ ((Nat.log2_lt h0).2 h2)
  have hv : val x = sg s (m * 2 ^ (i + 400).toNat) := by rw [val, h1]
  rw [hv]
  obtain ⟨q1, q2⟩ := shl_div (m := m) (a := 25 + 23 - m.log2) (b := 23) (by omega)
  have e0 : (2 ^ 23 : Nat) ≠ 0 := by decide
  have hq : Datum.quotient 25 (.number s m i) (.number false (2 ^ 23) (-19)) = some (.number s (2 * (m * 2 ^ (25 + 23 - m.log2 - 23))) (i - -19 - ((25 + 23 - m.log2 : Nat) : Int) - 1)) := by
    simp only [Datum.quotient, if_neg e0, log_23, q1, q2, Bool.xor_false]
    rfl
  refine ⟨_, _, hq, ⟨_, _, _, rfl, by omega, rfl⟩, ?_⟩
  have e16 : (16 : Int) = ((16 : Nat) : Int) := rfl
  rw [e16, ← sg_mul]
  refine congrArg (sg s) ?_
  generalize hA : (i - -19 - ((25 + 23 - m.log2 : Nat) : Int) - 1 + 400).toNat = c
  generalize hB : (i + 400).toNat = b
  exact pow4 (by omega)
theorem pow_at {a b : Nat} (h : a + b = 400) : (2 : Nat) ^ a * 2 ^ b = one := by
  rw [← Nat.pow_add, h, one_nat]
theorem one_split {a b k : Nat} (h : a + b = 400) (hk : 2 ^ b = k) : ((2 ^ a : Nat) : Int) * (k : Int) = (one : Int) := by
  rw [← pow_at h, hk, Int.natCast_mul]
theorem rep_pow {n t : Int} {K : Nat} (h : n.natAbs < 2 ^ 24) (h1 : 24 + K ≤ 500) (h2 : 251 ≤ K) (ht : t = n * ((2 ^ K : Nat) : Int)) : Rep t := by
  have h3 := pow_up h1
  rw [ht]
  refine ⟨?_, n.natAbs, K, ?_, h, h2⟩
  · rw [Int.natAbs_mul, Int.natAbs_natCast]
    exact Nat.lt_of_lt_of_le (Nat.mul_lt_mul_of_pos_right h (Nat.pow_pos (by decide))) (by rw [← Nat.pow_add]; exact h3)
  · rw [Int.natAbs_mul, Int.natAbs_natCast]
theorem sm_ok {n : Int} (h : n.natAbs < 2 ^ 24) : fDivOk (fOf n) 1098907648 ∧ IsF (smO n) ∧ val (smO n) * 16 = n * (one : Int) := by
  obtain ⟨f1, f2⟩ := of_val h
  obtain ⟨r, t, e1, h1, e2⟩ := Has.div16 f1
  rw [f2] at e2
  have es : single.div (fOf n) 1098907648 = some (single.write r) := by
    have e3 : single.div (fOf n) 1098907648 = ((single.read (fOf n)).quotient 25 (single.read 1098907648)).map single.write := rfl
    rw [e3, e1]; rfl
  have ht : t = n * ((2 ^ 396 : Nat) : Int) := by
    have e4 : ((2 ^ 396 : Nat) : Int) * 16 = (one : Int) := one_split (a := 396) (b := 4) (k := 16) rfl rfl
    rw [← e4, ← Int.mul_assoc] at e2
    omega
  have hr : Rep t := rep_pow h (by decide) (by decide) ht
  have hw := has_fin (h1.write (by decide) hr)
  have em : smO n = single.write r := by rw [smO, fDiv, fmt32, es]; rfl
  exact ⟨by rw [fDivOk, fmt32, es]; rfl, by rw [em]; exact hw.1, by rw [em, hw.2, e2]⟩
theorem lev_sm {n : Int} (h : n.natAbs ≤ 16384) : lev (smO n) = n ∧ sE (smO n) = 0 := by
  obtain ⟨_, f1, e1⟩ := sm_ok (n := n) (by omega)
  have hp := one_pos
  have hb : (val (smO n)).natAbs ≤ 1024 * one := by
    have e := congrArg Int.natAbs e1
    rw [Int.natAbs_mul, Int.natAbs_mul] at e
    have e2 : (one : Int).natAbs = one := Int.natAbs_natCast one
    rw [e2, show Int.natAbs 16 = 16 from rfl] at e
    have := Nat.mul_le_mul_right one h
    omega
  obtain ⟨m1, m2, m3⟩ := mul_16 f1 hb
  rw [e1] at m3
  obtain ⟨i1, _, s, i3, i4⟩ := int_ok m2 (by
    rw [m3, Int.natAbs_mul, show Int.natAbs (one : Int) = one from Int.natAbs_natCast one]
    exact Nat.mul_le_mul_right one (by omega))
  have hl : lev (smO n) = n := by
    rw [lev, i4]
    rw [m3] at i3 ⊢
    rw [Int.natAbs_mul, show Int.natAbs (one : Int) = one from Int.natAbs_natCast one] at i3 ⊢
    rw [Nat.mul_div_cancel _ hp]
    rw [sg_mul] at i3
    exact Int.eq_of_mul_eq_mul_right (by omega) i3
  refine ⟨hl, ?_⟩
  obtain ⟨f2, e2⟩ := of_val (n := n) (by omega)
  rw [sE_fin f1, hl]
  refine (Qq.wh_zero (by decide)).2 ?_
  have q1 : fLt (smO n) 3296722944 = false := by
    rw [lt_val f1 fin_m1024.1, fin_m1024.2]; exact decide_eq_false (by omega)
  have q2 : fGt (smO n) 1149239296 = false := by
    rw [gt_val f1 fin_1024.1, fin_1024.2]; exact decide_eq_false (by omega)
  have q3 : fNe (fMul (smO n) 1098907648) (fOf n) = false := by
    rw [ne_val m2 f2, m3, e2]; exact decide_eq_false (by simp)
  rw [q1, q2, q3]; rfl
end Fl
end
section
/- Halves of integers as samples. -/
open Go
namespace Fl
open Ieee Sp
theorem read_2 : single.read 1073741824 = .number false (2 ^ 23) (-22) := by decide +kernel
theorem pow1 {m a b c : Nat} (h : a + c + 1 + 1 = b) : 2 * (m * 2 ^ a) * 2 ^ c * 2 = m * 2 ^ b := by
  subst h
  simp only [Nat.pow_add, Nat.pow_one]
  generalize 2 ^ a = x
  generalize 2 ^ c = y
  grind
theorem Has.div2 {x : Nat} (h : IsF x) : ∃ r t, (single.read x).quotient 25 (single.read 1073741824) = some r ∧ Has r (-200) t ∧ t * 2 = val x := by
  obtain ⟨s, m, i, h1, h2, h3, h4⟩ := h
  rw [h1, read_2]
  have hl : m.log2 ≤ 23 := by
    by_cases h0 : m = 0
    · subst h0; decide
    · exact Nat.le_of_lt_succ ((Nat.log2_lt h0).2 h2)
  have hv : val x = sg s (m * 2 ^ (i + 400).toNat) := by rw [val, h1]
  rw [hv]
  obtain ⟨q1, q2⟩ := shl_div (m := m) (a := 25 + 23 - m.log2) (b := 23) (by omega)
  have e0 : (2 ^ 23 : Nat) ≠ 0 := by decide
  have hq : Datum.quotient 25 (.number s m i) (.number false (2 ^ 23) (-22)) = some (.number s (2 * (m * 2 ^ (25 + 23 - m.log2 - 23))) (i - -22 - ((25 + 23 - m.log2 : Nat) : Int) - 1)) := by
    simp only [Datum.quotient, if_neg e0, log_23, q1, q2, Bool.xor_false]
    rfl
  refine ⟨_, _, hq, ⟨_, _, _, rfl, by omega, rfl⟩, ?_⟩
  have e16 : (2 : Int) = ((2 : Nat) : Int) := rfl
  rw [e16, ← sg_mul]
  refine congrArg (sg s) ?_
  generalize hA : (i - -22 - ((25 + 23 - m.log2 : Nat) : Int) - 1 + 400).toNat = c
  generalize hB : (i + 400).toNat = b
  exact pow1 (by omega)
/-- A half of a small integer: a sample. -/
theorem half_ok {n : Int} (h : n.natAbs ≤ 2048) : fDivOk (fOf n) 1073741824 ∧ lev (fDiv (fOf n) 1073741824) = 8 * n ∧ sE (fDiv (fOf n) 1073741824) = 0 := by
  obtain ⟨f1, f2⟩ := of_val (n := n) (by omega)
  obtain ⟨r, t, e1, h1, e2⟩ := Has.div2 f1
  rw [f2] at e2
  have es : single.div (fOf n) 1073741824 = some (single.write r) := by
    have e3 : single.div (fOf n) 1073741824 = ((single.read (fOf n)).quotient 25 (single.read 1073741824)).map single.write := rfl
    rw [e3, e1]; rfl
  have ht : t = n * ((2 ^ 399 : Nat) : Int) := by
    have e4 : ((2 ^ 399 : Nat) : Int) * 2 = (one : Int) := one_split (a := 399) (b := 1) (k := 2) rfl rfl
    rw [← e4, ← Int.mul_assoc] at e2
    omega
  have hr : Rep t := rep_pow (by omega) (by decide) (by decide) ht
  have hw := has_fin (h1.write (by decide) hr)
  have em : fDiv (fOf n) 1073741824 = single.write r := by rw [fDiv, fmt32, es]; rfl
  generalize fDiv (fOf n) 1073741824 = x at *
  refine ⟨by rw [fDivOk, fmt32, es]; rfl, ?_⟩
  have fx : IsF x := by rw [em]; exact hw.1
  have vx : val x * 2 = n * (one : Int) := by rw [em, hw.2, e2]
  have hp := one_pos
  have no : (one : Int).natAbs = one := Int.natAbs_natCast one
  have hb : (val x).natAbs ≤ 1024 * one := by
    have e := congrArg Int.natAbs vx
    rw [Int.natAbs_mul, Int.natAbs_mul, no, show Int.natAbs 2 = 2 from rfl] at e
    have := Nat.mul_le_mul_right one h
    omega
  obtain ⟨m1, m2, m3⟩ := mul_16 fx hb
  have m4 : val (fMul x 1098907648) = 8 * n * (one : Int) := by
    rw [m3]
    have : val x * 16 = val x * 2 * 8 := by omega
    rw [this, vx, Int.mul_assoc, Int.mul_comm (one : Int) 8, ← Int.mul_assoc, Int.mul_comm n 8]
  obtain ⟨i1, _, s, i3, i4⟩ := int_ok m2 (by
    rw [m4, Int.natAbs_mul, no]
    exact Nat.mul_le_mul_right one (by omega))
  have hl : lev x = 8 * n := by
    rw [lev, i4]
    rw [m4] at i3 ⊢
    rw [Int.natAbs_mul, no] at i3 ⊢
    rw [Nat.mul_div_cancel _ hp]
    rw [sg_mul] at i3
    exact Int.eq_of_mul_eq_mul_right (by omega) i3
  refine ⟨hl, ?_⟩
  obtain ⟨f3, e3⟩ := of_val (n := 8 * n) (by omega)
  rw [sE_fin fx, hl]
  refine (Qq.wh_zero (by decide)).2 ?_
  have q1 : fLt x 3296722944 = false := by
    rw [lt_val fx fin_m1024.1, fin_m1024.2]; exact decide_eq_false (by omega)
  have q2 : fGt x 1149239296 = false := by
    rw [gt_val fx fin_1024.1, fin_1024.2]; exact decide_eq_false (by omega)
  have q3 : fNe (fMul x 1098907648) (fOf (8 * n)) = false := by
    rw [ne_val m2 f3, m4, e3]; exact decide_eq_false (by simp)
  rw [q1, q2, q3]; rfl
theorem fin_500 : IsF 1140457472 ∧ val 1140457472 = 500 * (one : Int) :=
  has_fin (lo := -149) ⟨false, 16384000, -15, by decide +kernel, by decide, by decide +kernel⟩
theorem fin_m500 : IsF 3287941120 ∧ val 3287941120 = -(500 * (one : Int)) :=
  has_fin (lo := -149) ⟨true, 16384000, -15, by decide +kernel, by decide, by decide +kernel⟩
theorem lev_500 {x : Nat} (h : Smp x) (h1 : fGt x 1140457472 = false) (h2 : fLt x 3287941120 = false) : (lev x).natAbs ≤ 8000 := by
  rw [gt_val h.fin fin_500.1, fin_500.2] at h1
  rw [lt_val h.fin fin_m500.1, fin_m500.2] at h2
  have h1 := of_decide_eq_false h1
  have h2 := of_decide_eq_false h2
  have hp := one_pos
  have hv := h.v
  have no : (one : Int).natAbs = one := Int.natAbs_natCast one
  have e := congrArg Int.natAbs hv
  rw [Int.natAbs_mul, Int.natAbs_mul, no, show Int.natAbs 16 = 16 from rfl] at e
  have hb : (val x).natAbs ≤ 500 * one := by omega
  have : (lev x).natAbs * one ≤ 8000 * one := by rw [← e]; omega
  exact Nat.le_of_mul_le_mul_right this hp
end Fl
end
