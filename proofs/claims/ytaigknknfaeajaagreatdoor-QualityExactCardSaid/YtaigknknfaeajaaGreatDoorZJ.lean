/- Parts of the proof: QLR, QLC, QLP, QXP. -/
import Derived.Test.YtaigknknfaeajaaGreatDoorZH
section
/- Quotients in lowest terms, and lines through two points: plain laws. -/
open Go Go.Vm Go.Proofs Sp
namespace Qq
noncomputable section

theorem low_spec {a d : Int} (h0 : 0 < d) (h1 : d < 9223372036854775808) (a0 : -9223372036854775808 < a) (a1 : a < 9223372036854775808) :
    ∃ g : Int, 0 < g ∧ lowN a d * g = a ∧ lowD a d * g = d ∧ 0 < lowD a d ∧ (lowN a d).natAbs.gcd (lowD a d).natAbs = 1 := by
  obtain ⟨g, hg⟩ : ∃ g, g = Nat.gcd a.natAbs d.natAbs := ⟨_, rfl⟩
  have g0 : 0 < g := by rw [hg]; exact Nat.gcd_pos_of_pos_right _ (by omega)
  obtain ⟨x, hx⟩ : (g : Int) ∣ a := by rw [hg]; exact Int.ofNat_dvd_left.2 (Nat.gcd_dvd_left _ _)
  obtain ⟨y, hy⟩ : (g : Int) ∣ d := by rw [hg]; exact Int.ofNat_dvd_left.2 (Nat.gcd_dvd_right _ _)
  have ea : a.natAbs = g * x.natAbs := by rw [hx, Int.natAbs_mul, Int.natAbs_natCast]
  have ed : d.natAbs = g * y.natAbs := by rw [hy, Int.natAbs_mul, Int.natAbs_natCast]
  have bx : x.natAbs ≤ a.natAbs := by rw [ea]; exact Nat.le_mul_of_pos_left _ g0
  have by' : y.natAbs ≤ d.natAbs := by rw [ed]; exact Nat.le_mul_of_pos_left _ g0
  have e1 : lowN a d = x := by
    rw [lowN, ← hg]
    have : a.tdiv (g : Int) = x := by rw [hx]; exact Int.mul_tdiv_cancel_left _ (by omega)
    rw [this, W, wrap_eq (by omega) (by omega)]
  have e2 : lowD a d = y := by
    rw [lowD, ← hg]
    have : d.tdiv (g : Int) = y := by rw [hy]; exact Int.mul_tdiv_cancel_left _ (by omega)
    rw [this, W, wrap_eq (by omega) (by omega)]
  have y0 : 0 < y := by
    by_cases h : 0 < y
    · exact h
    · have := Int.mul_nonneg (show (0 : Int) ≤ g by omega) (show 0 ≤ -y by omega)
      rw [Int.mul_neg] at this
      omega
  have c : x.natAbs.gcd y.natAbs = 1 := by
    rw [ea, ed, Nat.gcd_mul_left] at hg
    exact Nat.eq_of_mul_eq_mul_left g0 (by omega)
  rw [e1, e2]
  exact ⟨g, by omega, by rw [hx, Int.mul_comm], by rw [hy, Int.mul_comm], y0, c⟩

/-- A quotient in lowest terms. -/
structure Low (r : Int × Int) : Prop where
  pos : 0 < r.2
  one : r.1.natAbs.gcd r.2.natAbs = 1
theorem low_cross {r s : Int × Int} (h1 : Low r) (h2 : Low s) (h : r.1 * s.2 = s.1 * r.2) : r = s := by
  have p1 := h1.pos
  have p2 := h2.pos
  have h' : r.1.natAbs * s.2.natAbs = s.1.natAbs * r.2.natAbs := by rw [← Int.natAbs_mul, h, Int.natAbs_mul]
  have d12 : r.2.natAbs ∣ s.2.natAbs := Nat.Coprime.dvd_of_dvd_mul_left (Nat.Coprime.symm h1.one) (by rw [h']; exact Nat.dvd_mul_left _ _)
  have d21 : s.2.natAbs ∣ r.2.natAbs := Nat.Coprime.dvd_of_dvd_mul_left (Nat.Coprime.symm h2.one) (by rw [← h']; exact Nat.dvd_mul_left _ _)
  have e := Nat.dvd_antisymm d12 d21
  have e : r.2 = s.2 := by omega
  rw [e] at h
  exact Prod.ext (Int.eq_of_mul_eq_mul_right (by omega) h) e
noncomputable def low (a d : Int) : Int × Int := (lowN a d, lowD a d)
structure LowIn (a d : Int) : Prop where
  h0 : 0 < d
  h1 : d < 9223372036854775808
  a0 : -9223372036854775808 < a
  a1 : a < 9223372036854775808
theorem LowIn.low {a d : Int} (h : LowIn a d) : Low (low a d) := by
  obtain ⟨g, _, _, _, p, c⟩ := low_spec h.h0 h.h1 h.a0 h.a1
  exact ⟨p, c⟩
theorem low_le {a d b e : Int} (h : LowIn a d) (k : LowIn b e) : (low a d).1 * (low b e).2 ≤ (low b e).1 * (low a d).2 ↔ a * e ≤ b * d := by
  obtain ⟨g, g0, e1, e2, _⟩ := low_spec h.h0 h.h1 h.a0 h.a1
  obtain ⟨g', g0', e3, e4, _⟩ := low_spec k.h0 k.h1 k.a0 k.a1
  have p : 0 < g * g' := Int.mul_pos g0 g0'
  have l : a * e = (low a d).1 * (low b e).2 * (g * g') := by
    simp only [low]
    calc a * e = lowN a d * g * (lowD b e * g') := by rw [e1, e4]
      _ = lowN a d * lowD b e * (g * g') := by grind
  have r : b * d = (low b e).1 * (low a d).2 * (g * g') := by
    simp only [low]
    calc b * d = lowN b e * g' * (lowD a d * g) := by rw [e3, e2]
      _ = lowN b e * lowD a d * (g * g') := by grind
  rw [l, r]
  exact ⟨fun h => Int.mul_le_mul_of_nonneg_right h (by omega), fun h => Int.le_of_mul_le_mul_right h p⟩
theorem low_eq {a d b e : Int} (h : LowIn a d) (k : LowIn b e) : low a d = low b e ↔ a * e = b * d := by
  constructor
  · intro hh
    have h1 := (low_le h k).1 (by rw [hh]; exact Int.le_refl _)
    have h2 := (low_le k h).1 (by rw [hh]; exact Int.le_refl _)
    omega
  · intro hh
    have h1 := (low_le h k).2 (by omega)
    have h2 := (low_le k h).2 (by omega)
    exact low_cross h.low k.low (by omega)
end
end Qq
end
section
/- Lines through two measurements, each plus or less an error: as the program lists them, and as the reference does. -/
open Go Go.Vm Go.Proofs Sp
namespace Sp
noncomputable section
/-- A line: a day, the level there, the slope, the denominator. -/
abbrev Ln := Int × Int × Int × Int
noncomputable def lnat (l : Ln) (x : Int) : Int := l.2.1 + l.2.2.1 * (x - l.1)
noncomputable def lnOf (c : Ln) : Ln := (c.1, c.2.1 * (c.2.2.1 - c.1), c.2.2.2 - c.2.1, c.2.2.1 - c.1)
end
end Sp
namespace Qq
noncomputable section
end
end Qq
end
section
/- A line that fits lies, on any day, between lines through two measurements: plain laws. -/
open Go Go.Vm Go.Proofs Sp
namespace Qq
noncomputable section
end
end Qq
end
section
/- Lines of measurements that are near each other: plain laws. -/
open Go Go.Vm Go.Proofs Sp
namespace Qq
noncomputable section
/-- What a quotient in lowest terms stands for. -/
theorem low_rep {a d : Int} (h : LowIn a d) : lowN a d * d = a * lowD a d ∧ 0 < lowD a d ∧ lowD a d ≤ d ∧ (lowN a d).natAbs ≤ a.natAbs := by
  obtain ⟨g, g0, e1, e2, p, _⟩ := low_spec h.h0 h.h1 h.a0 h.a1
  refine ⟨?_, p, ?_, ?_⟩
  · generalize lowN a d = N at *
    generalize lowD a d = E at *
    subst e1; subst e2
    grind
  · have := Int.mul_le_mul_of_nonneg_left (show 1 ≤ g by omega) (show 0 ≤ lowD a d by omega)
    omega
  · have := Nat.le_mul_of_pos_right (lowN a d).natAbs (show 0 < g.natAbs by omega)
    rw [← Int.natAbs_mul, e1] at this
    exact this
theorem low_ge {a d l : Int} (h : LowIn a d) : l * lowD a d ≤ lowN a d ↔ l * d ≤ a := by
  obtain ⟨g, g0, e1, e2, p, _⟩ := low_spec h.h0 h.h1 h.a0 h.a1
  have e : l * d = l * lowD a d * g := by rw [Int.mul_assoc, e2]
  rw [e, ← show lowN a d * g = a from e1]
  constructor
  · intro h; exact Int.mul_le_mul_of_nonneg_right (by simpa [e1] using h) (by omega)
  · intro h; have := Int.le_of_mul_le_mul_right h g0; simpa [e1] using this
theorem ratio_sum {m L S D X Y : Int} (hL : LowIn L D) (hS : LowIn S D) (h : m * L = Y * D - X * S) : (m * lowN L D) * lowD S D = (Y * lowD S D - X * lowN S D) * lowD L D := by
  obtain ⟨e1, _⟩ := low_rep hL
  obtain ⟨e2, _⟩ := low_rep hS
  have d0 := hL.h0
  generalize lowN L D = a at *
  generalize lowD L D = b at *
  generalize lowN S D = c at *
  generalize lowD S D = d at *
  refine Int.eq_of_mul_eq_mul_right (show D ≠ 0 by omega) ?_
  have h1 : m * a * d * D = m * L * b * d := by
    have : m * a * d * D = m * d * (a * D) := by grind
    rw [this, e1]; grind
  have h2 : (Y * d - X * c) * b * D = (Y * D - X * S) * d * b := by
    have : (Y * d - X * c) * b * D = Y * d * b * D - X * b * (c * D) := by grind
    rw [this, e2]; grind
  rw [h1, h2, h]; grind
theorem ratio_step {A S D : Int} (hA : LowIn A D) (hB : LowIn (A + S) D) (hS : LowIn S D) :
    (lowN (A + S) D * lowD A D - lowN A D * lowD (A + S) D) * lowD S D = lowN S D * (lowD A D * lowD (A + S) D) := by
  obtain ⟨e1, _⟩ := low_rep hA
  obtain ⟨e2, _⟩ := low_rep hB
  obtain ⟨e3, _⟩ := low_rep hS
  have d0 := hA.h0
  generalize lowN A D = a at *
  generalize lowD A D = b at *
  generalize lowN (A + S) D = c at *
  generalize lowD (A + S) D = d at *
  generalize lowN S D = e at *
  generalize lowD S D = f at *
  refine Int.eq_of_mul_eq_mul_right (show D ≠ 0 by omega) ?_
  have h1 : (c * b - a * d) * f * D = (c * D) * b * f - (a * D) * d * f := by grind
  have h2 : e * (b * d) * D = (e * D) * b * d := by grind
  rw [h1, h2, e1, e2, e3]; grind
theorem sum_line (zs : List Int) (off m : Nat) : m * lvl zs off m = sY zs off m * dn zs off m - sX zs off m * slp zs off m := by
  simp only [lvl, slp, dn]; grind
theorem sum_prod (zs : List Int) (off m : Nat) : sX zs off m * lvl zs off m = sXY zs off m * dn zs off m - sXX zs off m * slp zs off m := by
  simp only [lvl, slp, dn]; grind
/-- Measurements near the first one. -/
structure Near (zs : List Int) (off m : Nat) : Prop where
  len : off + m * 2 ≤ zs.length
  few : m ≤ 8
  day : ∀ i, i < m → 0 ≤ zs.getD (off + i * 2) 0 - d0 zs off ∧ zs.getD (off + i * 2) 0 - d0 zs off ≤ 400
  idx : ∀ i, i < m → 0 ≤ zs.getD (off + i * 2 + 1) 0 ∧ zs.getD (off + i * 2 + 1) 0 ≤ 400
theorem Near.sums {zs : List Int} {off m : Nat} (h : Near zs off m) {i : Nat} (hi : i ≤ m) :
    (0 ≤ sX zs off i ∧ sX zs off i ≤ 3200) ∧ (0 ≤ sY zs off i ∧ sY zs off i ≤ 3200) ∧ (0 ≤ sXX zs off i ∧ sXX zs off i ≤ 1280000) ∧ (0 ≤ sXY zs off i ∧ sXY zs off i ≤ 1280000) := by
  have hm := h.few
  have up : ∀ {s B : Int}, 0 ≤ B → 0 ≤ s ∧ s ≤ B * i → 0 ≤ s ∧ s ≤ B * 8 := fun {s B} hB ⟨a, b⟩ => ⟨a, Int.le_trans b (Int.mul_le_mul_of_nonneg_left (by omega) hB)⟩
  refine ⟨up (B := 400) (by omega) (sumP_le h.len (fun j hj => h.day j hj) i hi), up (B := 400) (by omega) (sumP_le h.len (fun j hj => h.idx j hj) i hi), up (B := 160000) (by omega) (sumP_le h.len (fun j hj => ?_) i hi), up (B := 160000) (by omega) (sumP_le h.len (fun j hj => ?_) i hi)⟩
  · obtain ⟨q1, q2⟩ := h.day j hj
    have := mul_in q1 q2 q1 q2
    exact ⟨this.1, by omega⟩
  · obtain ⟨q1, q2⟩ := h.day j hj
    obtain ⟨q3, q4⟩ := h.idx j hj
    have := mul_in q1 q2 q3 q4
    exact ⟨this.1, by omega⟩
theorem Near.line {zs : List Int} {off m : Nat} (h : Near zs off m) : (-4096000000 ≤ lvl zs off m ∧ lvl zs off m ≤ 4096000000) ∧ (-10240000 ≤ slp zs off m ∧ slp zs off m ≤ 10240000) ∧ dn zs off m ≤ 10240000 := by
  obtain ⟨⟨x0, x1⟩, ⟨y0, y1⟩, ⟨p0, p1⟩, ⟨q0, q1⟩⟩ := h.sums (Nat.le_refl m)
  have hm := h.few
  have a1 := mul_in y0 y1 p0 p1
  have a2 := mul_in x0 x1 q0 q1
  have a3 := mul_in (show (0 : Int) ≤ m by omega) (show (m : Int) ≤ 8 by omega) q0 q1
  have a4 := mul_in x0 x1 y0 y1
  have a5 := mul_in (show (0 : Int) ≤ m by omega) (show (m : Int) ≤ 8 by omega) p0 p1
  have a6 := mul_in x0 x1 x0 x1
  simp only [lvl, slp, dn]
  omega
/-- The same days, the indices on a line. -/
noncomputable def lineL (a b z : Int) : List Int → List Int
  | d :: _ :: r => d :: (a + b * (d - z)) :: lineL a b z r
  | _ => []
theorem lineL_len (a b z : Int) : ∀ (N : Nat) (l : List Int), l.length = N * 2 → (lineL a b z l).length = l.length
  | 0, [], _ => rfl
  | N + 1, [_], h => by simp only [List.length_cons, List.length_nil] at h; omega
  | N + 1, u :: v :: r, h => by
    have := lineL_len a b z N r (by simp only [List.length_cons] at h; omega)
    simp only [lineL, List.length_cons, this]
theorem lineL_chk (a b z : Int) : ∀ (l : List Int) (last : Int), mchk l last = 0 → (∀ i, i * 2 + 2 ≤ l.length → 0 ≤ a + b * (l.getD (i * 2) 0 - z) ∧ a + b * (l.getD (i * 2) 0 - z) ≤ 100000) → mchk (lineL a b z l) last = 0
  | [], _, _, _ => rfl
  | [_], _, _, _ => rfl
  | u :: v :: r, last, h, hb => by
    have ih := lineL_chk a b z r u (mchk_cons h).2 fun i hi => by
      have := hb (i + 1) (by simp only [List.length_cons]; omega)
      rw [show (i + 1) * 2 = i * 2 + 1 + 1 by omega] at this
      simpa using this
    have h0 := hb 0 (by simp)
    simp only [Nat.zero_mul, List.getD_cons_zero] at h0
    simp only [mchk, lineL] at h ⊢
    obtain ⟨h1, _⟩ := sel_zero.1 h
    refine sel_zero.2 ⟨fi_zero.2 fun e he => ?_, ih⟩
    have h2 := fi_zero.1 h1
    simp only [List.mem_cons, List.not_mem_nil, or_false] at he
    rcases he with rfl | rfl
    · refine fi_zero.2 fun e he => ?_
      have h3 := fi_zero.1 (h2 (chkM u v) (by simp))
      simp only [List.mem_cons, List.not_mem_nil, or_false] at he
      rcases he with rfl | rfl
      · exact h3 _ (by simp)
      · exact wi_zero.2 h0
    · exact h2 _ (by simp)
theorem lineL_sum (a b z : Int) (g h : Int → Int → Int) (hg : ∀ d x, g d (a + b * (d - z)) = h d x) : ∀ l : List Int, sumP g (lineL a b z l) = sumP h l
  | [] => rfl
  | [_] => rfl
  | u :: v :: r => by simp only [lineL, sumP, lineL_sum a b z g h hg r, hg u v]
theorem sumP_add (g h : Int → Int → Int) : ∀ l : List Int, sumP (fun d x => g d x + h d x) l = sumP g l + sumP h l
  | [] => rfl
  | [_] => rfl
  | u :: v :: r => by simp only [sumP, sumP_add g h r]; omega
theorem sumP_mul (c : Int) (g : Int → Int → Int) : ∀ l : List Int, sumP (fun d x => c * g d x) l = c * sumP g l
  | [] => by simp [sumP]
  | [_] => by simp [sumP]
  | u :: v :: r => by simp only [sumP, sumP_mul c g r, Int.mul_add]
theorem sumP_one (c : Int) : ∀ (N : Nat) (l : List Int), l.length = N * 2 → sumP (fun _ _ => c) l = N * c
  | 0, [], _ => by simp [sumP]
  | N + 1, [_], h => by simp only [List.length_cons, List.length_nil] at h; omega
  | N + 1, u :: v :: r, h => by
    have := sumP_one c N r (by simp only [List.length_cons] at h; omega)
    simp only [sumP, this]
    push_cast
    grind
theorem lineL_d0 (a b z : Int) : ∀ l : List Int, (lineL a b z l).length = l.length → d0 (lineL a b z l) 0 = d0 l 0
  | [], _ => rfl
  | [_], h => by simp [lineL] at h
  | u :: v :: r, _ => rfl
/-- The line of measurements that lie on a line. -/
theorem lineL_line {l : List Int} {m : Nat} (hl : l.length = m * 2) (a b : Int) :
    lvl (lineL a b (d0 l 0) l) 0 m = a * dn l 0 m ∧ slp (lineL a b (d0 l 0) l) 0 m = b * dn l 0 m ∧ dn (lineL a b (d0 l 0) l) 0 m = dn l 0 m ∧ d0 (lineL a b (d0 l 0) l) 0 = d0 l 0 := by
  have hl2 := lineL_len a b (d0 l 0) m l hl
  have e0 := lineL_d0 a b (d0 l 0) l hl2
  have t1 : ((lineL a b (d0 l 0) l).drop 0).take (m * 2) = lineL a b (d0 l 0) l := by rw [List.drop_zero, List.take_of_length_le (by omega)]
  have t2 : (l.drop 0).take (m * 2) = l := by rw [List.drop_zero, List.take_of_length_le (by omega)]
  have x : sX (lineL a b (d0 l 0) l) 0 m = sX l 0 m := by
    simp only [sX, t1, t2, e0]
    exact lineL_sum a b _ _ _ (fun _ _ => rfl) l
  have xx : sXX (lineL a b (d0 l 0) l) 0 m = sXX l 0 m := by
    simp only [sXX, t1, t2, e0]
    exact lineL_sum a b _ _ _ (fun _ _ => rfl) l
  have y : sY (lineL a b (d0 l 0) l) 0 m = m * a + b * sX l 0 m := by
    simp only [sY, sX, t1, t2]
    rw [lineL_sum a b (d0 l 0) (fun _ x => x) (fun d _ => a + b * (d - d0 l 0)) (fun _ _ => rfl) l, sumP_add (fun _ _ => a) (fun d _ => b * (d - d0 l 0)) l, sumP_one a m l hl, sumP_mul b (fun d _ => d - d0 l 0) l]
  have xy : sXY (lineL a b (d0 l 0) l) 0 m = a * sX l 0 m + b * sXX l 0 m := by
    simp only [sXY, sX, sXX, t1, t2, e0]
    rw [lineL_sum a b (d0 l 0) (fun d x => (d - d0 l 0) * x) (fun d _ => a * (d - d0 l 0) + b * ((d - d0 l 0) * (d - d0 l 0))) (fun _ _ => by grind) l, sumP_add (fun d _ => a * (d - d0 l 0)) (fun d _ => b * ((d - d0 l 0) * (d - d0 l 0))) l, sumP_mul a (fun d _ => d - d0 l 0) l,
      sumP_mul b (fun d _ => (d - d0 l 0) * (d - d0 l 0)) l]
  refine ⟨?_, ?_, ?_, e0⟩
  · simp only [lvl, dn, x, xx, y, xy]; grind
  · simp only [slp, dn, x, y, xy]; grind
  · simp only [dn, x, xx]
end
end Qq
end
