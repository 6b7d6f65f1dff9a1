/- Parts of the proof: QLR, QLC, QLP, QXP. -/
import Derived.Test.YtaigknknfaeajaaGreatDoorZH
section
/- Quotients in lowest terms, and lines through two points: plain laws. -/
open Go Go.Vm Go.Proofs Sp
namespace Qq
noncomputable section

theorem low_spec {a d : Int} (h0 : 0 < d) (h1 : d < 9223372036854775808) (a0 : -9223372036854775808 < a) (a1 : a < 9223372036854775808) :
    ∃ g : Int, 0 < g ∧ lowN a d * g = a ∧ lowD a d * g = d ∧ 0 < lowD a d ∧ (lowN a d).natAbs.gcd (lowD a d).natAbs = 1 := by
  obtain ⟨g, hg⟩ : ∃ g, g = Nat.gcd a.natAbs d.natAbs := ⟨_, rfl⟩
  have g0 : 0 < g := by rw [hg]; exact Nat.gcd_pos_of_pos_right _ (by omega)
  obtain ⟨x, hx⟩ : (g : Int) ∣ a := by rw [hg]; exact Int.ofNat_dvd_left.2 (Nat.gcd_dvd_left _ _)
  obtain ⟨y, hy⟩ : (g : Int) ∣ d := by rw [hg]; exact Int.ofNat_dvd_left.2 (Nat.gcd_dvd_right _ _)
  have ea : a.natAbs = g * x.natAbs := by rw [hx, Int.natAbs_mul, Int.natAbs_natCast]
  have ed : d.natAbs = g * y.natAbs := by rw [hy, Int.natAbs_mul, Int.natAbs_natCast]
  have bx : x.natAbs ≤ a.natAbs := by rw [ea]; exact Nat.le_mul_of_pos_left _ g0
  have by' : y.natAbs ≤ d.natAbs := by rw [ed]; exact Nat.le_mul_of_pos_left _ g0
  have e1 : lowN a d = x := by
    rw [lowN, ← hg]
    have : a.tdiv (g : Int) = x := by rw [hx]; exact Int.mul_tdiv_cancel_left _ (by omega)
    rw [this, W, wrap_eq (by omega) (by omega)]
  have e2 : lowD a d = y := by
    rw [lowD, ← hg]
    have : d.tdiv (g : Int) = y := by rw [hy]; exact Int.mul_tdiv_cancel_left _ (by omega)
    rw [this, W, wrap_eq (by omega) (by omega)]
  have y0 : 0 < y := by
    by_cases h : 0 < y
    · exact h
    · have := Int.mul_nonneg (show (0 : Int) ≤ g by omega) (show 0 ≤ -y by omega)
      rw [Int.mul_neg] at this
      omega
  have c : x.natAbs.gcd y.natAbs = 1 := by
    rw [ea, ed, Nat.gcd_mul_left] at hg
    exact Nat.eq_of_mul_eq_mul_left g0 (by omega)
  rw [e1, e2]
  exact ⟨g, by omega, by rw [hx, Int.mul_comm], by rw [hy, Int.mul_comm], y0, c⟩

/-- A quotient in lowest terms. -/
structure Low (r : Int × Int) : Prop where
  pos : 0 < r.2
  one : r.1.natAbs.gcd r.2.natAbs = 1
theorem low_cross {r s : Int × Int} (h1 : Low r) (h2 : Low s) (h : r.1 * s.2 = s.1 * r.2) : r = s := by
  have p1 := h1.pos
  have p2 := h2.pos
  have h' : r.1.natAbs * s.2.natAbs = s.1.natAbs * r.2.natAbs := by rw [← Int.natAbs_mul, h, Int.natAbs_mul]
  have d12 : r.2.natAbs ∣ s.2.natAbs := Nat.Coprime.dvd_of_dvd_mul_left (Nat.Coprime.symm h1.one) (by rw [h']; exact Nat.dvd_mul_left _ _)
  have d21 : s.2.natAbs ∣ r.2.natAbs := Nat.Coprime.dvd_of_dvd_mul_left (Nat.Coprime.symm h2.one) (by rw [← h']; exact Nat.dvd_mul_left _ _)
  have e := Nat.dvd_antisymm d12 d21
  have e : r.2 = s.2 := by omega
  rw [e] at h
  exact Prod.ext (Int.eq_of_mul_eq_mul_right (by omega) h) e
noncomputable def low (a d : Int) : Int × Int := (lowN a d, lowD a d)
structure LowIn (a d : Int) : Prop where
  h0 : 0 < d
  h1 : d < 9223372036854775808
  a0 : -9223372036854775808 < a
  a1 : a < 9223372036854775808
theorem LowIn.low {a d : Int} (h : LowIn a d) : Low (low a d) := by
  obtain ⟨g, _, _, _, p, c⟩ := low_spec h.h0 h.h1 h.a0 h.a1
  exact ⟨p, c⟩
theorem low_le {a d b e : Int} (h : LowIn a d) (k : LowIn b e) : (low a d).1 * (low b e).2 ≤ (low b e).1 * (low a d).2 ↔ a * e ≤ b * d := by
  obtain ⟨g, g0, e1, e2, _⟩ := low_spec h.h0 h.h1 h.a0 h.a1
  obtain ⟨g', g0', e3, e4, _⟩ := low_spec k.h0 k.h1 k.a0 k.a1
  have p : 0 < g * g' := Int.mul_pos g0 g0'
  have l : a * e = (low a d).1 * (low b e).2 * (g * g') := by
    simp only [low]
    calc a * e = lowN a d * g * (lowD b e * g') := by rw [e1, e4]
      _ = lowN a d * lowD b e * (g * g') := by grind
  have r : b * d = (low b e).1 * (low a d).2 * (g * g') := by
    simp only [low]
    calc b * d = lowN b e * g' * (lowD a d * g) := by rw [e3, e2]
      _ = lowN b e * lowD a d * (g * g') := by grind
  rw [l, r]
  exact ⟨fun h => Int.mul_le_mul_of_nonneg_right h (by omega), fun h => Int.le_of_mul_le_mul_right h p⟩
theorem low_eq {a d b e : Int} (h : LowIn a d) (k : LowIn b e) : low a d = low b e ↔ a * e = b * d := by
  constructor
  · intro hh
    have h1 := (low_le h k).1 (by rw [hh]; exact Int.le_refl _)
    have h2 := (low_le k h).1 (by rw [hh]; exact Int.le_refl _)
    omega
  · intro hh
    have h1 := (low_le h k).2 (by omega)
    have h2 := (low_le k h).2 (by omega)
    exact low_cross h.low k.low (by omega)
theorem cross_trans {a b c : Int × Int} (ha : 0 < a.2) (hb : 0 < b.2) (hc : 0 < c.2) (h1 : a.1 * b.2 ≤ b.1 * a.2) (h2 : b.1 * c.2 ≤ c.1 * b.2) : a.1 * c.2 ≤ c.1 * a.2 := by
  have k1 := Int.mul_le_mul_of_nonneg_right h1 (show 0 ≤ c.2 by omega)
  have k2 := Int.mul_le_mul_of_nonneg_right h2 (show 0 ≤ a.2 by omega)
  refine Int.le_of_mul_le_mul_right (a := b.2) ?_ hb
  grind
/-- The least of quotients: the first one of them. -/
noncomputable def mnF (m : Int × Int) : List (Int × Int) → Int × Int
  | [] => m
  | x :: r => mnF (if x.1 * m.2 < m.1 * x.2 then x else m) r
noncomputable def mxF (m : Int × Int) : List (Int × Int) → Int × Int
  | [] => m
  | x :: r => mxF (if x.1 * m.2 > m.1 * x.2 then x else m) r
theorem mem_keep {α : Type} {z m y : α} {r : List α} (h : z ∈ m :: r) : z ∈ m :: y :: r := by
  rcases List.mem_cons.1 h with rfl | h
  · exact List.mem_cons_self
  · exact List.mem_cons_of_mem _ (List.mem_cons_of_mem _ h)
theorem mnF_spec : ∀ (l : List (Int × Int)) (m : Int × Int), (∀ x ∈ m :: l, Low x) → mnF m l ∈ m :: l ∧ ∀ x ∈ m :: l, (mnF m l).1 * x.2 ≤ x.1 * (mnF m l).2
  | [], m, _ => ⟨by simp [mnF], fun x hx => by simp at hx; subst hx; exact Int.le_refl _⟩
  | y :: r, m, h => by
    have hm := (h m (by simp)).pos
    have hy := (h y (by simp)).pos
    have sub : ∀ z, z = y ∨ z = m → (∀ x ∈ z :: r, Low x) := fun z hz x hx => by
      rcases List.mem_cons.1 hx with rfl | hx
      · rcases hz with rfl | rfl <;> exact h _ (by simp)
      · exact h _ (by simp [hx])
    simp only [mnF]
    split
    · rename_i hlt
      obtain ⟨a, b⟩ := mnF_spec r y (sub y (.inl rfl))
      have hp := (sub y (.inl rfl) _ a).pos
      refine ⟨List.mem_cons_of_mem _ a, fun x hx => ?_⟩
      rcases List.mem_cons.1 hx with rfl | hx
      · exact cross_trans hp hy hm (b y (by simp)) (by omega)
      · exact b x hx
    · rename_i hlt
      obtain ⟨a, b⟩ := mnF_spec r m (sub m (.inr rfl))
      have hp := (sub m (.inr rfl) _ a).pos
      refine ⟨mem_keep a, fun x hx => ?_⟩
      rcases List.mem_cons.1 hx with rfl | hx
      · exact b x (by simp)
      rcases List.mem_cons.1 hx with rfl | hx
      · exact cross_trans hp hm hy (b m (by simp)) (by omega)
      · exact b x (by simp [hx])
theorem mxF_spec : ∀ (l : List (Int × Int)) (m : Int × Int), (∀ x ∈ m :: l, Low x) → mxF m l ∈ m :: l ∧ ∀ x ∈ m :: l, x.1 * (mxF m l).2 ≤ (mxF m l).1 * x.2
  | [], m, _ => ⟨by simp [mxF], fun x hx => by simp at hx; subst hx; exact Int.le_refl _⟩
  | y :: r, m, h => by
    have hm := (h m (by simp)).pos
    have hy := (h y (by simp)).pos
    have sub : ∀ z, z = y ∨ z = m → (∀ x ∈ z :: r, Low x) := fun z hz x hx => by
      rcases List.mem_cons.1 hx with rfl | hx
      · rcases hz with rfl | rfl <;> exact h _ (by simp)
      · exact h _ (by simp [hx])
    simp only [mxF]
    split
    · rename_i hlt
      obtain ⟨a, b⟩ := mxF_spec r y (sub y (.inl rfl))
      have hp := (sub y (.inl rfl) _ a).pos
      refine ⟨List.mem_cons_of_mem _ a, fun x hx => ?_⟩
      rcases List.mem_cons.1 hx with rfl | hx
      · exact cross_trans hm hy hp (by omega) (b y (by simp))
      · exact b x hx
    · rename_i hlt
      obtain ⟨a, b⟩ := mxF_spec r m (sub m (.inr rfl))
      have hp := (sub m (.inr rfl) _ a).pos
      refine ⟨mem_keep a, fun x hx => ?_⟩
      rcases List.mem_cons.1 hx with rfl | hx
      · exact b x (by simp)
      rcases List.mem_cons.1 hx with rfl | hx
      · exact cross_trans hy hm hp (by omega) (b m (by simp))
      · exact b x (by simp [hx])
theorem mnF_same {a b : Int × Int} {l r : List (Int × Int)} (h : ∀ x ∈ a :: l, Low x) (hh : ∀ x, x ∈ a :: l ↔ x ∈ b :: r) : mnF a l = mnF b r := by
  obtain ⟨p, q⟩ := mnF_spec l a h
  have h' : ∀ x ∈ b :: r, Low x := fun x hx => h x ((hh x).2 hx)
  obtain ⟨p', q'⟩ := mnF_spec r b h'
  have h1 := q _ ((hh _).2 p')
  have h2 := q' _ ((hh _).1 p)
  exact low_cross (h _ p) (h' _ p') (by omega)
theorem mxF_same {a b : Int × Int} {l r : List (Int × Int)} (h : ∀ x ∈ a :: l, Low x) (hh : ∀ x, x ∈ a :: l ↔ x ∈ b :: r) : mxF a l = mxF b r := by
  obtain ⟨p, q⟩ := mxF_spec l a h
  have h' : ∀ x ∈ b :: r, Low x := fun x hx => h x ((hh x).2 hx)
  obtain ⟨p', q'⟩ := mxF_spec r b h'
  have h1 := q _ ((hh _).2 p')
  have h2 := q' _ ((hh _).1 p)
  exact low_cross (h _ p) (h' _ p') (by omega)
end
end Qq
end
section
/- Lines through two measurements, each plus or less an error: as the program lists them, and as the reference does. -/
open Go Go.Vm Go.Proofs Sp
namespace Sp
noncomputable section
/-- A line: a day, the level there, the slope, the denominator. -/
abbrev Ln := Int × Int × Int × Int
noncomputable def lnat (l : Ln) (x : Int) : Int := l.2.1 + l.2.2.1 * (x - l.1)
noncomputable def fitB (w : Int) (l : Ln) : List Int → Bool
  | t :: y :: r => !decide (w * l.2.2.2 < ((lnat l t - y * l.2.2.2).natAbs : Int)) && fitB w l r
  | _ => true
noncomputable def crn (L : List Int) (w : Int) (i k : Nat) (s t : Int) : Ln :=
  (L.getD (i * 2) 0, (L.getD (i * 2 + 1) 0 + s * w) * (L.getD (k * 2) 0 - L.getD (i * 2) 0), (L.getD (k * 2 + 1) 0 + t * w) - (L.getD (i * 2 + 1) 0 + s * w), L.getD (k * 2) 0 - L.getD (i * 2) 0)
noncomputable def sgP : Nat → Int × Int
  | 0 => (1, 1)
  | 1 => (1, -1)
  | 2 => (-1, 1)
  | _ => (-1, -1)
noncomputable def sgR (a : Nat) : Int := 2 * a - 1
noncomputable def fmN {α : Type} (n : Nat) (f : Nat → List α) : List α := (List.range n).flatMap f
noncomputable def oneP (L : List Int) (w : Int) (k i j : Nat) : List Ln :=
  if w = 0 ∧ j ≠ 0 then [] else if fitB w (crn L w i k (sgP j).1 (sgP j).2) L = true then [crn L w i k (sgP j).1 (sgP j).2] else []
noncomputable def outP (L : List Int) (w : Int) (m : Nat) : List Ln := fmN m fun k => fmN k fun i => fmN 4 (oneP L w k i)
noncomputable def cqR (L : List Int) (w : Int) (i k a b : Nat) : Ln := (L.getD (i * 2) 0, L.getD (i * 2 + 1) 0 + sgR a * w, L.getD (k * 2) 0, L.getD (k * 2 + 1) 0 + sgR b * w)
noncomputable def lnOf (c : Ln) : Ln := (c.1, c.2.1 * (c.2.2.1 - c.1), c.2.2.2 - c.2.1, c.2.2.1 - c.1)
noncomputable def oneR (L : List Int) (w : Int) (i k a b : Nat) : List Ln := if fitB w (lnOf (cqR L w i k a b)) L = true then [cqR L w i k a b] else []
noncomputable def outR (L : List Int) (w : Int) (m : Nat) : List Ln := fmN m fun i => fmN (m - (i + 1)) fun k => fmN 2 fun a => fmN 2 fun b => oneR L w i (i + 1 + k) a b
/-- The cells of lines. -/
noncomputable def fl4 : List Ln → List Int
  | [] => []
  | l :: r => l.1 :: l.2.1 :: l.2.2.1 :: l.2.2.2 :: fl4 r
end
end Sp
namespace Qq
noncomputable section
theorem mem_fmN {α : Type} {n : Nat} {f : Nat → List α} {x : α} : x ∈ fmN n f ↔ ∃ i, i < n ∧ x ∈ f i := by
  simp [fmN, List.mem_flatMap]
theorem fmN_succ {α : Type} (n : Nat) (f : Nat → List α) : fmN (n + 1) f = fmN n f ++ f n := by
  simp [fmN, List.range_succ]
theorem fmN_zero {α : Type} (f : Nat → List α) : fmN 0 f = [] := rfl
theorem fl4_app : ∀ l r : List Ln, fl4 (l ++ r) = fl4 l ++ fl4 r
  | [], _ => rfl
  | a :: l, r => by simp only [List.cons_append, fl4, fl4_app l r]
theorem fl4_len : ∀ l : List Ln, (fl4 l).length = l.length * 4
  | [] => rfl
  | a :: l => by simp only [fl4, List.length_cons, fl4_len l]; omega
theorem fl4_get : ∀ (l : List Ln) (i : Nat) (h : i < l.length), (fl4 l).getD (i * 4) 0 = (l[i]).1 ∧ (fl4 l).getD (i * 4 + 1) 0 = (l[i]).2.1 ∧ (fl4 l).getD (i * 4 + 2) 0 = (l[i]).2.2.1 ∧ (fl4 l).getD (i * 4 + 3) 0 = (l[i]).2.2.2
  | [], i, h => by simp at h
  | a :: l, 0, _ => ⟨rfl, rfl, rfl, rfl⟩
  | a :: l, i + 1, h => by
    have := fl4_get l i (by simpa using h)
    have e : (i + 1) * 4 = i * 4 + 1 + 1 + 1 + 1 := by omega
    rw [e]
    exact this
theorem lnOf_cq (L : List Int) (w : Int) (i k a b : Nat) : lnOf (cqR L w i k a b) = crn L w i k (sgR a) (sgR b) := rfl
theorem crn_zero (L : List Int) (i k : Nat) (s t s' t' : Int) : crn L 0 i k s t = crn L 0 i k s' t' := by
  simp [crn]
theorem mem_outP {L : List Int} {w : Int} {m : Nat} {l : Ln} : l ∈ outP L w m ↔ ∃ k, k < m ∧ ∃ i, i < k ∧ ∃ j, j < 4 ∧ ¬ (w = 0 ∧ j ≠ 0) ∧ fitB w (crn L w i k (sgP j).1 (sgP j).2) L = true ∧ l = crn L w i k (sgP j).1 (sgP j).2 := by
  simp only [outP, mem_fmN]
  refine exists_congr fun k => and_congr_right fun _ => exists_congr fun i => and_congr_right fun _ => exists_congr fun j => and_congr_right fun _ => ?_
  simp only [oneP]
  split
  · rename_i h; simp [h]
  · rename_i h
    split
    · rename_i h2; simp [h, h2]
    · rename_i h2; simp [h2]
theorem mem_outR {L : List Int} {w : Int} {m : Nat} {l : Ln} : l ∈ (outR L w m).map lnOf ↔ ∃ i, i < m ∧ ∃ k, k < m - (i + 1) ∧ ∃ a, a < 2 ∧ ∃ b, b < 2 ∧ fitB w (crn L w i (i + 1 + k) (sgR a) (sgR b)) L = true ∧ l = crn L w i (i + 1 + k) (sgR a) (sgR b) := by
  simp only [List.mem_map, outR, mem_fmN, oneR]
  constructor
  · rintro ⟨c, ⟨i, hi, k, hk, a, ha, b, hb, hc⟩, rfl⟩
    refine ⟨i, hi, k, hk, a, ha, b, hb, ?_⟩
    split at hc
    · rename_i h
      simp only [List.mem_singleton] at hc
      subst hc
      exact ⟨h, rfl⟩
    · cases hc
  · rintro ⟨i, hi, k, hk, a, ha, b, hb, hf, rfl⟩
    refine ⟨cqR L w i (i + 1 + k) a b, ⟨i, hi, k, hk, a, ha, b, hb, ?_⟩, rfl⟩
    rw [if_pos (by rw [lnOf_cq]; exact hf)]
    exact List.mem_singleton.2 rfl
/-- Both list the same lines. -/
theorem out_same {L : List Int} {w : Int} {m : Nat} {l : Ln} : l ∈ outP L w m ↔ l ∈ (outR L w m).map lnOf := by
  rw [mem_outP, mem_outR]
  constructor
  · rintro ⟨k, hk, i, hi, j, hj, _, hf, rfl⟩
    have e : i + 1 + (k - i - 1) = k := by omega
    have go : ∀ a b : Nat, a < 2 → b < 2 → (sgP j).1 = sgR a → (sgP j).2 = sgR b → _ := fun a b ha hb h1 h2 =>
      (⟨i, by omega, k - i - 1, by omega, a, ha, b, hb, by rw [e, ← h1, ← h2]; exact ⟨hf, rfl⟩⟩ : ∃ i', i' < m ∧ ∃ k', k' < m - (i' + 1) ∧ ∃ a, a < 2 ∧ ∃ b, b < 2 ∧ fitB w (crn L w i' (i' + 1 + k') (sgR a) (sgR b)) L = true ∧ crn L w i k (sgP j).1 (sgP j).2 = crn L w i' (i' + 1 + k') (sgR a) (sgR b))
    match j, hj with
    | 0, _ => exact go 1 1 (by omega) (by omega) rfl rfl
    | 1, _ => exact go 1 0 (by omega) (by omega) rfl rfl
    | 2, _ => exact go 0 1 (by omega) (by omega) rfl rfl
    | 3, _ => exact go 0 0 (by omega) (by omega) rfl rfl
  · rintro ⟨i, hi, k, hk, a, ha, b, hb, hf, rfl⟩
    refine ⟨i + 1 + k, by omega, i, by omega, ?_⟩
    by_cases hw : w = 0
    · subst hw
      refine ⟨0, by omega, by simp, ?_, crn_zero ..⟩
      rw [crn_zero L i (i + 1 + k) (sgP 0).1 (sgP 0).2 (sgR a) (sgR b)]
      exact hf
    · have go : ∀ j, j < 4 → (sgP j).1 = sgR a → (sgP j).2 = sgR b → ∃ j, j < 4 ∧ ¬ (w = 0 ∧ j ≠ 0) ∧ fitB w (crn L w i (i + 1 + k) (sgP j).1 (sgP j).2) L = true ∧ crn L w i (i + 1 + k) (sgR a) (sgR b) = crn L w i (i + 1 + k) (sgP j).1 (sgP j).2 := fun j hj h1 h2 =>
        ⟨j, hj, fun h => hw h.1, by rw [h1, h2]; exact ⟨hf, rfl⟩⟩
      match a, b, ha, hb with
      | 1, 1, _, _ => exact go 0 (by omega) rfl rfl
      | 1, 0, _, _ => exact go 1 (by omega) rfl rfl
      | 0, 1, _, _ => exact go 2 (by omega) rfl rfl
      | 0, 0, _, _ => exact go 3 (by omega) rfl rfl
end
end Qq
end
section
/- A line that fits lies, on any day, between lines through two measurements: plain laws. -/
open Go Go.Vm Go.Proofs Sp
namespace Qq
noncomputable section
theorem amin (f : Nat → Int) : ∀ m, 0 < m → ∃ i, i < m ∧ ∀ j, j < m → f i ≤ f j
  | 0, h => by omega
  | 1, _ => ⟨0, by omega, fun j hj => by
      obtain rfl : j = 0 := by omega
      exact Int.le_refl _⟩
  | m + 2, _ => by
    obtain ⟨i, hi, h⟩ := amin f (m + 1) (by omega)
    rcases Int.le_total (f i) (f (m + 1)) with hc | hc
    · exact ⟨i, by omega, fun j hj => by
        rcases Nat.lt_or_ge j (m + 1) with hj' | hj'
        · exact h j hj'
        · obtain rfl : j = m + 1 := by omega
          exact hc⟩
    · exact ⟨m + 1, by omega, fun j hj => by
        rcases Nat.lt_or_ge j (m + 1) with hj' | hj'
        · exact Int.le_trans hc (h j hj')
        · obtain rfl : j = m + 1 := by omega
          exact Int.le_refl _⟩
theorem aminF (n d : Nat → Int) (p : Nat → Prop) : ∀ m, (∀ j, j < m → p j → 0 < d j) → (∃ j, j < m ∧ p j) → ∃ j, j < m ∧ p j ∧ ∀ k, k < m → p k → n j * d k ≤ n k * d j
  | 0, _, ⟨j, hj, _⟩ => by omega
  | m + 1, hd, hex => by
    classical
    by_cases h0 : ∃ j, j < m ∧ p j
    · obtain ⟨j, hj, pj, h⟩ := aminF n d p m (fun j hj => hd j (by omega)) h0
      have dj := hd j (by omega) pj
      by_cases pm : p m
      · have dm := hd m (by omega) pm
        rcases Int.le_total (n j * d m) (n m * d j) with hc | hc
        · refine ⟨j, by omega, pj, fun k hk pk => ?_⟩
          rcases Nat.lt_or_ge k m with hk' | hk'
          · exact h k hk' pk
          · obtain rfl : k = m := by omega
            exact hc
        · refine ⟨m, by omega, pm, fun k hk pk => ?_⟩
          rcases Nat.lt_or_ge k m with hk' | hk'
          · exact cross_trans (a := (n m, d m)) (b := (n j, d j)) (c := (n k, d k)) dm dj (hd k (by omega) pk) hc (h k hk' pk)
          · obtain rfl : k = m := by omega
            exact Int.le_refl _
      · refine ⟨j, by omega, pj, fun k hk pk => ?_⟩
        rcases Nat.lt_or_ge k m with hk' | hk'
        · exact h k hk' pk
        · obtain rfl : k = m := by omega
          exact absurd pk pm
    · obtain ⟨j, hj, pj⟩ := hex
      obtain rfl : j = m := by
        rcases Nat.lt_or_ge j m with h | h
        · exact absurd ⟨j, h, pj⟩ h0
        · omega
      refine ⟨j, by omega, pj, fun k hk pk => ?_⟩
      rcases Nat.lt_or_ge k j with h | h
      · exact absurd ⟨k, h, pk⟩ h0
      · obtain rfl : k = j := by omega
        exact Int.le_refl _
theorem chain {a n C D d e : Int} (h1 : a * D ≤ C * e) (h2 : C * d ≤ n * D) (d0 : 0 < d) (D0 : 0 < D) (e0 : 0 ≤ e) : a * d ≤ n * e := by
  have p1 := Int.mul_le_mul_of_nonneg_right h1 (show 0 ≤ d by omega)
  have p2 := Int.mul_le_mul_of_nonneg_right h2 e0
  refine Int.le_of_mul_le_mul_right ?_ D0
  have e1 : a * d * D = a * D * d := Int.mul_right_comm ..
  have e2 : n * e * D = n * D * e := Int.mul_right_comm ..
  have e3 : C * e * d = C * d * e := Int.mul_right_comm ..
  omega
theorem flip (C a b : Int) : C * (a - b) = -(C * (b - a)) := by
  rw [← Int.mul_neg, Int.neg_sub]
/-- A line through an upper point, turned until it touches another one. -/
theorem pivot {t y : Nat → Int} {m i : Nat} {w C D u : Int} (hi : i < m) (hne : ∀ j, j < m → j ≠ i → t j ≠ t i) (h2 : ∃ j, j < m ∧ j ≠ i) (D0 : 0 < D) (w0 : 0 ≤ w) (hu : u = y i + w)
    (lo : ∀ j, j < m → y j * D - w * D ≤ u * D + C * (t j - t i)) (up : ∀ j, j < m → u * D + C * (t j - t i) ≤ y j * D + w * D) :
    ∃ j, j < m ∧ j ≠ i ∧ ∃ v n d : Int, 0 < d ∧ (v = y j + w ∨ v = y j - w) ∧ ((t i < t j ∧ n = v - u ∧ d = t j - t i) ∨ (t j < t i ∧ n = u - v ∧ d = t i - t j)) ∧ C * d ≤ n * D ∧
      ∀ k, k < m → y k * d - w * d ≤ u * d + n * (t k - t i) ∧ u * d + n * (t k - t i) ≤ y k * d + w * d := by
  obtain ⟨N, hN⟩ : ∃ N : Nat → Int, N = fun j => if t i < t j then (y j + w) - u else u - (y j - w) := ⟨_, rfl⟩
  obtain ⟨E, hE⟩ : ∃ E : Nat → Int, E = fun j => if t i < t j then t j - t i else t i - t j := ⟨_, rfl⟩
  have hs : ∀ j, j < m → j ≠ i → C * E j ≤ N j * D := fun j hj hji => by
    have h1 := up j hj
    have h2 := lo j hj
    have h3 := hne j hj hji
    have h4 := flip C (t i) (t j)
    simp only [hN, hE]
    split
    · rw [Int.sub_mul, Int.add_mul]; omega
    · rw [Int.sub_mul, Int.sub_mul]; omega
  obtain ⟨j, hj, hji, hmin⟩ := aminF N E (fun j => j ≠ i) m (fun j hj hji => by
    have h3 := hne j hj hji
    simp only [hE]
    split <;> omega) h2
  have dj : 0 < E j := by
    have h3 := hne j hj hji
    simp only [hE]
    split <;> omega
  have sj := hs j hj hji
  refine ⟨j, hj, hji, if t i < t j then y j + w else y j - w, N j, E j, dj, ?_, ?_, sj, fun k hk => ?_⟩
  · split
    · exact .inl rfl
    · exact .inr rfl
  · have h3 := hne j hj hji
    simp only [hN, hE]
    rcases Int.lt_or_gt_of_ne h3 with h | h
    · right
      rw [if_neg (by omega), if_neg (by omega), if_neg (by omega)]
      exact ⟨h, rfl, rfl⟩
    · left
      rw [if_pos h, if_pos h, if_pos h]
      exact ⟨h, rfl, rfl⟩
  · have wd := Int.mul_nonneg w0 (show 0 ≤ E j by omega)
    by_cases hki : k = i
    · subst hki
      rw [Int.sub_self, Int.mul_zero, hu, Int.add_mul]
      omega
    · have hm := hmin k hk hki
      have lk := lo k hk
      have uk := up k hk
      have h3 := hne k hk hki
      rcases Int.lt_or_gt_of_ne h3 with h | h
      · -- behind the pivot
        have eN : N k = u - (y k - w) := by simp only [hN]; rw [if_neg (by omega)]
        have eE : E k = t i - t k := by simp only [hE]; rw [if_neg (by omega)]
        rw [eN, eE] at hm
        have f1 := flip (N j) (t k) (t i)
        have f2 := flip C (t k) (t i)
        have c := chain (a := u - (y k + w)) (n := N j) (C := C) (D := D) (d := E j) (e := t i - t k) (by rw [Int.sub_mul, Int.add_mul]; omega) sj dj D0 (by omega)
        rw [Int.sub_mul, Int.sub_mul] at hm
        rw [Int.sub_mul, Int.add_mul] at c
        omega
      · have eN : N k = (y k + w) - u := by simp only [hN]; rw [if_pos h]
        have eE : E k = t k - t i := by simp only [hE]; rw [if_pos h]
        rw [eN, eE] at hm
        have c := chain (a := (y k - w) - u) (n := N j) (C := C) (D := D) (d := E j) (e := t k - t i) (by rw [Int.sub_mul, Int.sub_mul]; omega) sj dj D0 (by omega)
        rw [Int.sub_mul, Int.add_mul] at hm
        rw [Int.sub_mul, Int.sub_mul] at c
        omega

/-- A line (its day A, its level B, its slope C, all with the denominator D) misses no point by more than w. -/
noncomputable def Fit (t y : Nat → Int) (m : Nat) (w A B C D : Int) : Prop := ∀ i, i < m → y i * D - w * D ≤ B + C * (t i - A) ∧ B + C * (t i - A) ≤ y i * D + w * D
/-- A line through two points that fits, on a day not below another one. -/
noncomputable def Above (t y : Nat → Int) (m : Nat) (w x V D : Int) : Prop :=
  ∃ (i k : Nat) (s s' : Int), i < k ∧ k < m ∧ (s = 1 ∨ s = -1) ∧ (s' = 1 ∨ s' = -1) ∧ Fit t y m w (t i) ((y i + s * w) * (t k - t i)) ((y k + s' * w) - (y i + s * w)) (t k - t i) ∧
    V * (t k - t i) ≤ ((y i + s * w) * (t k - t i) + ((y k + s' * w) - (y i + s * w)) * (x - t i)) * D
theorem above_of {t y : Nat → Int} {m i j : Nat} {w x V D u v n d : Int} (hup : ∀ i j, i < j → j < m → t i < t j) (hi : i < m) (hj : j < m) (hji : j ≠ i) (hu : u = y i + w) (hv : v = y j + w ∨ v = y j - w)
    (hn : (t i < t j ∧ n = v - u ∧ d = t j - t i) ∨ (t j < t i ∧ n = u - v ∧ d = t i - t j)) (hf : ∀ k, k < m → y k * d - w * d ≤ u * d + n * (t k - t i) ∧ u * d + n * (t k - t i) ≤ y k * d + w * d) (hx : V * d ≤ (u * d + n * (x - t i)) * D) : Above t y m w x V D := by
  obtain ⟨s, hs, rfl⟩ : ∃ s : Int, (s = 1 ∨ s = -1) ∧ v = y j + s * w := by
    rcases hv with h | h
    · exact ⟨1, .inl rfl, by rw [h, Int.one_mul]⟩
    · exact ⟨-1, .inr rfl, by rw [h]; omega⟩
  have hu1 : u = y i + 1 * w := by rw [hu, Int.one_mul]
  rcases hn with ⟨ht, rfl, rfl⟩ | ⟨ht, rfl, rfl⟩
  · have hij : i < j := by
      rcases Nat.lt_or_ge i j with h | h
      · exact h
      · have := hup j i (by omega) hi; omega
    rw [hu1] at hf hx
    exact ⟨i, j, 1, s, hij, hj, .inl rfl, hs, hf, hx⟩
  · have hij : j < i := by
      rcases Nat.lt_or_ge j i with h | h
      · exact h
      · have := hup i j (by omega) hj; omega
    rw [hu1] at hf hx
    have key : ∀ z, (y j + s * w) * (t i - t j) + (y i + 1 * w - (y j + s * w)) * (z - t j) = (y i + 1 * w) * (t i - t j) + (y i + 1 * w - (y j + s * w)) * (z - t i) := fun z => by grind
    refine ⟨j, i, s, 1, hij, hi, hs, .inl rfl, fun k hk => ?_, ?_⟩
    · rw [key]; exact hf k hk
    · rw [key]; exact hx
theorem corner_up {t y : Nat → Int} {m : Nat} {w A B C D : Int} (hup : ∀ i j, i < j → j < m → t i < t j) (h2 : 2 ≤ m) (w0 : 0 ≤ w) (D0 : 0 < D) (hf : Fit t y m w A B C D) (x : Int) : Above t y m w x (B + C * (x - A)) D := by
  obtain ⟨i, hi, hmin⟩ := amin (fun i => (y i + w) * D - (B + C * (t i - A))) m (by omega)
  have hne : ∀ j, j < m → j ≠ i → t j ≠ t i := fun j hj hji => by
    rcases Nat.lt_or_ge j i with h | h
    · have := hup j i h hi; omega
    · have := hup i j (by omega) hj; omega
  have hex : ∃ j, j < m ∧ j ≠ i := by
    by_cases h : i = 0
    · exact ⟨1, by omega, by omega⟩
    · exact ⟨0, by omega, by omega⟩
  have sh : ∀ a b, C * (a - b) = C * (a - A) - C * (b - A) := fun a b => by grind
  have fi := (hf i hi).2
  have lo : ∀ j, j < m → y j * D - w * D ≤ (y i + w) * D + C * (t j - t i) := fun j hj => by
    have := (hf j hj).1
    rw [sh, Int.add_mul]; omega
  have up : ∀ j, j < m → (y i + w) * D + C * (t j - t i) ≤ y j * D + w * D := fun j hj => by
    have := hmin j hj
    simp only [Int.add_mul] at this
    rw [sh, Int.add_mul]; omega
  have top : B + C * (x - A) ≤ (y i + w) * D + C * (x - t i) := by rw [sh x (t i), Int.add_mul]; omega
  rcases Int.le_total (t i) x with hx | hx
  · obtain ⟨j, hj, hji, v, n, d, d0, hv, hn, hc, hfit⟩ := pivot (u := y i + w) hi hne hex D0 w0 rfl lo up
    refine above_of hup hi hj hji rfl hv hn hfit ?_
    have p := Int.mul_le_mul_of_nonneg_right top (show 0 ≤ d by omega)
    have q := Int.mul_le_mul_of_nonneg_right hc (show 0 ≤ x - t i by omega)
    have e1 : ((y i + w) * D + C * (x - t i)) * d = (y i + w) * d * D + C * d * (x - t i) := by grind
    have e2 : ((y i + w) * d + n * (x - t i)) * D = (y i + w) * d * D + n * D * (x - t i) := by grind
    omega
  · obtain ⟨j, hj, hji, v, n, d, d0, hv, hn, hc, hfit⟩ := pivot (t := fun j => - t j) (C := -C) (u := y i + w) hi (fun j hj hji => by have := hne j hj hji; omega) hex D0 w0 rfl
      (fun j hj => by have := lo j hj; rw [show -C * (- t j - - t i) = C * (t j - t i) by grind]; exact this) (fun j hj => by have := up j hj; rw [show -C * (- t j - - t i) = C * (t j - t i) by grind]; exact this)
    refine above_of (n := -n) (d := d) hup hi hj hji rfl hv ?_ (fun k hk => ?_) ?_
    · rcases hn with ⟨a, b, c⟩ | ⟨a, b, c⟩
      · exact .inr ⟨by omega, by omega, by omega⟩
      · exact .inl ⟨by omega, by omega, by omega⟩
    · have := hfit k hk
      rw [show -n * (t k - t i) = n * (- t k - - t i) by grind]
      exact this
    · have p := Int.mul_le_mul_of_nonneg_right top (show 0 ≤ d by omega)
      have q := Int.mul_le_mul_of_nonneg_right hc (show 0 ≤ t i - x by omega)
      have e1 : ((y i + w) * D + C * (x - t i)) * d = (y i + w) * d * D + -C * d * (t i - x) := by grind
      have e2 : ((y i + w) * d + -n * (x - t i)) * D = (y i + w) * d * D + n * D * (t i - x) := by grind
      omega
end
end Qq
end
section
/- Lines of measurements that are near each other: plain laws. -/
open Go Go.Vm Go.Proofs Sp
namespace Qq
noncomputable section
/-- What a quotient in lowest terms stands for. -/
theorem low_rep {a d : Int} (h : LowIn a d) : lowN a d * d = a * lowD a d ∧ 0 < lowD a d ∧ lowD a d ≤ d ∧ (lowN a d).natAbs ≤ a.natAbs := by
  obtain ⟨g, g0, e1, e2, p, _⟩ := low_spec h.h0 h.h1 h.a0 h.a1
  refine ⟨?_, p, ?_, ?_⟩
  · generalize lowN a d = N at *
    generalize lowD a d = E at *
    subst e1; subst e2
    grind
  · have := Int.mul_le_mul_of_nonneg_left (show 1 ≤ g by omega) (show 0 ≤ lowD a d by omega)
    omega
  · have := Nat.le_mul_of_pos_right (lowN a d).natAbs (show 0 < g.natAbs by omega)
    rw [← Int.natAbs_mul, e1] at this
    exact this
theorem low_ge {a d l : Int} (h : LowIn a d) : l * lowD a d ≤ lowN a d ↔ l * d ≤ a := by
  obtain ⟨g, g0, e1, e2, p, _⟩ := low_spec h.h0 h.h1 h.a0 h.a1
  have e : l * d = l * lowD a d * g := by rw [Int.mul_assoc, e2]
  rw [e, ← show lowN a d * g = a from e1]
  constructor
  · intro h; exact Int.mul_le_mul_of_nonneg_right (by simpa [e1] using h) (by omega)
  · intro h; have := Int.le_of_mul_le_mul_right h g0; simpa [e1] using this
theorem ratio_sum {m L S D X Y : Int} (hL : LowIn L D) (hS : LowIn S D) (h : m * L = Y * D - X * S) : (m * lowN L D) * lowD S D = (Y * lowD S D - X * lowN S D) * lowD L D := by
  obtain ⟨e1, _⟩ := low_rep hL
  obtain ⟨e2, _⟩ := low_rep hS
  have d0 := hL.h0
  generalize lowN L D = a at *
  generalize lowD L D = b at *
  generalize lowN S D = c at *
  generalize lowD S D = d at *
  refine Int.eq_of_mul_eq_mul_right (show D ≠ 0 by omega) ?_
  have h1 : m * a * d * D = m * L * b * d := by
    have : m * a * d * D = m * d * (a * D) := by grind
    rw [this, e1]; grind
  have h2 : (Y * d - X * c) * b * D = (Y * D - X * S) * d * b := by
    have : (Y * d - X * c) * b * D = Y * d * b * D - X * b * (c * D) := by grind
    rw [this, e2]; grind
  rw [h1, h2, h]; grind
theorem ratio_step {A S D : Int} (hA : LowIn A D) (hB : LowIn (A + S) D) (hS : LowIn S D) :
    (lowN (A + S) D * lowD A D - lowN A D * lowD (A + S) D) * lowD S D = lowN S D * (lowD A D * lowD (A + S) D) := by
  obtain ⟨e1, _⟩ := low_rep hA
  obtain ⟨e2, _⟩ := low_rep hB
  obtain ⟨e3, _⟩ := low_rep hS
  have d0 := hA.h0
  generalize lowN A D = a at *
  generalize lowD A D = b at *
  generalize lowN (A + S) D = c at *
  generalize lowD (A + S) D = d at *
  generalize lowN S D = e at *
  generalize lowD S D = f at *
  refine Int.eq_of_mul_eq_mul_right (show D ≠ 0 by omega) ?_
  have h1 : (c * b - a * d) * f * D = (c * D) * b * f - (a * D) * d * f := by grind
  have h2 : e * (b * d) * D = (e * D) * b * d := by grind
  rw [h1, h2, e1, e2, e3]; grind
theorem sum_line (zs : List Int) (off m : Nat) : m * lvl zs off m = sY zs off m * dn zs off m - sX zs off m * slp zs off m := by
  simp only [lvl, slp, dn]; grind
theorem sum_prod (zs : List Int) (off m : Nat) : sX zs off m * lvl zs off m = sXY zs off m * dn zs off m - sXX zs off m * slp zs off m := by
  simp only [lvl, slp, dn]; grind
/-- Measurements near the first one. -/
structure Near (zs : List Int) (off m : Nat) : Prop where
  len : off + m * 2 ≤ zs.length
  few : m ≤ 8
  day : ∀ i, i < m → 0 ≤ zs.getD (off + i * 2) 0 - d0 zs off ∧ zs.getD (off + i * 2) 0 - d0 zs off ≤ 400
  idx : ∀ i, i < m → 0 ≤ zs.getD (off + i * 2 + 1) 0 ∧ zs.getD (off + i * 2 + 1) 0 ≤ 400
theorem Near.sums {zs : List Int} {off m : Nat} (h : Near zs off m) {i : Nat} (hi : i ≤ m) :
    (0 ≤ sX zs off i ∧ sX zs off i ≤ 3200) ∧ (0 ≤ sY zs off i ∧ sY zs off i ≤ 3200) ∧ (0 ≤ sXX zs off i ∧ sXX zs off i ≤ 1280000) ∧ (0 ≤ sXY zs off i ∧ sXY zs off i ≤ 1280000) := by
  have hm := h.few
  have up : ∀ {s B : Int}, 0 ≤ B → 0 ≤ s ∧ s ≤ B * i → 0 ≤ s ∧ s ≤ B * 8 := fun {s B} hB ⟨a, b⟩ => ⟨a, Int.le_trans b (Int.mul_le_mul_of_nonneg_left (by omega) hB)⟩
  refine ⟨up (B := 400) (by omega) (sumP_le h.len (fun j hj => h.day j hj) i hi), up (B := 400) (by omega) (sumP_le h.len (fun j hj => h.idx j hj) i hi), up (B := 160000) (by omega) (sumP_le h.len (fun j hj => ?_) i hi), up (B := 160000) (by omega) (sumP_le h.len (fun j hj => ?_) i hi)⟩
  · obtain ⟨q1, q2⟩ := h.day j hj
    have := mul_in q1 q2 q1 q2
    exact ⟨this.1, by omega⟩
  · obtain ⟨q1, q2⟩ := h.day j hj
    obtain ⟨q3, q4⟩ := h.idx j hj
    have := mul_in q1 q2 q3 q4
    exact ⟨this.1, by omega⟩
theorem Near.line {zs : List Int} {off m : Nat} (h : Near zs off m) : (-4096000000 ≤ lvl zs off m ∧ lvl zs off m ≤ 4096000000) ∧ (-10240000 ≤ slp zs off m ∧ slp zs off m ≤ 10240000) ∧ dn zs off m ≤ 10240000 := by
  obtain ⟨⟨x0, x1⟩, ⟨y0, y1⟩, ⟨p0, p1⟩, ⟨q0, q1⟩⟩ := h.sums (Nat.le_refl m)
  have hm := h.few
  have a1 := mul_in y0 y1 p0 p1
  have a2 := mul_in x0 x1 q0 q1
  have a3 := mul_in (show (0 : Int) ≤ m by omega) (show (m : Int) ≤ 8 by omega) q0 q1
  have a4 := mul_in x0 x1 y0 y1
  have a5 := mul_in (show (0 : Int) ≤ m by omega) (show (m : Int) ≤ 8 by omega) p0 p1
  have a6 := mul_in x0 x1 x0 x1
  simp only [lvl, slp, dn]
  omega
/-- The same days, the indices on a line. -/
noncomputable def lineL (a b z : Int) : List Int → List Int
  | d :: _ :: r => d :: (a + b * (d - z)) :: lineL a b z r
  | _ => []
theorem lineL_len (a b z : Int) : ∀ (N : Nat) (l : List Int), l.length = N * 2 → (lineL a b z l).length = l.length
  | 0, [], _ => rfl
  | N + 1, [_], h => by simp only [List.length_cons, List.length_nil] at h; omega
  | N + 1, u :: v :: r, h => by
    have := lineL_len a b z N r (by simp only [List.length_cons] at h; omega)
    simp only [lineL, List.length_cons, this]
theorem lineL_chk (a b z : Int) : ∀ (l : List Int) (last : Int), mchk l last = 0 → (∀ i, i * 2 + 2 ≤ l.length → 0 ≤ a + b * (l.getD (i * 2) 0 - z) ∧ a + b * (l.getD (i * 2) 0 - z) ≤ 100000) → mchk (lineL a b z l) last = 0
  | [], _, _, _ => rfl
  | [_], _, _, _ => rfl
  | u :: v :: r, last, h, hb => by
    have ih := lineL_chk a b z r u (mchk_cons h).2 fun i hi => by
      have := hb (i + 1) (by simp only [List.length_cons]; omega)
      rw [show (i + 1) * 2 = i * 2 + 1 + 1 by omega] at this
      simpa using this
    have h0 := hb 0 (by simp)
    simp only [Nat.zero_mul, List.getD_cons_zero] at h0
    simp only [mchk, lineL] at h ⊢
    obtain ⟨h1, _⟩ := sel_zero.1 h
    refine sel_zero.2 ⟨fi_zero.2 fun e he => ?_, ih⟩
    have h2 := fi_zero.1 h1
    simp only [List.mem_cons, List.not_mem_nil, or_false] at he
    rcases he with rfl | rfl
    · refine fi_zero.2 fun e he => ?_
      have h3 := fi_zero.1 (h2 (chkM u v) (by simp))
      simp only [List.mem_cons, List.not_mem_nil, or_false] at he
      rcases he with rfl | rfl
      · exact h3 _ (by simp)
      · exact wi_zero.2 h0
    · exact h2 _ (by simp)
theorem lineL_sum (a b z : Int) (g h : Int → Int → Int) (hg : ∀ d x, g d (a + b * (d - z)) = h d x) : ∀ l : List Int, sumP g (lineL a b z l) = sumP h l
  | [] => rfl
  | [_] => rfl
  | u :: v :: r => by simp only [lineL, sumP, lineL_sum a b z g h hg r, hg u v]
theorem sumP_add (g h : Int → Int → Int) : ∀ l : List Int, sumP (fun d x => g d x + h d x) l = sumP g l + sumP h l
  | [] => rfl
  | [_] => rfl
  | u :: v :: r => by simp only [sumP, sumP_add g h r]; omega
theorem sumP_mul (c : Int) (g : Int → Int → Int) : ∀ l : List Int, sumP (fun d x => c * g d x) l = c * sumP g l
  | [] => by simp [sumP]
  | [_] => by simp [sumP]
  | u :: v :: r => by simp only [sumP, sumP_mul c g r, Int.mul_add]
theorem sumP_one (c : Int) : ∀ (N : Nat) (l : List Int), l.length = N * 2 → sumP (fun _ _ => c) l = N * c
  | 0, [], _ => by simp [sumP]
  | N + 1, [_], h => by simp only [List.length_cons, List.length_nil] at h; omega
  | N + 1, u :: v :: r, h => by
    have := sumP_one c N r (by simp only [List.length_cons] at h; omega)
    simp only [sumP, this]
    push_cast
    grind
theorem lineL_d0 (a b z : Int) : ∀ l : List Int, (lineL a b z l).length = l.length → d0 (lineL a b z l) 0 = d0 l 0
  | [], _ => rfl
  | [_], h => by simp [lineL] at h
  | u :: v :: r, _ => rfl
/-- The line of measurements that lie on a line. -/
theorem lineL_line {l : List Int} {m : Nat} (hl : l.length = m * 2) (a b : Int) :
    lvl (lineL a b (d0 l 0) l) 0 m = a * dn l 0 m ∧ slp (lineL a b (d0 l 0) l) 0 m = b * dn l 0 m ∧ dn (lineL a b (d0 l 0) l) 0 m = dn l 0 m ∧ d0 (lineL a b (d0 l 0) l) 0 = d0 l 0 := by
  have hl2 := lineL_len a b (d0 l 0) m l hl
  have e0 := lineL_d0 a b (d0 l 0) l hl2
  have t1 : ((lineL a b (d0 l 0) l).drop 0).take (m * 2) = lineL a b (d0 l 0) l := by rw [List.drop_zero, List.take_of_length_le (by omega)]
  have t2 : (l.drop 0).take (m * 2) = l := by rw [List.drop_zero, List.take_of_length_le (by omega)]
  have x : sX (lineL a b (d0 l 0) l) 0 m = sX l 0 m := by
    simp only [sX, t1, t2, e0]
    exact lineL_sum a b _ _ _ (fun _ _ => rfl) l
  have xx : sXX (lineL a b (d0 l 0) l) 0 m = sXX l 0 m := by
    simp only [sXX, t1, t2, e0]
    exact lineL_sum a b _ _ _ (fun _ _ => rfl) l
  have y : sY (lineL a b (d0 l 0) l) 0 m = m * a + b * sX l 0 m := by
    simp only [sY, sX, t1, t2]
    rw [lineL_sum a b (d0 l 0) (fun _ x => x) (fun d _ => a + b * (d - d0 l 0)) (fun _ _ => rfl) l, sumP_add (fun _ _ => a) (fun d _ => b * (d - d0 l 0)) l, sumP_one a m l hl, sumP_mul b (fun d _ => d - d0 l 0) l]
  have xy : sXY (lineL a b (d0 l 0) l) 0 m = a * sX l 0 m + b * sXX l 0 m := by
    simp only [sXY, sX, sXX, t1, t2, e0]
    rw [lineL_sum a b (d0 l 0) (fun d x => (d - d0 l 0) * x) (fun d _ => a * (d - d0 l 0) + b * ((d - d0 l 0) * (d - d0 l 0))) (fun _ _ => by grind) l, sumP_add (fun d _ => a * (d - d0 l 0)) (fun d _ => b * ((d - d0 l 0) * (d - d0 l 0))) l, sumP_mul a (fun d _ => d - d0 l 0) l,
      sumP_mul b (fun d _ => (d - d0 l 0) * (d - d0 l 0)) l]
  refine ⟨?_, ?_, ?_, e0⟩
  · simp only [lvl, dn, x, xx, y, xy]; grind
  · simp only [slp, dn, x, y, xy]; grind
  · simp only [dn, x, xx]
end
end Qq
end
