/- Parts of the proof: QLR, QLC, QLP, QXP. -/
import Derived.Test.YtaigknknfaeajaaGreatDoorZH
section
/- Quotients in lowest terms, and lines through two points: plain laws. -/
open Go Go.Vm Go.Proofs Sp
namespace Qq
noncomputable section

theorem low_spec {a d : Int} (h0 : 0 < d) (h1 : d < 9223372036854775808) (a0 : -9223372036854775808 < a) (a1 : a < 9223372036854775808) :
    ∃ g : Int, 0 < g ∧ lowN a d * g = a ∧ lowD a d * g = d ∧ 0 < lowD a d ∧ (lowN a d).natAbs.gcd (lowD a d).natAbs = 1 := by
  obtain ⟨g, hg⟩ : ∃ g, g = Nat.gcd a.natAbs d.natAbs := ⟨_, rfl⟩
  have g0 : 0 < g := by rw [hg]; exact Nat.gcd_pos_of_pos_right _ (by omega)
  obtain ⟨x, hx⟩ : (g : Int) ∣ a := by rw [hg]; exact Int.ofNat_dvd_left.2 (Nat.gcd_dvd_left _ _)
  obtain ⟨y, hy⟩ : (g : Int) ∣ d := by rw [hg]; exact Int.ofNat_dvd_left.2 (Nat.gcd_dvd_right _ _)
  have ea : a.natAbs = g * x.natAbs := by rw [hx, Int.natAbs_mul, Int.natAbs_natCast]
  have ed : d.natAbs = g * y.natAbs := by rw [hy, Int.natAbs_mul, Int.natAbs_natCast]
  have bx : x.natAbs ≤ a.natAbs := by rw [ea]; exact Nat.le_mul_of_pos_left _ g0
  have by' : y.natAbs ≤ d.natAbs := by rw [ed]; exact Nat.le_mul_of_pos_left _ g0
  have e1 : lowN a d = x := by
    rw [lowN, ← hg]
    have : a.tdiv (g : Int) = x := by rw [hx]; exact Int.mul_tdiv_cancel_left _ (by omega)
    rw [this, W, wrap_eq (by omega) (by omega)]
  have e2 : lowD a d = y := by
    rw [lowD, ← hg]
    have : d.tdiv (g : Int) = y := by rw [hy]; exact Int.mul_tdiv_cancel_left _ (by omega)
    rw [this, W, wrap_eq (by omega) (by omega)]
  have y0 : 0 < y := by
    by_cases h : 0 < y
    · exact h
    · have := Int.mul_nonneg (show (0 : Int) ≤ g by omega) (show 0 ≤ -y by omega)
      rw [Int.mul_neg] at this
      omega
  have c : x.natAbs.gcd y.natAbs = 1 := by
    rw [ea, ed, Nat.gcd_mul_left] at hg
    exact Nat.eq_of_mul_eq_mul_left g0 (by omega)
  rw [e1, e2]
  exact ⟨g, by omega, by rw [hx, Int.mul_comm], by rw [hy, Int.mul_comm], y0, c⟩

/-- A quotient in lowest terms. -/
structure Low (r : Int × Int) : Prop where
  pos : 0 < r.2
  one : r.1.natAbs.gcd r.2.natAbs = 1
theorem low_cross {r s : Int × Int} (h1 : Low r) (h2 : Low s) (h : r.1 * s.2 = s.1 * r.2) : r = s := by
  have p1 := h1.pos
  have p2 := h2.pos
  have h' : r.1.natAbs * s.2.natAbs = s.1.natAbs * r.2.natAbs := by rw [← Int.natAbs_mul, h, Int.natAbs_mul]
  have d12 : r.2.natAbs ∣ s.2.natAbs := Nat.Coprime.dvd_of_dvd_mul_left (Nat.Coprime.symm h1.one) (by rw [h']; exact Nat.dvd_mul_left _ _)
  have d21 : s.2.natAbs ∣ r.2.natAbs := Nat.Coprime.dvd_of_dvd_mul_left (Nat.Coprime.symm h2.one) (by rw [← h']; exact Nat.dvd_mul_left _ _)
  have e := Nat.dvd_antisymm d12 d21
  have e : r.2 = s.2 := by omega
  rw [e] at h
  exact Prod.ext (Int.eq_of_mul_eq_mul_right (by omega) h) e
noncomputable def low (a d : Int) : Int × Int := (lowN a d, lowD a d)
structure LowIn (a d : Int) : Prop where
  h0 : 0 < d
  h1 : d < 9223372036854775808
  a0 : -9223372036854775808 < a
  a1 : a < 9223372036854775808
theorem LowIn.low {a d : Int} (h : LowIn a d) : Low (low a d) := by
  obtain ⟨g, _, _, _, p, c⟩ := low_spec h.h0 h.h1 h.a0 h.a1
  exact ⟨p, c⟩
theorem low_le {a d b e : Int} (h : LowIn a d) (k : LowIn b e) : (low a d).1 * (low b e).2 ≤ (low b e).1 * (low a d).2 ↔ a * e ≤ b * d := by
  obtain ⟨g, g0, e1, e2, _⟩ := low_spec h.h0 h.h1 h.a0 h.a1
  obtain ⟨g', g0', e3, e4, _⟩ := low_spec k.h0 k.h1 k.a0 k.a1
  have p : 0 < g * g' := Int.mul_pos g0 g0'
  have l : a * e = (low a d).1 * (low b e).2 * (g * g') := by
    simp only [low]
    calc a * e = lowN a d * g * (lowD b e * g') := by rw [e1, e4]
      _ = lowN a d * lowD b e * (g * g') := by grind
  have r : b * d = (low b e).1 * (low a d).2 * (g * g') := by
    simp only [low]
    calc b * d = lowN b e * g' * (lowD a d * g) := by rw [e3, e2]
      _ = lowN b e * lowD a d * (g * g') := by grind
  rw [l, r]
  exact ⟨fun h => Int.mul_le_mul_of_nonneg_right h (by omega), fun h => Int.le_of_mul_le_mul_right h p⟩
theorem low_eq {a d b e : Int} (h : LowIn a d) (k : LowIn b e) : low a d = low b e ↔ a * e = b * d := by
  constructor
  · intro hh
    have h1 := (low_le h k).1 (by rw [hh]; exact Int.le_refl _)
    have h2 := (low_le k h).1 (by rw [hh]; exact Int.le_refl _)
    omega
  · intro hh
    have h1 := (low_le h k).2 (by omega)
    have h2 := (low_le k h).2 (by omega)
    exact low_cross h.low k.low (by omega)
theorem cross_trans {a b c : Int × Int} (ha : 0 < a.2) (hb : 0 < b.2) (hc : 0 < c.2) (h1 : a.1 * b.2 ≤ b.1 * a.2) (h2 : b.1 * c.2 ≤ c.1 * b.2) : a.1 * c.2 ≤ c.1 * a.2 := by
  have k1 := Int.mul_le_mul_of_nonneg_right h1 (show 0 ≤ c.2 by omega)
  have k2 := Int.mul_le_mul_of_nonneg_right h2 (show 0 ≤ a.2 by omega)
  refine Int.le_of_mul_le_mul_right (a := b.2) ?_ hb
  grind
/-- The least of quotients: the first one of them. -/
noncomputable def mnF (m : Int × Int) : List (Int × Int) → Int × Int
  | [] => m
  | x :: r => mnF (if x.1 * m.2 < m.1 * x.2 then x else m) r
noncomputable def mxF (m : Int × Int) : List (Int × Int) → Int × Int
  | [] => m
  | x :: r => mxF (if x.1 * m.2 > m.1 * x.2 then x else m) r
theorem mem_keep {α : Type} {z m y : α} {r : List α} (h : z ∈ m :: r) : z ∈ m :: y :: r := by
  rcases List.mem_cons.1 h with rfl | h
  · exact List.mem_cons_self
  · exact List.mem_cons_of_mem _ (List.mem_cons_of_mem _ h)
theorem mnF_spec : ∀ (l : List (Int × Int)) (m : Int × Int), (∀ x ∈ m :: l, Low x) → mnF m l ∈ m :: l ∧ ∀ x ∈ m :: l, (mnF m l).1 * x.2 ≤ x.1 * (mnF m l).2
  | [], m, _ => ⟨by simp [mnF], fun x hx => by simp at hx; subst hx; exact Int.le_refl _⟩
  | y :: r, m, h => by
    have hm := (h m (by simp)).pos
    have hy := (h y (by simp)).pos
    have sub : ∀ z, z = y ∨ z = m → (∀ x ∈ z :: r, Low x) := fun z hz x hx => by
      rcases List.mem_cons.1 hx with rfl | hx
      · rcases hz with rfl | rfl <;> exact h _ (by simp)
      · exact h _ (by simp [hx])
    simp only [mnF]
    split
    · rename_i hlt
      obtain ⟨a, b⟩ := mnF_spec r y (sub y (.inl rfl))
      have hp := (sub y (.inl rfl) _ a).pos
      refine ⟨List.mem_cons_of_mem _ a, fun x hx => ?_⟩
      rcases List.mem_cons.1 hx with rfl | hx
      · exact cross_trans hp hy hm (b y (by simp)) (by omega)
      · exact b x hx
    · rename_i hlt
      obtain ⟨a, b⟩ := mnF_spec r m (sub m (.inr rfl))
      have hp := (sub m (.inr rfl) _ a).pos
      refine ⟨mem_keep a, fun x hx => ?_⟩
      rcases List.mem_cons.1 hx with rfl | hx
      · exact b x (by simp)
      rcases List.mem_cons.1 hx with rfl | hx
      · exact cross_trans hp hm hy (b m (by simp)) (by omega)
      · exact b x (by simp [hx])
theorem mxF_spec : ∀ (l : List (Int × Int)) (m : Int × Int), (∀ x ∈ m :: l, Low x) → mxF m l ∈ m :: l ∧ ∀ x ∈ m :: l, x.1 * (mxF m l).2 ≤ (mxF m l).1 * x.2
  | [], m, _ => ⟨by simp [mxF], fun x hx => by simp at hx; subst hx; exact Int.le_refl _⟩
  | y :: r, m, h => by
    have hm := (h m (by simp)).pos
    have hy := (h y (by simp)).pos
    have sub : ∀ z, z = y ∨ z = m → (∀ x ∈ z :: r, Low x) := fun z hz x hx => by
      rcases List.mem_cons.1 hx with rfl | hx
      · rcases hz with rfl | rfl <;> exact h _ (by simp)
      · exact h _ (by simp [hx])
    simp only [mxF]
    split
    · rename_i hlt
      obtain ⟨a, b⟩ := mxF_spec r y (sub y (.inl rfl))
      have hp := (sub y (.inl rfl) _ a).pos
      refine ⟨List.mem_cons_of_mem _ a, fun x hx => ?_⟩
      rcases List.mem_cons.1 hx with rfl | hx
      · exact cross_trans hm hy hp (by omega) (b y (by simp))
      · exact b x hx
    · rename_i hlt
      obtain ⟨a, b⟩ := mxF_spec r m (sub m (.inr rfl))
      have hp := (sub m (.inr rfl) _ a).pos
      refine ⟨mem_keep a, fun x hx => ?_⟩
      rcases List.mem_cons.1 hx with rfl | hx
      · exact b x (by simp)
      rcases List.mem_cons.1 hx with rfl | hx
      · exact cross_trans hy hm hp (by omega) (b m (by simp))
      · exact b x (by simp [hx])
theorem mnF_same {a b : Int × Int} {l r : List (Int × Int)} (h : ∀ x ∈ a :: l, Low x) (hh : ∀ x, x ∈ a :: l ↔ x ∈ b :: r) : mnF a l = mnF b r := by
  obtain ⟨p, q⟩ := mnF_spec l a h
  have h' : ∀ x ∈ b :: r, Low x := fun x hx => h x ((hh x).2 hx)
  obtain ⟨p', q'⟩ := mnF_spec r b h'
  have h1 := q _ ((hh _).2 p')
  have h2 := q' _ ((hh _).1 p)
  exact low_cross (h _ p) (h' _ p') (by omega)
theorem mxF_same {a b : Int × Int} {l r : List (Int × Int)} (h : ∀ x ∈ a :: l, Low x) (hh : ∀ x, x ∈ a :: l ↔ x ∈ b :: r) : mxF a l = mxF b r := by
  obtain ⟨p, q⟩ := mxF_spec l a h
  have h' : ∀ x ∈ b :: r, Low x := fun x hx => h x ((hh x).2 hx)
  obtain ⟨p', q'⟩ := mxF_spec r b h'
  have h1 := q _ ((hh _).2 p')
  have h2 := q' _ ((hh _).1 p)
  exact low_cross (h _ p) (h' _ p') (by omega)
end
end Qq
end
section
/- Lines through two measurements, each plus or less an error: as the program lists them, and as the reference does. -/
open Go Go.Vm Go.Proofs Sp
namespace Sp
noncomputable section
/-- A line: a day, the level there, the slope, the denominator. -/
abbrev Ln := Int × Int × Int × Int
noncomputable def lnat (l : Ln) (x : Int) : Int := l.2.1 + l.2.2.1 * (x - l.1)
noncomputable def fitB (w : Int) (l : Ln) : List Int → Bool
  | t :: y :: r => !decide (w * l.2.2.2 < ((lnat l t - y * l.2.2.2).natAbs : Int)) && fitB w l r
  | _ => true
noncomputable def crn (L : List Int) (w : Int) (i k : Nat) (s t : Int) : Ln :=
  (L.getD (i * 2) 0, (L.getD (i * 2 + 1) 0 + s * w) * (L.getD (k * 2) 0 - L.getD (i * 2) 0), (L.getD (k * 2 + 1) 0 + t * w) - (L.getD (i * 2 + 1) 0 + s * w), L.getD (k * 2) 0 - L.getD (i * 2) 0)
noncomputable def sgP : Nat → Int × Int
  | 0 => (1, 1)
  | 1 => (1, -1)
  | 2 => (-1, 1)
  | _ => (-1, -1)
noncomputable def sgR (a : Nat) : Int := 2 * a - 1
noncomputable def fmN {α : Type} (n : Nat) (f : Nat → List α) : List α := (List.range n).flatMap f
noncomputable def oneP (L : List Int) (w : Int) (k i j : Nat) : List Ln :=
  if w = 0 ∧ j ≠ 0 then [] else if fitB w (crn L w i k (sgP j).1 (sgP j).2) L = true then [crn L w i k (sgP j).1 (sgP j).2] else []
noncomputable def outP (L : List Int) (w : Int) (m : Nat) : List Ln := fmN m fun k => fmN k fun i => fmN 4 (oneP L w k i)
noncomputable def cqR (L : List Int) (w : Int) (i k a b : Nat) : Ln := (L.getD (i * 2) 0, L.getD (i * 2 + 1) 0 + sgR a * w, L.getD (k * 2) 0, L.getD (k * 2 + 1) 0 + sgR b * w)
noncomputable def lnOf (c : Ln) : Ln := (c.1, c.2.1 * (c.2.2.1 - c.1), c.2.2.2 - c.2.1, c.2.2.1 - c.1)
noncomputable def oneR (L : List Int) (w : Int) (i k a b : Nat) : List Ln := if fitB w (lnOf (cqR L w i k a b)) L = true then [cqR L w i k a b] else []
noncomputable def outR (L : List Int) (w : Int) (m : Nat) : List Ln := fmN m fun i => fmN (m - (i + 1)) fun k => fmN 2 fun a => fmN 2 fun b => oneR L w i (i + 1 + k) a b
/-- The cells of lines. -/
noncomputable def fl4 : List Ln → List Int
  | [] => []
  | l :: r => l.1 :: l.2.1 :: l.2.2.1 :: l.2.2.2 :: fl4 r
end
end Sp
namespace Qq
noncomputable section
theorem mem_fmN {α : Type} {n : Nat} {f : Nat → List α} {x : α} : x ∈ fmN n f ↔ ∃ i, i < n ∧ x ∈ f i := by
  simp [fmN, List.mem_flatMap]
theorem fmN_succ {α : Type} (n : Nat) (f : Nat → List α) : fmN (n + 1) f = fmN n f ++ f n := by
  simp [fmN, List.range_succ]
theorem fmN_zero {α : Type} (f : Nat → List α) : fmN 0 f = [] := rfl
theorem fl4_app : ∀ l r : List Ln, fl4 (l ++ r) = fl4 l ++ fl4 r
  | [], _ => rfl
  | a :: l, r => by simp only [List.cons_append, fl4, fl4_app l r]
theorem fl4_len : ∀ l : List Ln, (fl4 l).length = l.length * 4
  | [] => rfl
  | a :: l => by simp only [fl4, List.length_cons, fl4_len l]; omega
theorem fl4_get : ∀ (l : List Ln) (i : Nat) (h : i < l.length), (fl4 l).getD (i * 4) 0 = (l[i]).1 ∧ (fl4 l).getD (i * 4 + 1) 0 = (l[i]).2.1 ∧ (fl4 l).getD (i * 4 + 2) 0 = (l[i]).2.2.1 ∧ (fl4 l).getD (i * 4 + 3) 0 = (l[i]).2.2.2
  | [], i, h => by simp at h
  | a :: l, 0, _ => ⟨rfl, rfl, rfl, rfl⟩
  | a :: l, i + 1, h => by
    have := fl4_get l i (by simpa using h)
    have e : (i + 1) * 4 = i * 4 + 1 + 1 + 1 + 1 := by omega
    rw [e]
    exact this
theorem lnOf_cq (L : List Int) (w : Int) (i k a b : Nat) : lnOf (cqR L w i k a b) = crn L w i k (sgR a) (sgR b) := rfl
theorem crn_zero (L : List Int) (i k : Nat) (s t s' t' : Int) : crn L 0 i k s t = crn L 0 i k s' t' := by
  simp [crn]
theorem mem_outP {L : List Int} {w : Int} {m : Nat} {l : Ln} : l ∈ outP L w m ↔ ∃ k, k < m ∧ ∃ i, i < k ∧ ∃ j, j < 4 ∧ ¬ (w = 0 ∧ j ≠ 0) ∧ fitB w (crn L w i k (sgP j).1 (sgP j).2) L = true ∧ l = crn L w i k (sgP j).1 (sgP j).2 := by
  simp only [outP, mem_fmN]
  refine exists_congr fun k => and_congr_right fun _ => exists_congr fun i => and_congr_right fun _ => exists_congr fun j => and_congr_right fun _ => ?_
  simp only [oneP]
  split
  · rename_i h; simp [h]
  · rename_i h
    split
    · rename_i h2; simp [h, h2]
    · rename_i h2; simp [h2]
theorem mem_outR {L : List Int} {w : Int} {m : Nat} {l : Ln} : l ∈ (outR L w m).map lnOf ↔ ∃ i, i < m ∧ ∃ k, k < m - (i + 1) ∧ ∃ a, a < 2 ∧ ∃ b, b < 2 ∧ fitB w (crn L w i (i + 1 + k) (sgR a) (sgR b)) L = true ∧ l = crn L w i (i + 1 + k) (sgR a) (sgR b) := by
  simp only [List.mem_map, outR, mem_fmN, oneR]
  constructor
  · rintro ⟨c, ⟨i, hi, k, hk, a, ha, b, hb, hc⟩, rfl⟩
    refine ⟨i, hi, k, hk, a, ha, b, hb, ?_⟩
    split at hc
    · rename_i h
      simp only [List.mem_singleton] at hc
      subst hc
      exact ⟨h, rfl⟩
    · cases hc
  · rintro ⟨i, hi, k, hk, a, ha, b, hb, hf, rfl⟩
    refine ⟨cqR L w i (i + 1 + k) a b, ⟨i, hi, k, hk, a, ha, b, hb, ?_⟩, rfl⟩
    rw [if_pos (by rw [lnOf_cq]; exact hf)]
    exact List.mem_singleton.2 rfl
/-- Both list the same lines. -/
theorem out_same {L : List Int} {w : Int} {m : Nat} {l : Ln} : l ∈ outP L w m ↔ l ∈ (outR L w m).map lnOf := by
  rw [mem_outP, mem_outR]
  constructor
  · rintro ⟨k, hk, i, hi, j, hj, _, hf, rfl⟩
    have e : i + 1 + (k - i - 1) = k := by omega
    have go : ∀ a b : Nat, a < 2 → b < 2 → (sgP j).1 = sgR a → (sgP j).2 = sgR b → _ := fun a b ha hb h1 h2 =>
      (⟨i, by omega, k - i - 1, by omega, a, ha, b, hb, by rw [e, ← h1, ← h2]; exact ⟨hf, rfl⟩⟩ : ∃ i', i' < m ∧ ∃ k', k' < m - (i' + 1) ∧ ∃ a, a < 2 ∧ ∃ b, b < 2 ∧ fitB w (crn L w i' (i' + 1 + k') (sgR a) (sgR b)) L = true ∧ crn L w i k (sgP j).1 (sgP j).2 = crn L w i' (i' + 1 + k') (sgR a) (sgR b))
    match j, hj with
    | 0, _ => exact go 1 1 (by omega) (by omega) rfl rfl
    | 1, _ => exact go 1 0 (by omega) (by omega) rfl rfl
    | 2, _ => exact go 0 1 (by omega) (by omega) rfl rfl
    | 3, _ => exact go 0 0 (by omega) (by omega) rfl rfl
  · rintro ⟨i, hi, k, hk, a, ha, b, hb, hf, rfl⟩
    refine ⟨i + 1 + k, by omega, i, by omega, ?_⟩
    by_cases hw : w = 0
    · subst hw
      refine ⟨0, by omega, by simp, ?_, crn_zero ..⟩
      rw [crn_zero L i (i + 1 + k) (sgP 0).1 (sgP 0).2 (sgR a) (sgR b)]
      exact hf
    · have go : ∀ j, j < 4 → (sgP j).1 = sgR a → (sgP j).2 = sgR b → ∃ j, j < 4 ∧ ¬ (w = 0 ∧ j ≠ 0) ∧ fitB w (crn L w i (i + 1 + k) (sgP j).1 (sgP j).2) L = true ∧ crn L w i (i + 1 + k) (sgR a) (sgR b) = crn L w i (i + 1 + k) (sgP j).1 (sgP j).2 := fun j hj h1 h2 =>
        ⟨j, hj, fun h => hw h.1, by rw [h1, h2]; exact ⟨hf, rfl⟩⟩
      match a, b, ha, hb with
      | 1, 1, _, _ => exact go 0 (by omega) rfl rfl
      | 1, 0, _, _ => exact go 1 (by omega) rfl rfl
      | 0, 1, _, _ => exact go 2 (by omega) rfl rfl
      | 0, 0, _, _ => exact go 3 (by omega) rfl rfl
end
end Qq
end
section
/- A line that fits lies, on any day, between lines through two measurements: plain laws. -/
open Go Go.Vm Go.Proofs Sp
namespace Qq
noncomputable section
end
end Qq
end
section
/- Lines of measurements that are near each other: plain laws. -/
open Go Go.Vm Go.Proofs Sp
namespace Qq
noncomputable section
/-- What a quotient in lowest terms stands for. -/
theorem low_rep {a d : Int} (h : LowIn a d) : lowN a d * d = a * lowD a d ∧ 0 < lowD a d ∧ lowD a d ≤ d ∧ (lowN a d).natAbs ≤ a.natAbs := by
  obtain ⟨g, g0, e1, e2, p, _⟩ := low_spec h.h0 h.h1 h.a0 h.a1
  refine ⟨?_, p, ?_, ?_⟩
  · generalize lowN a d = N at *
    generalize lowD a d = E at *
    subst e1; subst e2
    grind
  · have := Int.mul_le_mul_of_nonneg_left (show 1 ≤ g by omega) (show 0 ≤ lowD a d by omega)
    omega
  · have := Nat.le_mul_of_pos_right (lowN a d).natAbs (show 0 < g.natAbs by omega)
    rw [← Int.natAbs_mul, e1] at this
    exact this
/-- Measurements near the first one. -/
structure Near (zs : List Int) (off m : Nat) : Prop where
  len : off + m * 2 ≤ zs.length
  few : m ≤ 8
  day : ∀ i, i < m → 0 ≤ zs.getD (off + i * 2) 0 - d0 zs off ∧ zs.getD (off + i * 2) 0 - d0 zs off ≤ 400
  idx : ∀ i, i < m → 0 ≤ zs.getD (off + i * 2 + 1) 0 ∧ zs.getD (off + i * 2 + 1) 0 ≤ 400
theorem Near.sums {zs : List Int} {off m : Nat} (h : Near zs off m) {i : Nat} (hi : i ≤ m) :
    (0 ≤ sX zs off i ∧ sX zs off i ≤ 3200) ∧ (0 ≤ sY zs off i ∧ sY zs off i ≤ 3200) ∧ (0 ≤ sXX zs off i ∧ sXX zs off i ≤ 1280000) ∧ (0 ≤ sXY zs off i ∧ sXY zs off i ≤ 1280000) := by
  have hm := h.few
  have up : ∀ {s B : Int}, 0 ≤ B → 0 ≤ s ∧ s ≤ B * i → 0 ≤ s ∧ s ≤ B * 8 := fun {s B} hB ⟨a, b⟩ => ⟨a, Int.le_trans b (Int.mul_le_mul_of_nonneg_left (by omega) hB)⟩
  refine ⟨up (B := 400) (by omega) (sumP_le h.len (fun j hj => h.day j hj) i hi), up (B := 400) (by omega) (sumP_le h.len (fun j hj => h.idx j hj) i hi), up (B := 160000) (by omega) (sumP_le h.len (fun j hj => ?_) i hi), up (B := 160000) (by omega) (sumP_le h.len (fun j hj => ?_) i hi)⟩
  · obtain ⟨q1, q2⟩ := h.day j hj
    have := mul_in q1 q2 q1 q2
    exact ⟨this.1, by omega⟩
  · obtain ⟨q1, q2⟩ := h.day j hj
    obtain ⟨q3, q4⟩ := h.idx j hj
    have := mul_in q1 q2 q3 q4
    exact ⟨this.1, by omega⟩
theorem Near.line {zs : List Int} {off m : Nat} (h : Near zs off m) : (-4096000000 ≤ lvl zs off m ∧ lvl zs off m ≤ 4096000000) ∧ (-10240000 ≤ slp zs off m ∧ slp zs off m ≤ 10240000) ∧ dn zs off m ≤ 10240000 := by
  obtain ⟨⟨x0, x1⟩, ⟨y0, y1⟩, ⟨p0, p1⟩, ⟨q0, q1⟩⟩ := h.sums (Nat.le_refl m)
  have hm := h.few
  have a1 := mul_in y0 y1 p0 p1
  have a2 := mul_in x0 x1 q0 q1
  have a3 := mul_in (show (0 : Int) ≤ m by omega) (show (m : Int) ≤ 8 by omega) q0 q1
  have a4 := mul_in x0 x1 y0 y1
  have a5 := mul_in (show (0 : Int) ≤ m by omega) (show (m : Int) ≤ 8 by omega) p0 p1
  have a6 := mul_in x0 x1 x0 x1
  simp only [lvl, slp, dn]
  omega
end
end Qq
end
