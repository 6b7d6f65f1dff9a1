/- The law about bounds: plain facts. -/
import Derived.Test.YtaigknknfaeajaaGreatDoorZQ
import Derived.Test.YtaigknknfaeajaaGreatDoorQXE
open Go Go.Vm Go.Proofs Sp
namespace Qq
noncomputable section
/-- A line misses none of the points by more than an error. -/
noncomputable def FitL (P : List Int) (m : Nat) (w : Int) (l : Ln) : Prop := Fit (fun i => P.getD (i * 2) 0) (fun i => P.getD (i * 2 + 1) 0) m w l.1 l.2.1 l.2.2.1 l.2.2.2
/-- Points whose days rise. -/
structure Ups (P : List Int) (m : Nat) : Prop where
  len : P.length = m * 2
  up : ∀ i j, i < j → j < m → P.getD (i * 2) 0 < P.getD (j * 2) 0
  two : 2 ≤ m
section
variable {P : List Int} {m : Nat}
theorem fit_from (hl : P.length = m * 2) (w : Int) (l : Ln) : ∀ (r i : Nat), i + r = m → (fitB w l (P.drop (i * 2)) = true ↔ ∀ j, i ≤ j → j < m → P.getD (j * 2 + 1) 0 * l.2.2.2 - w * l.2.2.2 ≤ lnat l (P.getD (j * 2) 0) ∧ lnat l (P.getD (j * 2) 0) ≤ P.getD (j * 2 + 1) 0 * l.2.2.2 + w * l.2.2.2)
  | 0, i, h => by
    rw [List.drop_eq_nil_of_le (by omega)]
    exact ⟨fun _ j _ _ => by omega, fun _ => rfl⟩
  | r + 1, i, h => by
    rw [fitB_at w l (by omega), Bool.and_eq_true, fit_from hl w l r (i + 1) (by omega), Bool.not_eq_true', decide_eq_false_iff_not]
    constructor
    · intro ⟨h1, h2⟩ j hj hm
      by_cases e : j = i
      · subst e; omega
      · exact h2 j (by omega) hm
    · intro h1
      have := h1 i (Nat.le_refl _) (by omega)
      exact ⟨by omega, fun j hj hm => h1 j (by omega) hm⟩
theorem fitB_iff (hl : P.length = m * 2) (w : Int) (l : Ln) : fitB w l P = true ↔ FitL P m w l := by
  have h := fit_from hl w l m 0 (by omega)
  rw [Nat.zero_mul, List.drop_zero] at h
  rw [h]
  exact ⟨fun h i hi => h i (Nat.zero_le _) hi, fun h j _ hj => h j hj⟩
theorem FitL.mono {w w' : Int} {l : Ln} (h : FitL P m w l) (D0 : 0 < l.2.2.2) (hw : w ≤ w') : FitL P m w' l := fun i hi => by
  have h1 := h i hi
  have h2 := Int.mul_le_mul_of_nonneg_right hw (show 0 ≤ l.2.2.2 by omega)
  omega
theorem sg_of {s s' : Int} (h : s = 1 ∨ s = -1) (h' : s' = 1 ∨ s' = -1) : ∃ j, j < 4 ∧ sgP j = (s, s') := by
  rcases h with rfl | rfl <;> rcases h' with rfl | rfl
  · exact ⟨0, by omega, rfl⟩
  · exact ⟨1, by omega, rfl⟩
  · exact ⟨2, by omega, rfl⟩
  · exact ⟨3, by omega, rfl⟩
/-- A line through two points that fits is one of the corners. -/
theorem crn_mem (hP : Ups P m) {w s s' : Int} {i k : Nat} (hi : i < k) (hk : k < m) (hs : s = 1 ∨ s = -1) (hs' : s' = 1 ∨ s' = -1) (hf : FitL P m w (crn P w i k s s')) : crn P w i k s s' ∈ outP P w m := by
  by_cases hw : w = 0
  · subst hw
    have e : crn P 0 i k s s' = crn P 0 i k (sgP 0).1 (sgP 0).2 := crn_zero P i k s s' _ _
    rw [e] at hf ⊢
    exact mem_outP.2 ⟨k, hk, i, hi, 0, by omega, by omega, (fitB_iff hP.len _ _).2 hf, rfl⟩
  · obtain ⟨j, hj, e⟩ := sg_of hs hs'
    have e1 : s = (sgP j).1 := by rw [e]
    have e2 : s' = (sgP j).2 := by rw [e]
    rw [e1, e2] at hf ⊢
    exact mem_outP.2 ⟨k, hk, i, hi, j, hj, by omega, (fitB_iff hP.len _ _).2 hf, rfl⟩
theorem q_fit (hP : Ups P m) {w : Int} {c : Ln} (hc : c ∈ outP P w m) : FitL P m w c ∧ 0 < c.2.2.2 := by
  obtain ⟨k, hk, i, hi, j, hj, _, hf, rfl⟩ := mem_outP.1 hc
  refine ⟨(fitB_iff hP.len _ _).1 hf, ?_⟩
  have := hP.up i k hi hk
  simp only [crn]
  omega
theorem q_up (hP : Ups P m) {w : Int} (w0 : 0 ≤ w) {l : Ln} (D0 : 0 < l.2.2.2) (hf : FitL P m w l) (x : Int) : ∃ c ∈ outP P w m, lnat l x * c.2.2.2 ≤ lnat c x * l.2.2.2 := by
  obtain ⟨i, k, s, s', hi, hk, hs, hs', hfit, hv⟩ := corner_up hP.up hP.two w0 D0 hf x
  exact ⟨crn P w i k s s', crn_mem hP hi hk hs hs' hfit, hv⟩
theorem neg_sg {s : Int} (h : s = 1 ∨ s = -1) : -s = 1 ∨ -s = -1 := by omega
theorem q_dn (hP : Ups P m) {w : Int} (w0 : 0 ≤ w) {l : Ln} (D0 : 0 < l.2.2.2) (hf : FitL P m w l) (x : Int) : ∃ c ∈ outP P w m, lnat c x * l.2.2.2 ≤ lnat l x * c.2.2.2 := by
  have hn : Fit (fun i => P.getD (i * 2) 0) (fun i => - P.getD (i * 2 + 1) 0) m w l.1 (-l.2.1) (-l.2.2.1) l.2.2.2 := fun i hi => by
    have := hf i hi
    simp only [Int.neg_mul] at this ⊢
    omega
  obtain ⟨i, k, s, s', hi, hk, hs, hs', hfit, hv⟩ := corner_up hP.up hP.two w0 D0 hn x
  have e1 : - P.getD (i * 2 + 1) 0 + s * w = -(P.getD (i * 2 + 1) 0 + -s * w) := by rw [Int.neg_mul]; omega
  have e2 : - P.getD (k * 2 + 1) 0 + s' * w = -(P.getD (k * 2 + 1) 0 + -s' * w) := by rw [Int.neg_mul]; omega
  have e3 : ∀ a b : Int, -a - -b = -(a - b) := fun a b => by omega
  rw [e1, e2, e3] at hfit hv
  simp only [Int.neg_mul] at hfit hv
  refine ⟨crn P w i k (-s) (-s'), crn_mem hP hi hk (neg_sg hs) (neg_sg hs') (fun j hj => ?_), ?_⟩
  · have := hfit j hj
    simp only [crn, Int.neg_mul] at this ⊢
    omega
  · simp only [crn, lnat, Int.neg_mul, Int.add_mul] at hv ⊢
    omega
theorem q_some (hP : Ups P m) {w : Int} (w0 : 0 ≤ w) {l : Ln} (D0 : 0 < l.2.2.2) (hf : FitL P m w l) : 0 < (outP P w m).length := by
  obtain ⟨c, hc, _⟩ := q_up hP w0 D0 hf 0
  exact List.length_pos_of_mem hc
/-- Two points always have a line. -/
theorem q_two (hP : Ups P m) (h2 : m = 2) {w : Int} (w0 : 0 ≤ w) : 0 < (outP P w m).length := by
  have hu := hP.up 0 1 (by omega) (by omega)
  refine q_some hP w0 (l := (P.getD (0 * 2) 0, P.getD (0 * 2 + 1) 0 * (P.getD (1 * 2) 0 - P.getD (0 * 2) 0), P.getD (1 * 2 + 1) 0 - P.getD (0 * 2 + 1) 0, P.getD (1 * 2) 0 - P.getD (0 * 2) 0)) (by simp only; omega) (fun i hi => ?_)
  have hw := Int.mul_nonneg w0 (show 0 ≤ P.getD (1 * 2) 0 - P.getD (0 * 2) 0 by omega)
  have hi2 : i = 0 ∨ i = 1 := by omega
  rcases hi2 with rfl | rfl
  · simp only [Int.sub_self, Int.mul_zero]
    omega
  · simp only [Int.sub_mul]
    simp only [Int.mul_sub] at hw ⊢
    omega
theorem q_wide (hP : Ups P m) {w : Int} (w0 : 0 ≤ w) (h : 0 < (outP P w m).length) : 0 < (outP P (w + 1) m).length := by
  obtain ⟨c, hc⟩ := List.exists_mem_of_length_pos h
  obtain ⟨h1, h2⟩ := q_fit hP hc
  exact q_some hP (show 0 ≤ w + 1 by omega) h2 (h1.mono h2 (by omega))
end
/-- The least and the greatest one of values. -/
theorem mn_mem {Q : List Ln} {x : Int} (hq : allLn Q x) (h0 : 0 < Q.length) : (∃ c ∈ Q, mnL (vals Q x) = low (lnat c x) c.2.2.2) ∧ (∀ c ∈ Q, (mnL (vals Q x)).1 * c.2.2.2 ≤ lnat c x * (mnL (vals Q x)).2) ∧ 0 < (mnL (vals Q x)).2 := by
  have e1 := getD_drop1 (z := ((0 : Int), (0 : Int))) (l := vals Q x) (by rw [vals, List.length_map]; exact h0)
  have hlow : ∀ r ∈ vals Q x, Low r := fun r hr => by
    obtain ⟨l, hl, rfl⟩ := List.mem_map.1 hr
    exact (hq l hl).low.low
  obtain ⟨s1, s2⟩ := mnF_spec ((vals Q x).drop 1) ((vals Q x).getD 0 (0, 0)) (by rw [← e1]; exact hlow)
  rw [← e1] at s1 s2
  have s1 : mnL (vals Q x) ∈ vals Q x := s1
  have s2 : ∀ r ∈ vals Q x, (mnL (vals Q x)).1 * r.2 ≤ r.1 * (mnL (vals Q x)).2 := s2
  have hp := (hlow _ s1).pos
  refine ⟨?_, fun c hc => ?_, hp⟩
  · obtain ⟨c, hc, e⟩ := List.mem_map.1 s1
    exact ⟨c, hc, e.symm⟩
  · have h1 := s2 _ (List.mem_map.2 ⟨c, hc, rfl⟩)
    obtain ⟨r1, r2, _⟩ := low_rep (hq c hc).low
    have d0 := (hq c hc).low.h0
    exact cross_trans (a := mnL (vals Q x)) (b := low (lnat c x) c.2.2.2) (c := (lnat c x, c.2.2.2)) hp r2 d0 h1 (by simp only [low]; omega)
theorem mx_mem {Q : List Ln} {x : Int} (hq : allLn Q x) (h0 : 0 < Q.length) : (∃ c ∈ Q, mxR (vals Q x) = low (lnat c x) c.2.2.2) ∧ (∀ c ∈ Q, lnat c x * (mxR (vals Q x)).2 ≤ (mxR (vals Q x)).1 * c.2.2.2) ∧ 0 < (mxR (vals Q x)).2 := by
  have e1 := getD_drop1 (z := ((0 : Int), (0 : Int))) (l := vals Q x) (by rw [vals, List.length_map]; exact h0)
  have hlow : ∀ r ∈ vals Q x, Low r := fun r hr => by
    obtain ⟨l, hl, rfl⟩ := List.mem_map.1 hr
    exact (hq l hl).low.low
  obtain ⟨s1, s2⟩ := mxF_spec ((vals Q x).drop 1) ((vals Q x).getD 0 (0, 0)) (by rw [← e1]; exact hlow)
  rw [← e1] at s1 s2
  have s1 : mxR (vals Q x) ∈ vals Q x := s1
  have s2 : ∀ r ∈ vals Q x, r.1 * (mxR (vals Q x)).2 ≤ (mxR (vals Q x)).1 * r.2 := s2
  have hp := (hlow _ s1).pos
  refine ⟨?_, fun c hc => ?_, hp⟩
  · obtain ⟨c, hc, e⟩ := List.mem_map.1 s1
    exact ⟨c, hc, e.symm⟩
  · have h1 := s2 _ (List.mem_map.2 ⟨c, hc, rfl⟩)
    obtain ⟨r1, r2, _⟩ := low_rep (hq c hc).low
    have d0 := (hq c hc).low.h0
    exact cross_trans (a := (lnat c x, c.2.2.2)) (b := low (lnat c x) c.2.2.2) (c := mxR (vals Q x)) d0 r2 hp (by simp only [low]; omega) h1
section
variable {P : List Int} {m : Nat} {w x : Int}
theorem r_line (hP : Ups P m) (w0 : 0 ≤ w) (hq : allLn (outP P w m) x) (h0 : 0 < (outP P w m).length) {l : Ln} (D0 : 0 < l.2.2.2) (hf : FitL P m w l) :
    (mnL (vals (outP P w m) x)).1 * l.2.2.2 ≤ lnat l x * (mnL (vals (outP P w m) x)).2 ∧ lnat l x * (mxR (vals (outP P w m) x)).2 ≤ (mxR (vals (outP P w m) x)).1 * l.2.2.2 := by
  obtain ⟨_, n1, n2⟩ := mn_mem hq h0
  obtain ⟨_, x1, x2⟩ := mx_mem hq h0
  obtain ⟨c, hc, h1⟩ := q_dn hP w0 D0 hf x
  obtain ⟨c', hc', h2⟩ := q_up hP w0 D0 hf x
  exact ⟨cross_trans (b := (lnat c x, c.2.2.2)) (c := (lnat l x, l.2.2.2)) n2 (q_fit hP hc).2 D0 (n1 c hc) h1, cross_trans (a := (lnat l x, l.2.2.2)) (b := (lnat c' x, c'.2.2.2)) D0 (q_fit hP hc').2 x2 h2 (x1 c' hc')⟩
theorem r_order (hP : Ups P m) (hq : allLn (outP P w m) x) (h0 : 0 < (outP P w m).length) : (mnL (vals (outP P w m) x)).1 * (mxR (vals (outP P w m) x)).2 ≤ (mxR (vals (outP P w m) x)).1 * (mnL (vals (outP P w m) x)).2 := by
  obtain ⟨_, n1, n2⟩ := mn_mem hq h0
  obtain ⟨_, x1, x2⟩ := mx_mem hq h0
  obtain ⟨c, hc⟩ := List.exists_mem_of_length_pos h0
  exact cross_trans (b := (lnat c x, c.2.2.2)) n2 (q_fit hP hc).2 x2 (n1 c hc) (x1 c hc)
theorem r_wide (hP : Ups P m) (w0 : 0 ≤ w) (hq : allLn (outP P w m) x) (hq' : allLn (outP P (w + 1) m) x) (h0 : 0 < (outP P w m).length) :
    (mnL (vals (outP P (w + 1) m) x)).1 * (mnL (vals (outP P w m) x)).2 ≤ (mnL (vals (outP P w m) x)).1 * (mnL (vals (outP P (w + 1) m) x)).2 ∧
    (mxR (vals (outP P w m) x)).1 * (mxR (vals (outP P (w + 1) m) x)).2 ≤ (mxR (vals (outP P (w + 1) m) x)).1 * (mxR (vals (outP P w m) x)).2 := by
  have h1 := q_wide hP w0 h0
  obtain ⟨⟨c, hc, e⟩, _, n2⟩ := mn_mem hq h0
  obtain ⟨⟨c', hc', e'⟩, _, x2⟩ := mx_mem hq h0
  obtain ⟨f1, f2⟩ := q_fit hP hc
  obtain ⟨f1', f2'⟩ := q_fit hP hc'
  obtain ⟨_, _, n3⟩ := mn_mem hq' h1
  obtain ⟨_, _, x3⟩ := mx_mem hq' h1
  have g1 := (r_line hP (show 0 ≤ w + 1 by omega) hq' h1 f2 (f1.mono f2 (by omega))).1
  have g2 := (r_line hP (show 0 ≤ w + 1 by omega) hq' h1 f2' (f1'.mono f2' (by omega))).2
  obtain ⟨r1, r2, _⟩ := low_rep (hq c hc).low
  obtain ⟨r1', r2', _⟩ := low_rep (hq c' hc').low
  constructor
  · rw [e] at n2 ⊢
    exact cross_trans (b := (lnat c x, c.2.2.2)) (c := low (lnat c x) c.2.2.2) n3 f2 n2 g1 (by simp only [low]; omega)
  · rw [e'] at x2 ⊢
    exact cross_trans (a := low (lnat c' x) c'.2.2.2) (b := (lnat c' x, c'.2.2.2)) x2 f2' x3 (by simp only [low]; omega) g2
theorem low_up {a d l : Int} (h : LowIn a d) : lowN a d ≤ l * lowD a d ↔ a ≤ l * d := by
  obtain ⟨g, g0, e1, e2, p, _⟩ := low_spec h.h0 h.h1 h.a0 h.a1
  have e : l * d = l * lowD a d * g := by rw [Int.mul_assoc, e2]
  rw [e, ← show lowN a d * g = a from e1]
  constructor
  · intro h; exact Int.mul_le_mul_of_nonneg_right (by simpa [e1] using h) (by omega)
  · intro h; have := Int.le_of_mul_le_mul_right h g0; simpa [e1] using this
theorem r_point (hP : Ups P m) {i : Nat} (hi : i < m) (hq : allLn (outP P w m) (P.getD (i * 2) 0)) (h0 : 0 < (outP P w m).length) :
    (P.getD (i * 2 + 1) 0 - w) * (mnL (vals (outP P w m) (P.getD (i * 2) 0))).2 ≤ (mnL (vals (outP P w m) (P.getD (i * 2) 0))).1 ∧
    (mxR (vals (outP P w m) (P.getD (i * 2) 0))).1 ≤ (P.getD (i * 2 + 1) 0 + w) * (mxR (vals (outP P w m) (P.getD (i * 2) 0))).2 := by
  obtain ⟨⟨c, hc, e⟩, _⟩ := mn_mem hq h0
  obtain ⟨⟨c', hc', e'⟩, _⟩ := mx_mem hq h0
  have h1 := ((q_fit hP hc).1 i hi).1
  have h2 := ((q_fit hP hc').1 i hi).2
  rw [e, e']
  refine ⟨(low_ge (hq c hc).low).2 ?_, (low_up (hq c' hc').low).2 ?_⟩
  · rw [Int.sub_mul]; exact h1
  · rw [Int.add_mul]; exact h2
end
/-- The day on which a line reaches a limit. -/
theorem ln_reach {l : Ln} {lim f : Int} (h : lnB l lim f = true) (f1 : f ≤ 100000) : f ≤ lnN l lim f ∧ lnN l lim f ≤ 100000 ∧ lim * l.2.2.2 ≤ lnat l (lnN l lim f) := by
  simp only [lnB, rcB] at h
  simp only [lnN, rcN]
  have es : rcS l.1 l.2.1 l.2.2.1 l.2.2.2 lim f = lim * l.2.2.2 - lnat l f := rfl
  by_cases h1 : rcS l.1 l.2.1 l.2.2.1 l.2.2.2 lim f ≤ 0
  · rw [if_pos h1]
    exact ⟨Int.le_refl _, f1, by omega⟩
  · by_cases hc : l.2.2.1 ≤ 0
    · simp [h1, hc] at h
    · rw [if_neg h1, if_neg hc]
      simp only [h1, hc, decide_false, Bool.false_or, Bool.not_false, Bool.true_and, decide_eq_true_eq] at h
      have h2 : (-rcS l.1 l.2.1 l.2.2.1 l.2.2.2 lim f) / l.2.2.1 ≤ 0 := Int.ediv_nonpos_of_nonpos_of_neg (by omega) (by omega)
      have h3 := Int.ediv_mul_le (-rcS l.1 l.2.1 l.2.2.1 l.2.2.2 lim f) (show l.2.2.1 ≠ 0 by omega)
      refine ⟨by omega, h, ?_⟩
      generalize (-rcS l.1 l.2.1 l.2.2.1 l.2.2.2 lim f) / l.2.2.1 = q at *
      have e : lnat l (f - q) = lnat l f - q * l.2.2.1 := by simp only [lnat]; grind
      rw [e]
      omega
theorem ln_first {l : Ln} {lim f x : Int} (hf : f ≤ x) (hx : x ≤ 100000) (h : lim * l.2.2.2 ≤ lnat l x) : lnB l lim f = true ∧ lnN l lim f ≤ x := by
  simp only [lnB, rcB, lnN, rcN]
  have es : rcS l.1 l.2.1 l.2.2.1 l.2.2.2 lim f = lim * l.2.2.2 - lnat l f := rfl
  have ex : lnat l x = lnat l f + l.2.2.1 * (x - f) := by simp only [lnat]; grind
  by_cases h1 : rcS l.1 l.2.1 l.2.2.1 l.2.2.2 lim f ≤ 0
  · rw [if_pos h1, decide_eq_true h1]
    exact ⟨rfl, hf⟩
  · have hc : ¬ l.2.2.1 ≤ 0 := fun hc => by
      have := Int.mul_nonneg (show 0 ≤ - l.2.2.1 by omega) (show 0 ≤ x - f by omega)
      rw [Int.neg_mul] at this
      omega
    have h2 : f - (-rcS l.1 l.2.1 l.2.2.1 l.2.2.2 lim f) / l.2.2.1 ≤ x := by
      have := Int.le_ediv_of_mul_le (c := l.2.2.1) (a := f - x) (b := -rcS l.1 l.2.1 l.2.2.1 l.2.2.2 lim f) (by omega) (by
        have e : (f - x) * l.2.2.1 = -(l.2.2.1 * (x - f)) := by grind
        rw [e]; omega)
      omega
    rw [if_neg h1, if_neg hc, decide_eq_false h1, decide_eq_false hc, decide_eq_true (show f - (-rcS l.1 l.2.1 l.2.2.1 l.2.2.2 lim f) / l.2.2.1 ≤ 100000 by omega)]
    exact ⟨rfl, h2⟩
/-- What the latest day says. -/
theorem late_all {lim f : Int} {Q : List Ln} (f1 : f ≤ 100000) (h : laO lim f Q = true) :
    f ≤ laG (fun l => lnN l lim f) Q f ∧ laG (fun l => lnN l lim f) Q f ≤ 100000 ∧ ∀ c ∈ Q, lnB c lim f = true ∧ lnN c lim f ≤ laG (fun l => lnN l lim f) Q f ∧ lim * c.2.2.2 ≤ lnat c (laG (fun l => lnN l lim f) Q f) := by
  rw [laO, Bool.and_eq_true, List.all_eq_true, Bool.not_eq_true', List.any_eq_false] at h
  obtain ⟨h1, h2⟩ := h
  obtain ⟨g1, g2, g3⟩ := laG_spec (fun l => lnN l lim f) Q f
  refine ⟨g2, ?_, fun c hc => ⟨h1 c hc, g3 c hc, ?_⟩⟩
  · rcases g1 with e | ⟨l, hl, e⟩
    · omega
    · have := (ln_reach (h1 l hl) f1).2.1
      omega
  · have := h2 c hc
    simp only [belowB, decide_eq_true_eq] at this
    omega
theorem early_any {lim f : Int} {Q : List Ln} (h : (eaG lim f Q 0 false).2 = true) :
    ∃ c ∈ Q, lnB c lim f = true ∧ (eaG lim f Q 0 false).1 = lnN c lim f := by
  obtain ⟨_, i2, _⟩ := eaG_spec (lim := lim) (f := f) Q 0 false
  rcases i2 h with ⟨h, _⟩ | h
  · cases h
  · exact h
theorem early_of {lim f : Int} {Q : List Ln} {c : Ln} (hc : c ∈ Q) (h : lnB c lim f = true) : (eaG lim f Q 0 false).2 = true ∧ (eaG lim f Q 0 false).1 ≤ lnN c lim f := by
  obtain ⟨i1, _, _, i4, _⟩ := eaG_spec (lim := lim) (f := f) Q 0 false
  refine ⟨?_, i4 c hc h⟩
  rw [i1, Bool.false_or, List.any_eq_true]
  exact ⟨c, hc, h⟩
section
variable {P : List Int} {m : Nat} {w lim f : Int}
theorem e_late (f1 : f ≤ 100000) (h0 : 0 < (outP P w m).length) (h : laO lim f (outP P w m) = true) :
    (eaG lim f (outP P w m) 0 false).2 = true ∧ (eaG lim f (outP P w m) 0 false).1 ≤ laG (fun l => lnN l lim f) (outP P w m) f := by
  obtain ⟨_, _, h3⟩ := late_all f1 h
  obtain ⟨c, hc⟩ := List.exists_mem_of_length_pos h0
  obtain ⟨a, b, _⟩ := h3 c hc
  obtain ⟨e1, e2⟩ := early_of hc a
  exact ⟨e1, by omega⟩
/-- A line that fits reaches a limit not before the earliest day. -/
theorem e_line (hP : Ups P m) (w0 : 0 ≤ w) {l : Ln} (D0 : 0 < l.2.2.2) (hf : FitL P m w l) {x : Int} (hx : f ≤ x) (hx1 : x ≤ 100000) (h : lim * l.2.2.2 ≤ lnat l x) :
    (eaG lim f (outP P w m) 0 false).2 = true ∧ (eaG lim f (outP P w m) 0 false).1 ≤ x := by
  obtain ⟨c, hc, hv⟩ := q_up hP w0 D0 hf x
  have d0 := (q_fit hP hc).2
  have hl : lim * c.2.2.2 ≤ lnat c x := by
    have h1 := Int.mul_le_mul_of_nonneg_right h (show 0 ≤ c.2.2.2 by omega)
    refine Int.le_of_mul_le_mul_right (a := l.2.2.2) ?_ D0
    have e : lim * c.2.2.2 * l.2.2.2 = lim * l.2.2.2 * c.2.2.2 := by grind
    omega
  obtain ⟨a, b⟩ := ln_first hx hx1 hl
  obtain ⟨e1, e2⟩ := early_of hc a
  exact ⟨e1, by omega⟩
theorem e_wide (hP : Ups P m) (w0 : 0 ≤ w) (f1 : f ≤ 100000) (h : (eaG lim f (outP P w m) 0 false).2 = true) :
    f ≤ (eaG lim f (outP P w m) 0 false).1 ∧ (eaG lim f (outP P w m) 0 false).1 ≤ 100000 ∧ (eaG lim f (outP P (w + 1) m) 0 false).2 = true ∧ (eaG lim f (outP P (w + 1) m) 0 false).1 ≤ (eaG lim f (outP P w m) 0 false).1 := by
  obtain ⟨c, hc, hb, e⟩ := early_any h
  obtain ⟨r1, r2, r3⟩ := ln_reach hb f1
  obtain ⟨g1, g2⟩ := q_fit hP hc
  rw [e]
  exact ⟨r1, r2, e_line hP (show 0 ≤ w + 1 by omega) g2 (g1.mono g2 (by omega)) r1 r2 r3⟩
/-- A line that fits reaches a limit not after the latest day. -/
theorem l_line (hP : Ups P m) (w0 : 0 ≤ w) (f1 : f ≤ 100000) {l : Ln} (D0 : 0 < l.2.2.2) (hf : FitL P m w l) (h : laO lim f (outP P w m) = true) :
    lim * l.2.2.2 ≤ lnat l (laG (fun l => lnN l lim f) (outP P w m) f) := by
  obtain ⟨_, _, h3⟩ := late_all f1 h
  obtain ⟨c, hc, hv⟩ := q_dn hP w0 D0 hf (laG (fun l => lnN l lim f) (outP P w m) f)
  obtain ⟨_, _, hl⟩ := h3 c hc
  have d0 := (q_fit hP hc).2
  have h1 := Int.mul_le_mul_of_nonneg_right hl (show 0 ≤ l.2.2.2 by omega)
  refine Int.le_of_mul_le_mul_right (a := c.2.2.2) ?_ d0
  have e : lim * c.2.2.2 * l.2.2.2 = lim * l.2.2.2 * c.2.2.2 := by grind
  omega
theorem l_wide (hP : Ups P m) (w0 : 0 ≤ w) (f1 : f ≤ 100000) (h : laO lim f (outP P (w + 1) m) = true) :
    laO lim f (outP P w m) = true ∧ laG (fun l => lnN l lim f) (outP P w m) f ≤ laG (fun l => lnN l lim f) (outP P (w + 1) m) f := by
  obtain ⟨b1, b2, _⟩ := late_all f1 h
  have key : ∀ c ∈ outP P w m, lim * c.2.2.2 ≤ lnat c (laG (fun l => lnN l lim f) (outP P (w + 1) m) f) := fun c hc => by
    obtain ⟨g1, g2⟩ := q_fit hP hc
    exact l_line hP (show 0 ≤ w + 1 by omega) f1 g2 (g1.mono g2 (by omega)) h
  have kb : ∀ c ∈ outP P w m, lnB c lim f = true ∧ lnN c lim f ≤ laG (fun l => lnN l lim f) (outP P (w + 1) m) f := fun c hc => ln_first b1 b2 (key c hc)
  obtain ⟨g1, g2, g3⟩ := laG_spec (fun l => lnN l lim f) (outP P w m) f
  have hle : laG (fun l => lnN l lim f) (outP P w m) f ≤ laG (fun l => lnN l lim f) (outP P (w + 1) m) f := by
    rcases g1 with e | ⟨c, hc, e⟩
    · omega
    · have := (kb c hc).2
      omega
  refine ⟨?_, hle⟩
  rw [laO, Bool.and_eq_true, List.all_eq_true, Bool.not_eq_true', List.any_eq_false]
  refine ⟨fun c hc => (kb c hc).1, fun c hc => ?_⟩
  have k1 := key c hc
  have k2 := g3 c hc
  obtain ⟨r1, r2, r3⟩ := ln_reach (kb c hc).1 f1
  simp only [belowB, decide_eq_true_eq, Int.not_lt]
  generalize laG (fun l => lnN l lim f) (outP P (w + 1) m) f = Z at *
  generalize laG (fun l => lnN l lim f) (outP P w m) f = D at *
  generalize lnN c lim f = N at *
  simp only [lnat] at k1 r3 ⊢
  by_cases hs : 0 ≤ c.2.2.1
  · have := Int.mul_le_mul_of_nonneg_left (show N - c.1 ≤ D - c.1 by omega) hs
    omega
  · have := Int.mul_le_mul_of_nonneg_left (show D - c.1 ≤ Z - c.1 by omega) (show 0 ≤ - c.2.2.1 by omega)
    simp only [Int.neg_mul] at this
    omega
end
/-- One line, written twice. -/
theorem fit_same {P : List Int} {m : Nat} {w : Int} {l l' : Ln} (h : ∀ x, lnat l' x * l.2.2.2 = lnat l x * l'.2.2.2) (D0 : 0 < l.2.2.2) (D0' : 0 < l'.2.2.2) (hf : FitL P m w l') : FitL P m w l := fun i hi => by
  obtain ⟨h1, h2⟩ := hf i hi
  have e := h (P.getD (i * 2) 0)
  simp only [lnat] at e
  have k1 := Int.mul_le_mul_of_nonneg_right h1 (show 0 ≤ l.2.2.2 by omega)
  have k2 := Int.mul_le_mul_of_nonneg_right h2 (show 0 ≤ l.2.2.2 by omega)
  rw [e] at k1 k2
  constructor
  · refine Int.le_of_mul_le_mul_right (a := l'.2.2.2) ?_ D0'
    have : (P.getD (i * 2 + 1) 0 * l.2.2.2 - w * l.2.2.2) * l'.2.2.2 = (P.getD (i * 2 + 1) 0 * l'.2.2.2 - w * l'.2.2.2) * l.2.2.2 := by grind
    rw [this]
    exact k1
  · refine Int.le_of_mul_le_mul_right (a := l'.2.2.2) ?_ D0'
    have : (P.getD (i * 2 + 1) 0 * l.2.2.2 + w * l.2.2.2) * l'.2.2.2 = (P.getD (i * 2 + 1) 0 * l'.2.2.2 + w * l'.2.2.2) * l.2.2.2 := by grind
    rw [this]
    exact k2
theorem fitted_same {a L S D : Int} (h1 : LowIn L D) (h2 : LowIn S D) (x : Int) : lnat (a, lowN L D * lowD S D, lowN S D * lowD L D, lowD L D * lowD S D) x * D = lnat (a, L, S, D) x * (lowD L D * lowD S D) := by
  obtain ⟨e1, _⟩ := low_rep h1
  obtain ⟨e2, _⟩ := low_rep h2
  simp only [lnat]
  generalize lowN L D = p at *
  generalize lowD L D = q at *
  generalize lowN S D = r at *
  generalize lowD S D = t at *
  have : (p * t + r * q * (x - a)) * D = p * D * t + r * D * q * (x - a) := by grind
  rw [this, e1, e2]
  grind
end
end Qq
