/- The law about bounds: what holds of near sections. -/
import Derived.Test.YtaigknknfaeajaaGreatDoorQBX
open Go Go.Vm Go.Proofs Sp
namespace Qq
noncomputable section
section
variable {nm : ByteArray} {zs : List Int} {n : Nat} {ks : List (Int × ByteArray)} {k : Nat} {j : Nat}
theorem b_ups (hS : NearS nm zs n ks k) (hz : zs.length = n * 2) (hk : ks.length = k) (hj : j ≤ k) (h2 : 2 ≤ pm zs ks n k (j : Int)) : Ups (pP zs ks n k (j : Int)) (pm zs ks n k (j : Int)) := by
  have hp := xp_per hS hz hk hj
  have h1 := own_pts hp h2
  refine ⟨pP_len (per_part hp).1, fun i i' h h' => ?_, h2⟩
  have := h1.up i i' h h'
  simpa only [Nat.zero_add] using this
/-- A measurement of the period. -/
theorem b_pt (hS : NearS nm zs n ks k) (hz : zs.length = n * 2) (hk : ks.length = k) (hj : j ≤ k) {i : Nat} (hi : i < pm zs ks n k (j : Int)) :
    (0 ≤ (pP zs ks n k (j : Int)).getD (i * 2) 0 ∧ (pP zs ks n k (j : Int)).getD (i * 2) 0 ≤ 100000) ∧
    (0 ≤ (pP zs ks n k (j : Int)).getD (i * 2) 0 - p0D zs ks (j : Int) ∧ (pP zs ks n k (j : Int)).getD (i * 2) 0 - p0D zs ks (j : Int) ≤ 400) ∧
    0 ≤ (pP zs ks n k (j : Int)).getD (i * 2 + 1) 0 ∧ (pP zs ks n k (j : Int)).getD (i * 2 + 1) 0 ≤ 400 := by
  have hp := xp_per hS hz hk hj
  have hn := xp_near hS hz hk hj
  have h1 := (per_part hp).1.pts i hi
  have hi' : i < upto zs ks n k j - frm zs ks j := hi
  have h2 := hn.day i hi'
  have h3 := hn.idx i hi'
  have e1 : (pP zs ks n k (j : Int)).getD (i * 2) 0 = zs.getD (pf zs ks (j : Int) * 2 + i * 2) 0 := pP_get (by omega)
  have e2 : (pP zs ks n k (j : Int)).getD (i * 2 + 1) 0 = zs.getD (pf zs ks (j : Int) * 2 + i * 2 + 1) 0 := by
    rw [Nat.add_assoc]; exact pP_get (by omega)
  rw [e1, e2]
  exact ⟨h1, h2, h3⟩
theorem b_days (hS : NearS nm zs n ks k) (hz : zs.length = n * 2) (hk : ks.length = k) (hj : j ≤ k) (h2 : 2 ≤ pm zs ks n k (j : Int)) : (0 ≤ pZ zs ks n k (j : Int) ∧ pZ zs ks n k (j : Int) ≤ 100000) ∧
    pZ zs ks n k (j : Int) = (pP zs ks n k (j : Int)).getD ((pm zs ks n k (j : Int) - 1) * 2) 0 := by
  have e1 : (pP zs ks n k (j : Int)).getD ((pm zs ks n k (j : Int) - 1) * 2) 0 = pZ zs ks n k (j : Int) := pP_get (by omega)
  have := (b_pt hS hz hk hj (i := pm zs ks n k (j : Int) - 1) (by omega)).1
  rw [e1] at this
  exact ⟨this, e1.symm⟩
theorem b_bd (hS : NearS nm zs n ks k) (hz : zs.length = n * 2) (hk : ks.length = k) (hj : j ≤ k) {w x : Int} (w0 : 0 ≤ w) (w1 : w ≤ 101) (x0 : 0 ≤ x) (x1 : x ≤ 100000) :
    ∀ c ∈ koL zs ks n k (j : Int) w, c.2.2.2 ≤ 400 ∧ -68000000 ≤ lnat c x ∧ lnat c x ≤ 68000000 := fun c hc => by
  have hc : c ∈ outP (pP zs ks n k (j : Int)) w (pm zs ks n k (j : Int)) := hc
  obtain ⟨kk, hkk, i, hi, jj, hjj, _, _, rfl⟩ := mem_outP.1 hc
  obtain ⟨s1, s2⟩ := sgP_one hjj
  obtain ⟨⟨a0, a1⟩, ⟨a2, a3⟩, a4, a5⟩ := b_pt hS hz hk hj (i := i) (by omega)
  obtain ⟨⟨b0, b1⟩, ⟨b2, b3⟩, b4, b5⟩ := b_pt hS hz hk hj (i := kk) hkk
  have hlt := (b_ups hS hz hk hj (by omega)).up i kk hi hkk
  have t1 : -101 ≤ (sgP jj).1 * w ∧ (sgP jj).1 * w ≤ 101 := by
    rcases s1 with e | e <;> rw [e] <;> omega
  have t2 : -101 ≤ (sgP jj).2 * w ∧ (sgP jj).2 * w ≤ 101 := by
    rcases s2 with e | e <;> rw [e] <;> omega
  simp only [crn, lnat]
  generalize (pP zs ks n k (j : Int)).getD (i * 2) 0 = d1 at *
  generalize (pP zs ks n k (j : Int)).getD (kk * 2) 0 = d2 at *
  generalize (pP zs ks n k (j : Int)).getD (i * 2 + 1) 0 = y1 at *
  generalize (pP zs ks n k (j : Int)).getD (kk * 2 + 1) 0 = y2 at *
  generalize (sgP jj).1 * w = u1 at *
  generalize (sgP jj).2 * w = u2 at *
  have m1 := abs_mul (a := y1 + u1) (b := d2 - d1) (A := 501) (B := 400) (by omega) (by omega) (by omega) (by omega)
  have m2 := abs_mul (a := y2 + u2 - (y1 + u1)) (b := x - d1) (A := 602) (B := 100000) (by omega) (by omega) (by omega) (by omega)
  omega
theorem b_ln (hS : NearS nm zs n ks k) (hz : zs.length = n * 2) (hk : ks.length = k) (hj : j ≤ k) {w x : Int} (w0 : 0 ≤ w) (w1 : w ≤ 101) (x0 : 0 ≤ x) (x1 : x ≤ 100000) : allLn (koL zs ks n k (j : Int) w) x :=
  koL_in (xp_per hS hz hk hj) w0 (by omega) x0 x1
/-- The ends of the range are numbers that can be multiplied. -/
theorem b_mn (hS : NearS nm zs n ks k) (hz : zs.length = n * 2) (hk : ks.length = k) (hj : j ≤ k) {w x : Int} (w0 : 0 ≤ w) (w1 : w ≤ 101) (x0 : 0 ≤ x) (x1 : x ≤ 100000) (h0 : 0 < (koL zs ks n k (j : Int) w).length) :
    sndB (mnL (vals (koL zs ks n k (j : Int) w) x)).1 (mnL (vals (koL zs ks n k (j : Int) w) x)).2 = true ∧ (-68000000 ≤ (mnL (vals (koL zs ks n k (j : Int) w) x)).1 ∧ (mnL (vals (koL zs ks n k (j : Int) w) x)).1 ≤ 68000000) ∧ 0 < (mnL (vals (koL zs ks n k (j : Int) w) x)).2 ∧ (mnL (vals (koL zs ks n k (j : Int) w) x)).2 ≤ 400 := by
  have hq := b_ln hS hz hk hj w0 w1 x0 x1
  obtain ⟨⟨c, hc, e⟩, _⟩ := mn_mem hq h0
  obtain ⟨c1, c2, c3⟩ := b_bd hS hz hk hj w0 w1 x0 x1 c hc
  have hl := (hq c hc).low
  have d0 := hl.h0
  obtain ⟨l1, l2, l3, l4⟩ := low_bd hl (A := 68000000) (D := 400) c2 c3 c1
  rw [e]
  exact ⟨snd_ok d0 (by omega) (by omega) (by omega), ⟨l1, l2⟩, l3, l4⟩
theorem b_mx (hS : NearS nm zs n ks k) (hz : zs.length = n * 2) (hk : ks.length = k) (hj : j ≤ k) {w x : Int} (w0 : 0 ≤ w) (w1 : w ≤ 101) (x0 : 0 ≤ x) (x1 : x ≤ 100000) (h0 : 0 < (koL zs ks n k (j : Int) w).length) :
    sndB (mxR (vals (koL zs ks n k (j : Int) w) x)).1 (mxR (vals (koL zs ks n k (j : Int) w) x)).2 = true ∧ (-68000000 ≤ (mxR (vals (koL zs ks n k (j : Int) w) x)).1 ∧ (mxR (vals (koL zs ks n k (j : Int) w) x)).1 ≤ 68000000) ∧ 0 < (mxR (vals (koL zs ks n k (j : Int) w) x)).2 ∧ (mxR (vals (koL zs ks n k (j : Int) w) x)).2 ≤ 400 := by
  have hq := b_ln hS hz hk hj w0 w1 x0 x1
  obtain ⟨⟨c, hc, e⟩, _⟩ := mx_mem hq h0
  obtain ⟨c1, c2, c3⟩ := b_bd hS hz hk hj w0 w1 x0 x1 c hc
  have hl := (hq c hc).low
  have d0 := hl.h0
  obtain ⟨l1, l2, l3, l4⟩ := low_bd hl (A := 68000000) (D := 400) c2 c3 c1
  rw [e]
  exact ⟨snd_ok d0 (by omega) (by omega) (by omega), ⟨l1, l2⟩, l3, l4⟩
/-- The errors of the questions. -/
theorem b_rn (hS : NearS nm zs n ks k) (hj : j ≤ k) (h2 : 2 ≤ pm zs ks n k (j : Int)) {w x : Int} (w0 : 0 ≤ w) (w1 : w ≤ 101) (x0 : 0 ≤ x) (x1 : x ≤ 100000) :
    rnE nm zs n ks k (j : Int) w x = if 0 < (koL zs ks n k (j : Int) w).length then 0 else 18 := by
  have e1 : fi [perE nm zs n ks k (j : Int), wi w 0 100000, wi x 0 100000] = 0 := by
    refine fi_zero.2 fun e he => ?_
    simp only [List.mem_cons, List.not_mem_nil, or_false] at he
    rcases he with rfl | rfl | rfl
    · exact xp_perE hS hj
    · exact wi_zero.2 ⟨by omega, by omega⟩
    · exact wi_zero.2 ⟨by omega, by omega⟩
  rw [rnE, e1, sel, if_pos rfl, koE, decide_eq_false (by omega)]
  by_cases h : 0 < (koL zs ks n k (j : Int) w).length
  · rw [if_pos h]
    have : ((((koL zs ks n k (j : Int) w).length : Nat) : Int) == 0) = false := by
      rw [beq_eq_false_iff_ne]; omega
    rw [this]; rfl
  · rw [if_neg h]
    have : ((((koL zs ks n k (j : Int) w).length : Nat) : Int) == 0) = true := by
      rw [beq_iff_eq]; omega
    rw [this]; rfl
theorem b_ea (hS : NearS nm zs n ks k) (hj : j ≤ k) (h2 : 2 ≤ pm zs ks n k (j : Int)) {w l : Int} (w0 : 0 ≤ w) (w1 : w ≤ 101) (l0 : 0 ≤ l) (l1 : l ≤ 100000) (h0 : 0 < (koL zs ks n k (j : Int) w).length) :
    eaE nm zs n ks k (j : Int) w l = wh (!(eaG l (pZ zs ks n k (j : Int)) (koL zs ks n k (j : Int) w) 0 false).2) 7 ∧ laE nm zs n ks k (j : Int) w l = wh (!laO l (pZ zs ks n k (j : Int)) (koL zs ks n k (j : Int) w)) 7 := by
  have e : ccE nm zs n ks k (j : Int) w l = 0 := by
    rw [rn_cc, b_rn hS hj h2 w0 w1 l0 l1, if_pos h0]
  rw [eaE, laE, e]
  exact ⟨rfl, rfl⟩
theorem wh7 (b : Bool) : (wh (!b) 7 = 0 ↔ b = true) ∧ (wh (!b) 7 = 0 ∨ wh (!b) 7 = 7) := by
  cases b
  · exact ⟨⟨fun h => by simp [wh] at h, fun h => by cases h⟩, .inr rfl⟩
  · exact ⟨⟨fun _ => rfl, fun _ => rfl⟩, .inl rfl⟩
end
/-- What holds of the days on which a limit is reached. -/
structure Rch (e l e' l' : Int) (ev lv ev' lv' z : Int) : Prop where
  e7 : e = 0 ∨ e = 7
  l7 : l = 0 ∨ l = 7
  e7' : e' = 0 ∨ e' = 7
  l7' : l' = 0 ∨ l' = 7
  late : l = 0 → e = 0 ∧ ev ≤ lv ∧ z ≤ lv ∧ lv ≤ 100000
  soon : e = 0 → e' = 0 ∧ ev' ≤ ev ∧ z ≤ ev ∧ ev ≤ 100000
  more : l' = 0 → l = 0 ∧ lv ≤ lv'
section
variable {nm : ByteArray} {zs : List Int} {n : Nat} {ks : List (Int × ByteArray)} {k : Nat} {j : Nat}
theorem b_rch (hS : NearS nm zs n ks k) (hz : zs.length = n * 2) (hk : ks.length = k) (hj : j ≤ k) (h2 : 2 ≤ pm zs ks n k (j : Int)) {w l : Int} (w0 : 0 ≤ w) (w1 : w ≤ 100) (l0 : 0 ≤ l) (l1 : l ≤ 100000) (h0 : 0 < (koL zs ks n k (j : Int) w).length) :
    Rch (eaE nm zs n ks k (j : Int) w l) (laE nm zs n ks k (j : Int) w l) (eaE nm zs n ks k (j : Int) (w + 1) l) (laE nm zs n ks k (j : Int) (w + 1) l)
      (eaV nm zs n ks k (j : Int) w l) (laV nm zs n ks k (j : Int) w l) (eaV nm zs n ks k (j : Int) (w + 1) l) (laV nm zs n ks k (j : Int) (w + 1) l) (pZ zs ks n k (j : Int)) := by
  have hP := b_ups hS hz hk hj h2
  have h0' : 0 < (koL zs ks n k (j : Int) (w + 1)).length := q_wide hP w0 h0
  obtain ⟨e1, e2⟩ := b_ea hS hj h2 w0 (by omega) l0 l1 h0
  obtain ⟨e3, e4⟩ := b_ea hS hj h2 (w := w + 1) (by omega) (by omega) l0 l1 h0'
  obtain ⟨⟨z0, z1⟩, _⟩ := b_days hS hz hk hj h2
  have v : ∀ {e x : Int}, e = 0 → gz e x = x := fun h => by rw [h, gz0]
  refine ⟨?_, ?_, ?_, ?_, fun h => ?_, fun h => ?_, fun h => ?_⟩
  · rw [e1]; exact (wh7 _).2
  · rw [e2]; exact (wh7 _).2
  · rw [e3]; exact (wh7 _).2
  · rw [e4]; exact (wh7 _).2
  · have hl := h
    rw [e2] at h
    have h := (wh7 _).1.1 h
    obtain ⟨a, b⟩ := e_late (P := pP zs ks n k (j : Int)) (m := pm zs ks n k (j : Int)) z1 h0 h
    obtain ⟨c, d, _⟩ := late_all z1 h
    have ha : eaE nm zs n ks k (j : Int) w l = 0 := by rw [e1]; exact (wh7 _).1.2 a
    rw [eaV, laV, v ha, v hl]
    exact ⟨ha, b, c, d⟩
  · have hl := h
    rw [e1] at h
    have h := (wh7 _).1.1 h
    obtain ⟨a, b, c, d⟩ := e_wide (P := pP zs ks n k (j : Int)) (m := pm zs ks n k (j : Int)) hP w0 z1 h
    have ha : eaE nm zs n ks k (j : Int) (w + 1) l = 0 := by rw [e3]; exact (wh7 _).1.2 c
    rw [eaV, eaV, v ha, v hl]
    exact ⟨ha, d, a, b⟩
  · have hl := h
    rw [e4] at h
    have h := (wh7 _).1.1 h
    obtain ⟨a, b⟩ := l_wide (P := pP zs ks n k (j : Int)) (m := pm zs ks n k (j : Int)) hP w0 z1 h
    have ha : laE nm zs n ks k (j : Int) w l = 0 := by rw [e2]; exact (wh7 _).1.2 a
    rw [laV, laV, v ha, v hl]
    exact ⟨ha, b⟩
/-- A line that fits: what the days say of it. -/
theorem b_line (hS : NearS nm zs n ks k) (hz : zs.length = n * 2) (hk : ks.length = k) (hj : j ≤ k) (h2 : 2 ≤ pm zs ks n k (j : Int)) {w l : Int} (w0 : 0 ≤ w) (w1 : w ≤ 100) (l0 : 0 ≤ l) (l1 : l ≤ 100000) (h0 : 0 < (koL zs ks n k (j : Int) w).length)
    {c : Ln} (D0 : 0 < c.2.2.2) (hf : FitL (pP zs ks n k (j : Int)) (pm zs ks n k (j : Int)) w c) :
    (laE nm zs n ks k (j : Int) w l = 0 → l * c.2.2.2 ≤ lnat c (laV nm zs n ks k (j : Int) w l)) ∧
    (∀ x, pZ zs ks n k (j : Int) ≤ x → x ≤ 100000 → l * c.2.2.2 ≤ lnat c x → eaE nm zs n ks k (j : Int) w l = 0 ∧ eaV nm zs n ks k (j : Int) w l ≤ x) := by
  have hP := b_ups hS hz hk hj h2
  obtain ⟨e1, e2⟩ := b_ea hS hj h2 w0 (by omega) l0 l1 h0
  obtain ⟨⟨z0, z1⟩, _⟩ := b_days hS hz hk hj h2
  have v : ∀ {e x : Int}, e = 0 → gz e x = x := fun h => by rw [h, gz0]
  refine ⟨fun h => ?_, fun x hx hx1 h => ?_⟩
  · have hl := h
    rw [e2] at h
    have h := (wh7 _).1.1 h
    rw [laV, v hl]
    exact l_line (P := pP zs ks n k (j : Int)) (m := pm zs ks n k (j : Int)) hP w0 z1 D0 hf h
  · obtain ⟨a, b⟩ := e_line (P := pP zs ks n k (j : Int)) (m := pm zs ks n k (j : Int)) hP w0 D0 hf hx hx1 h
    have ha : eaE nm zs n ks k (j : Int) w l = 0 := by rw [e1]; exact (wh7 _).1.2 a
    rw [eaV, v ha]
    exact ⟨ha, b⟩
/-- The least squares line, if it fits. -/
theorem b_fitted (hS : NearS nm zs n ks k) (hz : zs.length = n * 2) (hk : ks.length = k) (hj : j ≤ k) (h2 : 2 ≤ pm zs ks n k (j : Int)) {w : Int}
    (hf : fitB w (p0D zs ks (j : Int), lowN (pL zs ks n k (j : Int)) (pD zs ks n k (j : Int)) * lowD (pS zs ks n k (j : Int)) (pD zs ks n k (j : Int)), lowN (pS zs ks n k (j : Int)) (pD zs ks n k (j : Int)) * lowD (pL zs ks n k (j : Int)) (pD zs ks n k (j : Int)), lowD (pL zs ks n k (j : Int)) (pD zs ks n k (j : Int)) * lowD (pS zs ks n k (j : Int)) (pD zs ks n k (j : Int))) (pP zs ks n k (j : Int)) = true) :
    FitL (pP zs ks n k (j : Int)) (pm zs ks n k (j : Int)) w (p0D zs ks (j : Int), pL zs ks n k (j : Int), pS zs ks n k (j : Int), pD zs ks n k (j : Int)) := by
  have hP := b_ups hS hz hk hj h2
  obtain ⟨⟨l0, l1⟩, ⟨s0, s1⟩, d0, d1⟩ := xp_line hS hz hk hj h2
  have hL : LowIn (pL zs ks n k (j : Int)) (pD zs ks n k (j : Int)) := ⟨d0, by omega, by omega, by omega⟩
  have hS' : LowIn (pS zs ks n k (j : Int)) (pD zs ks n k (j : Int)) := ⟨d0, by omega, by omega, by omega⟩
  refine fit_same (fun x => fitted_same hL hS' x) d0 ?_ ((fitB_iff hP.len _ _).1 hf)
  exact Int.mul_pos (low_rep hL).2.1 (low_rep hS').2.1
end
end
end Qq
