/- The law about bounds. -/
import Derived.Test.YtaigknknfaeajaaGreatDoorQBY
import Derived.Test.YtaigknknfaeajaaGreatDoorQBZ
open Go Go.Vm Go.Proofs Sp
namespace Qq
noncomputable section
theorem wmul {a b : Int} (A B : Int) (a0 : -A ≤ a) (a1 : a ≤ A) (b0 : 0 < b) (b1 : b ≤ B) (h : A * B ≤ 9000000000000000000) : IntKind.wrap .i64 (a * b) = a * b := by
  have := abs_mul a0 a1 (show -B ≤ b by omega) b1
  exact wrap_abs this.1 this.2 h
theorem sgn_no_gt {a b : Int} (h : a ≤ b) : decide (0 < sgn a b) = false := decide_eq_false fun h' => by have := sgn_gt.1 h'; omega
theorem sgn_no_lt {a b : Int} (h : b ≤ a) : decide (sgn a b < 0) = false := decide_eq_false fun h' => by have := sgn_lt.1 h'; omega
theorem ldz2 {zs : List Int} {i : Nat} (h : i + 2 ≤ zs.length) : (if i + 2 ≤ (ints zs).length then some (Value.agg (List.toArray (List.take 2 (List.drop i (ints zs))))) else none) =
    some (.agg #[.int .i64 (zs.getD i 0), .int .i64 (zs.getD (i + 1) 0)]) := by
  rw [ints_len, if_pos h, ints_pair h]
theorem tmod_to {x m : Int} (x0 : 0 ≤ x) (hm : 0 < m) : 0 ≤ x.tmod m ∧ x.tmod m < m := ⟨Int.tmod_nonneg _ x0, Int.tmod_lt_of_pos _ hm⟩
/-- The value of a line that is given, in the machine's numbers. -/
theorem at_ok {a p q r t x : Int} (a0 : 0 ≤ a) (a1 : a ≤ 100000) (p0 : -100000 ≤ p) (p1 : p ≤ 100000) (r0 : -100000 ≤ r) (r1 : r ≤ 100000) (q0 : 1 ≤ q) (q1 : q ≤ 100) (t0 : 1 ≤ t) (t1 : t ≤ 100) (x0 : -1 ≤ x) (x1 : x ≤ 100000) :
    atW a p q r t x = lnat (a, p * t, r * q, q * t) x ∧ -1100000000000 ≤ lnat (a, p * t, r * q, q * t) x ∧ lnat (a, p * t, r * q, q * t) x ≤ 1100000000000 := by
  have m1 := abs_mul (a := p) (b := t) (A := 100000) (B := 100) p0 p1 (by omega) t1
  have m2 := abs_mul (a := r) (b := q) (A := 100000) (B := 100) r0 r1 (by omega) q1
  have m3 := abs_mul (a := r * q) (b := x - a) (A := 10000000) (B := 100001) (by omega) (by omega) (by omega) (by omega)
  simp only [atW, lnat]
  rw [wrap_abs (x := p * t) (B := 10000000) (by omega) (by omega) (by decide), wrap_abs (x := r * q) (B := 10000000) (by omega) (by omega) (by decide), wrap_abs (x := x - a) (B := 100001) (by omega) (by omega) (by decide),
    wrap_abs (x := r * q * (x - a)) (B := 1000010000000) (by omega) (by omega) (by decide), wrap_abs (x := p * t + r * q * (x - a)) (B := 1100000000000) (by omega) (by omega) (by decide)]
  exact ⟨rfl, by omega, by omega⟩
theorem low_below {r : Int × Int} {A D : Int} (hr : 0 < r.2) (h : LowIn A D) (hh : r.1 * D ≤ A * r.2) : r.1 * lowD A D ≤ lowN A D * r.2 := by
  obtain ⟨e1, e2, _⟩ := low_rep h
  exact cross_trans (a := r) (b := (A, D)) (c := (lowN A D, lowD A D)) hr h.h0 e2 hh (by simp only; omega)
theorem low_above {r : Int × Int} {A D : Int} (hr : 0 < r.2) (h : LowIn A D) (hh : A * r.2 ≤ r.1 * D) : lowN A D * r.2 ≤ r.1 * lowD A D := by
  obtain ⟨e1, e2, _⟩ := low_rep h
  exact cross_trans (a := (lowN A D, lowD A D)) (b := (A, D)) (c := r) e2 h.h0 hr (by simp only; omega) hh
theorem rd_lv {zs : List Int} {ks : List (Int × ByteArray)} {n k j : Nat} {l x : Int} (hx : pZ zs ks n k (j : Int) ≤ x) (x1 : x ≤ 100000) (h : l * pD zs ks n k (j : Int) ≤ pA zs ks n k (j : Int) x) :
    rdB zs ks n k (j : Int) l = true ∧ rdN zs ks n k (j : Int) l ≤ x :=
  ln_first (l := (p0D zs ks (j : Int), pL zs ks n k (j : Int), pS zs ks n k (j : Int), pD zs ks n k (j : Int))) hx x1 h
set_option maxRecDepth 100000 in
set_option maxHeartbeats 0 in
theorem law12 (hl : ∀ p ∈ l12, Ok Tryz.prog p.1 p.2) {nm : ByteArray} {zs : List Int} {ks : List (Int × ByteArray)} {n c k d : Nat} {x0 x1 x2 x3 : Int} (a0 : 0 ≤ x0) (b0 : x0 < 65536) (a1 : 0 ≤ x1) (b1 : x1 < 65536) (a2 : 0 ≤ x2) (b2 : x2 < 65536) (a3 : 0 ≤ x3) (b3 : x3 < 65536)
    (a p q r t : Int) (hz : zs.length = n * 2) (hk : ks.length = k) (hn : n ≤ 9223372036854775807) (hk2 : k ≤ 9223372036854775807) :
    SmallRes Tryz.prog 12 [.agg (secA nm 0 n c 1 k d).toArray, .agg (arrB x0 x1 x2 x3).toArray, .agg (liC a p q r t).toArray] (hp2 zs ks false false false false []) (.bool true) (hp2 zs ks false false false false []) := by
  obtain ⟨j, ej⟩ : ∃ j : Nat, j = (x0.tmod ((k : Int) + 1)).toNat := ⟨_, rfl⟩
  obtain ⟨w, ew⟩ : ∃ w : Int, w = x1.tmod 101 := ⟨_, rfl⟩
  obtain ⟨l, el⟩ : ∃ l : Int, l = x3.tmod 401 := ⟨_, rfl⟩
  obtain ⟨t2, t3⟩ := tmod_to (x := x0) (m := (k : Int) + 1) a0 (by omega)
  obtain ⟨t4, t5⟩ := tmod_to (x := x1) (m := 101) a1 (by decide)
  obtain ⟨t6, t7⟩ := tmod_to (x := x3) (m := 401) a3 (by decide)
  have w0 : 0 ≤ w := by omega
  have w1 : w ≤ 100 := by omega
  have l0 : 0 ≤ l := by omega
  have l1 : l ≤ 400 := by omega
  have hj : j ≤ k := by omega
  refine fnP_res hm (ctx_ok hm hl) (hs := hsB nm zs ks n c k d j w x2 l a p q r t) ?_
  show fnP Tryz.prog cl12 (hsB nm zs ks n c k d j w x2 l a p q r t) 12 _ _ _
  rw [law12_t]
  refine ⟨⟨rfl, rfl, hz, hk, hn, hk2⟩, br_of (fun _ => ⟨by first | trivial | rfl, by first | trivial | rfl⟩) (fun h => ?_)⟩
  have hS : NearS nm zs n ks k := nearB_ok (by simpa using h)
  have hn8 := hS.n8
  have hk6 := hS.k6
  have hi : isSec zs ks n k (ints zs) (acs ks) := ⟨rfl, rfl, hz, hk, by omega, by omega⟩
  have v0 : IntKind.wrap .i64 x0 = x0 := wrap_eq (by omega) (by omega)
  have v1 : IntKind.wrap .i64 x1 = x1 := wrap_eq (by omega) (by omega)
  have v2 : IntKind.wrap .i64 x2 = x2 := wrap_eq (by omega) (by omega)
  have v3 : IntKind.wrap .i64 x3 = x3 := wrap_eq (by omega) (by omega)
  have vk : IntKind.wrap .i64 ((k : Int) + 1) = (k : Int) + 1 := wrap_eq (by omega) (by omega)
  have vj : x0.tmod ((k : Int) + 1) = (j : Int) := by omega
  have vw : IntKind.wrap .i64 (w + 1) = w + 1 := wrap_eq (by omega) (by omega)
  rw [v0, v1, v2, v3, vk, vj, ← ew, ← el, vw]
  refine ⟨⟨⟨by omega⟩, ⟨by decide⟩, ⟨by decide⟩, (0 : Nat), ⟨rfl⟩, (by and_intros <;> first | trivial | rfl), (by first | trivial | rfl)⟩, fun _ _ => ⟨⟨xp_per hS hz hk hj⟩, br_of (fun _ => ⟨by first | trivial | rfl, by first | trivial | rfl⟩) (fun hm2 => ?_)⟩⟩
  have h2 : 2 ≤ pm zs ks n k (j : Int) := by have := of_decide_eq_false hm2; omega
  have hm8 : pm zs ks n k (j : Int) ≤ 8 := (xp_near hS hz hk hj).few
  have hP := b_ups hS hz hk hj h2
  have x0' : 0 ≤ x2 := a2
  have x1' : x2 ≤ 100000 := by omega
  have wm : IntKind.wrap .i64 ((pm zs ks n k (j : Int) : Int) - 1) = ((pm zs ks n k (j : Int) - 1 : Nat) : Int) := by
    rw [wrap_eq (by omega) (by omega)]; omega
  obtain ⟨⟨z0, z1⟩, eZ⟩ := b_days hS hz hk hj h2
  have hlen : (pP zs ks n k (j : Int)).length = pm zs ks n k (j : Int) * 2 := hP.len
  have hrn := b_rn hS hj h2 w0 (show w ≤ 101 by omega) x0' x1'
  have hrn' := b_rn hS hj h2 (w := w + 1) (by omega) (by omega) x0' x1'
  have hr18 : ∀ {e : Int}, (if 0 < (koL zs ks n k (j : Int) w).length then (0 : Int) else 18) = e → ¬ 0 < (koL zs ks n k (j : Int) w).length → e = 18 := fun h h' => by rw [if_neg h'] at h; exact h.symm
  rw [wm]
  refine ⟨⟨by omega⟩, ⟨?_⟩, ⟨hi⟩, ⟨hi⟩, ⟨hi⟩, ⟨hi⟩, ?_⟩
  · have e1 : 0 + Int.toNat ((pm zs ks n k (j : Int) - 1 : Nat) : Int) * 2 + 0 = (pm zs ks n k (j : Int) - 1) * 2 := by omega
    rw [e1]
    exact zint_at (zs := pP zs ks n k (j : Int)) (by omega)
  by_cases hpos : 0 < (koL zs ks n k (j : Int) w).length
  case neg =>
    have hr : rnE nm zs n ks k (j : Int) w x2 = 18 := by rw [hrn, if_neg hpos]
    have hm3 : decide (2 < (pm zs ks n k (j : Int) : Int)) = true := decide_eq_true (by
      rcases Nat.lt_or_ge 2 (pm zs ks n k (j : Int)) with h | h
      · omega
      · exact absurd (q_two hP (by omega) w0) hpos)
    rw [hr, hm3]
    refine br_of (fun _ => ⟨⟨hi⟩, ⟨hi⟩, br_of (fun _ => br_of (fun hf => ?_) (fun _ => br_of (fun _ => ⟨by first | trivial | rfl, by first | trivial | rfl⟩) (fun h => by simp at h))) (fun _ => br_of (fun _ => ⟨by first | trivial | rfl, by first | trivial | rfl⟩) (fun h => by simp at h))⟩) (fun h => by simp at h)
    exfalso
    rw [f8B, Bool.and_eq_true, beq_iff_eq] at hf
    obtain ⟨f1, f2⟩ := hf
    obtain ⟨_, _, q3, _, t3'⟩ := li_in (fi_zero.1 f1 (liE a p q r t) (by simp))
    exact hpos (q_some hP w0 (l := (a, p * t, r * q, q * t)) (Int.mul_pos (by omega) (by omega)) ((fitB_iff hP.len _ _).1 f2))
  have hpos' : 0 < (koL zs ks n k (j : Int) (w + 1)).length := q_wide hP w0 hpos
  have hr : rnE nm zs n ks k (j : Int) w x2 = 0 := by rw [hrn, if_pos hpos]
  have hr' : rnE nm zs n ks k (j : Int) (w + 1) x2 = 0 := by rw [hrn', if_pos hpos']
  obtain ⟨m1, ⟨m2, m3⟩, m4, m5⟩ := b_mn hS hz hk hj w0 (by omega) x0' x1' hpos
  obtain ⟨n1, ⟨n2, n3⟩, n4, n5⟩ := b_mx hS hz hk hj w0 (by omega) x0' x1' hpos
  obtain ⟨m1', ⟨m2', m3'⟩, m4', m5'⟩ := b_mn hS hz hk hj (w := w + 1) (by omega) (by omega) x0' x1' hpos'
  obtain ⟨n1', ⟨n2', n3'⟩, n4', n5'⟩ := b_mx hS hz hk hj (w := w + 1) (by omega) (by omega) x0' x1' hpos'
  have hq := b_ln hS hz hk hj w0 (show w ≤ 101 by omega) x0' x1'
  have hq' := b_ln hS hz hk hj (w := w + 1) (by omega) (by omega) x0' x1'
  have o1 : (mnL (vals (koL zs ks n k (j : Int) w) x2)).1 * (mxR (vals (koL zs ks n k (j : Int) w) x2)).2 ≤ (mxR (vals (koL zs ks n k (j : Int) w) x2)).1 * (mnL (vals (koL zs ks n k (j : Int) w) x2)).2 := r_order (P := pP zs ks n k (j : Int)) (m := pm zs ks n k (j : Int)) hP hq hpos
  have o23 := r_wide (P := pP zs ks n k (j : Int)) (m := pm zs ks n k (j : Int)) hP w0 hq hq' hpos
  have o2 : (mnL (vals (koL zs ks n k (j : Int) (w + 1)) x2)).1 * (mnL (vals (koL zs ks n k (j : Int) w) x2)).2 ≤ (mnL (vals (koL zs ks n k (j : Int) w) x2)).1 * (mnL (vals (koL zs ks n k (j : Int) (w + 1)) x2)).2 := o23.1
  have o3 : (mxR (vals (koL zs ks n k (j : Int) w) x2)).1 * (mxR (vals (koL zs ks n k (j : Int) (w + 1)) x2)).2 ≤ (mxR (vals (koL zs ks n k (j : Int) (w + 1)) x2)).1 * (mxR (vals (koL zs ks n k (j : Int) w) x2)).2 := o23.2
  have R := b_rch hS hz hk hj h2 w0 w1 l0 (show l ≤ 100000 by omega) hpos
  rw [hr, hr']
  simp only [gz0]
  refine br_of (fun h => by simp at h) (fun _ => ⟨br_of (fun h => by simp at h) (fun _ => br_of (fun h => by rw [m1] at h; cases h) (fun _ => br_of (fun h => by rw [n1] at h; cases h) (fun _ => br_of (fun h => by rw [m1'] at h; cases h) (fun _ => br_of (fun h => by rw [n1'] at h; cases h) (fun _ =>
    br_of (fun h => ?_) (fun _ => br_of (fun h => ?_) (fun _ => br_of (fun h => ?_) (fun _ => ⟨(0 : Nat), ⟨rfl, h2, hpos⟩, ?_, (by first | trivial | rfl)⟩)))))))), fun _ _ => ?_⟩)
  · rw [wmul 68000000 400 m2 m3 n4 n5 (by decide), wmul 68000000 400 n2 n3 m4 m5 (by decide), sgn_no_gt o1] at h
    cases h
  · rw [wmul 68000000 400 m2' m3' m4 m5 (by decide), wmul 68000000 400 m2 m3 m4' m5' (by decide), sgn_no_gt o2] at h
    cases h
  · rw [wmul 68000000 400 n2' n3' n4 n5 (by decide), wmul 68000000 400 n2 n3 n4' n5' (by decide), sgn_no_lt o3] at h
    cases h
  · have e1 : 0 + Int.toNat ((pm zs ks n k (j : Int) - 1 : Nat) : Int) * 2 + 0 = (pm zs ks n k (j : Int) - 1) * 2 := by omega
    rw [e1, ← eZ]
    and_intros <;> first | trivial | rfl
  -- the measurements, one after the other
  refine ⟨⟨⟨(0 : Nat), ⟨Nat.zero_le _⟩, (by and_intros <;> first | trivial | rfl), (by first | trivial | rfl)⟩, fun i hi' => br_of (fun hlt => ?_) (fun hge => ⟨(0 : Nat), ⟨rfl, h2, hpos⟩, (by and_intros <;> first | trivial | rfl), (by first | trivial | rfl)⟩)⟩, fun _ _ => ?_⟩
  · have hiM : i < pm zs ks n k (j : Int) := lt_of_dec hlt
    obtain ⟨⟨d0, d1⟩, _, y0, y1⟩ := b_pt hS hz hk hj hiM
    have e1 : 0 + Int.toNat (i : Int) * 2 = i * 2 := by omega
    have hri : rnE nm zs n ks k (j : Int) w ((pP zs ks n k (j : Int)).getD (i * 2) 0) = 0 := by rw [b_rn hS hj h2 w0 (show w ≤ 101 by omega) d0 d1, if_pos hpos]
    obtain ⟨g1, ⟨g2, g3⟩, g4, g5⟩ := b_mn hS hz hk hj w0 (show w ≤ 101 by omega) d0 d1 hpos
    obtain ⟨k1, ⟨k2, k3⟩, k4, k5⟩ := b_mx hS hz hk hj w0 (show w ≤ 101 by omega) d0 d1 hpos
    obtain ⟨p1, p2⟩ := r_point (P := pP zs ks n k (j : Int)) (m := pm zs ks n k (j : Int)) (w := w) hP hiM (b_ln hS hz hk hj w0 (show w ≤ 101 by omega) d0 d1) hpos
    have u1 : IntKind.wrap .i64 ((pP zs ks n k (j : Int)).getD (i * 2 + 1) 0 - w) = (pP zs ks n k (j : Int)).getD (i * 2 + 1) 0 - w := wrap_eq (by omega) (by omega)
    have u2 : IntKind.wrap .i64 ((pP zs ks n k (j : Int)).getD (i * 2 + 1) 0 + w) = (pP zs ks n k (j : Int)).getD (i * 2 + 1) 0 + w := wrap_eq (by omega) (by omega)
    rw [e1, hri, u1, u2]
    simp only [gz0]
    refine ⟨⟨by omega, by omega⟩, ⟨ldz2 (by omega)⟩, ⟨hi⟩, ⟨hi⟩, br_of (fun h => by simp at h) (fun _ => br_of (fun h => by rw [g1] at h; cases h) (fun _ => br_of (fun h => by rw [k1] at h; cases h) (fun _ => br_of (fun h => ?_) (fun _ => br_of (fun h => ?_) (fun _ => ⟨i + 1, ⟨by omega⟩, ⟨by omega⟩, ?_, (by first | trivial | rfl)⟩)))))⟩
    · rw [wmul 1000 400 (by omega) (by omega) g4 g5 (by decide)] at h
      have := of_decide_eq_true h
      have p1 : ((pP zs ks n k (j : Int)).getD (i * 2 + 1) 0 - w) * (mnL (vals (koL zs ks n k (j : Int) w) ((pP zs ks n k (j : Int)).getD (i * 2) 0))).2 ≤ (mnL (vals (koL zs ks n k (j : Int) w) ((pP zs ks n k (j : Int)).getD (i * 2) 0))).1 := p1
      omega
    · rw [wmul 1000 400 (by omega) (by omega) k4 k5 (by decide)] at h
      have := of_decide_eq_true h
      have p2 : (mxR (vals (koL zs ks n k (j : Int) w) ((pP zs ks n k (j : Int)).getD (i * 2) 0))).1 ≤ ((pP zs ks n k (j : Int)).getD (i * 2 + 1) 0 + w) * (mxR (vals (koL zs ks n k (j : Int) w) ((pP zs ks n k (j : Int)).getD (i * 2) 0))).2 := p2
      omega
    · rw [up1 (n := 1000) (by omega) (by omega)]
      exact (by and_intros <;> first | trivial | rfl)
  have R7 : ∀ i : Nat, i < 4 → [eaE nm zs n ks k (j : Int) w l, laE nm zs n ks k (j : Int) w l, eaE nm zs n ks k (j : Int) (w + 1) l, laE nm zs n ks k (j : Int) (w + 1) l].getD i 0 = 0 ∨ [eaE nm zs n ks k (j : Int) w l, laE nm zs n ks k (j : Int) w l, eaE nm zs n ks k (j : Int) (w + 1) l, laE nm zs n ks k (j : Int) (w + 1) l].getD i 0 = 7 := by
    intro i hi'
    match i, hi' with
    | 0, _ => exact R.e7
    | 1, _ => exact R.l7
    | 2, _ => exact R.e7'
    | 3, _ => exact R.l7'
  refine ⟨⟨hi⟩, ⟨hi⟩, ⟨hi⟩, ⟨hi⟩, ⟨hi⟩, ⟨hi⟩, ⟨hi⟩, ⟨hi⟩, ⟨⟨(0 : Nat), ⟨Nat.zero_le _⟩, (by and_intros <;> first | trivial | rfl), (by first | trivial | rfl)⟩, fun i hi' => br_of (fun hlt => ?_) (fun _ => ⟨(0 : Nat), ⟨rfl, h2, hpos⟩, (by and_intros <;> first | trivial | rfl), (by first | trivial | rfl)⟩)⟩, fun _ _ => ?_⟩
  · have hi4 : i < 4 := by have := of_decide_eq_true hlt; omega
    have hv := R7 i hi4
    have e1 : Int.toNat (i : Int) = i := Int.toNat_natCast i
    have hs : IntKind.wrap .i64 ((i : Int) + 1) = ((i + 1 : Nat) : Int) := up1 (n := 4) hi4 (by decide)
    rw [e1, hs]
    refine ⟨⟨⟨by omega, by omega⟩, ?_⟩, br_of (fun _ => br_of (fun h => ?_) (fun _ => ⟨i + 1, ⟨by omega⟩, ⟨by omega⟩, (by and_intros <;> first | trivial | rfl), (by first | trivial | rfl)⟩)) (fun _ => ⟨i + 1, ⟨by omega⟩, ⟨by omega⟩, (by and_intros <;> first | trivial | rfl), (by first | trivial | rfl)⟩)⟩
    · match i, hi4 with
      | 0, _ => rfl
      | 1, _ => rfl
      | 2, _ => rfl
      | 3, _ => rfl
    · rename_i h0
      rcases hv with hv | hv <;> rw [hv] at h0 h <;> simp at h0 h
  -- the days on which the limit is reached
  refine ⟨?_, fun _ _ => ?_⟩
  · obtain ⟨r1, r2, r3, r4, r5, r6, r7⟩ := R
    repeat' refine br_of (fun _ => ?_) (fun _ => ?_)
    all_goals first
      | exact ⟨(0 : Nat), ⟨rfl, h2, hpos⟩, (by and_intros <;> first | trivial | rfl), (by first | trivial | rfl)⟩
      | (exfalso; simp only [beq_iff_eq, bne_iff_ne, ne_eq, decide_eq_true_eq, beq_eq_false_iff_ne, bne_eq_false_iff_eq, decide_eq_false_iff_not] at *; omega)
  have hM : 2 ≤ upto zs ks n k j - frm zs ks j := h2
  have hfe := xp_fe hS hj hM
  obtain ⟨⟨L0, L1⟩, ⟨S0, S1⟩, D0, D1⟩ := xp_line hS hz hk hj hM
  have hpr := xp_pr hS hj hM x0' x1'
  have hre := xp_re hS hj hM l0 l1
  obtain ⟨A0, A1⟩ := xp_far hS hz hk hj hM x0' x1'
  have hA : LowIn (pA zs ks n k (j : Int) x2) (pD zs ks n k (j : Int)) := ⟨D0, by omega, by omega, by omega⟩
  obtain ⟨c0, c1, c2, c3⟩ := low_bd hA (A := 1100000000000) (D := 10240000) (by omega) (by omega) D1
  rw [hfe, hpr]
  simp only [gz0]
  refine ⟨⟨hi⟩, ⟨hi⟩, br_of (fun h => by simp at h) (fun _ => ⟨⟨hi⟩, ⟨hi⟩, ⟨⟨hi⟩, ⟨hi⟩, br_of (fun _ => br_of (fun hf => ?_) (fun _ => ⟨(0 : Nat), ⟨rfl, h2, hpos⟩, (by and_intros <;> first | trivial | rfl), (by first | trivial | rfl)⟩)) (fun _ => ⟨(0 : Nat), ⟨rfl, h2, hpos⟩, (by and_intros <;> first | trivial | rfl), (by first | trivial | rfl)⟩)⟩, fun _ _ => ?_⟩)⟩
  · rw [f8B, Bool.and_eq_true] at hf
    have hfit := b_fitted hS hz hk hj h2 hf.2
    obtain ⟨q1, q2⟩ := r_line (P := pP zs ks n k (j : Int)) (m := pm zs ks n k (j : Int)) hP w0 hq hpos D0 hfit
    have q1 : (mnL (vals (koL zs ks n k (j : Int) w) x2)).1 * pD zs ks n k (j : Int) ≤ pA zs ks n k (j : Int) x2 * (mnL (vals (koL zs ks n k (j : Int) w) x2)).2 := q1
    have q2 : pA zs ks n k (j : Int) x2 * (mxR (vals (koL zs ks n k (j : Int) w) x2)).2 ≤ (mxR (vals (koL zs ks n k (j : Int) w) x2)).1 * pD zs ks n k (j : Int) := q2
    obtain ⟨s1, s2⟩ := b_line hS hz hk hj h2 w0 w1 l0 (show l ≤ 100000 by omega) hpos D0 hfit
    have F1 : reE nm zs n ks k (j : Int) l = 0 → eaE nm zs n ks k (j : Int) w l = 0 ∧ eaV nm zs n ks k (j : Int) w l ≤ gz (reE nm zs n ks k (j : Int) l) (rdN zs ks n k (j : Int) l) := fun h => by
      have h' := h
      rw [hre] at h'
      have hB := (wh7 _).1.1 h'
      obtain ⟨y1, y2, _⟩ := rd_yes hB
      have := s2 (rdN zs ks n k (j : Int) l) y2 (rd_late hB z1) y1
      rw [h, gz0]
      exact this
    have F2 : laE nm zs n ks k (j : Int) w l = 0 → reE nm zs n ks k (j : Int) l = 0 ∧ gz (reE nm zs n ks k (j : Int) l) (rdN zs ks n k (j : Int) l) ≤ laV nm zs n ks k (j : Int) w l := fun h => by
      obtain ⟨_, _, y1, y2⟩ := R.late h
      obtain ⟨hB, y3⟩ := rd_lv (l := l) y1 y2 (s1 h)
      have h0 : reE nm zs n ks k (j : Int) l = 0 := by rw [hre]; exact (wh7 _).1.2 hB
      rw [h0, gz0]
      exact ⟨rfl, y3⟩
    refine ⟨⟨hi⟩, ⟨hi⟩, br_of (fun h => by simp at h) (fun _ => br_of (fun h => ?_) (fun _ => br_of (fun h => ?_) (fun _ => br_of (fun h => ?_) (fun _ => ?_))))⟩
    · have := of_decide_eq_true h; omega
    · rw [wmul 1100000000000 400 c0 c1 m4 m5 (by decide), wmul 68000000 10240000 m2 m3 c2 c3 (by decide), sgn_no_lt (low_below m4 hA q1)] at h
      cases h
    · rw [wmul 1100000000000 400 c0 c1 n4 n5 (by decide), wmul 68000000 10240000 n2 n3 c2 c3 (by decide), sgn_no_gt (low_above n4 hA q2)] at h
      cases h
    · generalize gz (reE nm zs n ks k (j : Int) l) (rdN zs ks n k (j : Int) l) = rd at *
      repeat' refine br_of (fun _ => ?_) (fun _ => ?_)
      all_goals first
        | exact ⟨(0 : Nat), ⟨rfl, h2, hpos⟩, (by and_intros <;> first | trivial | rfl), (by first | trivial | rfl)⟩
        | (exfalso; clear hre; simp only [beq_iff_eq, bne_iff_ne, ne_eq, decide_eq_true_eq, beq_eq_false_iff_ne, bne_eq_false_iff_eq, decide_eq_false_iff_not] at *; omega)
  -- the line that is given
  refine ⟨⟨hi⟩, ⟨hi⟩, br_of (fun _ => ⟨by first | trivial | rfl, by first | trivial | rfl⟩) (fun h8 => br_of (fun _ => ⟨by first | trivial | rfl, by first | trivial | rfl⟩) (fun hf => br_of (fun _ => ⟨by first | trivial | rfl, by first | trivial | rfl⟩) (fun hq1 => br_of (fun _ => ⟨by first | trivial | rfl, by first | trivial | rfl⟩) (fun ht1 => br_of (fun _ => ⟨by first | trivial | rfl, by first | trivial | rfl⟩) (fun hmx => ?_)))))⟩
  have hq1 : q ≤ 100 := by have := of_decide_eq_false hq1; omega
  have ht1 : t ≤ 100 := by have := of_decide_eq_false ht1; omega
  have h8 : f8E nm zs n ks k (j : Int) w a p q r t = 0 := by simpa using h8
  have hf : fitB w (a, p * t, r * q, q * t) (pP zs ks n k (j : Int)) = true := by
    have : f8B nm zs n ks k (j : Int) w a p q r t = true := by simpa using hf
    rw [f8B, Bool.and_eq_true] at this
    exact this.2
  obtain ⟨⟨u0, u1⟩, ⟨p0, p1⟩, ⟨q0, _⟩, ⟨r0, r1⟩, ⟨t0, _⟩⟩ := li_in (fi_zero.1 h8 (liE a p q r t) (by simp))
  have e1 : IntKind.wrap .i64 (0 - r) = 0 - r := wrap_eq (by omega) (by omega)
  have e2 : IntKind.wrap .i64 (0 - p) = 0 - p := wrap_eq (by omega) (by omega)
  rw [e1, e2] at hmx
  have hmx : (-100000 ≤ p ∧ p ≤ 100000) ∧ -100000 ≤ r ∧ r ≤ 100000 := by
    have := of_decide_eq_false hmx
    repeat' split at this
    all_goals omega
  obtain ⟨⟨p2, p3⟩, r2, r3⟩ := hmx
  have at' := fun {x : Int} (h : -1 ≤ x) (h' : x ≤ 100000) => at_ok (a := a) (p := p) (q := q) (r := r) (t := t) u0 u1 p2 p3 r2 r3 q0 hq1 t0 ht1 h h'
  have eqt : IntKind.wrap .i64 (q * t) = q * t := wmul 100 100 (by omega) hq1 (by omega) ht1 (by decide)
  have qt0 : 0 < q * t := Int.mul_pos (by omega) (by omega)
  have qt1 : q * t ≤ 10000 := (abs_mul (a := q) (b := t) (A := 100) (B := 100) (by omega) hq1 (by omega) ht1).2
  have elq : IntKind.wrap .i64 (l * (q * t)) = l * (q * t) := wmul 400 10000 (by omega) l1 qt0 qt1 (by decide)
  have hfit := (fitB_iff hP.len w (a, p * t, r * q, q * t)).1 hf
  obtain ⟨q1', q2'⟩ := r_line (P := pP zs ks n k (j : Int)) (m := pm zs ks n k (j : Int)) hP w0 hq hpos (l := (a, p * t, r * q, q * t)) qt0 hfit
  obtain ⟨s1, s2⟩ := b_line hS hz hk hj h2 w0 w1 l0 (show l ≤ 100000 by omega) hpos (c := (a, p * t, r * q, q * t)) qt0 hfit
  obtain ⟨v1', v2', v3'⟩ := at' (x := x2) (by omega) x1'
  have F3 : laE nm zs n ks k (j : Int) w l = 0 → l * (q * t) ≤ atW a p q r t (laV nm zs n ks k (j : Int) w l) := fun h => by
    obtain ⟨_, _, y1, y2⟩ := R.late h
    rw [(at' (x := laV nm zs n ks k (j : Int) w l) (by omega) y2).1]
    exact s1 h
  have F4 : l * (q * t) ≤ atW a p q r t (pZ zs ks n k (j : Int)) → eaE nm zs n ks k (j : Int) w l = 0 := fun h => by
    rw [(at' (x := pZ zs ks n k (j : Int)) (by omega) z1).1] at h
    exact (s2 _ (Int.le_refl _) z1 h).1
  have F5 : eaE nm zs n ks k (j : Int) w l = 0 → eaV nm zs n ks k (j : Int) w l ≠ pZ zs ks n k (j : Int) → atW a p q r t (IntKind.wrap .i64 (eaV nm zs n ks k (j : Int) w l - 1)) < l * (q * t) := fun h hne => by
    obtain ⟨_, _, y1, y2⟩ := R.soon h
    rw [wrap_eq (x := eaV nm zs n ks k (j : Int) w l - 1) (by omega) (by omega), (at' (x := eaV nm zs n ks k (j : Int) w l - 1) (by omega) (by omega)).1]
    refine Int.not_le.1 fun hh => ?_
    have := (s2 _ (show pZ zs ks n k (j : Int) ≤ eaV nm zs n ks k (j : Int) w l - 1 by omega) (by omega) hh).2
    omega
  rw [eqt, elq, v1', wmul 1100000000000 400 v2' v3' m4 m5 (by decide), wmul 1100000000000 400 v2' v3' n4 n5 (by decide), wmul 68000000 10000 m2 m3 qt0 qt1 (by decide), wmul 68000000 10000 n2 n3 qt0 qt1 (by decide)]
  have q1' : (mnL (vals (koL zs ks n k (j : Int) w) x2)).1 * (q * t) ≤ lnat (a, p * t, r * q, q * t) x2 * (mnL (vals (koL zs ks n k (j : Int) w) x2)).2 := q1'
  have q2' : lnat (a, p * t, r * q, q * t) x2 * (mxR (vals (koL zs ks n k (j : Int) w) x2)).2 ≤ (mxR (vals (koL zs ks n k (j : Int) w) x2)).1 * (q * t) := q2'
  have tail : ∀ {A : Prop} {H H' : Heap}, A → H = H' → br (eaE nm zs n ks k (j : Int) w l != 0) A (br (eaV nm zs n ks k (j : Int) w l == pZ zs ks n k (j : Int)) A (Is True ∧ Value.bool (decide (atW a p q r t (IntKind.wrap .i64 (eaV nm zs n ks k (j : Int) w l - 1)) < l * (q * t))) = .bool true ∧ H = H')) := by
    intro A H H' hA hH
    refine br_of (fun _ => hA) (fun h => br_of (fun _ => hA) (fun h' => ⟨⟨trivial⟩, ?_, hH⟩))
    rw [decide_eq_true (F5 (by simpa using h) (by simpa using h'))]
  refine ⟨⟨trivial⟩, br_of (fun h => ?_) (fun _ => ⟨⟨trivial⟩, br_of (fun h => ?_) (fun _ => br_of (fun hla => ⟨⟨trivial⟩, br_of (fun h => ?_) (fun _ => br_of (fun he => ⟨⟨trivial⟩, br_of (fun h => ?_) (fun _ => tail ⟨by first | trivial | rfl, by first | trivial | rfl⟩ (by first | trivial | rfl))⟩) (fun _ => tail ⟨by first | trivial | rfl, by first | trivial | rfl⟩ (by first | trivial | rfl)))⟩) (fun _ => br_of (fun he => ⟨⟨trivial⟩, br_of (fun h => ?_) (fun _ => tail ⟨by first | trivial | rfl, by first | trivial | rfl⟩ (by first | trivial | rfl))⟩) (fun _ => tail ⟨by first | trivial | rfl, by first | trivial | rfl⟩ (by first | trivial | rfl))))⟩)⟩
  · have := of_decide_eq_true h; omega
  · have := of_decide_eq_true h; omega
  · have := of_decide_eq_true h
    have := F3 (by simpa using hla)
    omega
  · have := F4 (of_decide_eq_true h)
    rw [this] at he
    simp at he
  · have := F4 (of_decide_eq_true h)
    rw [this] at he
    simp at he
end
end Qq
