/- Parts of the proof: RZ, RZA, RZB, RZC, RZD, RZF. -/
import Derived.Test.YtaigknknfaeajaaGreatDoorZW
import Derived.Test.YtaigknknfaeajaaGreatDoorZE
import Derived.Test.YtaigknknfaeajaaGreatDoorRK
import Derived.Test.YtaigknknfaeajaaGreatDoorZJ
import Derived.Test.YtaigknknfaeajaaGreatDoorZY
section
/- Moments: plain. -/
open Go Go.Vm Go.Proofs Sp
namespace Qq
noncomputable section
/-- Moments of so many integers. -/
structure MoV (m : Int × Int × Int) : Prop where
  n0 : 0 ≤ m.1
  z : m.1 = 0 → m.2.1 = 0 ∧ m.2.2 = 0
  a0 : -(m.1 * 16384) ≤ m.2.1
  a1 : m.2.1 ≤ m.1 * 16384
  b0 : 0 ≤ m.2.2
  b1 : m.2.2 ≤ m.1 * 268435456
  ab : m.2.1 * m.2.1 ≤ m.1 * m.2.2
theorem MoV.zero : MoV (0, 0, 0) := ⟨by decide, fun _ => ⟨rfl, rfl⟩, by decide, by decide, by decide, by decide, by decide⟩
/-- What another integer adds to the variance. -/
theorem var_more {n a b : Int} (v : Int) (h0 : 0 ≤ n) (hz : n = 0 → a = 0 ∧ b = 0) (hab : a * a ≤ n * b) :
    0 ≤ n * (v * v) - 2 * (a * v) + b ∧ (n * (v * v) - 2 * (a * v) + b = 0 → 0 < n → n * v = a) := by
  by_cases hn : n = 0
  · obtain ⟨ha, hb⟩ := hz hn
    subst hn ha hb
    exact ⟨by simp, fun _ h => by omega⟩
  · have hp : 0 < n := by omega
    have e : n * (n * (v * v) - 2 * (a * v) + b) = (n * v - a) * (n * v - a) + (n * b - a * a) := by grind
    have s0 : 0 ≤ (n * v - a) * (n * v - a) := by rw [← Int.natAbs_mul_self]; exact Int.natCast_nonneg _
    refine ⟨?_, fun h _ => ?_⟩
    · have h1 : 0 ≤ n * (n * (v * v) - 2 * (a * v) + b) := by rw [e]; omega
      exact Int.nonneg_of_mul_nonneg_right h1 hp |> fun h => h
    · rw [h, Int.mul_zero] at e
      have : (n * v - a) * (n * v - a) = 0 := by omega
      rcases Int.mul_eq_zero.1 this with h | h <;> omega
theorem var_step (n a b v : Int) : (n + 1) * (b + v * v) - (a + v) * (a + v) = (n * b - a * a) + (n * (v * v) - 2 * (a * v) + b) := by grind
theorem MoV.add {m : Int × Int × Int} {v : Int} (h : MoV m) (hv : v.natAbs ≤ 16384) : MoV (addM m v) := by
  obtain ⟨q0, q1⟩ := sq_bd hv
  obtain ⟨n, a, b⟩ := m
  obtain ⟨n0, z, a0, a1, b0, b1, ab⟩ := h
  simp only at n0 z a0 a1 b0 b1 ab
  have hm := (var_more v n0 z ab).1
  have hs := var_step n a b v
  exact ⟨by simp only [addM]; omega, fun h => by simp only [addM] at h; omega, by simp only [addM]; omega, by simp only [addM]; omega, by simp only [addM]; omega, by simp only [addM]; omega, by simp only [addM]; omega⟩
theorem mo_V {xs : List Nat} {hs : List Int} {a : Nat} (hx : fi (xs.map sE) = 0) : ∀ i, a + i ≤ xs.length → MoV (mo xs hs a i)
  | 0, _ => .zero
  | i + 1, h => by
    have ih := mo_V (hs := hs) (a := a) hx i (by omega)
    rw [mo]
    split
    · exact ih.add (Fl.smp (smps hx (j := a + i) (by omega))).few
    · exact ih
theorem MoV.ck {m : Int × Int × Int} (h : MoV m) (h1 : m.1 ≤ 4096) : ckM m.1 m.2.1 m.2.2 = 0 ∧ ckR m.1 m.2.1 m.2.2 = 0 := by
  obtain ⟨n, a, b⟩ := m
  obtain ⟨n0, z, a0, a1, b0, b1, ab⟩ := h
  simp only at *
  have e1 : W (0 - n) = 0 - n := wrap_eq (by omega) (by omega)
  have e2 : W ((0 - n) * 16384) = -(n * 16384) := by rw [W, wrap_eq (by omega) (by omega)]; omega
  have e3 : W (n * 16384) = n * 16384 := wrap_eq (by omega) (by omega)
  have e4 : W (n * 268435456) = n * 268435456 := wrap_eq (by omega) (by omega)
  have e5 : W (0 - n * 16384) = -(n * 16384) := by rw [W, wrap_eq (by omega) (by omega)]; omega
  have q1 : a * a ≤ 67108864 * 67108864 := sq_le (by omega) (by omega)
  have q2 := mul_le (a := n) (b := b) (A := 4096) (B := 1099511627776) n0 h1 b0 (by omega)
  have q3 : 0 ≤ a * a := by rw [← Int.natAbs_mul_self]; exact Int.natCast_nonneg _
  have e6 : W (n * b) = n * b := wrap_eq (by omega) (by omega)
  have e7 : W (a * a) = a * a := wrap_eq (by omega) (by omega)
  have w1 : wi n 0 4096 = 0 := wi_zero.2 ⟨n0, h1⟩
  have w2 : wi a (-(n * 16384)) (n * 16384) = 0 := wi_zero.2 ⟨a0, a1⟩
  have w3 : wi b 0 (n * 268435456) = 0 := wi_zero.2 ⟨b0, b1⟩
  have w4 : wh (decide (n * b < a * a)) 24 = 0 := (wh_zero (by decide)).2 (decide_eq_false (by omega))
  refine ⟨?_, ?_⟩
  · rw [ckM, e1, e2, e3, e4, e6, e7, w1, w2, w3, w4]; rfl
  · rw [ckR, e3, e4, e5, e6, e7, w1, w2, w3, w4]; rfl
end
end Qq
end
section
/- Moments of readings: plain. -/
open Go Go.Vm Go.Proofs Sp
namespace Sp
noncomputable section
noncomputable def rdA (m : Int × Int × Int) (r : Int × Bool) : Int × Int × Int := if r.2 = true then addM m r.1 else m
/-- The moments of i readings from a on. -/
noncomputable def mrd (R : Nat → Int × Bool) (a : Nat) : Nat → Int × Int × Int
  | 0 => (0, 0, 0)
  | i + 1 => rdA (mrd R a i) (R (a + i))
end
end Sp
namespace Qq
noncomputable section
theorem mo_mrd {xs : List Nat} {hs : List Int} {a : Nat} : ∀ i, mo xs hs a i = mrd (rdF xs (knB hs)) a i
  | 0 => rfl
  | i + 1 => by
    rw [mo, mrd, ← mo_mrd i, rdA, rdF]
    cases h : knB hs ((a + i : Nat) : Int) <;> rfl
theorem mrd_congr {R Q : Nat → Int × Bool} {a : Nat} : ∀ {i : Nat}, (∀ j, j < a + i → R j = Q j) → mrd R a i = mrd Q a i
  | 0, _ => rfl
  | i + 1, h => by rw [mrd, mrd, mrd_congr (fun j hj => h j (by omega)), h (a + i) (by omega)]
theorem mo_mk {R : Nat → Int × Bool} {n a i : Nat} (h : RdOk R n) (hi : a + i ≤ n) : mo (mkX R n) (mkS (mkB R) n) a i = mrd R a i := by
  rw [mo_mrd]
  exact mrd_congr fun j hj => mk_back h (by omega)
theorem rdA_comm (m : Int × Int × Int) (r q : Int × Bool) : rdA (rdA m r) q = rdA (rdA m q) r := by
  obtain ⟨x, y, z⟩ := m
  unfold rdA addM
  cases r.2 <;> cases q.2 <;> simp <;> omega
theorem mrd_left (R : Nat → Int × Bool) (a : Nat) : ∀ i, mrd R a (i + 1) = rdA (mrd R (a + 1) i) (R a)
  | 0 => rfl
  | i + 1 => by
    rw [mrd, mrd_left R a i, mrd, rdA_comm, show a + 1 + i = a + (i + 1) by omega]
theorem mrd_rev {R : Nat → Int × Bool} {n : Nat} : ∀ i, i ≤ n → mrd (rvA n R) 0 i = mrd R (n - i) i
  | 0, _ => rfl
  | i + 1, h => by
    rw [mrd, mrd_rev i (by omega), mrd_left, rvA, show n - (i + 1) + 1 = n - i by omega, show n - 1 - (0 + i) = n - (i + 1) by omega]
theorem mrd_app (R : Nat → Int × Bool) (a i : Nat) : ∀ j, mrd R a (i + j) = ((mrd R a i).1 + (mrd R (a + i) j).1, (mrd R a i).2.1 + (mrd R (a + i) j).2.1, (mrd R a i).2.2 + (mrd R (a + i) j).2.2)
  | 0 => by simp [mrd]
  | j + 1 => by
    rw [← Nat.add_assoc, mrd, mrd_app R a i j, mrd, Nat.add_assoc]
    unfold rdA addM
    split <;> simp <;> omega
/-- Moments of integers that are moved by c. -/
noncomputable def shM (c : Int) (m : Int × Int × Int) : Int × Int × Int := (m.1, m.2.1 + m.1 * c, m.2.2 + 2 * (c * m.2.1) + m.1 * (c * c))
noncomputable def ngM (m : Int × Int × Int) : Int × Int × Int := (m.1, -m.2.1, m.2.2)
theorem mrd_sh {R Q : Nat → Int × Bool} {c : Int} {a : Nat} : ∀ {i : Nat}, (∀ j, j < a + i → (Q j).2 = (R j).2 ∧ ((R j).2 = true → (Q j).1 = (R j).1 + c)) → mrd Q a i = shM c (mrd R a i)
  | 0, _ => by simp [mrd, shM]
  | i + 1, h => by
    obtain ⟨h1, h2⟩ := h (a + i) (by omega)
    rw [mrd, mrd, mrd_sh (fun j hj => h j (by omega)), rdA, rdA, h1]
    split
    · rename_i hb
      rw [h2 hb]
      simp only [shM, addM, Prod.mk.injEq, true_and]
      refine ⟨by grind, by grind⟩
    · rfl
theorem mrd_ng {R Q : Nat → Int × Bool} {a : Nat} : ∀ {i : Nat}, (∀ j, j < a + i → (Q j).2 = (R j).2 ∧ ((R j).2 = true → (Q j).1 = -(R j).1)) → mrd Q a i = ngM (mrd R a i)
  | 0, _ => by simp [mrd, ngM]
  | i + 1, h => by
    obtain ⟨h1, h2⟩ := h (a + i) (by omega)
    rw [mrd, mrd, mrd_ng (fun j hj => h j (by omega)), rdA, rdA, h1]
    split
    · rename_i hb
      rw [h2 hb]
      simp only [ngM, addM, Prod.mk.injEq, true_and]
      refine ⟨by omega, by grind⟩
    · rfl
/-- The variance's numerator. -/
noncomputable def vaM (m : Int × Int × Int) : Int := m.1 * m.2.2 - m.2.1 * m.2.1
theorem vaM_sh (c : Int) (m : Int × Int × Int) : vaM (shM c m) = vaM m := by simp only [vaM, shM]; grind
theorem vaM_ng (m : Int × Int × Int) : vaM (ngM m) = vaM m := by simp only [vaM, ngM]; grind
theorem var_of {m : Int × Int × Int} (h : MoV m) (h1 : m.1 ≤ 4096) (h2 : m.1 ≠ 0) : varE m.1 m.2.1 m.2.2 = 0 ∧ varN m.1 m.2.1 m.2.2 = lowN (vaM m) (m.1 * m.1) ∧ varD m.1 m.2.1 m.2.2 = lowD (vaM m) (m.1 * m.1) := by
  have hc := (h.ck h1).1
  obtain ⟨w1, w2, w3, w4⟩ := ckM_var (ckM_ok hc) h2
  refine ⟨?_, ?_, ?_⟩
  · rw [varE, hc, show (m.1 == 0) = false by simpa using h2]; rfl
  · rw [varN, w1, w4]; rfl
  · rw [varD, w1, w4]; rfl
end
end Qq
end
section
/- All known samples alike: plain. -/
open Go Go.Vm Go.Proofs Sp
namespace Sp
noncomputable section
/-- The first known index and 1; or 0. -/
noncomputable def ffk (hs : List Int) : Nat → Nat
  | 0 => 0
  | s + 1 => if knB hs (s : Int) = true ∧ ffk hs s = 0 then s + 1 else ffk hs s
noncomputable def alk (xs : List Nat) (hs : List Int) : Nat → Bool
  | 0 => true
  | s + 1 => if knB hs (s : Int) = true then alk xs hs s && Sp.fEq (xs.getD s 0) (xs.getD (ffk hs (s + 1) - 1) 0) else alk xs hs s
end
end Sp
namespace Fl
open Ieee Sp
theorem eq_val {x y : Nat} (hx : IsF x) (hy : IsF y) : Sp.fEq x y = decide (val x = val y) := by
  have h := ne_val hx hy
  have e : Sp.fEq x y = !fNe x y := by
    rw [Sp.fEq, fNe, bne, Bool.not_not]
  rw [e, h]
  simp
theorem eq_lev {x y : Nat} (hx : Smp x) (hy : Smp y) : Sp.fEq x y = decide (lev x = lev y) := by
  rw [eq_val hx.fin hy.fin]
  have hp := one_pos
  refine decide_eq_decide.2 ⟨fun e => ?_, fun e => ?_⟩
  · have := hx.v
    rw [e, hy.v] at this
    exact (Int.eq_of_mul_eq_mul_right (by omega) this).symm
  · have := hx.v
    rw [e, ← hy.v] at this
    omega
end Fl
namespace Qq
noncomputable section
theorem sq_pos {x : Int} (h : x ≠ 0) : 0 < x * x := by
  have h0 : 0 ≤ x * x := by rw [← Int.natAbs_mul_self]; exact Int.natCast_nonneg _
  have h1 : x * x ≠ 0 := fun e => by rcases Int.mul_eq_zero.1 e with e | e <;> exact h e
  omega
theorem alk_ok {xs : List Nat} {hs : List Int} (hx : fi (xs.map sE) = 0) : ∀ s, s ≤ xs.length →
    (ffk hs s ≤ s ∧ (ffk hs s = 0 ↔ (mo xs hs 0 s).1 = 0) ∧ (ffk hs s = 0 → alk xs hs s = true)) ∧
    (alk xs hs s = true → (mo xs hs 0 s).2.1 = (mo xs hs 0 s).1 * lev (xs.getD (ffk hs s - 1) 0) ∧ (mo xs hs 0 s).2.2 = (mo xs hs 0 s).1 * (lev (xs.getD (ffk hs s - 1) 0) * lev (xs.getD (ffk hs s - 1) 0))) ∧
    (alk xs hs s = false → 0 < vaM (mo xs hs 0 s))
  | 0, _ => by simp [ffk, alk, mo]
  | s + 1, h => by
    obtain ⟨⟨f0, f1, f2⟩, a1, a2⟩ := alk_ok hx s (by omega)
    have hV := mo_V (hs := hs) (a := 0) hx s (by omega)
    rw [ffk, alk, mo]
    simp only [Nat.zero_add]
    cases hk : knB hs (s : Int) with
    | false =>
      simp only [Bool.false_eq_true, if_false, false_and]
      exact ⟨⟨by omega, f1, f2⟩, a1, a2⟩
    | true =>
      simp only [if_true, true_and]
      have sm := Fl.smp (smps hx (j := s) (by omega))
      by_cases hf : ffk hs s = 0
      · have hm := f1.1 hf
        obtain ⟨z1, z2⟩ := hV.z hm
        have ef : ffk hs (s + 1) = s + 1 := by rw [ffk, if_pos ⟨hk, hf⟩]
        rw [if_pos hf, ef, f2 hf, show s + 1 - 1 = s by omega, Fl.eq_lev sm sm, decide_eq_true rfl]
        simp only [addM, hm, z1, z2]
        refine ⟨⟨by omega, by omega, fun h => by omega⟩, fun _ => ⟨by omega, by omega⟩, fun h => by cases h⟩
      · have sm2 := Fl.smp (smps hx (j := ffk hs s - 1) (by omega))
        have ef : ffk hs (s + 1) = ffk hs s := by rw [ffk, if_neg (fun h => hf h.2)]
        rw [if_neg hf, ef, Fl.eq_lev sm sm2]
        have hn0 : (mo xs hs 0 s).1 ≠ 0 := fun h => hf (f1.2 h)
        have hn := hV.n0
        generalize lev (xs.getD s 0) = v at *
        generalize lev (xs.getD (ffk hs s - 1) 0) = u at *
        have hmore := var_more v hV.n0 hV.z hV.ab
        have hstep := var_step (mo xs hs 0 s).1 (mo xs hs 0 s).2.1 (mo xs hs 0 s).2.2 v
        generalize mo xs hs 0 s = m at *
        obtain ⟨n, a, b⟩ := m
        simp only [addM, vaM] at *
        refine ⟨⟨by omega, ⟨fun h => absurd h hf, fun h => by omega⟩, fun h => absurd h hf⟩, fun h => ?_, fun h => ?_⟩
        · simp only [Bool.and_eq_true, decide_eq_true_eq] at h
          obtain ⟨h1, h2⟩ := h
          obtain ⟨g1, g2⟩ := a1 h1
          subst h2
          rw [g1, g2]
          exact ⟨by grind, by grind⟩
        · rw [hstep]
          cases ha : alk xs hs s with
          | false => have := a2 ha; omega
          | true =>
            rw [ha, Bool.true_and] at h
            have h := of_decide_eq_false h
            obtain ⟨g1, g2⟩ := a1 ha
            have p := sq_pos (x := v - u) (by omega)
            have q : 0 < n * ((v - u) * (v - u)) := Int.mul_pos (by omega) p
            have e1 : n * b - a * a = 0 := by rw [g1, g2]; grind
            have e2 : n * (v * v) - 2 * (a * v) + b = n * ((v - u) * (v - u)) := by rw [g1, g2]; grind
            omega
end
end Qq
end
section
/- The index of a window, and its variance: plain. -/
open Go Go.Vm Go.Proofs Sp
namespace Qq
noncomputable section
/-- What the law says of a window's index. -/
structure WinOk (N D I : Int) : Prop where
  d0 : 1 ≤ D
  d1 : D ≤ 100
  n0 : 0 ≤ N
  n1 : N ≤ 1099511627776
  i0 : 0 ≤ I
  i1 : I ≤ 268435456
  lo : (2 * I - 1) * D ≤ 2 * N
  hi : 2 * N < (2 * I + 1) * D
theorem win_ok {m : Int × Int × Int} {z : Int} (h : MoV m) (hz : m.1 = z) (z0 : 2 ≤ z) (z1 : z ≤ 9) : WinOk (lowN (vaM m) (m.1 * m.1)) (lowD (vaM m) (m.1 * m.1)) (ixM m z) := by
  have hI : ixM m z = rnd (vaM m) (m.1 * m.1) := by rw [ixM, if_pos hz, vaM]
  rw [hI]
  obtain ⟨n, a, b⟩ := m
  obtain ⟨n0, _, a0, a1, b0, b1, ab⟩ := h
  simp only at *
  subst hz
  have s0 : 0 ≤ a * a := by rw [← Int.natAbs_mul_self]; exact Int.natCast_nonneg _
  have d0 : 4 ≤ n * n ∧ n * n ≤ 81 := by
    have := mul_le (a := n) (b := n) (A := 9) (B := 9) (by omega) z1 (by omega) z1
    have h2 : 2 * 2 ≤ n * n := Int.mul_le_mul z0 z0 (by omega) (by omega)
    omega
  have hb : n * b ≤ n * n * 268435456 := by
    have := Int.mul_le_mul_of_nonneg_left b1 (show 0 ≤ n by omega)
    rw [← Int.mul_assoc] at this
    exact this
  have hv : vaM (n, a, b) = n * b - a * a := rfl
  have v0 : 0 ≤ vaM (n, a, b) := by rw [hv]; omega
  have v1 : vaM (n, a, b) ≤ n * n * 268435456 := by rw [hv]; omega
  generalize vaM (n, a, b) = V at *
  generalize n * n = d at *
  obtain ⟨l1, l2, l3, l4⟩ := low_rep (a := V) (d := d) ⟨by omega, by omega, by omega, by omega⟩
  generalize lowN V d = N at *
  generalize lowD V d = D at *
  have hN : 0 ≤ N := by
    have : 0 ≤ N * d := by rw [l1]; exact Int.mul_nonneg v0 (by omega)
    exact Int.nonneg_of_mul_nonneg_left this (by omega)
  have r1 : rnd V d * (2 * d) ≤ 2 * V + d := Int.ediv_mul_le _ (by omega)
  have r2 : 2 * V + d < (rnd V d + 1) * (2 * d) := Int.lt_ediv_add_one_mul_self _ (by omega)
  have r0 : 0 ≤ rnd V d := Int.ediv_nonneg (by omega) (by omega)
  generalize rnd V d = I at *
  have i1 : I ≤ 268435456 := by
    have : I * (2 * d) < 268435457 * (2 * d) := by omega
    have := Int.lt_of_mul_lt_mul_right this (by omega)
    omega
  have e1 : (2 * I - 1) * D * d = ((2 * I - 1) * d) * D := by grind
  have e2 : 2 * N * d = 2 * V * D := by rw [Int.mul_assoc, l1, Int.mul_assoc]
  have e3 : (2 * I + 1) * D * d = ((2 * I + 1) * d) * D := by grind
  have k1 : (2 * I - 1) * d ≤ 2 * V := by
    have : (2 * I - 1) * d = I * (2 * d) - d := by grind
    omega
  have k2 : 2 * V < (2 * I + 1) * d := by
    have : (2 * I + 1) * d = (I + 1) * (2 * d) - d := by grind
    omega
  refine ⟨by omega, by omega, hN, by omega, r0, i1, ?_, ?_⟩
  · refine Int.le_of_mul_le_mul_right (a := d) ?_ (by omega)
    rw [e1, e2]
    exact Int.mul_le_mul_of_nonneg_right k1 (by omega)
  · refine Int.lt_of_mul_lt_mul_right (a := d) ?_ (by omega)
    rw [e2, e3]
    exact Int.mul_lt_mul_of_pos_right k2 l2
end
end Qq
end
section
/- Contracts without errors. -/
open Go Go.Vm Go.Proofs Sp
namespace Sp
noncomputable section
/-- What floats, what integers are in the cells. -/
def unF (l : List Value) : List Nat := l.map fun v => match v with
  | .float _ x => x
  | _ => 0
def unI (l : List Value) : List Int := l.map fun v => match v with
  | .int _ x => x
  | _ => 0
end
end Sp
namespace Qq
noncomputable section
noncomputable def orcMo0 (xs : List Nat) (hs : List Int) : OrcV
  | [.agg ⟨[.string nm, .int .i64 f, .slice (some ⟨0, 0, none⟩) n _, .slice (some ⟨1, 0, none⟩) k _]⟩, .agg ⟨[.int .i64 p, .int .i64 q]⟩], [some (.row e1 1 true true true), some (.row e2 2 true true true)] =>
    some (.tuple #[.agg #[.int .i64 (moP xs hs f p q).1, .int .i64 (moP xs hs f p q).2.1, .int .i64 (moP xs hs f p q).2.2], .int .i64 0],
      [some (.row e1 1 true true true), some (.row e2 2 true true true)], isRun xs hs n k e1 e2 ∧ runE nm f xs n hs = 0 ∧ spB f n p q = false)
  | _, _ => none
theorem okMo0 (xs : List Nat) (hs : List Int) : OkV Tryz.prog 20 (orcMo0 xs hs) := by
  intro args H ret H' vc h hv
  unfold orcMo0 at h
  split at h
  · rename_i nm f n c k d p q e1 e2
    cases h
    obtain ⟨⟨rfl, rfl, h1, h2, h3, h4⟩, hr, hsp⟩ := hv
    have hE : moE nm f xs n hs p q = 0 := by rw [moE, hr, hsp]; rfl
    have := mo_ok (nm := nm) (f := f) (c := c) (d := d) (p := p) (q := q) h1 h2 h3 h4
    rw [hE] at this
    simp only [gz, if_true] at this
    exact this
  · cases h
noncomputable def isMo (n a b : Int) : Prop := ckM n a b = 0 ∧ ckR n a b = 0
noncomputable def orcCkR0 : OrcV
  | [.agg ⟨[.int .i64 n, .int .i64 a, .int .i64 b]⟩], [] => some (.int .i64 0, [], isMo n a b)
  | _, _ => none
theorem okCkR0 : OkV Tryz.prog 79 orcCkR0 := by
  intro args H ret H' vc h hv
  unfold orcCkR0 at h
  split at h
  · rename_i n a b
    cases h
    refine okCkR _ _ _ _ ?_
    rw [orcCkR, hv.2]
  · cases h
noncomputable def orcAdd0 : OrcV
  | [.agg ⟨[.int .i64 n, .int .i64 a, .int .i64 b]⟩, .agg ⟨[.int .i64 m, .int .i64 c, .int .i64 d]⟩], [] =>
    some (.tuple #[.agg #[.int .i64 (n + m), .int .i64 (a + c), .int .i64 (b + d)], .int .i64 0], [], isMo n a b ∧ isMo m c d ∧ n + m ≤ 4096)
  | _, _ => none
theorem okAdd0 : OkV Tryz.prog 77 orcAdd0 := by
  intro args H ret H' vc h hv
  unfold orcAdd0 at h
  split at h
  · rename_i n a b m c d
    cases h
    obtain ⟨⟨h1, _⟩, ⟨h2, _⟩, h3⟩ := hv
    have k1 := ckM_ok h1
    have k2 := ckM_ok h2
    have e1 : W (n + m) = n + m := wrap_eq (by have := k1.n0; have := k2.n0; omega) (by omega)
    have e2 : W (a + c) = a + c := wrap_eq (by have := k1.a0; have := k2.a0; have := k1.n1; have := k2.n1; omega) (by have := k1.a1; have := k2.a1; have := k1.n1; have := k2.n1; omega)
    have e3 : W (b + d) = b + d := wrap_eq (by have := k1.b0; have := k2.b0; omega) (by have := k1.b1; have := k2.b1; have := k1.n1; have := k2.n1; omega)
    have e0 : addE n a b m c d = 0 := by rw [addE, h1, h2, e1, decide_eq_false (by omega)]; rfl
    refine okAdd _ _ _ _ ?_
    rw [orcAdd, e0, e1, e2, e3]; rfl
  · cases h
noncomputable def orcVar0 : OrcV
  | [.agg ⟨[.int .i64 n, .int .i64 a, .int .i64 b]⟩], [] => some (.tuple #[.agg #[.int .i64 (varN n a b), .int .i64 (varD n a b)], .int .i64 0], [], isMo n a b ∧ n ≠ 0)
  | _, _ => none
theorem okVar0 : OkV Tryz.prog 78 orcVar0 := by
  intro args H ret H' vc h hv
  unfold orcVar0 at h
  split at h
  · rename_i n a b
    cases h
    obtain ⟨⟨h1, _⟩, h2⟩ := hv
    have e0 : varE n a b = 0 := by rw [varE, h1, show (n == 0) = false by simpa using h2]; rfl
    refine okVar _ _ _ _ ?_
    rw [orcVar, e0]; rfl
  · cases h
theorem unF_flts (xs : List Nat) : unF (flts xs) = xs := by
  rw [unF, flts, List.map_map]
  exact List.map_id'' (fun _ => rfl) xs
theorem unI_ints (xs : List Int) : unI (ints xs) = xs := by
  rw [unI, ints, List.map_map]
  exact List.map_id'' (fun _ => rfl) xs
/-- Moments of any run. -/
noncomputable def orcMoG : OrcV
  | [.agg ⟨[.string nm, .int .i64 f, .slice (some ⟨0, 0, none⟩) n _, .slice (some ⟨1, 0, none⟩) k _]⟩, .agg ⟨[.int .i64 p, .int .i64 q]⟩], [some (.row e1 1 true true true), some (.row e2 2 true true true)] =>
    some (.tuple #[.agg #[.int .i64 (moP (unF e1) (unI e2) f p q).1, .int .i64 (moP (unF e1) (unI e2) f p q).2.1, .int .i64 (moP (unF e1) (unI e2) f p q).2.2], .int .i64 0],
      [some (.row e1 1 true true true), some (.row e2 2 true true true)], isRun (unF e1) (unI e2) n k e1 e2 ∧ runE nm f (unF e1) n (unI e2) = 0 ∧ spB f n p q = false)
  | _, _ => none
theorem okMoG : OkV Tryz.prog 20 orcMoG := by
  intro args H ret H' vc h hv
  unfold orcMoG at h
  split at h
  · rename_i nm f n c k d p q e1 e2
    cases h
    refine okMo0 (unF e1) (unI e2) _ _ _ _ _ ?_ hv
    rw [orcMo0]
  · cases h
end
end Qq
end
section
/- The law about spread: plain. -/
open Go Go.Vm Go.Proofs Sp
namespace Sp
noncomputable section
noncomputable def lvO (b : Int) : Nat := fDiv (fOf b) 1073741824
noncomputable def lvX (b : Int) (s : Nat) : List Nat := List.replicate s (lvO b)
end
end Sp
namespace Qq
noncomputable section
theorem moP_at {xs : List Nat} {hs : List Int} {f : Int} {a b : Nat} (h : a ≤ b) : moP xs hs f (f + a) (f + b) = mo xs hs a (b - a) := by
  rw [moP, show (f + (a : Int) - f).toNat = a by omega, show (f + (b : Int) - f).toNat = b by omega]
theorem moP_all {xs : List Nat} {hs : List Int} {f : Int} {n : Nat} : moP xs hs f f (f + n) = mo xs hs 0 n := by
  rw [moP, show (f - f).toNat = 0 by omega, show (f + (n : Int) - f).toNat = n by omega]; rfl
theorem mo_split {xs : List Nat} {hs : List Int} {t n : Nat} (h : t ≤ n) : mo xs hs 0 n = ((mo xs hs 0 t).1 + (mo xs hs t (n - t)).1, (mo xs hs 0 t).2.1 + (mo xs hs t (n - t)).2.1, (mo xs hs 0 t).2.2 + (mo xs hs t (n - t)).2.2) := by
  have := mrd_app (rdF xs (knB hs)) 0 t (n - t)
  rw [Nat.zero_add, show t + (n - t) = n by omega] at this
  rw [mo_mrd, mo_mrd, mo_mrd, this]
theorem mo_kcn {xs : List Nat} {hs : List Int} : ∀ n : Nat, (mo xs hs 0 n).1 = (kcn hs n : Int)
  | 0 => rfl
  | n + 1 => by
    rw [mo, kcn]
    simp only [Nat.zero_add]
    split
    · simp only [addM]; rw [mo_kcn n]; rfl
    · exact mo_kcn n
theorem mo_le {xs : List Nat} {hs : List Int} (hx : fi (xs.map sE) = 0) {a i : Nat} (h : a + i ≤ xs.length) : (mo xs hs a i).1 ≤ i := (mo_bd hx i h).c1
theorem isMo_of {m : Int × Int × Int} (h : MoV m) (h1 : m.1 ≤ 4096) : isMo m.1 m.2.1 m.2.2 := h.ck h1
theorem sp_whole {f : Int} {n : Nat} : spB f n f (f + n) = false := by
  rw [spB, decide_eq_false (by omega), decide_eq_false (by omega), decide_eq_false (by omega)]; rfl
theorem sp_at {f : Int} {n a b : Nat} (h : a ≤ b) (h2 : b ≤ n) : spB f n (f + a) (f + b) = false := by
  rw [spB, decide_eq_false (by omega), decide_eq_false (by omega), decide_eq_false (by omega)]; rfl
theorem lvX_len (b : Int) (s : Nat) : (lvX b s).length = s := by rw [lvX, List.length_replicate]
theorem lvX_at {b : Int} {s i : Nat} (h : i < s) : (lvX b s).getD i 0 = lvO b := by
  rw [lvX, List.getD_eq_getElem?_getD, List.getElem?_replicate, if_pos h]; rfl
theorem lvX_succ (b : Int) (s : Nat) : lvX b (s + 1) = lvX b s ++ [lvO b] := by
  rw [lvX, lvX, List.replicate_succ']
theorem lvX_fi {b : Int} {s : Nat} (h : b.natAbs ≤ 2048) : fi ((lvX b s).map sE) = 0 := by
  refine fi_zero.2 fun x hx => ?_
  obtain ⟨y, hy, rfl⟩ := List.mem_map.1 hx
  rw [lvX] at hy
  rw [(List.mem_replicate.1 hy).2]
  exact (Fl.half_ok h).2.2
theorem lvX_rd {b : Int} {s i : Nat} (h : b.natAbs ≤ 2048) (hi : i < s) : rdF (lvX b s) (knB []) i = (8 * b, true) := by
  rw [rdF, lvX_at hi, lvO, (Fl.half_ok h).2.1]; rfl
theorem lvX_run {nm : ByteArray} {f b : Int} {n : Nat} (h : b.natAbs ≤ 2048) (h1 : nameB nm = true) (h2 : 0 ≤ f ∧ f ≤ 100000000) (h3 : n ≤ 4096) (h4 : f + n ≤ 100000000) : runE nm f (lvX b n) n [] = 0 := by
  have c1 : fi [wh (!nameB nm) 8, wi f 0 100000000, wh (decide ((4096 : Int) < n)) 5] = 0 := by
    rw [h1, wi_zero.2 h2, decide_eq_false (by omega)]; rfl
  have c2 : fi [fi ((lvX b n).map sE), wh (decide ((100000000 : Int) < f + n)) 4] = 0 := by
    rw [lvX_fi h, decide_eq_false (by omega)]; rfl
  have c3 : hchk n [] (-1) = 0 := rfl
  have c4 : hzH (lvX b n) [] = true := by rw [hzH]; intro a b r h; cases h
  rw [runE, c1, c2, c3, c4]; rfl
/- The three runs. -/
theorem rvA_ok {R : Nat → Int × Bool} {n : Nat} (h : RdOk R n) : RdOk (rvA n R) n :=
  ⟨fun i hi => h.few _ (by omega), fun i hi => h.zero _ (by omega)⟩
theorem rvA_mo {R : Nat → Int × Bool} {n : Nat} : mrd (rvA n R) 0 n = mrd R 0 n := by
  rw [mrd_rev n (Nat.le_refl n), Nat.sub_self]
theorem ng_at {R : Nat → Int × Bool} {n i : Nat} (hi : i < n) : (chR R ngI n i).2 = (R i).2 ∧ ((R i).2 = true → (chR R ngI n i).1 = -(R i).1) ∧ ((R i).2 = false → chR R ngI n i = R i) := by
  rw [chR, decide_eq_true hi, Bool.true_and]
  cases h : (R i).2 with
  | true => exact ⟨rfl, fun _ => rfl, fun h => by cases h⟩
  | false => exact ⟨h, fun h => (by cases h), fun _ => rfl⟩
theorem ng_ok {R : Nat → Int × Bool} {n : Nat} (h : RdOk R n) : RdOk (chR R ngI n) n := by
  refine ⟨fun i hi => ?_, fun i hi hb => ?_⟩
  · obtain ⟨_, h2, h3⟩ := ng_at (R := R) hi
    cases hb : (R i).2 with
    | true => rw [h2 hb, Int.natAbs_neg]; exact h.few i hi
    | false => rw [h3 hb]; exact h.few i hi
  · obtain ⟨h1, h2, h3⟩ := ng_at (R := R) hi
    rw [h1] at hb
    rw [h3 hb]; exact h.zero i hi hb
theorem su_at {R Q : Nat → Int × Bool} {n i : Nat} {b : Int} (h : RdOk R n) (hQ : ∀ j, j < n → Q j = (b, true)) (hi : i < n) :
    (suR R Q n i).2 = (R i).2 ∧ ((R i).2 = true → (suR R Q n i).1 = (R i).1 + b) ∧ ((R i).2 = false → suR R Q n i = R i) := by
  have e : mzR R Q n i = R i := by rw [mzR, hQ i hi]; simp
  rw [suR, chR, mk_back (mzR_ok h) hi, e, decide_eq_true hi, Bool.true_and]
  cases hb : (R i).2 with
  | true => exact ⟨rfl, fun _ => by rw [if_pos rfl, adI, hQ i hi], fun h => by cases h⟩
  | false => exact ⟨hb, fun h => (by cases h), fun _ => rfl⟩
theorem su_ok {R Q : Nat → Int × Bool} {n : Nat} {b : Int} (h : RdOk R n) (hQ : ∀ j, j < n → Q j = (b, true)) (hb' : ∀ j, j < n → ((R j).1 + b).natAbs ≤ 16384) : RdOk (suR R Q n) n := by
  refine ⟨fun i hi => ?_, fun i hi hb => ?_⟩
  · obtain ⟨_, h2, h3⟩ := su_at h hQ hi
    cases hb : (R i).2 with
    | true => rw [h2 hb]; exact hb' i hi
    | false => rw [h3 hb]; exact h.few i hi
  · obtain ⟨h1, h2, h3⟩ := su_at h hQ hi
    rw [h1] at hb
    rw [h3 hb]; exact h.zero i hi hb
/-- Runs that say the same of the variance. -/
structure Like (m m' : Int × Int × Int) : Prop where
  n : m'.1 = m.1
  v : vaM m' = vaM m
  ok : MoV m'
theorem mrd_V {R : Nat → Int × Bool} {n : Nat} (h : RdOk R n) : ∀ i, i ≤ n → MoV (mrd R 0 i)
  | 0, _ => .zero
  | i + 1, hi => by
    have ih := mrd_V h i (by omega)
    rw [mrd, rdA, Nat.zero_add]
    split
    · exact ih.add (h.few i (by omega))
    · exact ih
theorem like_rv {R : Nat → Int × Bool} {n : Nat} (h : RdOk R n) : Like (mrd R 0 n) (mrd (rvA n R) 0 n) := by
  refine ⟨?_, ?_, mrd_V (rvA_ok h) n (Nat.le_refl n)⟩ <;> rw [rvA_mo]
theorem like_ng {R : Nat → Int × Bool} {n : Nat} (h : RdOk R n) : Like (mrd R 0 n) (mrd (chR R ngI n) 0 n) := by
  have e := mrd_ng (R := R) (Q := chR R ngI n) (a := 0) (i := n) (fun j hj => ⟨(ng_at (by omega)).1, (ng_at (by omega)).2.1⟩)
  refine ⟨by rw [e]; rfl, by rw [e, vaM_ng], mrd_V (ng_ok h) n (Nat.le_refl n)⟩
theorem like_su {R Q : Nat → Int × Bool} {n : Nat} {b : Int} (h : RdOk R n) (hQ : ∀ j, j < n → Q j = (b, true)) (hb : ∀ j, j < n → ((R j).1 + b).natAbs ≤ 16384) : Like (mrd R 0 n) (mrd (suR R Q n) 0 n) := by
  have e := mrd_sh (R := R) (Q := suR R Q n) (c := b) (a := 0) (i := n) (fun j hj => ⟨(su_at h hQ (by omega)).1, (su_at h hQ (by omega)).2.1⟩)
  refine ⟨by rw [e]; rfl, by rw [e, vaM_sh], mrd_V (su_ok h hQ hb) n (Nat.le_refl n)⟩
theorem Like.var {m m' : Int × Int × Int} (h : Like m m') (hm : MoV m) (h1 : m.1 ≤ 4096) (h2 : m.1 ≠ 0) : isMo m'.1 m'.2.1 m'.2.2 ∧ m'.1 ≠ 0 ∧ varN m'.1 m'.2.1 m'.2.2 = varN m.1 m.2.1 m.2.2 ∧ varD m'.1 m'.2.1 m'.2.2 = varD m.1 m.2.1 m.2.2 := by
  obtain ⟨_, a1, a2⟩ := var_of hm h1 h2
  obtain ⟨_, b1, b2⟩ := var_of h.ok (by rw [h.n]; exact h1) (by rw [h.n]; exact h2)
  refine ⟨isMo_of h.ok (by rw [h.n]; exact h1), by rw [h.n]; exact h2, ?_, ?_⟩
  · rw [a1, b1, h.n, h.v]
  · rw [a2, b2, h.n, h.v]
end
end Qq
end
