/- The law about spread: plain facts of its walk. -/
import Derived.Test.YtaigknknfaeajaaGreatDoorZX
import Derived.Test.YtaigknknfaeajaaGreatDoorRL
open Go Go.Vm Go.Proofs Sp
namespace Qq
noncomputable section
theorem cut_at {f x0 : Int} {n : Nat} (h0 : 0 ≤ x0) (h1 : x0 < 256) (hf : 0 ≤ f ∧ f ≤ 100000000) (hn : n ≤ 4096) : IntKind.wrap .i64 (f + Int.tmod (IntKind.wrap .i64 x0) (IntKind.wrap .i64 ((n : Int) + 1))) = f + ((x0.toNat % (n + 1) : Nat) : Int) := by
  have e1 : IntKind.wrap .i64 x0 = (x0.toNat : Int) := by rw [wrap_eq (by omega) (by omega)]; omega
  have e2 : IntKind.wrap .i64 ((n : Int) + 1) = ((n + 1 : Nat) : Int) := by rw [wrap_eq (by omega) (by omega)]; omega
  have hl : x0.toNat % (n + 1) < n + 1 := Nat.mod_lt _ (by omega)
  rw [e1, e2, ← Int.ofNat_tmod, wrap_eq (by omega) (by omega)]
theorem size_at {x2 : Int} (h0 : 0 ≤ x2) (h1 : x2 < 256) : 2 ≤ IntKind.wrap .i64 (2 + Int.tmod (IntKind.wrap .i64 x2) 8) ∧ IntKind.wrap .i64 (2 + Int.tmod (IntKind.wrap .i64 x2) 8) ≤ 9 := by
  have e1 : IntKind.wrap .i64 x2 = x2 := by rw [wrap_eq (by omega) (by omega)]
  have h2 : 0 ≤ Int.tmod x2 8 := Int.tmod_nonneg 8 h0
  have h3 : Int.tmod x2 8 < 8 := Int.tmod_lt_of_pos x2 (by omega)
  rw [e1, wrap_eq (by omega) (by omega)]
  omega
/-- The variance of moments that are valid. -/
theorem var_fine {m : Int × Int × Int} (h : MoV m) (h1 : m.1 ≤ 4096) (h2 : m.1 ≠ 0) : 0 ≤ varN m.1 m.2.1 m.2.2 ∧ 1 ≤ varD m.1 m.2.1 m.2.2 ∧ (varN m.1 m.2.1 m.2.2 = 0 ↔ vaM m = 0) := by
  obtain ⟨_, e1, e2⟩ := var_of h h1 h2
  rw [e1, e2]
  obtain ⟨n, a, b⟩ := m
  obtain ⟨n0, _, a0, a1, b0, b1, ab⟩ := h
  simp only at *
  have s0 : 0 ≤ a * a := by rw [← Int.natAbs_mul_self]; exact Int.natCast_nonneg _
  have d1 : n * n ≤ 4096 * 4096 := (mul_le n0 h1 n0 h1).2
  have d0 : 1 * 1 ≤ n * n := Int.mul_le_mul (by omega) (by omega) (by omega) n0
  have hb : n * b ≤ 4096 * 1099511627776 := (mul_le n0 h1 b0 (by omega)).2
  have hv : vaM (n, a, b) = n * b - a * a := rfl
  have v0 : 0 ≤ vaM (n, a, b) := by rw [hv]; omega
  have v1 : vaM (n, a, b) ≤ 4096 * 1099511627776 := by rw [hv]; omega
  generalize vaM (n, a, b) = V at *
  generalize n * n = d at *
  obtain ⟨l1, l2, l3, l4⟩ := low_rep (a := V) (d := d) ⟨by omega, by omega, by omega, by omega⟩
  generalize lowN V d = N at *
  generalize lowD V d = D at *
  have hN : 0 ≤ N := by
    have : 0 ≤ N * d := by rw [l1]; exact Int.mul_nonneg v0 (by omega)
    exact Int.nonneg_of_mul_nonneg_left this (by omega)
  refine ⟨hN, by omega, fun e => ?_, fun e => ?_⟩
  · subst e
    rw [Int.zero_mul] at l1
    rcases Int.mul_eq_zero.1 l1.symm with e | e
    · exact e
    · omega
  · omega
/-- All alike, just where the variance is 0. -/
theorem alk_va {xs : List Nat} {hs : List Int} {n : Nat} (hx : fi (xs.map sE) = 0) (hn : n ≤ xs.length) : alk xs hs n = decide (vaM (mo xs hs 0 n) = 0) := by
  obtain ⟨_, a1, a2⟩ := alk_ok (hs := hs) hx n hn
  cases h : alk xs hs n with
  | true =>
    obtain ⟨g1, g2⟩ := a1 h
    refine (decide_eq_true ?_).symm
    rw [vaM, g1, g2]
    grind
  | false =>
    have := a2 h
    exact (decide_eq_false (by omega)).symm
theorem flts_snoc (xs : List Nat) (x : Nat) : flts (xs ++ [x]) = flts xs ++ [.float .f32 x] := (flts_app xs [x]).symm
/-- One of the three runs. -/
theorem round {R0 R : Nat → Int × Bool} {nm : ByteArray} {f : Int} {n : Nat} {N D : Int} (hR : RdOk R n) (hl : Like (mrd R0 0 n) (mrd R 0 n)) (hV : MoV (mrd R0 0 n)) (h1 : (mrd R0 0 n).1 ≤ 4096) (h2 : (mrd R0 0 n).1 ≠ 0)
    (hN : varN (mrd R0 0 n).1 (mrd R0 0 n).2.1 (mrd R0 0 n).2.2 = N) (hD : varD (mrd R0 0 n).1 (mrd R0 0 n).2.1 (mrd R0 0 n).2.2 = D)
    (g1 : nameB nm = true) (g2 : 0 ≤ f ∧ f ≤ 100000000) (g3 : n ≤ 4096) (g4 : f + n ≤ 100000000) :
    (isRun (unF (flts (mkX R n))) (unI (ints (mkS (mkB R) n))) n (mkK (mkB R) n) (flts (mkX R n)) (ints (mkS (mkB R) n)) ∧ runE nm f (unF (flts (mkX R n))) n (unI (ints (mkS (mkB R) n))) = 0 ∧ spB f n f (f + n) = false) ∧
    (isMo (moP (unF (flts (mkX R n))) (unI (ints (mkS (mkB R) n))) f f (f + n)).1 (moP (unF (flts (mkX R n))) (unI (ints (mkS (mkB R) n))) f f (f + n)).2.1 (moP (unF (flts (mkX R n))) (unI (ints (mkS (mkB R) n))) f f (f + n)).2.2 ∧ (moP (unF (flts (mkX R n))) (unI (ints (mkS (mkB R) n))) f f (f + n)).1 ≠ 0) ∧
    varN (moP (unF (flts (mkX R n))) (unI (ints (mkS (mkB R) n))) f f (f + n)).1 (moP (unF (flts (mkX R n))) (unI (ints (mkS (mkB R) n))) f f (f + n)).2.1 (moP (unF (flts (mkX R n))) (unI (ints (mkS (mkB R) n))) f f (f + n)).2.2 = N ∧
    varD (moP (unF (flts (mkX R n))) (unI (ints (mkS (mkB R) n))) f f (f + n)).1 (moP (unF (flts (mkX R n))) (unI (ints (mkS (mkB R) n))) f f (f + n)).2.1 (moP (unF (flts (mkX R n))) (unI (ints (mkS (mkB R) n))) f f (f + n)).2.2 = D := by
  obtain ⟨v1, v2, v3, v4⟩ := hl.var hV h1 h2
  rw [unF_flts, unI_ints, moP_all, mo_mk hR (by omega)]
  exact ⟨⟨mk_isRun (by omega), mk_runE hR g1 g2 g3 g4, sp_whole⟩, ⟨v1, v2⟩, v3.trans hN, v4.trans hD⟩
theorem WinOk.lo_b {N D I : Int} (w : WinOk N D I) : decide (IntKind.wrap .i64 (2 * N) < IntKind.wrap .i64 (IntKind.wrap .i64 (IntKind.wrap .i64 (2 * I) - 1) * D)) = false := by
  obtain ⟨d0, d1, n0, n1, i0, i1, lo, hi⟩ := w
  have q1 := abs_mulR (a := 2 * I - 1) (b := D) (A := 536870912) (B := 100) (by omega) (by omega) (by omega) (by omega)
  have e1 : IntKind.wrap .i64 (2 * N) = 2 * N := wrap_eq (by omega) (by omega)
  have e2 : IntKind.wrap .i64 (2 * I) = 2 * I := wrap_eq (by omega) (by omega)
  have e3 : IntKind.wrap .i64 (2 * I - 1) = 2 * I - 1 := wrap_eq (by omega) (by omega)
  have e4 : IntKind.wrap .i64 ((2 * I - 1) * D) = (2 * I - 1) * D := wrap_eq (by omega) (by omega)
  rw [e1, e2, e3, e4]
  exact decide_eq_false (by omega)
theorem WinOk.hi_b {N D I : Int} (w : WinOk N D I) : decide (IntKind.wrap .i64 (IntKind.wrap .i64 (IntKind.wrap .i64 (2 * I) + 1) * D) ≤ IntKind.wrap .i64 (2 * N)) = false := by
  obtain ⟨d0, d1, n0, n1, i0, i1, lo, hi⟩ := w
  have q1 := abs_mulR (a := 2 * I + 1) (b := D) (A := 536870913) (B := 100) (by omega) (by omega) (by omega) (by omega)
  have e1 : IntKind.wrap .i64 (2 * N) = 2 * N := wrap_eq (by omega) (by omega)
  have e2 : IntKind.wrap .i64 (2 * I) = 2 * I := wrap_eq (by omega) (by omega)
  have e3 : IntKind.wrap .i64 (2 * I + 1) = 2 * I + 1 := wrap_eq (by omega) (by omega)
  have e4 : IntKind.wrap .i64 ((2 * I + 1) * D) = (2 * I + 1) * D := wrap_eq (by omega) (by omega)
  rw [e1, e2, e3, e4]
  exact decide_eq_false (by omega)
/-- A window: where it lies, its moments, its index. -/
theorem ixL_at {xs : List Nat} {hs : List Int} {z m i : Nat} (h : i < m) : (ixL xs hs z m).getD i 0 = ixM (wnM xs hs z i) z := by
  rw [ixL, List.getD_eq_getElem?_getD, List.getElem?_map, List.getElem?_range h]; rfl
theorem ends_at {f : Int} {n z s : Nat} (hf : 0 ≤ f ∧ f ≤ 100000000) (hn : n ≤ 4096) (h : (s + 1) * z ≤ n) (hs : s ≤ 4096) : IntKind.wrap .i64 (f + IntKind.wrap .i64 ((s : Int) * (z : Int))) = f + ((s * z : Nat) : Int) ∧ IntKind.wrap .i64 (f + IntKind.wrap .i64 (IntKind.wrap .i64 ((s : Int) + 1) * (z : Int))) = f + (((s + 1) * z : Nat) : Int) := by
  have e0 : IntKind.wrap .i64 ((s : Int) + 1) = ((s + 1 : Nat) : Int) := by rw [wrap_eq (by omega) (by omega)]; omega
  have h2 : s * z ≤ (s + 1) * z := Nat.mul_le_mul_right z (by omega)
  rw [e0, ← Int.natCast_mul, ← Int.natCast_mul]
  generalize (s + 1) * z = p at *
  generalize s * z = q at *
  have e1 : IntKind.wrap .i64 (q : Int) = q := wrap_eq (by omega) (by omega)
  have e2 : IntKind.wrap .i64 (p : Int) = p := wrap_eq (by omega) (by omega)
  rw [e1, e2]
  exact ⟨wrap_eq (by omega) (by omega), wrap_eq (by omega) (by omega)⟩
end
end Qq
