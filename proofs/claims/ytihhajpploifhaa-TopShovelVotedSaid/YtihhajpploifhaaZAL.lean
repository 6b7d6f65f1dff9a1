/- Parts of the proof: WQ, WR, WT, WU, WV. -/
import Derived.Test.YtihhajpploifhaaZAH
import Derived.Test.YtihhajpploifhaaZAC
import Derived.Test.YtihhajpploifhaaWN
section
/- The law of the vote: a count of wrong readings, round by round. -/
open Go Go.Vm Go.Proofs Sp
namespace Qq
noncomputable section
theorem flAt_flts {xs : List Nat} {i : Nat} (h : i < xs.length) : flAt (flts xs) i = xs.getD i 0 := by rw [flAt, flts_at h]
/-- One round. -/
theorem wr_step {V : Nat → Int × Bool} {xs : List Nat} {hs : List Int} {n s lim : Nat} (hV : RdOk V n) (hx : fi (xs.map sE) = 0) (hn : xs.length = n) (hl : sE lim = 0) (hs' : s < n) :
    (knG (ints (mkS (mkB V) n)) s = false → wrB (V s) (rdF xs (knB hs) s) (lev lim) = false) ∧ (knG (ints hs) s = false → wrB (V s) (rdF xs (knB hs) s) (lev lim) = false) ∧
    (knG (ints (mkS (mkB V) n)) s = true → knG (ints hs) s = true →
      (fSubOk ((mkX V n).getD s 0) (xs.getD s 0) ∧ fSubOk (xs.getD s 0) ((mkX V n).getD s 0) ∧ fMaxOk (fSub ((mkX V n).getD s 0) (xs.getD s 0)) (fSub (xs.getD s 0) ((mkX V n).getD s 0))) ∧
      fGt (fMax (fSub ((mkX V n).getD s 0) (xs.getD s 0)) (fSub (xs.getD s 0) ((mkX V n).getD s 0))) lim = wrB (V s) (rdF xs (knB hs) s) (lev lim)) := by
  have k1 : knG (ints (mkS (mkB V) n)) s = (V s).2 := by rw [knG, ihs_ints, mkS_kn hs']; rfl
  have k2 : knG (ints hs) s = (rdF xs (knB hs) s).2 := by
    rw [knG, ihs_ints, rdF]; cases knB hs (s : Int) <;> rfl
  rw [k1, k2]
  refine ⟨fun h => by rw [wrB, h, Bool.false_and], fun h => by rw [wrB, h, Bool.false_and, Bool.and_false], fun h1 h2 => ?_⟩
  have b := mk_back hV hs'
  have e1 : lev ((mkX V n).getD s 0) = (V s).1 := by
    have : (rdF (mkX V n) (knB (mkS (mkB V) n)) s).2 = true := by rw [b, h1]
    rw [rdF] at this
    split at this
    · rename_i hk
      rw [rdF, if_pos hk] at b
      rw [← b]
    · cases this
  have e2 : lev (xs.getD s 0) = (rdF xs (knB hs) s).1 := by
    rw [rdF] at h2 ⊢
    split at h2
    · rename_i hk; rw [if_pos hk]
    · cases h2
  have s1 : sE ((mkX V n).getD s 0) = 0 := smps (mkX_fi hV.few) (by rw [mkX_len]; exact hs')
  have s2 : sE (xs.getD s 0) = 0 := smps hx (by omega)
  have f1 := hV.few s hs'
  have f2 : (rdF xs (knB hs) s).1.natAbs ≤ 16384 := rdF_few hx (by omega)
  obtain ⟨c1, c2⟩ := Fl.far_lev (Fl.smp s1) (Fl.smp s2) (Fl.smp hl) (by rw [e1]; exact f1) (by rw [e2]; exact f2)
  refine ⟨c1, ?_⟩
  rw [c2, e1, e2, wrB, h1, h2, Bool.true_and, Bool.true_and]
end
end Qq
end
section
/- The law of the vote: the vote of readings that are turned. -/
open Go Go.Vm Go.Proofs Sp
namespace Qq
noncomputable section
theorem rd_turn {R : Nat → Int × Bool} {n m : Nat} {p : Nat → Nat} (hp : ∀ i, i < m → p i < n) (h : RdOk R n) : RdOk (fun i => R (p i)) m := ⟨fun i hi => h.few _ (hp i hi), fun i hi => h.zero _ (hp i hi)⟩
theorem vo_turn {f : Int} {n m lim : Nat} {p : Nat → Nat} {R0 R1 R2 : Nat → Int × Bool} (hp : ∀ i, i < m → p i < n) (h0 : RdOk R0 n) (h1 : RdOk R1 n) (h2 : RdOk R2 n) (hl : sE lim = 0) (hz : fLt lim 0 = false) :
    VoIs f m lim (mkX (fun i => R0 (p i)) m) (mkX (fun i => R1 (p i)) m) (mkX (fun i => R2 (p i)) m) (mkS (mkB fun i => R0 (p i)) m) (mkS (mkB fun i => R1 (p i)) m) (mkS (mkB fun i => R2 (p i)) m)
      (mkX (fun i => vtF R0 R1 R2 (lev lim) (p i)) m) (mkS (mkB fun i => vtF R0 R1 R2 (lev lim) (p i)) m) (mkK (mkB fun i => vtF R0 R1 R2 (lev lim) (p i)) m)
      (wrN (fun i => vtF R0 R1 R2 (lev lim) (p i)) (fun i => R0 (p i)) (lev lim) m) (wrN (fun i => vtF R0 R1 R2 (lev lim) (p i)) (fun i => R1 (p i)) (lev lim) m) (wrN (fun i => vtF R0 R1 R2 (lev lim) (p i)) (fun i => R2 (p i)) (lev lim) m) := by
  have b0 : ∀ i, i < m → rdF (mkX (fun i => R0 (p i)) m) (knB (mkS (mkB fun i => R0 (p i)) m)) i = R0 (p i) := fun i hi => mk_back (rd_turn hp h0) hi
  have b1 : ∀ i, i < m → rdF (mkX (fun i => R1 (p i)) m) (knB (mkS (mkB fun i => R1 (p i)) m)) i = R1 (p i) := fun i hi => mk_back (rd_turn hp h1) hi
  have b2 : ∀ i, i < m → rdF (mkX (fun i => R2 (p i)) m) (knB (mkS (mkB fun i => R2 (p i)) m)) i = R2 (p i) := fun i hi => mk_back (rd_turn hp h2) hi
  have bv := vtF_congr (l := lev lim) b0 b1 b2
  have bv' : ∀ i, i < m → vtF (rdF (mkX (fun i => R0 (p i)) m) (knB (mkS (mkB fun i => R0 (p i)) m))) (rdF (mkX (fun i => R1 (p i)) m) (knB (mkS (mkB fun i => R1 (p i)) m))) (rdF (mkX (fun i => R2 (p i)) m) (knB (mkS (mkB fun i => R2 (p i)) m))) (lev lim) i = vtF R0 R1 R2 (lev lim) (p i) := fun i hi => by
    rw [bv i hi]; rfl
  exact ⟨hl, hz, mkX_congr bv', mkB_congr bv', mkK_congr bv', wrN_congr bv' b0, wrN_congr bv' b1, wrN_congr bv' b2⟩
/-- The vote itself, turned. -/
theorem v_turn {V : Nat → Int × Bool} {n m : Nat} {p : Nat → Nat} (hp : ∀ i, i < m → p i < n) (hV : RdOk V n) :
    mkX (fun i => rdF (mkX V n) (knB (mkS (mkB V) n)) (p i)) m = mkX (fun i => V (p i)) m ∧ mkS (mkB fun i => rdF (mkX V n) (knB (mkS (mkB V) n)) (p i)) m = mkS (mkB fun i => V (p i)) m ∧ mkK (mkB fun i => rdF (mkX V n) (knB (mkS (mkB V) n)) (p i)) m = mkK (mkB fun i => V (p i)) m :=
  have e : ∀ i, i < m → (fun i => rdF (mkX V n) (knB (mkS (mkB V) n)) (p i)) i = (fun i => V (p i)) i := fun i hi => mk_back hV (hp i hi)
  ⟨mkX_congr e, mkB_congr e, mkK_congr e⟩
end
end Qq
end
section
/- The law of the vote: all its facts. -/
open Go Go.Vm Go.Proofs Sp
namespace Sp
def tri {α : Type} (a b c : α) : Nat → α
  | 0 => a
  | 1 => b
  | _ => c
end Sp
namespace Qq
noncomputable section
/-- What the law asks of three runs turned, and of their vote. -/
structure Tn (nm0 nm1 nm2 : ByteArray) (f : Int) (m lim : Nat) (y q : Nat → List Value) (j : Nat → Nat) (tx : List Nat) (th : List Int) (tk : Nat) (s0 s1 s2 : Int) (vX vH : List Value) (vK : Nat) : Prop where
  r0 : okRun nm0 f m (j 0) (y 0) (q 0)
  r1 : okRun nm1 f m (j 1) (y 1) (q 1)
  r2 : okRun nm2 f m (j 2) (y 2) (q 2)
  vo : VoIs f m lim (fxs (y 0)) (fxs (y 1)) (fxs (y 2)) (ihs (q 0)) (ihs (q 1)) (ihs (q 2)) tx th tk s0 s1 s2
  run : okRun nm0 f m tk (flts tx) (ints th)
  eX : flts tx = vX
  eH : ints th = vH
  eK : tk = vK
theorem tn_of {nm0 nm1 nm2 : ByteArray} {f : Int} {n m lim : Nat} {p : Nat → Nat} {R0 R1 R2 : Nat → Int × Bool} (hp : ∀ i, i < m → p i < n) (h0 : RdOk R0 n) (h1 : RdOk R1 n) (h2 : RdOk R2 n) (hl : sE lim = 0) (hz : fLt lim 0 = false)
    (b0 : nameB nm0 = true) (b1 : nameB nm1 = true) (b2 : nameB nm2 = true) (c1 : 0 ≤ f ∧ f ≤ 100000000) (c2 : m ≤ 4096) (c3 : f + m ≤ 100000000) :
    Tn nm0 nm1 nm2 f m lim (tri (flts (mkX (fun i => R0 (p i)) m)) (flts (mkX (fun i => R1 (p i)) m)) (flts (mkX (fun i => R2 (p i)) m))) (tri (ints (mkS (mkB fun i => R0 (p i)) m)) (ints (mkS (mkB fun i => R1 (p i)) m)) (ints (mkS (mkB fun i => R2 (p i)) m)))
      (tri (mkK (mkB fun i => R0 (p i)) m) (mkK (mkB fun i => R1 (p i)) m) (mkK (mkB fun i => R2 (p i)) m))
      (mkX (fun i => vtF R0 R1 R2 (lev lim) (p i)) m) (mkS (mkB fun i => vtF R0 R1 R2 (lev lim) (p i)) m) (mkK (mkB fun i => vtF R0 R1 R2 (lev lim) (p i)) m)
      (wrN (fun i => vtF R0 R1 R2 (lev lim) (p i)) (fun i => R0 (p i)) (lev lim) m) (wrN (fun i => vtF R0 R1 R2 (lev lim) (p i)) (fun i => R1 (p i)) (lev lim) m) (wrN (fun i => vtF R0 R1 R2 (lev lim) (p i)) (fun i => R2 (p i)) (lev lim) m)
      (flts (mkX (fun i => rdF (mkX (vtF R0 R1 R2 (lev lim)) n) (knB (mkS (mkB (vtF R0 R1 R2 (lev lim))) n)) (p i)) m)) (ints (mkS (mkB fun i => rdF (mkX (vtF R0 R1 R2 (lev lim)) n) (knB (mkS (mkB (vtF R0 R1 R2 (lev lim))) n)) (p i)) m)) (mkK (mkB fun i => rdF (mkX (vtF R0 R1 R2 (lev lim)) n) (knB (mkS (mkB (vtF R0 R1 R2 (lev lim))) n)) (p i)) m) := by
  have hV := vtF_ok (l := lev lim) h0 h1 h2
  obtain ⟨v1, v2, v3⟩ := v_turn hp hV
  refine ⟨okRun_mk (rd_turn hp h0) b0 c1 c2 c3, okRun_mk (rd_turn hp h1) b1 c1 c2 c3, okRun_mk (rd_turn hp h2) b2 c1 c2 c3, ?_, okRun_mk (rd_turn hp hV) b0 c1 c2 c3, by rw [v1], by rw [v2], by rw [v3]⟩
  simp only [tri, fxs_flts, ihs_ints]
  exact vo_turn hp h0 h1 h2 hl hz
end
end Qq
end
section
/- The law of the vote: all facts. -/
open Go Go.Vm Go.Proofs Sp
namespace Sp
noncomputable section
noncomputable def vV (x0 x1 x2 : List Nat) (h0 h1 h2 : List Int) (lim : Nat) : Nat → Int × Bool := vtF (rdF x0 (knB h0)) (rdF x1 (knB h1)) (rdF x2 (knB h2)) (lev lim)
noncomputable def wK (x0 x1 x2 : List Nat) (h0 h1 h2 : List Int) (lim : Nat) (x : List Nat) (h : List Int) (s : Nat) : Int := wrN (vV x0 x1 x2 h0 h1 h2 lim) (rdF x (knB h)) (lev lim) s
/- The three lists at places p. -/
noncomputable def trX (x0 x1 x2 : List Nat) (h0 h1 h2 : List Int) (p : Nat → Nat) (m : Nat) : Nat → List Value := tri (flts (mkX (fun i => rdF x0 (knB h0) (p i)) m)) (flts (mkX (fun i => rdF x1 (knB h1) (p i)) m)) (flts (mkX (fun i => rdF x2 (knB h2) (p i)) m))
noncomputable def trH (x0 x1 x2 : List Nat) (h0 h1 h2 : List Int) (p : Nat → Nat) (m : Nat) : Nat → List Value := tri (ints (mkS (mkB fun i => rdF x0 (knB h0) (p i)) m)) (ints (mkS (mkB fun i => rdF x1 (knB h1) (p i)) m)) (ints (mkS (mkB fun i => rdF x2 (knB h2) (p i)) m))
noncomputable def trK (x0 x1 x2 : List Nat) (h0 h1 h2 : List Int) (p : Nat → Nat) (m : Nat) : Nat → Nat := tri (mkK (mkB fun i => rdF x0 (knB h0) (p i)) m) (mkK (mkB fun i => rdF x1 (knB h1) (p i)) m) (mkK (mkB fun i => rdF x2 (knB h2) (p i)) m)
noncomputable def tvX (x0 x1 x2 : List Nat) (h0 h1 h2 : List Int) (lim : Nat) (p : Nat → Nat) (m : Nat) : List Nat := mkX (fun i => vV x0 x1 x2 h0 h1 h2 lim (p i)) m
noncomputable def tvH (x0 x1 x2 : List Nat) (h0 h1 h2 : List Int) (lim : Nat) (p : Nat → Nat) (m : Nat) : List Int := mkS (mkB fun i => vV x0 x1 x2 h0 h1 h2 lim (p i)) m
noncomputable def tvK (x0 x1 x2 : List Nat) (h0 h1 h2 : List Int) (lim : Nat) (p : Nat → Nat) (m : Nat) : Nat := mkK (mkB fun i => vV x0 x1 x2 h0 h1 h2 lim (p i)) m
noncomputable def twK (x0 x1 x2 : List Nat) (h0 h1 h2 : List Int) (lim : Nat) (x : List Nat) (h : List Int) (p : Nat → Nat) (m : Nat) : Int := wrN (fun i => vV x0 x1 x2 h0 h1 h2 lim (p i)) (fun i => rdF x (knB h) (p i)) (lev lim) m
end
end Sp
namespace Qq
noncomputable section
theorem wrN_le {V R : Nat → Int × Bool} {l : Int} : ∀ s : Nat, 0 ≤ wrN V R l s ∧ wrN V R l s ≤ s
  | 0 => ⟨Int.le_refl _, Int.le_refl _⟩
  | s + 1 => by
    have := wrN_le (V := V) (R := R) (l := l) s
    rw [wrN]
    split <;> omega
/-- A count of wrong readings, by rounds. -/
structure Wr (n lim : Nat) (vx : List Nat) (vh : List Int) (x : List Nat) (h : List Int) (W : Nat → Int) : Prop where
  zero : W 0 = 0
  le : ∀ s : Nat, 0 ≤ W s ∧ W s ≤ s
  v0 : ∀ s, s < n → knG (ints vh) s = false → W (s + 1) = W s
  r0 : ∀ s, s < n → knG (ints h) s = false → W (s + 1) = W s
  ok : ∀ s, s < n → knG (ints vh) s = true → knG (ints h) s = true → fSubOk (vx.getD s 0) (x.getD s 0) ∧ fSubOk (x.getD s 0) (vx.getD s 0) ∧ fMaxOk (fSub (vx.getD s 0) (x.getD s 0)) (fSub (x.getD s 0) (vx.getD s 0))
  y : ∀ s, s < n → knG (ints vh) s = true → knG (ints h) s = true → fGt (fMax (fSub (vx.getD s 0) (x.getD s 0)) (fSub (x.getD s 0) (vx.getD s 0))) lim = true → W (s + 1) = W s + 1
  z : ∀ s, s < n → knG (ints vh) s = true → knG (ints h) s = true → fGt (fMax (fSub (vx.getD s 0) (x.getD s 0)) (fSub (x.getD s 0) (vx.getD s 0))) lim = false → W (s + 1) = W s
theorem wr_of {V : Nat → Int × Bool} {xs : List Nat} {hs : List Int} {n lim : Nat} (hV : RdOk V n) (hx : fi (xs.map sE) = 0) (hn : xs.length = n) (hl : sE lim = 0) : Wr n lim (mkX V n) (mkS (mkB V) n) xs hs (wrN V (rdF xs (knB hs)) (lev lim)) := by
  refine ⟨rfl, wrN_le, fun s hs' h => ?_, fun s hs' h => ?_, fun s hs' h1 h2 => ?_, fun s hs' h1 h2 h3 => ?_, fun s hs' h1 h2 h3 => ?_⟩
  · rw [wrN, (wr_step hV hx hn hl hs').1 h]; rfl
  · rw [wrN, (wr_step hV hx hn hl hs').2.1 h]; rfl
  · exact ((wr_step hV hx hn hl hs').2.2 h1 h2).1
  · rw [wrN, ← ((wr_step hV hx hn hl hs').2.2 h1 h2).2, if_pos h3]
  · rw [wrN, ← ((wr_step hV hx hn hl hs').2.2 h1 h2).2, h3]; rfl
/-- What the law asks, all told. -/
structure Vf (nm0 nm1 nm2 : ByteArray) (f : Int) (n k0 k1 k2 lim : Nat) (x0 x1 x2 : List Nat) (h0 h1 h2 : List Int) (vx : List Nat) (vh : List Int) (vk : Nat) (w0 w1 w2 : Int) : Prop where
  o0 : okRun nm0 f n k0 (flts x0) (ints h0)
  o1 : okRun nm1 f n k1 (flts x1) (ints h1)
  o2 : okRun nm2 f n k2 (flts x2) (ints h2)
  vo : VoIs f n lim (fxs (flts x0)) (fxs (flts x1)) (fxs (flts x2)) (ihs (ints h0)) (ihs (ints h1)) (ihs (ints h2)) vx vh vk w0 w1 w2
  ov : okRun nm0 f n vk (flts vx) (ints vh)
  rv : Tn nm0 nm1 nm2 f n lim (trX x0 x1 x2 h0 h1 h2 (fun i => n - 1 - i) n) (trH x0 x1 x2 h0 h1 h2 (fun i => n - 1 - i) n) (trK x0 x1 x2 h0 h1 h2 (fun i => n - 1 - i) n) (tvX x0 x1 x2 h0 h1 h2 lim (fun i => n - 1 - i) n) (tvH x0 x1 x2 h0 h1 h2 lim (fun i => n - 1 - i) n) (tvK x0 x1 x2 h0 h1 h2 lim (fun i => n - 1 - i) n) w0 w1 w2 (rvX n (flts vx) (ints vh)) (rvH n (flts vx) (ints vh)) (rvK n (flts vx) (ints vh))
  th : ∀ st : Nat, 0 < st → Tn nm0 nm1 nm2 (Int.tdiv f st) (thL n st) lim (trX x0 x1 x2 h0 h1 h2 (fun i => i * st) (thL n st)) (trH x0 x1 x2 h0 h1 h2 (fun i => i * st) (thL n st)) (trK x0 x1 x2 h0 h1 h2 (fun i => i * st) (thL n st)) (tvX x0 x1 x2 h0 h1 h2 lim (fun i => i * st) (thL n st)) (tvH x0 x1 x2 h0 h1 h2 lim (fun i => i * st) (thL n st)) (tvK x0 x1 x2 h0 h1 h2 lim (fun i => i * st) (thL n st))
    (twK x0 x1 x2 h0 h1 h2 lim x0 h0 (fun i => i * st) (thL n st)) (twK x0 x1 x2 h0 h1 h2 lim x1 h1 (fun i => i * st) (thL n st)) (twK x0 x1 x2 h0 h1 h2 lim x2 h2 (fun i => i * st) (thL n st)) (thXc n st (flts vx) (ints vh)) (thHc n st (flts vx) (ints vh)) (thKc n st (flts vx) (ints vh))
  cr : ∀ ca cb : Nat, ca < cb → cb ≤ n → Tn nm0 nm1 nm2 (f + ca) (cb - ca) lim (trX x0 x1 x2 h0 h1 h2 (fun i => ca + i) (cb - ca)) (trH x0 x1 x2 h0 h1 h2 (fun i => ca + i) (cb - ca)) (trK x0 x1 x2 h0 h1 h2 (fun i => ca + i) (cb - ca)) (tvX x0 x1 x2 h0 h1 h2 lim (fun i => ca + i) (cb - ca)) (tvH x0 x1 x2 h0 h1 h2 lim (fun i => ca + i) (cb - ca)) (tvK x0 x1 x2 h0 h1 h2 lim (fun i => ca + i) (cb - ca))
    (twK x0 x1 x2 h0 h1 h2 lim x0 h0 (fun i => ca + i) (cb - ca)) (twK x0 x1 x2 h0 h1 h2 lim x1 h1 (fun i => ca + i) (cb - ca)) (twK x0 x1 x2 h0 h1 h2 lim x2 h2 (fun i => ca + i) (cb - ca)) (crXc ca (cb - ca) (flts vx) (ints vh)) (crHc ca (cb - ca) (flts vx) (ints vh)) (crKc ca (cb - ca) (flts vx) (ints vh))
  g0 : Rk nm0 f n k0 x0 h0
  g1 : Rk nm1 f n k1 x1 h1
  g2 : Rk nm2 f n k2 x2 h2
  c0 : Wr n lim vx vh x0 h0 (wK x0 x1 x2 h0 h1 h2 lim x0 h0)
  c1 : Wr n lim vx vh x1 h1 (wK x0 x1 x2 h0 h1 h2 lim x1 h1)
  c2 : Wr n lim vx vh x2 h2 (wK x0 x1 x2 h0 h1 h2 lim x2 h2)
theorem vf_of {nm0 nm1 nm2 : ByteArray} {f : Int} {n k0 k1 k2 lim : Nat} {x0 x1 x2 : List Nat} {h0 h1 h2 : List Int} (o0 : okRun nm0 f n k0 (flts x0) (ints h0)) (o1 : okRun nm1 f n k1 (flts x1) (ints h1)) (o2 : okRun nm2 f n k2 (flts x2) (ints h2)) (hli : liE lim = 0) :
    Vf nm0 nm1 nm2 f n k0 k1 k2 lim x0 x1 x2 h0 h1 h2 (mkX (vV x0 x1 x2 h0 h1 h2 lim) n) (mkS (mkB (vV x0 x1 x2 h0 h1 h2 lim)) n) (mkK (mkB (vV x0 x1 x2 h0 h1 h2 lim)) n) (wK x0 x1 x2 h0 h1 h2 lim x0 h0 n) (wK x0 x1 x2 h0 h1 h2 lim x1 h1 n) (wK x0 x1 x2 h0 h1 h2 lim x2 h2 n) := by
  obtain ⟨⟨hn0, _, hk0, _⟩, hr0⟩ := okRun_get o0
  obtain ⟨⟨hn1, _, hk1, _⟩, hr1⟩ := okRun_get o1
  obtain ⟨⟨hn2, _, hk2, _⟩, hr2⟩ := okRun_get o2
  obtain ⟨a1, a2, a3, a4, hx0, hh0, _⟩ := run_zero hr0
  obtain ⟨b1, b2, b3, b4, hx1, hh1, _⟩ := run_zero hr1
  obtain ⟨c1, c2, c3, c4, hx2, hh2, _⟩ := run_zero hr2
  have R0 := rdF_ok (P := knB h0) hx0 hn0
  have R1 := rdF_ok (P := knB h1) hx1 hn1
  have R2 := rdF_ok (P := knB h2) hx2 hn2
  have hl : sE lim = 0 := by
    rw [liE] at hli
    exact fi_zero.1 hli (sE lim) (by simp)
  have hz : fLt lim 0 = false := by
    rw [liE] at hli
    exact (wh_zero (by decide)).1 (fi_zero.1 hli (wh (fLt lim 0) 3) (by simp))
  have hV : RdOk (vV x0 x1 x2 h0 h1 h2 lim) n := vtF_ok R0 R1 R2
  refine ⟨o0, o1, o2, ?_, okRun_mk hV a1 a2 a3 a4, ?_, ?_, ?_, rk_of o0, rk_of o1, rk_of o2, wr_of hV hx0 hn0 hl, wr_of hV hx1 hn1 hl, wr_of hV hx2 hn2 hl⟩
  · rw [fxs_flts, fxs_flts, fxs_flts, ihs_ints, ihs_ints, ihs_ints]
    exact ⟨hl, hz, rfl, rfl, rfl, rfl, rfl, rfl⟩
  · have := tn_of (p := fun i => n - 1 - i) (m := n) (fun i hi => by show n - 1 - i < n; omega) R0 R1 R2 hl hz a1 b1 c1 a2 a3 a4
    have e : ∀ R, wrN (fun i => vtF (rdF x0 (knB h0)) (rdF x1 (knB h1)) (rdF x2 (knB h2)) (lev lim) (n - 1 - i)) (fun i => R (n - 1 - i)) (lev lim) n = wrN (vV x0 x1 x2 h0 h1 h2 lim) R (lev lim) n := fun R => wrN_rev (V := vV x0 x1 x2 h0 h1 h2 lim) (R := R)
    simp only [e] at this
    rw [rvX, rvH, rvK, fxs_flts, ihs_ints]
    exact this
  · intro st hst
    have := tn_of (p := fun i => i * st) (m := thL n st) (f := Int.tdiv f st) (fun i hi => thL_lt hst hi) R0 R1 R2 hl hz a1 b1 c1 ?_ ?_ ?_
    · rw [thXc, thHc, thKc, fxs_flts, ihs_ints]
      exact this
    · rw [Int.tdiv_eq_ediv_of_nonneg a2.1]
      refine ⟨Int.ediv_nonneg a2.1 (by omega), Int.le_trans (Int.ediv_le_self _ a2.1) a2.2⟩
    · exact Nat.le_trans (thL_le hst) a3
    · rw [Int.tdiv_eq_ediv_of_nonneg a2.1]
      have h1 := Int.ediv_le_self (st : Int) a2.1
      have h2 := thL_le (n := n) hst
      omega
  · intro ca cb hab hbn
    have := tn_of (p := fun i => ca + i) (m := cb - ca) (f := f + ca) (fun i hi => by show ca + i < n; omega) R0 R1 R2 hl hz a1 b1 c1 (by omega) (by omega) (by omega)
    rw [crXc, crHc, crKc, fxs_flts, ihs_ints]
    exact this
end
end Qq
end
section
/- The law of the vote: it answers true. -/
open Go Go.Vm Go.Proofs Sp
namespace Qq
noncomputable section
theorem sh_run {nm : ByteArray} {xs : List Nat} {hs : List Int} {n k : Nat} (h : shB nm n k = true) (hx : xs.length = n) (hh : hs.length = k * 2) : isRunG n k (flts xs) (ints hs) := by
  rw [shB] at h
  simp only [Bool.and_eq_true, Bool.or_eq_true, decide_eq_true_eq, beq_iff_eq] at h
  obtain ⟨_, h1, h2⟩ := h
  rw [isRunG, fxs_flts, ihs_ints]
  exact ⟨rfl, rfl, hx, by omega, hh, by omega⟩
theorem c3_zero {nm0 nm1 nm2 : ByteArray} {f0 f1 f2 : Int} {n0 n1 n2 : Nat} {e0 g0 e1 g1 e2 g2 : List Value} (h : c3G nm0 nm1 nm2 f0 f1 f2 n0 n1 n2 e0 g0 e1 g1 e2 g2 = 0) : (f1 = f0 ∧ f2 = f0 ∧ n1 = n0 ∧ n2 = n0) ∧ rEG nm0 f0 n0 e0 g0 = 0 ∧ rEG nm1 f1 n1 e1 g1 = 0 ∧ rEG nm2 f2 n2 e2 g2 = 0 := by
  rw [c3G] at h
  have h := fi_zero.1 h
  have q := (wh_zero (by decide)).1 (h _ (by simp : wh (!sh9 f0 f1 n0 n1 || !sh9 f0 f2 n0 n2) 2 ∈ _))
  simp only [sh9, Bool.or_eq_false_iff, Bool.not_eq_false', Bool.and_eq_true, beq_iff_eq] at q
  obtain ⟨⟨q1, q2⟩, q3, q4⟩ := q
  exact ⟨⟨q1.symm, q3.symm, by omega, by omega⟩, h _ (by simp), h _ (by simp), h _ (by simp)⟩
set_option maxRecDepth 100000 in
set_option maxHeartbeats 4000000 in
theorem law3p {nm0 nm1 nm2 : ByteArray} {f f1 f2 : Int} {n n1 n2 k0 k1 k2 a0 a1 a2 d0 d1 d2 lim st ca cb : Nat} {x0 x1 x2 : List Nat} {h0 h1 h2 : List Int} {u0 u1 u2 : Int}
    (e0 : x0.length = n) (e1 : x1.length = n1) (e2 : x2.length = n2) (q0 : h0.length = k0 * 2) (q1 : h1.length = k1 * 2) (q2 : h2.length = k2 * 2)
    (hst : IntKind.wrap .i64 (1 + Int.tmod (IntKind.wrap .i64 u0) 4) = (st : Int)) (hs1 : 1 ≤ st) (hs2 : st ≤ 64)
    (hca : 0 < n → Int.tmod (IntKind.wrap .i64 u1) n = (ca : Int)) (hlt : 0 < n → ca < n)
    (hcb : 0 < n → n ≤ 100000 → IntKind.wrap .i64 (IntKind.wrap .i64 ((ca : Int) + 1) + Int.tmod (IntKind.wrap .i64 u2) (IntKind.wrap .i64 ((n : Int) - ca))) = (cb : Int)) (hcc : 0 < n → ca < cb ∧ cb ≤ n) :
    SmallRes Try.prog 3 [.agg (agg3 nm0 nm1 nm2 f f1 f2 n n1 n2 k0 k1 k2 a0 a1 a2 d0 d1 d2 0).toArray, .float .f32 lim, .agg #[.int .u8 u0, .int .u8 u1, .int .u8 u2]] (hp04 x0 x1 x2 h0 h1 h2 []) (.bool true) (hp04 x0 x1 x2 h0 h1 h2 []) := by
  refine fnP_res hm c0_ok (hs := hsLv nm0 nm1 nm2 f f1 f2 n n1 n2 k0 k1 k2 a0 a1 a2 d0 d1 d2 lim x0 x1 x2 h0 h1 h2 u0 u1 u2 (mkX (vV x0 x1 x2 h0 h1 h2 lim) n) (tvX x0 x1 x2 h0 h1 h2 lim (fun i => n - 1 - i) n) (tvX x0 x1 x2 h0 h1 h2 lim (fun i => i * st) (thL n st)) (tvX x0 x1 x2 h0 h1 h2 lim (fun i => ca + i) (cb - ca)) (mkS (mkB (vV x0 x1 x2 h0 h1 h2 lim)) n) (tvH x0 x1 x2 h0 h1 h2 lim (fun i => n - 1 - i) n) (tvH x0 x1 x2 h0 h1 h2 lim (fun i => i * st) (thL n st)) (tvH x0 x1 x2 h0 h1 h2 lim (fun i => ca + i) (cb - ca)) (mkK (mkB (vV x0 x1 x2 h0 h1 h2 lim)) n) (tvK x0 x1 x2 h0 h1 h2 lim (fun i => n - 1 - i) n) (tvK x0 x1 x2 h0 h1 h2 lim (fun i => i * st) (thL n st)) (tvK x0 x1 x2 h0 h1 h2 lim (fun i => ca + i) (cb - ca)) st ca cb (wK x0 x1 x2 h0 h1 h2 lim x0 h0 n) (wK x0 x1 x2 h0 h1 h2 lim x1 h1 n) (wK x0 x1 x2 h0 h1 h2 lim x2 h2 n) (twK x0 x1 x2 h0 h1 h2 lim x0 h0 (fun i => i * st) (thL n st)) (twK x0 x1 x2 h0 h1 h2 lim x1 h1 (fun i => i * st) (thL n st)) (twK x0 x1 x2 h0 h1 h2 lim x2 h2 (fun i => i * st) (thL n st)) (twK x0 x1 x2 h0 h1 h2 lim x0 h0 (fun i => ca + i) (cb - ca)) (twK x0 x1 x2 h0 h1 h2 lim x1 h1 (fun i => ca + i) (cb - ca)) (twK x0 x1 x2 h0 h1 h2 lim x2 h2 (fun i => ca + i) (cb - ca)) (trX x0 x1 x2 h0 h1 h2 (fun i => n - 1 - i) n) (trH x0 x1 x2 h0 h1 h2 (fun i => n - 1 - i) n) (trX x0 x1 x2 h0 h1 h2 (fun i => i * st) (thL n st)) (trH x0 x1 x2 h0 h1 h2 (fun i => i * st) (thL n st)) (trX x0 x1 x2 h0 h1 h2 (fun i => ca + i) (cb - ca)) (trH x0 x1 x2 h0 h1 h2 (fun i => ca + i) (cb - ca)) (trK x0 x1 x2 h0 h1 h2 (fun i => n - 1 - i) n) (trK x0 x1 x2 h0 h1 h2 (fun i => i * st) (thL n st)) (trK x0 x1 x2 h0 h1 h2 (fun i => ca + i) (cb - ca)) (wK x0 x1 x2 h0 h1 h2 lim x0 h0) (wK x0 x1 x2 h0 h1 h2 lim x1 h1) (wK x0 x1 x2 h0 h1 h2 lim x2 h2) (fun r : Int => (0 < r → shB nm0 n k0 = true) ∧ (1 < r → shB nm1 n1 k1 = true)) (isRunG n k0 (flts x0) (ints h0) ∧ isRunG n1 k1 (flts x1) (ints h1) ∧ isRunG n2 k2 (flts x2) (ints h2)) ((okRun nm0 f n k0 (flts x0) (ints h0) ∧ okRun nm1 f n k1 (flts x1) (ints h1) ∧ okRun nm2 f n k2 (flts x2) (ints h2)) ∧ liE lim = 0)) ?_
  show fnP Try.prog c0 _ 3 _ _ _
  rw [voted_t]
  refine ⟨⟨(0 : Nat), ⟨(0 : Nat), ⟨rfl, fun h => absurd h (by decide), fun h => absurd h (by decide)⟩, by (repeat' refine And.intro ?_ ?_) <;> first | exact rfl | trivial, by (repeat' refine And.intro ?_ ?_) <;> first | exact rfl | trivial⟩, fun _ _ => ⟨⟨by rw [isFI, fxs_flts, ihs_ints]; exact ⟨rfl, rfl⟩⟩, br_of (fun _ => ⟨⟨trivial⟩, by first | trivial | rfl, by first | trivial | rfl⟩) (fun g0 => ?_)⟩⟩, fun _ h7 => ?_⟩
  · have g0 : shB nm0 n k0 = true := by simpa using g0
    refine ⟨(0 : Nat), ⟨(0 : Nat), ⟨rfl, fun _ => g0, fun h => absurd h (by decide)⟩, by (repeat' refine And.intro ?_ ?_) <;> first | exact rfl | trivial, by (repeat' refine And.intro ?_ ?_) <;> first | exact rfl | trivial⟩, fun _ _ => ⟨⟨by rw [isFI, fxs_flts, ihs_ints]; exact ⟨rfl, rfl⟩⟩, br_of (fun _ => ⟨⟨trivial⟩, by first | trivial | rfl, by first | trivial | rfl⟩) (fun g1 => ?_)⟩⟩
    have g1 : shB nm1 n1 k1 = true := by simpa using g1
    refine ⟨(0 : Nat), ⟨(0 : Nat), ⟨rfl, fun _ => g0, fun _ => g1⟩, by (repeat' refine And.intro ?_ ?_) <;> first | exact rfl | trivial, by (repeat' refine And.intro ?_ ?_) <;> first | exact rfl | trivial⟩, fun _ _ => ⟨⟨by rw [isFI, fxs_flts, ihs_ints]; exact ⟨rfl, rfl⟩⟩, br_of (fun _ => ⟨⟨trivial⟩, by first | trivial | rfl, by first | trivial | rfl⟩) (fun g2 => ?_)⟩⟩
    have g2 : shB nm2 n2 k2 = true := by simpa using g2
    exact ⟨(0 : Nat), ⟨rfl, sh_run g0 e0 q0, sh_run g1 e1 q1, sh_run g2 e2 q2⟩, by (repeat' refine And.intro ?_ ?_) <;> first | exact rfl | trivial, by (repeat' refine And.intro ?_ ?_) <;> first | exact rfl | trivial⟩
  obtain ⟨_, i0, i1, i2⟩ := h7.out
  refine ⟨⟨⟨i0, i1, i2⟩, br_of (fun _ => ⟨⟨trivial⟩, by first | trivial | rfl, by first | trivial | rfl⟩) (fun hc => ⟨⟨trivial⟩, br_of (fun _ => ⟨⟨trivial⟩, by first | trivial | rfl, by first | trivial | rfl⟩) (fun hli => ?_)⟩)⟩, fun _ h9 => ?_⟩
  · have hc : c3G nm0 nm1 nm2 f f1 f2 n n1 n2 (flts x0) (ints h0) (flts x1) (ints h1) (flts x2) (ints h2) = 0 := by simpa using hc
    have hli : liE lim = 0 := by simpa using hli
    obtain ⟨⟨rfl, rfl, rfl, rfl⟩, r0, r1, r2⟩ := c3_zero hc
    exact ⟨(0 : Nat), ⟨rfl, ⟨⟨i0, r0⟩, ⟨i1, r1⟩, i2, r2⟩, hli⟩, by (repeat' refine And.intro ?_ ?_) <;> first | exact rfl | trivial, by (repeat' refine And.intro ?_ ?_) <;> first | exact rfl | trivial⟩
  clear h7
  obtain ⟨_, ⟨o0, o1, o2⟩, hli⟩ := h9.out
  have F := vf_of o0 o1 o2 hli
  have hov := F.ov.1
  have hoe := F.ov.2
  rw [fxs_flts, ihs_ints] at hov hoe
  obtain ⟨_, _, hvl, n9, _, _⟩ := id hov
  refine ⟨⟨(0 : Nat), ⟨rfl, trivial⟩, by (repeat' refine And.intro ?_ ?_) <;> first | exact rfl | trivial, by (repeat' refine And.intro ?_ ?_) <;> first | exact rfl | trivial⟩, fun _ _ => ?_⟩
  refine ⟨⟨⟨rfl, rfl, rfl, rfl, F.o0.1, F.o1.1, F.o2.1⟩, (0 : Nat), ⟨rfl, trivial⟩, by (repeat' refine And.intro ?_ ?_) <;> first | exact rfl | trivial, by (repeat' refine And.intro ?_ ?_) <;> first | exact rfl | trivial⟩, fun _ _ => ?_⟩
  refine ⟨⟨⟨rfl, rfl, rfl, rfl, F.o0, F.o1, F.o2, F.vo⟩, (0 : Nat), ⟨rfl, trivial⟩, by (repeat' refine And.intro ?_ ?_) <;> first | exact rfl | trivial, by (repeat' refine And.intro ?_ ?_) <;> first | exact rfl | trivial⟩, fun _ _ => ?_⟩
  refine ⟨⟨⟨hov⟩, br_of (fun h => by rw [hoe] at h; simp at h) (fun _ => br_of (fun h => by simp at h) (fun _ => ⟨(0 : Nat), ⟨rfl, trivial⟩, by (repeat' refine And.intro ?_ ?_) <;> first | exact rfl | trivial, by (repeat' refine And.intro ?_ ?_) <;> first | exact rfl | trivial⟩))⟩, fun _ _ => ?_⟩
  refine ⟨⟨⟨rfl, rfl, rfl, rfl, F.o0, F.o1, F.o2, ⟨by rw [rvX, fxs_flts, ihs_ints]; rfl, by rw [rvX, fxs_flts, ihs_ints]; rfl, by rw [rvX, fxs_flts, ihs_ints]; rfl⟩, ⟨by rw [rvH, fxs_flts, ihs_ints]; rfl, by rw [rvH, fxs_flts, ihs_ints]; rfl, by rw [rvH, fxs_flts, ihs_ints]; rfl⟩, by rw [rvK, fxs_flts, ihs_ints]; rfl, by rw [rvK, fxs_flts, ihs_ints]; rfl, by rw [rvK, fxs_flts, ihs_ints]; rfl⟩, (0 : Nat), ⟨rfl, trivial⟩, by (repeat' refine And.intro ?_ ?_) <;> first | exact rfl | trivial, by (repeat' refine And.intro ?_ ?_) <;> first | exact rfl | trivial⟩, fun _ _ => ?_⟩
  refine ⟨⟨(0 : Nat), ⟨rfl, trivial⟩, by (repeat' refine And.intro ?_ ?_) <;> first | exact rfl | trivial, by (repeat' refine And.intro ?_ ?_) <;> first | exact rfl | trivial⟩, fun _ _ => ?_⟩
  refine ⟨⟨⟨rfl, rfl, rfl, rfl, F.rv.r0, F.rv.r1, F.rv.r2, F.rv.vo⟩, (0 : Nat), ⟨rfl, trivial⟩, by (repeat' refine And.intro ?_ ?_) <;> first | exact rfl | trivial, by (repeat' refine And.intro ?_ ?_) <;> first | exact rfl | trivial⟩, fun _ _ => ?_⟩
  refine ⟨⟨⟨F.ov.1⟩, ⟨F.ov⟩, (0 : Nat), ⟨rfl, trivial⟩, by (repeat' refine And.intro ?_ ?_) <;> first | exact rfl | trivial, by (repeat' refine And.intro ?_ ?_) <;> first | exact rfl | trivial⟩, fun _ _ => ?_⟩
  refine ⟨⟨⟨trivial⟩, br_of (fun h => by simp at h) (fun _ => ⟨⟨⟨F.rv.eX.symm, F.rv.eH.symm, rfl, rfl, rfl, F.rv.eK.symm⟩, F.rv.run⟩, (0 : Nat), ⟨rfl, trivial⟩, by (repeat' refine And.intro ?_ ?_) <;> first | exact rfl | trivial, by (repeat' refine And.intro ?_ ?_) <;> first | exact rfl | trivial⟩)⟩, fun _ _ => ?_⟩
  refine ⟨⟨⟨⟨by decide⟩, (0 : Nat), ⟨rfl, trivial⟩, by (repeat' refine And.intro ?_ ?_) <;> first | exact rfl | trivial, by rw [hst]; rfl⟩, fun _ _ => ⟨⟨by omega⟩, br_of (fun hm => ?_) (fun _ => ⟨(0 : Nat), ⟨rfl, trivial⟩, by (repeat' refine And.intro ?_ ?_) <;> first | exact rfl | trivial, by (repeat' refine And.intro ?_ ?_) <;> first | exact rfl | trivial⟩)⟩⟩, fun _ _ => ?_⟩
  · have hm : Int.tmod f st = 0 := by simpa using hm
    have G := F.th st (by omega)
    refine ⟨⟨⟨rfl, rfl, rfl, rfl, F.o0, F.o1, F.o2, ⟨hs1, hs2, hm⟩, ⟨by rw [thXc, fxs_flts, ihs_ints]; rfl, by rw [thXc, fxs_flts, ihs_ints]; rfl, by rw [thXc, fxs_flts, ihs_ints]; rfl⟩, ⟨by rw [thHc, fxs_flts, ihs_ints]; rfl, by rw [thHc, fxs_flts, ihs_ints]; rfl, by rw [thHc, fxs_flts, ihs_ints]; rfl⟩, by rw [thKc, fxs_flts, ihs_ints]; rfl, by rw [thKc, fxs_flts, ihs_ints]; rfl, by rw [thKc, fxs_flts, ihs_ints]; rfl⟩, (0 : Nat), ⟨rfl, hm⟩, by (repeat' refine And.intro ?_ ?_) <;> first | exact rfl | trivial, by (repeat' refine And.intro ?_ ?_) <;> first | exact rfl | trivial⟩, fun _ _ => ?_⟩
    refine ⟨⟨⟨rfl, rfl, rfl, rfl, G.r0, G.r1, G.r2, G.vo⟩, (0 : Nat), ⟨rfl, hm⟩, by (repeat' refine And.intro ?_ ?_) <;> first | exact rfl | trivial, by (repeat' refine And.intro ?_ ?_) <;> first | exact rfl | trivial⟩, fun _ _ => ?_⟩
    refine ⟨⟨⟨F.ov.1⟩, ⟨F.ov, hs1, hs2, hm⟩, (0 : Nat), ⟨rfl, hm⟩, by (repeat' refine And.intro ?_ ?_) <;> first | exact rfl | trivial, by (repeat' refine And.intro ?_ ?_) <;> first | exact rfl | trivial⟩, fun _ _ => ?_⟩
    exact ⟨⟨⟨G.eX.symm, G.eH.symm, rfl, rfl, rfl, G.eK.symm⟩, G.run⟩, (0 : Nat), ⟨rfl, trivial⟩, by (repeat' refine And.intro ?_ ?_) <;> first | exact rfl | trivial, by (repeat' refine And.intro ?_ ?_) <;> first | exact rfl | trivial⟩
  refine ⟨br_of (fun hn => ?_) (fun _ => ⟨(0 : Nat), ⟨rfl, trivial⟩, by (repeat' refine And.intro ?_ ?_) <;> first | exact rfl | trivial, by (repeat' refine And.intro ?_ ?_) <;> first | exact rfl | trivial⟩), fun _ _ => ?_⟩
  · have hn : 0 < n := by simpa using hn
    obtain ⟨hc1, hc2⟩ := hcc hn
    have hl := hlt hn
    have wn : IntKind.wrap .i64 ((n : Int) - ca) = (n : Int) - ca := wrap_eq (by omega) (by omega)
    have G := F.cr ca cb hc1 hc2
    refine ⟨⟨⟨by omega⟩, (0 : Nat), ⟨rfl, hn⟩, by (repeat' refine And.intro ?_ ?_) <;> first | exact rfl | trivial, by rw [hca hn]; rfl⟩, fun _ _ => ?_⟩
    refine ⟨⟨⟨by rw [wn]; omega⟩, (0 : Nat), ⟨rfl, hn⟩, by (repeat' refine And.intro ?_ ?_) <;> first | exact rfl | trivial, by rw [hcb hn n9]; rfl⟩, fun _ _ => ?_⟩
    refine ⟨⟨⟨rfl, rfl, rfl, rfl, F.o0, F.o1, F.o2, ⟨hc1, hc2⟩, ⟨by rw [crXc, fxs_flts, ihs_ints]; rfl, by rw [crXc, fxs_flts, ihs_ints]; rfl, by rw [crXc, fxs_flts, ihs_ints]; rfl⟩, ⟨by rw [crHc, fxs_flts, ihs_ints]; rfl, by rw [crHc, fxs_flts, ihs_ints]; rfl, by rw [crHc, fxs_flts, ihs_ints]; rfl⟩, by rw [crKc, fxs_flts, ihs_ints]; rfl, by rw [crKc, fxs_flts, ihs_ints]; rfl, by rw [crKc, fxs_flts, ihs_ints]; rfl⟩, (0 : Nat), ⟨rfl, hn⟩, by (repeat' refine And.intro ?_ ?_) <;> first | exact rfl | trivial, by (repeat' refine And.intro ?_ ?_) <;> first | exact rfl | trivial⟩, fun _ _ => ?_⟩
    refine ⟨⟨⟨rfl, rfl, rfl, rfl, G.r0, G.r1, G.r2, G.vo⟩, (0 : Nat), ⟨rfl, hn⟩, by (repeat' refine And.intro ?_ ?_) <;> first | exact rfl | trivial, by (repeat' refine And.intro ?_ ?_) <;> first | exact rfl | trivial⟩, fun _ _ => ?_⟩
    refine ⟨⟨⟨F.ov.1⟩, ⟨F.ov, hc1, hc2⟩, (0 : Nat), ⟨rfl, hn⟩, by (repeat' refine And.intro ?_ ?_) <;> first | exact rfl | trivial, by (repeat' refine And.intro ?_ ?_) <;> first | exact rfl | trivial⟩, fun _ _ => ?_⟩
    exact ⟨⟨⟨G.eX.symm, G.eH.symm, rfl, rfl, rfl, G.eK.symm⟩, G.run⟩, (0 : Nat), ⟨rfl, trivial⟩, by (repeat' refine And.intro ?_ ?_) <;> first | exact rfl | trivial, by (repeat' refine And.intro ?_ ?_) <;> first | exact rfl | trivial⟩
  refine ⟨?_, fun _ _ => ⟨⟨trivial⟩, by first | trivial | rfl, by first | trivial | rfl⟩⟩
  obtain ⟨⟨hxl0, _, hkl0, hk90⟩, _⟩ := okRun_get F.o0
  have D := F.c0
  refine ⟨(0 : Nat), ⟨(0 : Nat), ⟨rfl, trivial⟩, by (repeat' refine And.intro ?_ ?_) <;> first | exact rfl | trivial, by (repeat' refine And.intro ?_ ?_) <;> first | exact rfl | trivial⟩, fun _ _ => ?_⟩
  refine ⟨(0 : Nat), ⟨⟨F.o0.1⟩, ⟨F.o0, rfl, rfl⟩, (0 : Nat), ⟨rfl, trivial⟩, by (repeat' refine And.intro ?_ ?_) <;> first | exact rfl | trivial, by (repeat' refine And.intro ?_ ?_) <;> first | exact rfl | trivial⟩, fun _ _ => ?_⟩
  refine ⟨(0 : Nat), ⟨(0 : Nat), ⟨rfl, trivial⟩, by (repeat' refine And.intro ?_ ?_) <;> first | exact rfl | trivial, by (repeat' refine And.intro ?_ ?_) <;> first | exact rfl | trivial⟩, fun _ _ => ?_⟩
  refine ⟨(0 : Nat), ⟨⟨F.o0.1⟩, ⟨F.g0.ng.1⟩, ⟨F.o0, F.g0.ng, rfl, rfl, F.g0.few⟩, (0 : Nat), ⟨rfl, trivial⟩, by (repeat' refine And.intro ?_ ?_) <;> first | exact rfl | trivial, by (repeat' refine And.intro ?_ ?_) <;> first | exact rfl | trivial⟩, fun _ _ => ?_⟩
  refine ⟨(0 : Nat), ⟨⟨F.g0.zo, F.g0.ze⟩, (0 : Nat), ⟨rfl, trivial⟩, by (repeat' refine And.intro ?_ ?_) <;> first | exact rfl | trivial, by (repeat' refine And.intro ?_ ?_) <;> first | exact rfl | trivial⟩, fun _ _ => ?_⟩
  refine ⟨⟨F.g0.hK, F.g0.hH, by rw [F.g0.hK]; exact hk90, h0, F.g0.hH, by rw [F.g0.hK]; exact hkl0⟩, (0 : Nat), ⟨(0 : Nat), ⟨rfl, trivial⟩, by (repeat' refine And.intro ?_ ?_) <;> first | exact rfl | trivial, by (repeat' refine And.intro ?_ ?_) <;> first | exact rfl | trivial⟩, fun _ _ => ?_⟩
  refine ⟨(0 : Nat), ⟨(0 : Nat), ⟨Nat.zero_le _⟩, by rw [D.zero]; (repeat' refine And.intro ?_ ?_) <;> first | exact rfl | trivial, by (repeat' refine And.intro ?_ ?_) <;> first | exact rfl | trivial⟩, fun s hs => br_of (fun hc => ?_) (fun hc => ?_)⟩
  · have hc := lt_of_dec hc
    have hb := D.le s
    simp only [Nat.zero_add, Nat.mul_one, Int.toNat_natCast]
    have nx : ∀ {w : Int}, w = wK x0 x1 x2 h0 h1 h2 lim x0 h0 (s + 1) → Value.int .i64 w = Value.int .i64 (wK x0 x1 x2 h0 h1 h2 lim x0 h0 (s + 1)) := fun h => by rw [h]
    have nu : Value.int .i64 (IntKind.wrap .i64 ((s : Int) + 1)) = Value.int .i64 ((s + 1 : Nat) : Int) := by rw [up1 hc n9]
    refine ⟨⟨by omega, by omega⟩, ⟨flts_at (by rw [hvl]; exact hc)⟩, ⟨F.ov.1⟩, br_of (fun kv => ⟨⟨F.o0.1⟩, br_of (fun kr => ?_) (fun kr => ⟨s + 1, ⟨hc⟩, ⟨by omega⟩, by (repeat' refine And.intro ?_ ?_) <;> first | exact rfl | trivial | exact nu | exact nx (D.r0 s hc kr).symm, by (repeat' refine And.intro ?_ ?_) <;> first | exact rfl | trivial⟩)⟩) (fun kv => ⟨s + 1, ⟨hc⟩, ⟨by omega⟩, by (repeat' refine And.intro ?_ ?_) <;> first | exact rfl | trivial | exact nu | exact nx (D.v0 s hc kv).symm, by (repeat' refine And.intro ?_ ?_) <;> first | exact rfl | trivial⟩)⟩
    rw [flAt_flts (by rw [hxl0]; exact hc)]
    obtain ⟨b1, b2, b3⟩ := D.ok s hc kv kr
    refine ⟨⟨by omega, by omega⟩, ⟨flts_at (by rw [hxl0]; exact hc)⟩, ⟨b1⟩, ⟨by omega, by omega⟩, ⟨flts_at (by rw [hxl0]; exact hc)⟩, ⟨b2⟩, ⟨b3⟩, ⟨trivial⟩, br_of (fun kg => ⟨s + 1, ⟨hc⟩, ⟨by omega⟩, by (repeat' refine And.intro ?_ ?_) <;> first | exact rfl | trivial | exact nu | exact nx (by rw [wrap_eq (by omega) (by omega)]; exact (D.y s hc kv kr kg).symm), by (repeat' refine And.intro ?_ ?_) <;> first | exact rfl | trivial⟩) (fun kg => ⟨s + 1, ⟨hc⟩, ⟨by omega⟩, by (repeat' refine And.intro ?_ ?_) <;> first | exact rfl | trivial | exact nu | exact nx (D.z s hc kv kr kg).symm, by (repeat' refine And.intro ?_ ?_) <;> first | exact rfl | trivial⟩)⟩
  have hc := ge_of_dec hc
  have : n = s := by have := hs.out; omega
  subst this
  refine br_of (fun h => by simp at h) (fun _ => ?_)
  obtain ⟨⟨hxl1, _, hkl1, hk91⟩, _⟩ := okRun_get F.o1
  have D := F.c1
  refine ⟨(0 : Nat), ⟨(0 : Nat), ⟨rfl, trivial⟩, by (repeat' refine And.intro ?_ ?_) <;> first | exact rfl | trivial, by (repeat' refine And.intro ?_ ?_) <;> first | exact rfl | trivial⟩, fun _ _ => ?_⟩
  refine ⟨(0 : Nat), ⟨⟨F.o1.1⟩, ⟨F.o1, rfl, rfl⟩, (0 : Nat), ⟨rfl, trivial⟩, by (repeat' refine And.intro ?_ ?_) <;> first | exact rfl | trivial, by (repeat' refine And.intro ?_ ?_) <;> first | exact rfl | trivial⟩, fun _ _ => ?_⟩
  refine ⟨(0 : Nat), ⟨(0 : Nat), ⟨rfl, trivial⟩, by (repeat' refine And.intro ?_ ?_) <;> first | exact rfl | trivial, by (repeat' refine And.intro ?_ ?_) <;> first | exact rfl | trivial⟩, fun _ _ => ?_⟩
  refine ⟨(0 : Nat), ⟨⟨F.o1.1⟩, ⟨F.g1.ng.1⟩, ⟨F.o1, F.g1.ng, rfl, rfl, F.g1.few⟩, (0 : Nat), ⟨rfl, trivial⟩, by (repeat' refine And.intro ?_ ?_) <;> first | exact rfl | trivial, by (repeat' refine And.intro ?_ ?_) <;> first | exact rfl | trivial⟩, fun _ _ => ?_⟩
  refine ⟨(0 : Nat), ⟨⟨F.g1.zo, F.g1.ze⟩, (0 : Nat), ⟨rfl, trivial⟩, by (repeat' refine And.intro ?_ ?_) <;> first | exact rfl | trivial, by (repeat' refine And.intro ?_ ?_) <;> first | exact rfl | trivial⟩, fun _ _ => ?_⟩
  refine ⟨⟨F.g1.hK, F.g1.hH, by rw [F.g1.hK]; exact hk91, h1, F.g1.hH, by rw [F.g1.hK]; exact hkl1⟩, (0 : Nat), ⟨(0 : Nat), ⟨rfl, trivial⟩, by (repeat' refine And.intro ?_ ?_) <;> first | exact rfl | trivial, by (repeat' refine And.intro ?_ ?_) <;> first | exact rfl | trivial⟩, fun _ _ => ?_⟩
  refine ⟨(0 : Nat), ⟨(0 : Nat), ⟨Nat.zero_le _⟩, by rw [D.zero]; (repeat' refine And.intro ?_ ?_) <;> first | exact rfl | trivial, by (repeat' refine And.intro ?_ ?_) <;> first | exact rfl | trivial⟩, fun s hs => br_of (fun hc => ?_) (fun hc => ?_)⟩
  · have hc := lt_of_dec hc
    have hb := D.le s
    simp only [Nat.zero_add, Nat.mul_one, Int.toNat_natCast]
    have nx : ∀ {w : Int}, w = wK x0 x1 x2 h0 h1 h2 lim x1 h1 (s + 1) → Value.int .i64 w = Value.int .i64 (wK x0 x1 x2 h0 h1 h2 lim x1 h1 (s + 1)) := fun h => by rw [h]
    have nu : Value.int .i64 (IntKind.wrap .i64 ((s : Int) + 1)) = Value.int .i64 ((s + 1 : Nat) : Int) := by rw [up1 hc n9]
    refine ⟨⟨by omega, by omega⟩, ⟨flts_at (by rw [hvl]; exact hc)⟩, ⟨F.ov.1⟩, br_of (fun kv => ⟨⟨F.o1.1⟩, br_of (fun kr => ?_) (fun kr => ⟨s + 1, ⟨hc⟩, ⟨by omega⟩, by (repeat' refine And.intro ?_ ?_) <;> first | exact rfl | trivial | exact nu | exact nx (D.r0 s hc kr).symm, by (repeat' refine And.intro ?_ ?_) <;> first | exact rfl | trivial⟩)⟩) (fun kv => ⟨s + 1, ⟨hc⟩, ⟨by omega⟩, by (repeat' refine And.intro ?_ ?_) <;> first | exact rfl | trivial | exact nu | exact nx (D.v0 s hc kv).symm, by (repeat' refine And.intro ?_ ?_) <;> first | exact rfl | trivial⟩)⟩
    rw [flAt_flts (by rw [hxl1]; exact hc)]
    obtain ⟨b1, b2, b3⟩ := D.ok s hc kv kr
    refine ⟨⟨by omega, by omega⟩, ⟨flts_at (by rw [hxl1]; exact hc)⟩, ⟨b1⟩, ⟨by omega, by omega⟩, ⟨flts_at (by rw [hxl1]; exact hc)⟩, ⟨b2⟩, ⟨b3⟩, ⟨trivial⟩, br_of (fun kg => ⟨s + 1, ⟨hc⟩, ⟨by omega⟩, by (repeat' refine And.intro ?_ ?_) <;> first | exact rfl | trivial | exact nu | exact nx (by rw [wrap_eq (by omega) (by omega)]; exact (D.y s hc kv kr kg).symm), by (repeat' refine And.intro ?_ ?_) <;> first | exact rfl | trivial⟩) (fun kg => ⟨s + 1, ⟨hc⟩, ⟨by omega⟩, by (repeat' refine And.intro ?_ ?_) <;> first | exact rfl | trivial | exact nu | exact nx (D.z s hc kv kr kg).symm, by (repeat' refine And.intro ?_ ?_) <;> first | exact rfl | trivial⟩)⟩
  have hc := ge_of_dec hc
  have : n = s := by have := hs.out; omega
  subst this
  refine br_of (fun h => by simp at h) (fun _ => ?_)
  obtain ⟨⟨hxl2, _, hkl2, hk92⟩, _⟩ := okRun_get F.o2
  have D := F.c2
  refine ⟨(0 : Nat), ⟨(0 : Nat), ⟨rfl, trivial⟩, by (repeat' refine And.intro ?_ ?_) <;> first | exact rfl | trivial, by (repeat' refine And.intro ?_ ?_) <;> first | exact rfl | trivial⟩, fun _ _ => ?_⟩
  refine ⟨(0 : Nat), ⟨⟨F.o2.1⟩, ⟨F.o2, rfl, rfl⟩, (0 : Nat), ⟨rfl, trivial⟩, by (repeat' refine And.intro ?_ ?_) <;> first | exact rfl | trivial, by (repeat' refine And.intro ?_ ?_) <;> first | exact rfl | trivial⟩, fun _ _ => ?_⟩
  refine ⟨(0 : Nat), ⟨(0 : Nat), ⟨rfl, trivial⟩, by (repeat' refine And.intro ?_ ?_) <;> first | exact rfl | trivial, by (repeat' refine And.intro ?_ ?_) <;> first | exact rfl | trivial⟩, fun _ _ => ?_⟩
  refine ⟨(0 : Nat), ⟨⟨F.o2.1⟩, ⟨F.g2.ng.1⟩, ⟨F.o2, F.g2.ng, rfl, rfl, F.g2.few⟩, (0 : Nat), ⟨rfl, trivial⟩, by (repeat' refine And.intro ?_ ?_) <;> first | exact rfl | trivial, by (repeat' refine And.intro ?_ ?_) <;> first | exact rfl | trivial⟩, fun _ _ => ?_⟩
  refine ⟨(0 : Nat), ⟨⟨F.g2.zo, F.g2.ze⟩, (0 : Nat), ⟨rfl, trivial⟩, by (repeat' refine And.intro ?_ ?_) <;> first | exact rfl | trivial, by (repeat' refine And.intro ?_ ?_) <;> first | exact rfl | trivial⟩, fun _ _ => ?_⟩
  refine ⟨⟨F.g2.hK, F.g2.hH, by rw [F.g2.hK]; exact hk92, h2, F.g2.hH, by rw [F.g2.hK]; exact hkl2⟩, (0 : Nat), ⟨(0 : Nat), ⟨rfl, trivial⟩, by (repeat' refine And.intro ?_ ?_) <;> first | exact rfl | trivial, by (repeat' refine And.intro ?_ ?_) <;> first | exact rfl | trivial⟩, fun _ _ => ?_⟩
  refine ⟨(0 : Nat), ⟨(0 : Nat), ⟨Nat.zero_le _⟩, by rw [D.zero]; (repeat' refine And.intro ?_ ?_) <;> first | exact rfl | trivial, by (repeat' refine And.intro ?_ ?_) <;> first | exact rfl | trivial⟩, fun s hs => br_of (fun hc => ?_) (fun hc => ?_)⟩
  · have hc := lt_of_dec hc
    have hb := D.le s
    simp only [Nat.zero_add, Nat.mul_one, Int.toNat_natCast]
    have nx : ∀ {w : Int}, w = wK x0 x1 x2 h0 h1 h2 lim x2 h2 (s + 1) → Value.int .i64 w = Value.int .i64 (wK x0 x1 x2 h0 h1 h2 lim x2 h2 (s + 1)) := fun h => by rw [h]
    have nu : Value.int .i64 (IntKind.wrap .i64 ((s : Int) + 1)) = Value.int .i64 ((s + 1 : Nat) : Int) := by rw [up1 hc n9]
    refine ⟨⟨by omega, by omega⟩, ⟨flts_at (by rw [hvl]; exact hc)⟩, ⟨F.ov.1⟩, br_of (fun kv => ⟨⟨F.o2.1⟩, br_of (fun kr => ?_) (fun kr => ⟨s + 1, ⟨hc⟩, ⟨by omega⟩, by (repeat' refine And.intro ?_ ?_) <;> first | exact rfl | trivial | exact nu | exact nx (D.r0 s hc kr).symm, by (repeat' refine And.intro ?_ ?_) <;> first | exact rfl | trivial⟩)⟩) (fun kv => ⟨s + 1, ⟨hc⟩, ⟨by omega⟩, by (repeat' refine And.intro ?_ ?_) <;> first | exact rfl | trivial | exact nu | exact nx (D.v0 s hc kv).symm, by (repeat' refine And.intro ?_ ?_) <;> first | exact rfl | trivial⟩)⟩
    rw [flAt_flts (by rw [hxl2]; exact hc)]
    obtain ⟨b1, b2, b3⟩ := D.ok s hc kv kr
    refine ⟨⟨by omega, by omega⟩, ⟨flts_at (by rw [hxl2]; exact hc)⟩, ⟨b1⟩, ⟨by omega, by omega⟩, ⟨flts_at (by rw [hxl2]; exact hc)⟩, ⟨b2⟩, ⟨b3⟩, ⟨trivial⟩, br_of (fun kg => ⟨s + 1, ⟨hc⟩, ⟨by omega⟩, by (repeat' refine And.intro ?_ ?_) <;> first | exact rfl | trivial | exact nu | exact nx (by rw [wrap_eq (by omega) (by omega)]; exact (D.y s hc kv kr kg).symm), by (repeat' refine And.intro ?_ ?_) <;> first | exact rfl | trivial⟩) (fun kg => ⟨s + 1, ⟨hc⟩, ⟨by omega⟩, by (repeat' refine And.intro ?_ ?_) <;> first | exact rfl | trivial | exact nu | exact nx (D.z s hc kv kr kg).symm, by (repeat' refine And.intro ?_ ?_) <;> first | exact rfl | trivial⟩)⟩
  have hc := ge_of_dec hc
  have : n = s := by have := hs.out; omega
  subst this
  refine br_of (fun h => by simp at h) (fun _ => ?_)
  exact ⟨(0 : Nat), ⟨rfl, trivial⟩, by (repeat' refine And.intro ?_ ?_) <;> first | exact rfl | trivial, by (repeat' refine And.intro ?_ ?_) <;> first | exact rfl | trivial⟩
theorem law3 {nm0 nm1 nm2 : ByteArray} {f f1 f2 : Int} {n n1 n2 k0 k1 k2 a0 a1 a2 d0 d1 d2 lim : Nat} {x0 x1 x2 : List Nat} {h0 h1 h2 : List Int} {u0 u1 u2 : Int}
    (e0 : x0.length = n) (e1 : x1.length = n1) (e2 : x2.length = n2) (q0 : h0.length = k0 * 2) (q1 : h1.length = k1 * 2) (q2 : h2.length = k2 * 2) (b0 : 0 ≤ u0 ∧ u0 < 256) (b1 : 0 ≤ u1 ∧ u1 < 256) (b2 : 0 ≤ u2 ∧ u2 < 256) :
    SmallRes Try.prog 3 [.agg (agg3 nm0 nm1 nm2 f f1 f2 n n1 n2 k0 k1 k2 a0 a1 a2 d0 d1 d2 0).toArray, .float .f32 lim, .agg #[.int .u8 u0, .int .u8 u1, .int .u8 u2]] (hp04 x0 x1 x2 h0 h1 h2 []) (.bool true) (hp04 x0 x1 x2 h0 h1 h2 []) := by
  have w0 : IntKind.wrap .i64 u0 = u0 := wrap_eq (by omega) (by omega)
  have w1 : IntKind.wrap .i64 u1 = u1 := wrap_eq (by omega) (by omega)
  have w2 : IntKind.wrap .i64 u2 = u2 := wrap_eq (by omega) (by omega)
  have m0 : 0 ≤ u0.tmod 4 ∧ u0.tmod 4 < 4 := by rw [Int.tmod_eq_emod_of_nonneg b0.1]; omega
  have m1 : 0 < n → 0 ≤ u1.tmod n ∧ u1.tmod n < n := fun hn => by
    rw [Int.tmod_eq_emod_of_nonneg b1.1]; exact ⟨Int.emod_nonneg _ (by omega), Int.emod_lt_of_pos _ (by omega)⟩
  obtain ⟨ca, hca⟩ : ∃ ca, ca = (u1.tmod n).toNat := ⟨_, rfl⟩
  have hlt : 0 < n → ca < n := fun hn => by have := m1 hn; omega
  have m2 : 0 < n → 0 ≤ u2.tmod ((n : Int) - ca) ∧ u2.tmod ((n : Int) - ca) < (n : Int) - ca := fun hn => by
    have := hlt hn
    rw [Int.tmod_eq_emod_of_nonneg b2.1]; exact ⟨Int.emod_nonneg _ (by omega), Int.emod_lt_of_pos _ (by omega)⟩
  refine law3p (st := (1 + u0.tmod 4).toNat) (ca := ca) (cb := (ca + 1 + u2.tmod ((n : Int) - ca)).toNat) e0 e1 e2 q0 q1 q2 ?_ (by omega) (by omega) (fun hn => ?_) hlt (fun hn n9 => ?_) (fun hn => ?_)
  · rw [w0, wrap_eq (by omega) (by omega)]; omega
  · rw [w1]; have := m1 hn; omega
  · have := m2 hn
    have := hlt hn
    rw [w2, wrap_eq (x := (ca : Int) + 1) (by omega) (by omega), wrap_eq (x := (n : Int) - ca) (by omega) (by omega), wrap_eq (by omega) (by omega)]; omega
  · have := m2 hn
    have := hlt hn
    omega
end
end Qq
end
