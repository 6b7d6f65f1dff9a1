/- The law about spread: it answers true. -/
import Derived.Test.YtaigknknfaeajaaGreatDoorRZE
import Derived.Test.YtaigknknfaeajaaGreatDoorRZH
import Derived.Test.YtaigknknfaeajaaGreatDoorRH
open Go Go.Vm Go.Proofs Sp
namespace Qq
noncomputable section
theorem sp_first {f : Int} {n t : Nat} (h : t ≤ n) : spB f n f (f + t) = false := by
  rw [spB, decide_eq_false (by omega), decide_eq_false (by omega), decide_eq_false (by omega)]; rfl
set_option maxRecDepth 100000 in
theorem law15 (hl : ∀ p ∈ l15, Ok Tryz.prog p.1 p.2) {nm : ByteArray} {f : Int} {n c k d : Nat} {xs : List Nat} {hs : List Int} {x0 x1 x2 : Int} (p0 : 0 ≤ x0) (p1 : x0 < 256) (p2 : 0 ≤ x1) (p3 : x1 < 256) (p4 : 0 ≤ x2) (p5 : x2 < 256) (hn : xs.length = n) (hk : hs.length = k * 2) :
    SmallRes Tryz.prog 15 [.agg (runA nm f 0 n c 1 k d).toArray, .agg #[.int .u8 x0, .int .u8 x1, .int .u8 x2]] (hp2r xs hs false false false false []) (.bool true) (hp2r xs hs false false false false []) := by
  refine fnP_res hm (ctx_ok hm hl) (hs := hs15 nm f n c k d xs hs x0 x1 x2 (IntKind.wrap .i64 (2 + Int.tmod (IntKind.wrap .i64 x2) 8))) ?_
  show fnP Tryz.prog cl15 (hs15 nm f n c k d xs hs x0 x1 x2 (IntKind.wrap .i64 (2 + Int.tmod (IntKind.wrap .i64 x2) 8))) 15 _ _ _
  rw [law15_t]
  refine ⟨⟨rfl, rfl⟩, br_of (fun _ => ⟨by first | trivial | rfl, by first | trivial | rfl⟩) (fun h => ?_)⟩
  obtain ⟨h1, h2⟩ := shB_small (nm := nm) (n := n) (k := k) (by simpa using h)
  have hr : isRun xs hs n k (flts xs) (ints hs) := ⟨rfl, rfl, hn, by omega, hk, by omega⟩
  refine ⟨⟨hr⟩, br_of (fun _ => ⟨by first | trivial | rfl, by first | trivial | rfl⟩) (fun h3 => ?_)⟩
  have h0 : runE nm f xs n hs = 0 := by simpa using h3
  obtain ⟨g1, g2, g3, g4, hx, hh, hz⟩ := run_zero h0
  refine br_of (fun _ => ⟨by first | trivial | rfl, by first | trivial | rfl⟩) (fun h4 => ?_)
  have n0 : n ≠ 0 := fun e => by rw [e] at h4; cases h4
  refine ⟨⟨(0 : Nat), ⟨Nat.zero_le n, fun i hi => by omega⟩, by first | trivial | rfl, by first | trivial | rfl⟩, fun s hs' => br_of (fun hc => ?_) (fun hc => ?_)⟩
  · have hc := lt_of_dec hc
    obtain ⟨i1, i2⟩ := hs'.out
    simp only [Nat.zero_add, Nat.mul_one, Int.toNat_natCast]
    refine ⟨⟨by omega, by omega⟩, ⟨flts_at (by omega)⟩, ⟨trivial⟩, br_of (fun _ => ⟨by first | trivial | rfl, by first | trivial | rfl⟩) (fun ha => ⟨⟨trivial⟩, br_of (fun _ => ⟨by first | trivial | rfl, by first | trivial | rfl⟩) (fun hb => ⟨s + 1, ⟨hc, fun i hi => ?_⟩, ⟨by omega⟩, by rw [up1 hc (by omega)], by first | trivial | rfl⟩)⟩)⟩
    rcases Nat.lt_or_ge i s with h | h
    · exact i2 i h
    · rw [show i = s by omega]; exact ⟨ha, hb⟩
  have hc := ge_of_dec hc
  obtain ⟨i1, i2⟩ := hs'.out
  have i2 : inR xs n := by rw [show n = s by omega]; exact i2
  have hlev : ∀ i, i < n → (lev (xs.getD i 0)).natAbs ≤ 8000 := fun i hi => Fl.lev_500 (Fl.smp (smps hx (by omega))) (i2 i hi).1 (i2 i hi).2
  have hV := mo_V (hs := hs) (a := 0) hx n (by omega)
  have hle : (mo xs hs 0 n).1 ≤ 4096 := by have := mo_le (hs := hs) hx (a := 0) (i := n) (by omega); omega
  have ht : x0.toNat % (n + 1) ≤ n := by have := Nat.mod_lt x0.toNat (show 0 < n + 1 by omega); omega
  have ec := cut_at p0 p1 g2 g3 (n := n)
  generalize x0.toNat % (n + 1) = t at ht ec
  have hV1 := mo_V (hs := hs) (a := 0) hx t (by omega)
  have hV2 := mo_V (hs := hs) (a := t) hx (n - t) (by omega)
  have l1 := mo_le (hs := hs) hx (a := 0) (i := t) (by omega)
  have l2 := mo_le (hs := hs) hx (a := t) (i := n - t) (by omega)
  have hsp := mo_split (xs := xs) (hs := hs) ht
  have m0 : isMo (moP xs hs f f (f + n)).1 (moP xs hs f f (f + n)).2.1 (moP xs hs f f (f + n)).2.2 := by rw [moP_all]; exact isMo_of hV hle
  have ew : IntKind.wrap .i64 ((n : Int) + 1) ≠ 0 := by rw [wrap_eq (by omega) (by omega)]; omega
  refine ⟨⟨⟨rfl, rfl⟩, g2.1, g2.2, by omega⟩, ⟨ew⟩, ⟨hr⟩, ⟨hr, h0, sp_whole⟩, ⟨hr⟩, ⟨hr, h0, by rw [ec]; exact sp_first ht⟩, ⟨hr⟩, ⟨⟨rfl, rfl⟩, g2.1, g2.2, by omega⟩, ⟨hr, h0, by rw [ec]; exact sp_at ht (Nat.le_refl n)⟩, ⟨m0⟩, ⟨?_, ?_, ?_⟩, ⟨trivial⟩, br_of (fun hb => ?_) (fun _ => ?_)⟩
  · rw [ec, moP_all]; exact isMo_of hV1 (by omega)
  · rw [ec, moP_at ht]; exact isMo_of hV2 (by omega)
  · rw [ec, moP_at ht, moP_all]; omega
  · rw [ec, moP_all, moP_all, moP_at ht, hsp] at hb
    simp at hb
  refine ⟨⟨hr⟩, br_of (fun hb => ?_) (fun _ => ?_)⟩
  · rw [moP_all, mo_kcn] at hb; simp at hb
  refine br_of (fun _ => ⟨by first | trivial | rfl, by first | trivial | rfl⟩) (fun h5 => ?_)
  have hm0 : (mo xs hs 0 n).1 ≠ 0 := by rw [moP_all] at h5; simpa using h5
  obtain ⟨v0, v1, v2⟩ := var_fine hV hle hm0
  have eN : spN xs hs f n = varN (mo xs hs 0 n).1 (mo xs hs 0 n).2.1 (mo xs hs 0 n).2.2 := by rw [spN, moP_all]
  have eD : spD xs hs f n = varD (mo xs hs 0 n).1 (mo xs hs 0 n).2.1 (mo xs hs 0 n).2.2 := by rw [spD, moP_all]
  refine ⟨⟨m0, by rw [moP_all]; exact hm0⟩, br_of (fun hb => ?_) (fun _ => br_of (fun hb => ?_) (fun _ => ?_))⟩
  · rw [moP_all] at hb; have hb := of_decide_eq_true hb; omega
  · rw [moP_all] at hb; have hb := of_decide_eq_true hb; omega
  refine ⟨⟨(0 : Nat), ⟨Nat.zero_le n⟩, by first | trivial | rfl, by first | trivial | rfl⟩, fun s hs' => br_of (fun hc => ?_) (fun hc => ?_)⟩
  · have hc := lt_of_dec hc
    obtain ⟨⟨f0, f1, f2⟩, a1, a2⟩ := alk_ok (hs := hs) hx s (by omega)
    simp only [Nat.zero_add, Nat.mul_one, Int.toNat_natCast]
    refine ⟨⟨by omega, by omega⟩, ⟨flts_at (by omega)⟩, ⟨rfl, rfl, hk, by omega⟩, br_of (fun hb => ⟨s + 1, ⟨hc⟩, ⟨by omega⟩, ?_, by first | trivial | rfl⟩) (fun hb => ?_)⟩
    · have hb : knB hs (s : Int) = false := by simpa using hb
      have e1 : ffk hs (s + 1) = ffk hs s := by rw [ffk, if_neg (by rw [hb]; simp)]
      have e2 : alk xs hs (s + 1) = alk xs hs s := by rw [alk, if_neg (by rw [hb]; simp)]
      rw [up1 hc (by omega), e1, e2]
    · have hb : knB hs (s : Int) = true := by simpa using hb
      refine br_of (fun h6 => ?_) (fun h6 => ?_)
      · have h6 : ffk hs s = 0 := by simpa using h6
        have e1 : ffk hs (s + 1) = s + 1 := by rw [ffk, if_pos ⟨hb, h6⟩]
        have e2 : alk xs hs (s + 1) = (alk xs hs s && Sp.fEq (xs.getD s 0) (xs.getD s 0)) := by rw [alk, if_pos hb, e1, Nat.add_sub_cancel]
        have w : IntKind.wrap .i64 (IntKind.wrap .i64 ((s : Int) + 1) - 1) = (s : Int) := by rw [up1 hc (by omega), wrap_eq (by omega) (by omega)]; omega
        refine br_of (fun h7 => ?_) (fun h7 => absurd (f2 h6) (by rw [h7]; simp))
        rw [w, Int.toNat_natCast]
        refine ⟨⟨by omega, by omega⟩, ⟨flts_at (by omega)⟩, ⟨trivial⟩, ⟨s + 1, ⟨hc⟩, ⟨by omega⟩, ?_, by first | trivial | rfl⟩⟩
        rw [up1 hc (by omega), e1, e2, h7, Bool.true_and]
      · have h6 : ffk hs s ≠ 0 := by simpa using h6
        have e1 : ffk hs (s + 1) = ffk hs s := by rw [ffk, if_neg (fun h => h6 h.2)]
        have e2 : alk xs hs (s + 1) = (alk xs hs s && Sp.fEq (xs.getD s 0) (xs.getD (ffk hs s - 1) 0)) := by rw [alk, if_pos hb, e1]
        have w : IntKind.wrap .i64 ((ffk hs s : Int) - 1) = ((ffk hs s - 1 : Nat) : Int) := by rw [wrap_eq (by omega) (by omega)]; omega
        refine br_of (fun h7 => ?_) (fun h7 => ⟨s + 1, ⟨hc⟩, ⟨by omega⟩, ?_, by first | trivial | rfl⟩)
        · rw [w, Int.toNat_natCast]
          refine ⟨⟨by omega, by omega⟩, ⟨flts_at (by omega)⟩, ⟨trivial⟩, ⟨s + 1, ⟨hc⟩, ⟨by omega⟩, ?_, by first | trivial | rfl⟩⟩
          rw [up1 hc (by omega), e1, e2, h7, Bool.true_and]
        · rw [up1 hc (by omega), e1, e2, h7, Bool.false_and]
  have hc := ge_of_dec hc
  have hs' := hs'.out
  have es : s = n := by omega
  rw [es]
  have ea := alk_va (hs := hs) hx (show n ≤ xs.length by omega)
  refine br_of (fun hb => ?_) (fun _ => ?_)
  · rw [ea, eN] at hb
    by_cases hz : vaM (mo xs hs 0 n) = 0
    · rw [v2.2 hz, decide_eq_true hz] at hb; cases hb
    · have hz2 : ¬ varN (mo xs hs 0 n).1 (mo xs hs 0 n).2.1 (mo xs hs 0 n).2.2 = 0 := fun e => hz (v2.1 e)
      rw [decide_eq_false hz, show (varN (mo xs hs 0 n).1 (mo xs hs 0 n).2.1 (mo xs hs 0 n).2.2 == 0) = false by simpa using hz2] at hb
      cases hb
  have hx1 : x1.natAbs ≤ 2048 := by omega
  have hR := rdF_ok (P := knB hs) hx hn
  refine ⟨⟨hr⟩, ⟨hr, h0⟩, ⟨hr⟩, ⟨hr, h0, rfl, rfl⟩, ⟨(0 : Nat), ⟨Nat.zero_le n⟩, by first | trivial | rfl, by first | trivial | rfl⟩, fun s hs' => br_of (fun hc => ?_) (fun hc => ?_)⟩
  · have hc := lt_of_dec hc
    refine ⟨⟨trivial⟩, ⟨(Fl.half_ok hx1).1⟩, ⟨by rw [flts_len, lvX_len, Nat.mul_one], by omega, by omega⟩, ⟨s + 1, ⟨hc⟩, ⟨by omega⟩, by rw [up1 hc (by omega)], ?_⟩⟩
    rw [lvX_succ, flts_snoc]
    first | trivial | rfl
  have hc := ge_of_dec hc
  have hs' := hs'.out
  have es : s = n := by omega
  rw [es]
  have hQ : ∀ j, j < n → rdF (lvX x1 n) (knB []) j = (8 * x1, true) := fun j hj => lvX_rd hx1 hj
  have hb1 : ∀ j, j < n → ((rdF xs (knB hs) j).1 + 8 * x1).natAbs ≤ 16384 := fun j hj => by
    have h := hlev j hj
    rw [rdF]
    split
    · show (lev (xs.getD j 0) + 8 * x1).natAbs ≤ 16384; omega
    · show ((0 : Int) + 8 * x1).natAbs ≤ 16384; omega
  rw [mo_mrd] at hV hle hm0 eN eD
  have r1 := round (nm := nm) (rvA_ok hR) (like_rv hR) hV hle hm0 eN.symm eD.symm g1 g2 g3 g4
  have r2 := round (nm := nm) (ng_ok hR) (like_ng hR) hV hle hm0 eN.symm eD.symm g1 g2 g3 g4
  have r3 := round (nm := nm) (su_ok hR hQ hb1) (like_su hR hQ hb1) hV hle hm0 eN.symm eD.symm g1 g2 g3 g4
  obtain ⟨r11, r12, r13, r14⟩ := r1
  obtain ⟨r21, r22, r23, r24⟩ := r2
  obtain ⟨r31, r32, r33, r34⟩ := r3
  have hlr : isRun (lvX x1 n) [] n 0 (flts (lvX x1 n)) [] := ⟨rfl, rfl, lvX_len x1 n, by omega, rfl, by omega⟩
  have hl0 : runE lvNm f (lvX x1 n) n [] = 0 := lvX_run hx1 (by decide) g2 g3 g4
  refine ⟨⟨hr⟩, ⟨hr, hlr, rfl, rfl, h0, hl0, fun i hi hb _ => ?_⟩, ⟨r11⟩, ⟨r12⟩, ⟨trivial⟩, br_of (fun hb => ?_) (fun _ => ⟨⟨r21⟩, ⟨r22⟩, ⟨trivial⟩, br_of (fun hb => ?_) (fun _ => ⟨⟨r31⟩, ⟨r32⟩, ⟨trivial⟩, br_of (fun hb => ?_) (fun _ => ?_)⟩)⟩)⟩
  · rw [hQ i hi]; exact hb1 i hi
  · rw [rvT, r13, r14] at hb; simp at hb
  · rw [rvF, r23, r24] at hb; simp at hb
  · rw [r33, r34] at hb; simp at hb
  obtain ⟨z0, z1⟩ := size_at p4 p5
  generalize IntKind.wrap .i64 (2 + Int.tmod (IntKind.wrap .i64 x2) 8) = z at *
  have hcw : cwE nm f xs n hs z = 0 := by
    refine fi_zero.2 fun e he => ?_
    rcases List.mem_cons.1 he with rfl | he
    · exact h0
    · rcases List.mem_cons.1 he with rfl | he
      · exact wi_zero.2 (by omega)
      · cases he
  obtain ⟨_, ez, z2, _⟩ := cw_zero hcw
  have ei : iL nm f xs n hs z = ixL xs hs z.toNat (n / z.toNat) := iL_some hcw
  have el : (iL nm f xs n hs z).length = n / z.toNat := by rw [ei, ixL_len]
  have hdn : n / z.toNat ≤ n := Nat.div_le_self n z.toNat
  refine ⟨⟨by decide⟩, ⟨hr⟩, ⟨hr⟩, br_of (fun hb => ?_) (fun _ => ⟨⟨by omega⟩, br_of (fun hb => ?_) (fun _ => ?_)⟩)⟩
  · rw [hcw] at hb; cases hb
  · have e : IntKind.wrap .i64 (Int.tdiv (n : Int) z) = ((n / z.toNat : Nat) : Int) := by
      rw [ez, ← Int.ofNat_tdiv, Int.toNat_natCast, wrap_eq (by omega) (by omega)]
    rw [e, el] at hb; simp at hb
  refine ⟨⟨(0 : Nat), ⟨Nat.zero_le _⟩, by first | trivial | rfl, by first | trivial | rfl⟩, fun s hs' => br_of (fun hc => ?_) (fun _ => ⟨by first | trivial | rfl, by first | trivial | rfl⟩)⟩
  have hc := lt_of_dec hc
  have hc2 : s < n / z.toNat := by omega
  have hw : (s + 1) * z.toNat ≤ n := win_le hc2
  obtain ⟨q1, q2⟩ := ends_at g2 g3 hw (s := s) (z := z.toNat) (by omega)
  rw [← ez] at q1 q2
  have hw0 : s * z.toNat + z.toNat = (s + 1) * z.toNat := (Nat.succ_mul s z.toNat).symm
  have eM : moP xs hs f (IntKind.wrap .i64 (f + IntKind.wrap .i64 ((s : Int) * z))) (IntKind.wrap .i64 (f + IntKind.wrap .i64 (IntKind.wrap .i64 ((s : Int) + 1) * z))) = wnM xs hs z.toNat s := by rw [q1, q2, moP_win]
  have eI : (iL nm f xs n hs z).getD s 0 = ixM (wnM xs hs z.toNat s) z := by rw [ei, ixL_at hc2, ← ez]
  have wV : MoV (wnM xs hs z.toNat s) := mo_V hx z.toNat (by omega)
  have wl : (wnM xs hs z.toNat s).1 ≤ z := by have := mo_le (hs := hs) hx (a := s * z.toNat) (i := z.toNat) (by omega); rw [wnM]; omega
  have wsp : spB f n (IntKind.wrap .i64 (f + IntKind.wrap .i64 ((s : Int) * z))) (IntKind.wrap .i64 (f + IntKind.wrap .i64 (IntKind.wrap .i64 ((s : Int) + 1) * z))) = false := by
    rw [q1, q2]; exact sp_at (Nat.mul_le_mul_right _ (by omega)) hw
  simp only [Nat.zero_add, Nat.mul_one, Int.toNat_natCast]
  rw [eM, eI]
  generalize wnM xs hs z.toNat s = m at *
  refine ⟨⟨by omega, by omega⟩, ⟨?_⟩, ⟨hr⟩, ⟨hr, h0, wsp⟩, br_of (fun hb => br_of (fun hd => ?_) (fun _ => ⟨s + 1, ⟨hc⟩, ⟨by omega⟩, by rw [up1 hc (by omega)], by first | trivial | rfl⟩)) (fun hb => ?_)⟩
  · rw [zint_at hc, eI]
  · have hb := of_decide_eq_true hb
    rw [ixM, if_neg (by omega)] at hd; cases hd
  have hb := of_decide_eq_false hb
  have hz' : m.1 = z := by omega
  have wo := win_ok wV hz' z0 z1
  obtain ⟨_, u1, u2⟩ := var_of wV (by omega) (by omega)
  rw [← u1, ← u2] at wo
  have wm := isMo_of wV (by omega)
  generalize varN m.1 m.2.1 m.2.2 = N at *
  generalize varD m.1 m.2.1 m.2.2 = D at *
  generalize ixM m z = I at *
  refine ⟨⟨wm, by omega⟩, br_of (fun h => absurd (of_decide_eq_true h) (by have := wo.d0; omega)) (fun _ => br_of (fun h => absurd (of_decide_eq_true h) (by have := wo.d1; omega)) (fun _ => br_of (fun h => absurd (of_decide_eq_true h) (by have := wo.n0; omega)) (fun _ => br_of (fun h => absurd (of_decide_eq_true h) (by have := wo.n1; omega)) (fun _ => br_of (fun h => absurd (of_decide_eq_true h) (by have := wo.i0; omega)) (fun _ => br_of (fun h => absurd (of_decide_eq_true h) (by have := wo.i1; omega)) (fun _ => br_of (fun h => by rw [wo.lo_b] at h; cases h) (fun _ => br_of (fun h => by rw [wo.hi_b] at h; cases h) (fun _ => ⟨s + 1, ⟨hc⟩, ⟨by omega⟩, by rw [up1 hc (by omega)], by first | trivial | rfl⟩))))))))⟩
end
end Qq
