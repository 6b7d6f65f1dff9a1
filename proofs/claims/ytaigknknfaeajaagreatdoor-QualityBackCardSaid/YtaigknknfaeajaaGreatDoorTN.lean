/- Texts, read: the program's reader, walked. -/
import Derived.Test.YtaigknknfaeajaaGreatDoorTM
open Go Go.Vm Go.Proofs Sp
namespace Qq
noncomputable section
theorem not_both {w : ByteArray} {v u : ByteArray} (h : (w == v) = true) (hn : (v == u) = false) : (w == u) = false := by
  obtain ⟨⟨a⟩⟩ := w; obtain ⟨⟨b⟩⟩ := v; obtain ⟨⟨c⟩⟩ := u
  have h1 : a = b := by
    have h : (Array.mk a == Array.mk b) = true := h
    simpa using h
  rw [h1]; exact hn
theorem wd_full {w : ByteArray} (h : 0 ≤ kdS w) : (w == ⟨#[]⟩) = false := by
  rcases kd_in w with h1 | h1 | h1 | h1
  · omega
  · exact not_both (kd_sec.1 h1) rfl
  · exact not_both (kd_mea.1 h1) rfl
  · exact not_both (kd_act.1 h1) rfl
theorem two {ws : List ByteArray} (h1 : 1 ≤ ws.length) (h0 : (wd ws 0 == ⟨#[]⟩) = false) :
    (tkB ws 1 (tkM ws 0 ws.length) = false ∧ tkM ws 1 (tkM ws 0 ws.length) = 0) ↔ (ws.length = 2 ∧ (wd ws 1 == ⟨#[]⟩) = false) := by
  have b0 : tkB ws 0 ws.length = false := tk_some (by omega) h0
  have m1 := (tk_ok b0).2.2.2
  rw [m1]
  constructor
  · rintro ⟨b1, e⟩
    obtain ⟨q1, q2, _, q4⟩ := tk_ok b1
    exact ⟨by omega, q2⟩
  · rintro ⟨hn, q2⟩
    have b1 : tkB ws 1 (ws.length - 1) = false := tk_some (by omega) q2
    exact ⟨b1, by rw [(tk_ok b1).2.2.2]; omega⟩
theorem three {ws : List ByteArray} (h1 : 1 ≤ ws.length) (h0 : (wd ws 0 == ⟨#[]⟩) = false) :
    (tkB ws 1 (tkM ws 0 ws.length) = false ∧ tkB ws 2 (tkM ws 1 (tkM ws 0 ws.length)) = false ∧ tkM ws 2 (tkM ws 1 (tkM ws 0 ws.length)) = 0) ↔
    (ws.length = 3 ∧ (wd ws 1 == ⟨#[]⟩) = false ∧ (wd ws 2 == ⟨#[]⟩) = false) := by
  have b0 : tkB ws 0 ws.length = false := tk_some (by omega) h0
  have m1 := (tk_ok b0).2.2.2
  rw [m1]
  constructor
  · rintro ⟨b1, b2, e⟩
    obtain ⟨q1, q2, _, q4⟩ := tk_ok b1
    rw [q4] at b2 e
    obtain ⟨r1, r2, _, r4⟩ := tk_ok b2
    exact ⟨by omega, q2, r2⟩
  · rintro ⟨hn, q2, r2⟩
    have b1 : tkB ws 1 (ws.length - 1) = false := tk_some (by omega) q2
    have e1 := (tk_ok b1).2.2.2
    have b2 : tkB ws 2 (ws.length - 1 - 1) = false := tk_some (by omega) r2
    exact ⟨b1, by rw [e1]; exact b2, by rw [e1, (tk_ok b2).2.2.2]; omega⟩
/-- What a line is that has its form. -/
theorem ok_kd {L : List ByteArray} {i : Nat} (h : okL L i = true) : (i = 0 ∧ kdS (wd (lw L i) 0) = 0 ∧ (lw L i).length = 2 ∧ (wd (lw L i) 1 == ⟨#[]⟩) = false) ∨
    (i ≠ 0 ∧ ((lw L i).length = 3 ∧ (wd (lw L i) 1 == ⟨#[]⟩) = false ∧ (wd (lw L i) 2 == ⟨#[]⟩) = false ∧ igB (wd (lw L i) 1) = true) ∧ (kdS (wd (lw L i) 0) = 2 ∨ (kdS (wd (lw L i) 0) = 1 ∧ igB (wd (lw L i) 2) = true ∧ lsF L i ≤ 1))) := by
  by_cases h0 : i = 0
  · subst h0
    rw [okL, if_pos rfl, hdO] at h
    simp only [Bool.and_eq_true, decide_eq_true_eq] at h
    exact .inl ⟨rfl, kd_sec.2 h.1.2, h.1.1, of_not h.2⟩
  · rw [okL, if_neg h0, pdO] at h
    simp only [Bool.and_eq_true, Bool.or_eq_true, decide_eq_true_eq] at h
    obtain ⟨⟨⟨⟨a, b⟩, c⟩, d⟩, e⟩ := h
    refine .inr ⟨h0, ⟨a, of_not b, of_not c, d⟩, ?_⟩
    rcases e with e | ⟨⟨e1, e2⟩, e3⟩
    · exact .inl (kd_act.2 e)
    · exact .inr ⟨kd_mea.2 e1, e2, ls_two.2 e3⟩
theorem px_leaf {L : List ByteArray} {i : Nat} (hb : prI L = i ∧ prE L = 25) (nm : ByteArray) (zs : List Int) (n : Nat) (ks : List (Int × ByteArray)) (k : Nat) (c d : Int) :
    ∃ x : ByteArray × List Int × Nat × List (Int × ByteArray) × Nat × Int × Int × Int, paS ⟨#[]⟩ nm zs n ks k none (i : Int) 25 c d = paS ⟨#[]⟩ x.1 x.2.1 x.2.2.1 x.2.2.2.1 x.2.2.2.2.1 none x.2.2.2.2.2.1 25 x.2.2.2.2.2.2.1 x.2.2.2.2.2.2.2 ∧ Is (x.2.2.2.2.2.1 = (Int.ofNat (prI L)) ∧ prE L = 25) :=
  ⟨(nm, zs, n, ks, k, (i : Int), c, d), rfl, ⟨by show (i : Int) = ((prI L : Nat) : Int); rw [hb.1], hb.2⟩⟩
theorem lw_len (L : List ByteArray) (i : Nat) : 1 ≤ (lw L i).length ∧ (lw L i).length ≤ (L.getD i ⟨#[]⟩).size + 1 := by
  rw [lw, spI, List.length_map, spl_len, size_len]
  have := List.count_le_length (a := (Int.toNat 32).toUInt8) (l := (L.getD i ⟨#[]⟩).data.toList)
  omega
theorem ls_next {L : List ByteArray} {i : Nat} (h : i ≠ 0) : lsF L (i + 1) = if stK L (i + 1) = [] then 1 else 2 := by
  rw [lsF, if_neg (by omega)]
theorem spl_none {c : UInt8} {l : List UInt8} (h : (spl c l).length = 1) : spl c l = [l] := by
  rw [spl_len] at h
  exact spl_one (fun hm => by have := List.count_pos_iff.2 hm; omega)
theorem psL_one {s : ByteArray} (h : (psL s).length = 1) : (psL s).getD 0 ⟨#[]⟩ = s := by
  rw [psL, spI, List.length_map] at h
  rw [psL, spI, spl_none h]
  exact ofL_data s
set_option maxRecDepth 100000 in
set_option maxHeartbeats 1000000 in
theorem px_ok {s : ByteArray} (hs0 : s.size ≤ 900 ∨ 4096 < s.size) : SmallRes Tryz.prog 98 [.string s] [] (rpR s) (rpH s) := by
  refine fnP_res hm cPx_ok (hs := hsPx s) ?_
  rw [px_t]
  simp only [unS_strs, unZ_ints, unK_acs]
  refine br_of (fun h => ?_) (fun h => ?_)
  · by_cases hl : 4096 < s.size
    · have he : psE s = 26 := by rw [psE, if_pos hl]
      have e : fi [wh (decide ((4096 : Int) < (s.size : Int))) 26, wh (s.toList == []) 25] = 26 := by rw [decide_eq_true (by omega)]; rfl
      rw [e]
      exact rp_bad he (by decide) (by rw [psA, he, if_neg (by decide), if_pos hl])
    · have hz : (s.toList == []) = true := by
        cases hz : (s.toList == []) with
        | true => rfl
        | false => rw [hz, decide_eq_false (by omega)] at h; cases h
      have e : fi [wh (decide ((4096 : Int) < (s.size : Int))) 26, wh (s.toList == []) 25] = 25 := by rw [hz, decide_eq_false (by omega)]; rfl
      have h0 : s.data.toList = [] := by rw [Lib.toList_data] at hz; simpa using hz
      have hL : psL s = [⟨#[]⟩] := by rw [psL, spI, h0]; rfl
      have hp : prI (psL s) = 0 := by rw [hL]; rfl
      have he : psE s = 25 := by
        rw [psE, if_neg hl, prE, hp, hL, if_neg (by decide), if_pos (by decide)]
      rw [e]
      exact rp_bad he (by decide) (by rw [psA, he, if_neg (by decide), if_neg hl, hp]; rfl)
  have h : fi [wh (decide ((4096 : Int) < (s.size : Int))) 26, wh (s.toList == []) 25] = 0 := by simpa using h
  have hl : ¬ 4096 < s.size := by
    have := (wh_zero (by decide)).1 (fi_zero.1 h (wh (decide ((4096 : Int) < (s.size : Int))) 26) (by simp))
    have := of_decide_eq_false this
    omega
  have hne : (s == ⟨#[]⟩) = false := by
    have := (wh_zero (by decide)).1 (fi_zero.1 h (wh (s.toList == []) 25) (by simp))
    rw [← beq_nil]; exact this
  have h9 : s.size ≤ 900 := by omega
  have eE : psE s = prE (psL s) := by rw [psE, if_neg hl]
  have eA : psE s ≠ 0 → psA s = (prI (psL s) : Int) := fun h => by rw [psA, if_neg h, if_neg hl]
  have hcl : lnC s = (psL s).length - 1 := rfl
  have hll : ((psL s).getD ((psL s).length - 1) ⟨#[]⟩ == ⟨#[]⟩) = ((spU s 10).getD (lnC s) ⟨#[]⟩ == ⟨#[]⟩) := rfl
  have z := st_zero (psL s)
  have h2 := ln_two s
  obtain ⟨l1, l2⟩ := psL_len s
  have hat := psL_at s
  have triv0 : True := trivial
  refine ⟨by first | trivial | rfl, by first | trivial | rfl, by rw [z.1, z.2.2.2.1, z.2.2.2.2]; exact rfl, by first | trivial | rfl, ⟨⟨by first | trivial | rfl, by first | trivial | rfl⟩, by omega⟩, ⟨Nat.zero_le _, fun j hj => by omega⟩, fun i hi hlt => ?_, fun hfin => ?_, fun x hx => ?_⟩
  · obtain ⟨i1, i2⟩ := hi.out
    have hlt := hlt.out
    have v := st_even (psL s) i
    have hsz : ((spU s 10).getD i ⟨#[]⟩).size ≤ s.size := hat i
    have hN : lnN s ≤ lnC s + 1 := by rw [lnN]; split <;> omega
    by_cases hc : i < lnC s
    · have eL : lnE s i = cat ((spU s 10).getD i ⟨#[]⟩) ⟨#[10]⟩ := if_pos hc
      obtain ⟨c1, c2⟩ := cs_full ((spU s 10).getD i ⟨#[]⟩)
      have hws : spU ((spU s 10).getD i ⟨#[]⟩) 32 = lw (psL s) i := rfl
      obtain ⟨n1, n2⟩ := lw_len (psL s) i
      have n2 : (lw (psL s) i).length ≤ s.size + 1 := Nat.le_trans n2 (Nat.succ_le_succ (hat i))
      rw [eL, c1, c2, hws]
      have hcl' : i < (psL s).length - 1 := by omega
      generalize hL : psL s = L at *
      generalize hw : lw L i = ws at *
      obtain ⟨t1, t2⟩ := tk_0 n1
      rw [t1]
      have bad : okL L i = false → prI L = i ∧ prE L = 25 := fun hk => by
        have hp := prI_bad i2 hcl' hk
        exact ⟨hp, by rw [prE, hp, if_pos hcl']⟩
      have leaf := fun (hk : okL L i = false) => px_leaf (L := L) (i := i) (bad hk)
      have kdo : okL L i = true → _ := ok_kd (L := L) (i := i)
      rw [hw] at kdo
      have e2 : tkB ws 0 ws.length = false → tkB ws 1 (tkM ws 0 ws.length) = false → isTk ws 1 (tkM ws 0 ws.length) := fun _ _ => tk_next (off := 0) ⟨.inr (by omega), by omega⟩
      have k1 : isTk ws 1 (tkM ws 0 ws.length) := tk_next (off := 0) ⟨.inr (by omega), by omega⟩
      have okno : ∀ {b : Bool}, (okL L i = true → b = false) → b = true → okL L i = false := fun {b} h hb => by
        cases ho : okL L i with
        | false => rfl
        | true => rw [h ho] at hb; cases hb
      refine ⟨⟨by rw [size_cat]; simp only [ByteArray.size]; show _ + 1 ≤ _; have : ((spU s 10).getD i ⟨#[]⟩).data.size ≤ s.size := hsz; omega⟩, ⟨by omega⟩, ⟨by first | trivial | rfl, ⟨.inr (by omega), by omega⟩, by first | trivial | rfl, by first | trivial | rfl⟩, ⟨by first | trivial | rfl⟩, br_of (fun h => by cases h) (fun _ => br_of (fun h => leaf (okno (fun ho => ?_) h) _ _ _ _ _ _ _) (fun h1 => br_of (fun h => leaf (okno (fun ho => ?_) h) _ _ _ _ _ _ _) (fun h2 => br_of (fun h3 => ?_) (fun h3 => br_of (fun h4 => ?_) (fun h4 => ?_)))))⟩
      · rcases kdo ho with ⟨rfl, a, _⟩ | ⟨_, _, a | ⟨a, _, b⟩⟩
        · rw [a]; rfl
        · rw [a]; exact decide_eq_false (by have := (ls_in L i).2; omega)
        · rw [a]; exact decide_eq_false (by omega)
      · rcases kdo ho with ⟨rfl, a, _⟩ | ⟨h0, _, a | ⟨a, _, b⟩⟩
        · rw [a]; rfl
        · rw [a, show ((i : Int) == 0) = false from beq_eq_false_iff_ne.2 (by omega)]; rfl
        · rw [a, show ((i : Int) == 0) = false from beq_eq_false_iff_ne.2 (by omega)]; rfl
      · have h3 : kdS (wd ws 0) = 0 := beq_iff_eq.1 h3
        have hi0 : i = 0 := by
          have h2 : ((kdS (wd ws 0) == 0) == ((i : Int) == 0)) = true := of_notf h2
          rw [h3] at h2
          have : ((i : Int) == 0) = true := by simpa using h2
          have := beq_iff_eq.1 this
          omega
        have hw0 := wd_full (w := wd ws 0) (by omega)
        have b0 : tkB ws 0 ws.length = false := tk_some (by omega) hw0
        have tw := two n1 hw0
        have hk : okL L i = hdO ws := by rw [hi0] at hw ⊢; rw [← hw]; exact if_pos rfl
        refine ⟨⟨⟨by first | trivial | rfl, by first | trivial | rfl, v.1, by first | trivial | rfl, by omega, by omega⟩, by first | trivial | rfl, k1, by first | trivial | rfl, by first | trivial | rfl, by first | trivial | rfl, by first | trivial | rfl, by first | trivial | rfl⟩, ⟨trivial⟩, br_of (fun h => leaf (okno (fun ho => ?_) h) _ _ _ _ _ _ _) (fun h5 => ⟨⟨trivial⟩, br_of (fun h => leaf (okno (fun ho => ?_) h) _ _ _ _ _ _ _) (fun h6 => ?_)⟩)⟩
        · rcases kdo ho with ⟨_, _, a, b⟩ | ⟨h0, _⟩
          · rw [b0, (tw.2 ⟨a, b⟩).1]; rfl
          · exact absurd hi0 h0
        · rcases kdo ho with ⟨_, _, a, b⟩ | ⟨h0, _⟩
          · rw [(tw.2 ⟨a, b⟩).2]; rfl
          · exact absurd hi0 h0
        · have h5 : tkB ws 1 (tkM ws 0 ws.length) = false := by rw [b0] at h5; exact h5
          have h6 : tkM ws 1 (tkM ws 0 ws.length) = 0 := by have := of_decide_eq_false h6; omega
          obtain ⟨g1, g2⟩ := tw.1 ⟨h5, h6⟩
          have ho : okL L i = true := by
            rw [hk, hdO, g1, g2, kd_sec.1 h3]; rfl
          obtain ⟨s1, s2, s3⟩ := st_one L
          have w1 : wd ws 1 = stN L 1 := by rw [s1, ← hi0, hw]
          have z0 := st_zero L
          refine ⟨?_, ⟨by omega, fun j hj => ?_⟩⟩
          · rw [(tk_ok h5).2.2.1, h3, w1, up1 hcl' (by omega)]
            subst hi0
            rw [show lsF L (0 + 1) = 0 from rfl, Nat.zero_add, stn, stk, stn, stk, s2, s3, z0.2.1, z0.2.2.1]
            first | trivial | rfl
          · rcases Nat.lt_succ_iff_lt_or_eq.1 hj with h | rfl
            · exact i2 j h
            · exact ho
      · have h4 : kdS (wd ws 0) = 1 := beq_iff_eq.1 h4
        have hi0 : i ≠ 0 := by
          have h2 : ((kdS (wd ws 0) == 0) == ((i : Int) == 0)) = true := of_notf h2
          rw [h4] at h2
          intro e; rw [e] at h2; cases h2
        have hw0 := wd_full (w := wd ws 0) (by omega)
        have b0 : tkB ws 0 ws.length = false := tk_some (by omega) hw0
        have th := three n1 hw0
        have hk : okL L i = pdO (stK L i) ws := by rw [← hw]; exact if_neg hi0
        have hls : lsF L i ≤ 1 := by have := of_decide_eq_false h1; omega
        refine ⟨⟨⟨by first | trivial | rfl, by first | trivial | rfl, v.1, by first | trivial | rfl, by omega, by omega⟩, by first | trivial | rfl, k1, by first | trivial | rfl, by first | trivial | rfl, by first | trivial | rfl, by first | trivial | rfl, by first | trivial | rfl⟩, ⟨trivial⟩, br_of (fun h => leaf (okno (fun ho => ?_) h) _ _ _ _ _ _ _) (fun h5 => ⟨⟨trivial⟩, br_of (fun h => leaf (okno (fun ho => ?_) h) _ _ _ _ _ _ _) (fun h6 => ?_)⟩)⟩
        · rcases kdo ho with ⟨h0, _⟩ | ⟨_, ⟨a, b, c, d⟩, e | ⟨e1, e2, e3⟩⟩
          · exact absurd h0 hi0
          · omega
          · obtain ⟨q1, q2, q3⟩ := th.2 ⟨a, b, c⟩
            rw [b0, q1, (tk_ok q1).2.2.1, q2, (tk_ok q2).2.2.1, d, e2]; rfl
        · rcases kdo ho with ⟨h0, _⟩ | ⟨_, ⟨a, b, c, d⟩, e | ⟨e1, e2, e3⟩⟩
          · exact absurd h0 hi0
          · omega
          · obtain ⟨q1, q2, q3⟩ := th.2 ⟨a, b, c⟩
            rw [q3]; rfl
        · simp only [Bool.or_eq_false_iff] at h5
          obtain ⟨⟨⟨⟨_, f1⟩, f2⟩, f3⟩, f4⟩ := h5
          have f6 : tkM ws 2 (tkM ws 1 (tkM ws 0 ws.length)) = 0 := by have := of_decide_eq_false h6; omega
          obtain ⟨g1, g2, g3⟩ := th.1 ⟨f1, f3, f6⟩
          rw [(tk_ok f1).2.2.1] at f2
          rw [(tk_ok f3).2.2.1] at f4
          have f2 := of_notf f2
          have f4 := of_notf f4
          have hm0 := kd_mea.1 h4
          have hact : (wd ws 0 == sAct) = false := by
            cases ha : (wd ws 0 == sAct) with
            | false => rfl
            | true => have := kd_act.2 ha; omega
          have hemp := ls_two.1 hls
          have hpd : pdO (stK L i) ws = true := by rw [pdO, g1, g2, g3, f2, f4, hm0, hemp, hact]; rfl
          have ho : okL L i = true := by rw [hk]; exact hpd
          obtain ⟨s1, s2, s3⟩ := st_more (L := L) hi0
          obtain ⟨s4, s5⟩ := stn_more (L := L) hi0
          rw [hw] at s2 s3 s4 s5
          have hkn : stK L i = [] := by simpa using hemp
          rw [pdZ, if_pos ⟨hpd, hact⟩] at s2
          rw [pdK, if_neg (by rw [hact]; rintro ⟨_, h⟩; cases h)] at s3
          rw [pdN, if_pos ⟨hpd, hact⟩] at s4
          rw [pdM, if_neg (by rw [hact]; rintro ⟨_, h⟩; cases h)] at s5
          refine ⟨?_, ⟨by omega, fun j hj => ?_⟩⟩
          · rw [(tk_ok f1).2.2.1, (tk_ok f3).2.2.1, h4, up1 hcl' (by omega), ls_next hi0, s3, if_pos hkn, s1, s2, ← s4, ← s5, igV_dr f2, igV_dr f4]
            first | trivial | rfl
          · rcases Nat.lt_succ_iff_lt_or_eq.1 hj with h | rfl
            · exact i2 j h
            · exact ho
      · have h3 : kdS (wd ws 0) ≠ 0 := beq_eq_false_iff_ne.1 h3
        have h4 : kdS (wd ws 0) ≠ 1 := beq_eq_false_iff_ne.1 h4
        have hk2 : kdS (wd ws 0) = 2 := by
          have := of_decide_eq_false h1
          have := (ls_in L i).1
          rcases kd_in (wd ws 0) with h | h | h | h <;> omega
        have hi0 : i ≠ 0 := by
          have h2 : ((kdS (wd ws 0) == 0) == ((i : Int) == 0)) = true := of_notf h2
          rw [hk2] at h2
          intro e; rw [e] at h2; cases h2
        have hw0 := wd_full (w := wd ws 0) (by omega)
        have b0 : tkB ws 0 ws.length = false := tk_some (by omega) hw0
        have th := three n1 hw0
        have hk : okL L i = pdO (stK L i) ws := by rw [← hw]; exact if_neg hi0
        refine ⟨⟨hk2⟩, ⟨⟨by first | trivial | rfl, by first | trivial | rfl, v.1, by first | trivial | rfl, by omega, by omega⟩, by first | trivial | rfl, k1, by first | trivial | rfl, by first | trivial | rfl, by first | trivial | rfl, by first | trivial | rfl, by first | trivial | rfl⟩, ⟨trivial⟩, br_of (fun h => leaf (okno (fun ho => ?_) h) _ _ _ _ _ _ _) (fun h5 => ⟨⟨trivial⟩, br_of (fun h => leaf (okno (fun ho => ?_) h) _ _ _ _ _ _ _) (fun h6 => ?_)⟩)⟩
        · rcases kdo ho with ⟨h0, _⟩ | ⟨_, ⟨a, b, c, d⟩, e⟩
          · exact absurd h0 hi0
          · obtain ⟨q1, q2, q3⟩ := th.2 ⟨a, b, c⟩
            rw [b0, q1, (tk_ok q1).2.2.1, q2, d]; rfl
        · rcases kdo ho with ⟨h0, _⟩ | ⟨_, ⟨a, b, c, d⟩, e⟩
          · exact absurd h0 hi0
          · obtain ⟨q1, q2, q3⟩ := th.2 ⟨a, b, c⟩
            rw [q3]; rfl
        · simp only [Bool.or_eq_false_iff] at h5
          obtain ⟨⟨⟨_, f1⟩, f2⟩, f3⟩ := h5
          have f6 : tkM ws 2 (tkM ws 1 (tkM ws 0 ws.length)) = 0 := by have := of_decide_eq_false h6; omega
          obtain ⟨g1, g2, g3⟩ := th.1 ⟨f1, f3, f6⟩
          rw [(tk_ok f1).2.2.1] at f2
          have f2 := of_notf f2
          have hact := kd_act.1 hk2
          have hpd : pdO (stK L i) ws = true := by rw [pdO, g1, g2, g3, f2, hact]; rfl
          have ho : okL L i = true := by rw [hk]; exact hpd
          obtain ⟨s1, s2, s3⟩ := st_more (L := L) hi0
          obtain ⟨s4, s5⟩ := stn_more (L := L) hi0
          rw [hw] at s2 s3 s4 s5
          rw [pdZ, if_neg (by rw [hact]; rintro ⟨_, h⟩; cases h)] at s2
          rw [pdK, if_pos ⟨hpd, hact⟩] at s3
          rw [pdN, if_neg (by rw [hact]; rintro ⟨_, h⟩; cases h)] at s4
          rw [pdM, if_pos ⟨hpd, hact⟩] at s5
          refine ⟨?_, ⟨by omega, fun j hj => ?_⟩⟩
          · rw [(tk_ok f1).2.2.1, (tk_ok f3).2.2.1, hk2, up1 hcl' (by omega), ls_next hi0, s3, if_neg (by simp), s1, s2, ← s4, ← s5, igV_dr f2]
            first | trivial | rfl
          · rcases Nat.lt_succ_iff_lt_or_eq.1 hj with h | rfl
            · exact i2 j h
            · exact ho
    · have hic : i = lnC s := by omega
      have eL : lnE s i = (spU s 10).getD i ⟨#[]⟩ := if_neg hc
      have hlast : ((spU s 10).getD (lnC s) ⟨#[]⟩ == ⟨#[]⟩) = false := by
        cases hb : ((spU s 10).getD (lnC s) ⟨#[]⟩ == ⟨#[]⟩) with
        | false => rfl
        | true => rw [lnN, if_pos hb] at hlt; omega
      have hfree : csB ((spU s 10).getD i ⟨#[]⟩) ⟨#[10]⟩ = false := by
        refine cs_part ?_
        rw [spU_at, data_ofL]
        refine spl_free (c := 10) s.data.toList _ ?_
        rw [List.getD_eq_getElem?_getD, List.getElem?_eq_getElem (by rw [spl_len, ← spU_len]; omega)]
        exact List.getElem_mem _
      have hp : prI (psL s) = i := by rw [prI_all (fun j hj => i2 j (by omega)), ← hcl, hic]
      have he : prE (psL s) = 25 := by rw [prE, hp, if_neg (by omega), if_pos (by rw [hll, hlast]; rfl)]
      rw [eL, hfree]
      have hcs : csT ((spU s 10).getD i ⟨#[]⟩) ⟨#[10]⟩ = (spU s 10).getD i ⟨#[]⟩ := by
        have h : Lib.hasSuffix ((spU s 10).getD i ⟨#[]⟩).data.toList (⟨#[10]⟩ : ByteArray).data.toList = false := hfree
        rw [csT, Lib.trimSuffix, if_neg (by rw [h]; decide), ofL_data]
      rw [hcs]
      have hlw := lw_len (psL s) i
      have hlw : (spU ((spU s 10).getD i ⟨#[]⟩) 32).length ≤ ((spU s 10).getD i ⟨#[]⟩).size + 1 := hlw.2
      refine ⟨⟨by omega⟩, ⟨by omega⟩, ⟨by first | trivial | rfl, ⟨.inr (by omega), by omega⟩, by first | trivial | rfl, by first | trivial | rfl⟩, ⟨by first | trivial | rfl⟩, br_of (fun h => px_leaf ⟨hp, he⟩ _ _ _ _ _ _ _) (fun h => by cases h)⟩
  · obtain ⟨f1, f2⟩ := hfin.out
    have hlast : ((spU s 10).getD (lnC s) ⟨#[]⟩ == ⟨#[]⟩) = true := by
      cases hb : ((spU s 10).getD (lnC s) ⟨#[]⟩ == ⟨#[]⟩) with
      | true => rfl
      | false => rw [lnN, if_neg (by rw [hb]; decide)] at f1; omega
    have hN : lnN s = lnC s := if_pos hlast
    rw [hN] at f2 ⊢
    have v := st_even (psL s) (lnC s)
    have hC0 : lnC s ≠ 0 := by
      intro h0
      have h1 : (psL s).length = 1 := by omega
      have e := psL_one (s := s) h1
      rw [h0] at hlast
      have e2 : (spU s 10).getD 0 ⟨#[]⟩ = s := e
      rw [e2, hne] at hlast
      cases hlast
    have hp : prI (psL s) = (psL s).length - 1 := prI_all (fun j hj => f2 j (by omega))
    have he : psE s = secE (stN (psL s) (lnC s)) (stZ (psL s) (lnC s)) (stn (psL s) (lnC s)) (stK (psL s) (lnC s)) (stk (psL s) (lnC s)) := by
      rw [eE, prE, hp, if_neg (Nat.lt_irrefl _), if_neg (by rw [hll, hlast, ← hcl, decide_eq_false hC0]; decide), ← hcl]
    refine ⟨⟨by first | trivial | rfl, by first | trivial | rfl, v.1, by first | trivial | rfl, by omega, by omega⟩, br_of (fun h => ?_) (fun h => ?_)⟩
    · have h := bne_iff_ne.1 h
      exact rp_bad he h (by rw [eA (by rw [he]; exact h), hp, ← hcl])
    · have h : secE (stN (psL s) (lnC s)) (stZ (psL s) (lnC s)) (stn (psL s) (lnC s)) (stK (psL s) (lnC s)) (stk (psL s) (lnC s)) = 0 := by simpa using h
      have h3 : psE s = 0 := by rw [he, h]
      rw [rpR, rpH, psA, if_pos h3, psN, psn, psk, psZ, psK, gqS_z h3, gqN_z h3, gqN_z h3, gqL_z h3, gqK_z h3, h3, ← hcl]
      exact ⟨by first | trivial | rfl, by first | trivial | rfl⟩
  · obtain ⟨x1, x2⟩ := hx.out
    have he : psE s = 25 := by rw [eE]; exact x2
    exact rp_bad he (by decide) (by rw [eA (by rw [he]; decide)]; exact x1.symm)
noncomputable def orcPx : OrcV
  | [.string s], [] => some (.tuple #[.agg #[.string (psN s), .slice (some ⟨0, 0, none⟩) (psn s) 0, .slice (some ⟨1, 0, none⟩) (psk s) 0], .int .i64 (psA s), .int .i64 (psE s)], [some (.row (ints (psZ s)) 2 true true true), some (.row (acs (psK s)) 2 true true true)], s.size ≤ 900 ∨ 4096 < s.size)
  | _, _ => none
theorem okPx : OkV Tryz.prog 98 orcPx := by
  intro args H ret H' vc h hv
  unfold orcPx at h
  split at h
  · cases h; exact px_ok hv
  · cases h
end
end Qq
