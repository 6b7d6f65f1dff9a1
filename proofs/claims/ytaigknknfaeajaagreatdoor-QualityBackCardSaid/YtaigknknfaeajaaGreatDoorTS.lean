/- Texts, back: what is parsed of what is printed, and printed of what is parsed, plain. -/
import Derived.Test.YtaigknknfaeajaaGreatDoorTR
open Go Go.Vm Go.Proofs Sp
namespace Qq
noncomputable section
def pt (nm : ByteArray) (zs : List Int) (n : Nat) (ks : List (Int × ByteArray)) (k : Nat) : ByteArray := ofL (txK nm zs n ks k)
theorem lsK_ne (nm : ByteArray) (zs : List Int) (n : Nat) (ks : List (Int × ByteArray)) (k : Nat) : lsK nm zs n ks k ≠ [] := fun e => by
  have := lsK_len nm zs n ks k
  rw [e] at this; simp at this
theorem en_size : ∀ (ls : List (List UInt8)), (∀ l ∈ ls, l.length ≤ 40) → (en ls).length ≤ ls.length * 41
  | [], _ => by simp [en]
  | a :: r, h => by
    have h1 := h a (by simp)
    have h2 := en_size r (fun l hl => h l (by simp [hl]))
    rw [en, List.length_append, List.length_cons, List.length_cons]; omega
theorem pt_size {nm : ByteArray} {zs : List Int} {n : Nat} {ks : List (Int × ByteArray)} {k : Nat} (v : Vd nm zs n ks k) (hn : n ≤ 12) (hk : k ≤ 6) : 1 ≤ (pt nm zs n ks k).size ∧ (pt nm zs n ks k).size ≤ 900 := by
  rw [pt, size_ofL, txK_en]
  have h := en_size _ (fun l hl => (ls_free v l hl).2)
  rw [lsK_len] at h
  have h2 : (en (lsK nm zs n ks k)).length = (jn 10 (lsK nm zs n ks k)).length + 1 := by rw [en_jn (lsK_ne _ _ _ _ _), List.length_append]; rfl
  omega
theorem psL_pt {nm : ByteArray} {zs : List Int} {n : Nat} {ks : List (Int × ByteArray)} {k : Nat} (v : Vd nm zs n ks k) : psL (pt nm zs n ks k) = (lsK nm zs n ks k ++ [[]]).map ofL := by
  rw [psL, spI, pt, data_ofL, txK_en, ← jn_en]
  congr 1
  refine spl_jn (by simp) (fun p hp => ?_)
  rcases List.mem_append.1 hp with h | h
  · exact (ls_free v p h).1
  · rw [List.mem_singleton.1 h]; simp
theorem map_at (ls : List (List UInt8)) (i : Nat) : (ls.map ofL).getD i ⟨#[]⟩ = ofL (ls.getD i []) := by
  rw [List.getD_eq_getElem?_getD, List.getD_eq_getElem?_getD, List.getElem?_map]
  cases ls[i]? <;> rfl
/-- What is printed is parsed. -/
theorem ps_pt {nm : ByteArray} {zs : List Int} {n : Nat} {ks : List (Int × ByteArray)} {k : Nat} (he : secE nm zs n ks k = 0) (v : Vd nm zs n ks k) (hn : n ≤ 12) (hk : k ≤ 6) :
    psE (pt nm zs n ks k) = 0 ∧ psA (pt nm zs n ks k) = 0 ∧ psN (pt nm zs n ks k) = nm ∧ psZ (pt nm zs n ks k) = zs ∧ psK (pt nm zs n ks k) = ks ∧ psn (pt nm zs n ks k) = n ∧ psk (pt nm zs n ks k) = k ∧ (psL (pt nm zs n ks k)).length = n + k + 2 := by
  have hs := pt_size v hn hk
  have hL := psL_pt v
  have hlen : (psL (pt nm zs n ks k)).length = n + k + 2 := by rw [hL, List.length_map, List.length_append, lsK_len]; rfl
  have hat : ∀ i, i < n + k + 1 → (psL (pt nm zs n ks k)).getD i ⟨#[]⟩ = ofL ((lsK nm zs n ks k).getD i []) := fun i hi => by
    rw [hL, map_at, getD_snoc, lsK_len, if_pos hi]
  have hlast : (psL (pt nm zs n ks k)).getD (n + k + 1) ⟨#[]⟩ = ⟨#[]⟩ := by
    rw [hL, map_at, getD_snoc, lsK_len, if_neg (Nat.lt_irrefl _), if_pos rfl]; rfl
  have st := st_lines (m := n + k + 1) v hat (Nat.le_refl _)
  have hp : prI (psL (pt nm zs n ks k)) = n + k + 1 := by
    rw [prI_all (fun j hj => (st j (by omega)).2 (by omega)), hlen]; rfl
  obtain ⟨s1, s2, s3⟩ := (st (n + k + 1) (Nat.le_refl _)).1 (by omega)
  have hz := v.lz
  have hk2 := v.lk
  rw [List.take_of_length_le (by omega)] at s2 s3
  have s4 : stn (psL (pt nm zs n ks k)) (n + k + 1) = n := by rw [stn, s2]; omega
  have s5 : stk (psL (pt nm zs n ks k)) (n + k + 1) = k := by rw [stk, s3]; exact hk2
  have hl1 : (psL (pt nm zs n ks k)).length - 1 = n + k + 1 := by rw [hlen]; rfl
  have e0 : psE (pt nm zs n ks k) = 0 := by
    rw [psE, if_neg (by omega), prE, hl1, hp, if_neg (Nat.lt_irrefl _), hlast, if_neg (by rw [ba_refl, decide_eq_false (by omega)]; decide), s1, s2, s3, s4, s5, he]
  refine ⟨e0, ?_, ?_, ?_, ?_, ?_, ?_, hlen⟩
  · rw [psA, if_pos e0]
  · rw [psN, gqS_z e0, hl1, s1]
  · rw [psZ, gqL_z e0, hl1, s2]
  · rw [psK, gqK_z e0, hl1, s3]
  · rw [psn, gqN_z e0, hl1, s4]
  · rw [psk, gqN_z e0, hl1, s5]
/-- Without its last byte it is not. -/
theorem ps_cut {nm : ByteArray} {zs : List Int} {n : Nat} {ks : List (Int × ByteArray)} {k : Nat} (v : Vd nm zs n ks k) (hn : n ≤ 12) (hk : k ≤ 6) {q : ByteArray} (hq : q = ofL ((txK nm zs n ks k).take ((pt nm zs n ks k).size - 1))) :
    q.size ≤ 900 ∧ psE q = 25 ∧ psA q = ((n + k : Nat) : Int) := by
  have hs := pt_size v hn hk
  have e : q = ofL (jn 10 (lsK nm zs n ks k)) := by
    rw [hq, pt, size_ofL, txK_en, en_jn (lsK_ne _ _ _ _ _), List.length_append, List.length_cons, List.length_nil, Nat.add_sub_cancel, List.take_left]
  have hs2 : q.size ≤ 900 := by
    rw [hq, size_ofL]
    have := List.length_take_le ((pt nm zs n ks k).size - 1) (txK nm zs n ks k)
    omega
  have hL : psL q = (lsK nm zs n ks k).map ofL := by
    rw [psL, spI, e, data_ofL]
    congr 1
    exact spl_jn (lsK_ne _ _ _ _ _) (fun p hp => (ls_free v p hp).1)
  have hlen : (psL q).length = n + k + 1 := by rw [hL, List.length_map, lsK_len]
  have hl1 : (psL q).length - 1 = n + k := by rw [hlen]; rfl
  have st := st_lines (m := n + k) v (L := psL q) (fun i hi => by rw [hL, map_at]) (by omega)
  have hp : prI (psL q) = n + k := by rw [prI_all (fun j hj => (st j (by omega)).2 (by omega)), hl1]
  have hlast : ((psL q).getD (n + k) ⟨#[]⟩ == ⟨#[]⟩) = false := by
    rw [hL, map_at, lsK_at nm zs n ks k _ (Nat.le_refl _)]
    refine ofL_full ?_
    by_cases h0 : n + k = 0
    · rw [if_pos h0, li0]; simp [wSec]
    · rw [if_neg h0]
      by_cases h1 : n + k ≤ n
      · rw [if_pos h1, liM]; simp [wMea]
      · rw [if_neg h1, liK]; simp [wAct]
  have e0 : psE q = 25 := by
    rw [psE, if_neg (by omega), prE, hl1, hp, if_neg (Nat.lt_irrefl _), if_pos (by rw [hlast]; rfl)]
  exact ⟨hs2, e0, by rw [psA, e0, if_neg (by decide), if_neg (by omega), hp]⟩
/- Printed of what is parsed. -/
theorem ba_eq {w v : ByteArray} (h : (w == v) = true) : w = v := by
  obtain ⟨⟨a⟩⟩ := w; obtain ⟨⟨b⟩⟩ := v
  have h1 : a = b := by
    have h : (Array.mk a == Array.mk b) = true := h
    simpa using h
  rw [h1]
theorem lsM_more (nm : ByteArray) (zs : List Int) (r : List Int) : ∀ n, n * 2 ≤ zs.length → lsM nm (zs ++ r) n = lsM nm zs n
  | 0, _ => rfl
  | n + 1, h => by
    have g : ∀ i, i < zs.length → (zs ++ r).getD i 0 = zs.getD i 0 := fun i hi => by
      rw [List.getD_eq_getElem?_getD, List.getElem?_append_left hi, ← List.getD_eq_getElem?_getD]
    rw [lsM, lsM, lsM_more nm zs r n (by omega), liM, liM, g _ (by omega), g _ (by omega)]
theorem lsK_more (nm : ByteArray) (zs : List Int) (n : Nat) (ks r : List (Int × ByteArray)) : ∀ k, k ≤ ks.length → lsK nm zs n (ks ++ r) k = lsK nm zs n ks k
  | 0, _ => rfl
  | k + 1, h => by
    have g : (ks ++ r).getD k (0, ⟨#[]⟩) = ks.getD k (0, ⟨#[]⟩) := by
      rw [List.getD_eq_getElem?_getD, List.getElem?_append_left (by omega), ← List.getD_eq_getElem?_getD]
    rw [lsK, lsK, lsK_more nm zs n ks r k (by omega), liK, liK, g]
theorem lw_jn (L : List ByteArray) (i : Nat) : (L.getD i ⟨#[]⟩).data.toList = jn 32 ((lw L i).map (·.data.toList)) := by
  rw [lw, spI, List.map_map, show ((fun x : ByteArray => x.data.toList) ∘ ofL) = id from rfl, List.map_id]
  exact (jn_spl 32 _).symm
theorem jn_two {ws : List ByteArray} (h : ws.length = 2) : jn 32 (ws.map (·.data.toList)) = (wd ws 0).data.toList ++ 32 :: (wd ws 1).data.toList := by
  match ws, h with
  | [a, b], _ => rfl
theorem jn_three {ws : List ByteArray} (h : ws.length = 3) : jn 32 (ws.map (·.data.toList)) = (wd ws 0).data.toList ++ 32 :: ((wd ws 1).data.toList ++ 32 :: (wd ws 2).data.toList) := by
  match ws, h with
  | [a, b, c], _ => rfl
/-- The lines up to a place are those of what was read of them. -/
theorem lines_st {L : List ByteArray} : ∀ i, 1 ≤ i → i ≤ L.length → (∀ j, j < i → okL L j = true) → (L.take i).map (·.data.toList) = lsK (stN L i) (stZ L i) (stn L i) (stK L i) (stk L i)
  | 0, h, _, _ => by omega
  | i + 1, _, hi, hok => by
    rw [take_snoc (d := ⟨#[]⟩) (by omega), List.map_append, List.map_cons, List.map_nil, lw_jn]
    have ho := hok i (by omega)
    by_cases h0 : i = 0
    · subst h0
      rw [okL, if_pos rfl, hdO] at ho
      simp only [Bool.and_eq_true, decide_eq_true_eq] at ho
      obtain ⟨a, b, c⟩ := st_one L
      rw [jn_two ho.1.1, ba_eq ho.1.2, Nat.zero_add, stn, stk, a, b, c]
      rfl
    · have ih := lines_st (L := L) i (by omega) (by omega) (fun j hj => hok j (by omega))
      obtain ⟨v1, v2, v3⟩ := st_even L i
      rw [ih]
      have hpd : pdO (stK L i) (lw L i) = true := by rw [okL, if_neg h0] at ho; exact ho
      obtain ⟨a, b, c⟩ := st_more (L := L) h0
      obtain ⟨s4, s5⟩ := stn_more (L := L) h0
      have h := hpd
      rw [pdO] at h
      simp only [Bool.and_eq_true, Bool.or_eq_true, decide_eq_true_eq] at h
      obtain ⟨⟨⟨⟨e3, _⟩, _⟩, d⟩, e⟩ := h
      rw [jn_three e3]
      by_cases ha : (wd (lw L i) 0 == sAct) = true
      · rw [pdZ, if_neg (by rw [ha]; rintro ⟨_, h⟩; cases h)] at b
        rw [pdK, if_pos ⟨hpd, ha⟩] at c
        rw [pdN, if_neg (by rw [ha]; rintro ⟨_, h⟩; cases h)] at s4
        rw [pdM, if_pos ⟨hpd, ha⟩] at s5
        rw [← s4, ← s5, a, b, c, lsK, lsK_more _ _ _ _ _ _ (show stk L i ≤ (stK L i).length from Nat.le_refl _)]
        congr 2
        have g : (stK L i ++ [(drV (wd (lw L i) 1), wd (lw L i) 2)]).getD (stk L i) (0, ⟨#[]⟩) = (drV (wd (lw L i) 1), wd (lw L i) 2) := by
          rw [getD_snoc, stk, if_neg (Nat.lt_irrefl _), if_pos rfl]
        rw [liK, g, ba_eq ha]
        show _ = wAct ++ 32 :: ((ofL (Lib.itoa (drV (wd (lw L i) 1)))).data.toList ++ 32 :: _)
        rw [read_itoa d]; rfl
      · have ha : (wd (lw L i) 0 == sAct) = false := by simpa using ha
        rcases e with e | ⟨⟨m0, d2⟩, em⟩
        · rw [e] at ha; cases ha
        have hkn : stK L i = [] := by simpa using em
        rw [pdZ, if_pos ⟨hpd, ha⟩] at b
        rw [pdK, if_neg (by rw [ha]; rintro ⟨_, h⟩; cases h)] at c
        rw [pdN, if_pos ⟨hpd, ha⟩] at s4
        rw [pdM, if_neg (by rw [ha]; rintro ⟨_, h⟩; cases h)] at s5
        have k0 : stk L i = 0 := by rw [stk, hkn]; rfl
        rw [← s4, ← s5, a, b, c, k0, lsK, lsK, lsM, lsM_more _ _ _ _ (by omega)]
        congr 2
        have g0 : (stZ L i ++ [drV (wd (lw L i) 1), drV (wd (lw L i) 2)]).getD (stn L i * 2) 0 = drV (wd (lw L i) 1) := by
          rw [List.getD_eq_getElem?_getD, List.getElem?_append_right (by omega), v1, Nat.sub_self]; rfl
        have g1 : (stZ L i ++ [drV (wd (lw L i) 1), drV (wd (lw L i) 2)]).getD (stn L i * 2 + 1) 0 = drV (wd (lw L i) 2) := by
          rw [List.getD_eq_getElem?_getD, List.getElem?_append_right (by omega), v1, show stn L i * 2 + 1 - stn L i * 2 = 1 by omega]; rfl
        rw [liM, g0, g1, ba_eq m0]
        show _ = wMea ++ 32 :: ((ofL (Lib.itoa (drV (wd (lw L i) 1)))).data.toList ++ 32 :: (ofL (Lib.itoa (drV (wd (lw L i) 2)))).data.toList)
        rw [read_itoa d, read_itoa d2]; rfl
theorem fB_ok {L : List ByteArray} : ∀ (k i : Nat), i + k ≤ fB L k i → ∀ j, i ≤ j → j < i + k → okL L j = true
  | 0, i, _, j, h1, h2 => by omega
  | k + 1, i, h, j, h1, h2 => by
    rw [fB] at h
    split at h
    · rename_i ho
      rcases Nat.eq_or_lt_of_le h1 with rfl | h3
      · exact ho
      · exact fB_ok k (i + 1) (by omega) j h3 (by omega)
    · omega
/-- What is parsed is printed as it was. -/
theorem pt_ps {t : ByteArray} (h : psE t = 0) : secE (psN t) (psZ t) (psn t) (psK t) (psk t) = 0 ∧ pt (psN t) (psZ t) (psn t) (psK t) (psk t) = t := by
  have hl : ¬ 4096 < t.size := fun hl => by rw [psE, if_pos hl] at h; cases h
  have h2 := h
  rw [psE, if_neg hl, prE] at h2
  by_cases c1 : prI (psL t) < (psL t).length - 1
  · rw [if_pos c1] at h2; cases h2
  rw [if_neg c1] at h2
  by_cases c2 : (!((psL t).getD ((psL t).length - 1) ⟨#[]⟩ == ⟨#[]⟩) || decide ((psL t).length - 1 = 0)) = true
  · rw [if_pos c2] at h2; cases h2
  rw [if_neg c2] at h2
  have c2 : (!((psL t).getD ((psL t).length - 1) ⟨#[]⟩ == ⟨#[]⟩) || decide ((psL t).length - 1 = 0)) = false := by simpa using c2
  obtain ⟨d1, d2⟩ := Bool.or_eq_false_iff.1 c2
  have d1 := ba_eq (of_notf d1)
  have d2 := of_decide_eq_false d2
  have hok : ∀ j, j < (psL t).length - 1 → okL (psL t) j = true := fun j hj => fB_ok ((psL t).length - 1) 0 (by rw [prI] at c1; omega) j (Nat.zero_le _) (by omega)
  have hlen := (psL_len t).1
  have hls := lines_st (L := psL t) ((psL t).length - 1) (by omega) (by omega) hok
  rw [psN, psZ, psn, psK, psk, gqS_z h, gqL_z h, gqN_z h, gqK_z h, gqN_z h]
  refine ⟨h2, ?_⟩
  rw [pt, txK_en, ← hls, ← jn_en]
  have e : ((psL t).take ((psL t).length - 1)).map (·.data.toList) ++ [[]] = spl 10 t.data.toList := by
    have e1 : psL t = (psL t).take ((psL t).length - 1) ++ [⟨#[]⟩] := by
      have := take_snoc (l := psL t) (i := (psL t).length - 1) (d := ⟨#[]⟩) (by omega)
      rw [d1, Nat.sub_add_cancel hlen, List.take_length] at this
      exact this
    have e2 : (psL t).map (·.data.toList) = spl 10 t.data.toList := by
      rw [psL, spI, List.map_map, show ((fun x : ByteArray => x.data.toList) ∘ ofL) = id from rfl, List.map_id]; rfl
    rw [← e2]
    conv => rhs; rw [e1]
    rw [List.map_append]; rfl
  rw [e, jn_spl, ofL_data]
end
end Qq
