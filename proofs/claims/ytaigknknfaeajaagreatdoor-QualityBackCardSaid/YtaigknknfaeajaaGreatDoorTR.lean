/- Texts, back: a printed section is read back, plain. -/
import Derived.Test.YtaigknknfaeajaaGreatDoorTQ
import Derived.Test.YtaigknknfaeajaaGreatDoorZR
open Go Go.Vm Go.Proofs Sp
namespace Qq
noncomputable section
theorem ofL_full {l : List UInt8} (h : l ≠ []) : (ofL l == ⟨#[]⟩) = false := by
  rw [beq_size]
  refine decide_eq_false (fun e => h ?_)
  rw [size_ofL] at e
  exact List.eq_nil_of_length_eq_zero e
theorem take_snoc {α : Type} {l : List α} {i : Nat} {d : α} (h : i < l.length) : l.take (i + 1) = l.take i ++ [l.getD i d] := by
  rw [List.take_add_one, List.getD_eq_getElem?_getD, List.getElem?_eq_getElem h]; rfl
theorem ba_refl (s : ByteArray) : (s == s) = true := ba_self s
/-- The lines that are there are read. -/
theorem st_lines {nm : ByteArray} {zs : List Int} {n : Nat} {ks : List (Int × ByteArray)} {k m : Nat} (v : Vd nm zs n ks k) {L : List ByteArray} (hL : ∀ i, i < m → L.getD i ⟨#[]⟩ = ofL ((lsK nm zs n ks k).getD i [])) (hm : m ≤ n + k + 1) :
    ∀ i, i ≤ m → (1 ≤ i → stN L i = nm ∧ stZ L i = zs.take ((i - 1) * 2) ∧ stK L i = ks.take (i - 1 - n)) ∧ (i < m → okL L i = true)
  | 0, _ => by
    refine ⟨fun h => by omega, fun h => ?_⟩
    have hw : lw L 0 = [sSec, nm] := by
      rw [lw, hL 0 h, lsK_at nm zs n ks k 0 (by omega), if_pos rfl, spI, data_ofL]
      show (spl 32 (li0 nm)).map ofL = _
      rw [li0_w v.hn, List.map_cons, List.map_cons, ofL_data]; rfl
    rw [okL, if_pos rfl, hdO, hw]
    show (true && (sSec == sSec) && !(nm == ⟨#[]⟩)) = true
    rw [(nm_ok v.hn).1, ba_refl]; rfl
  | i + 1, hi => by
    obtain ⟨i1, i2⟩ := st_lines v hL hm i (by omega)
    have key : stN L (i + 1) = nm ∧ stZ L (i + 1) = zs.take (i * 2) ∧ stK L (i + 1) = ks.take (i - n) := by
      by_cases h0 : i = 0
      · subst h0
        obtain ⟨a, b, c⟩ := st_one L
        have hw : lw L 0 = [sSec, nm] := by
          rw [lw, hL 0 (by omega), lsK_at nm zs n ks k 0 (by omega), if_pos rfl, spI, data_ofL]
          show (spl 32 (li0 nm)).map ofL = _
          rw [li0_w v.hn, List.map_cons, List.map_cons, ofL_data]; rfl
        rw [Nat.zero_add, a, b, c, hw]
        exact ⟨rfl, by simp, by simp⟩
      · obtain ⟨j1, j2, j3⟩ := i1 (by omega)
        obtain ⟨a, b, c⟩ := st_more (L := L) h0
        have hok := i2 (by omega)
        have hpd : pdO (stK L i) (lw L i) = true := by rw [okL, if_neg h0] at hok; exact hok
        rw [a, b, c, j1, j2]
        by_cases hn : i ≤ n
        · obtain ⟨a1, a2⟩ := v.zv ((i - 1) * 2) (by omega)
          obtain ⟨b1, b2⟩ := v.zv ((i - 1) * 2 + 1) (by omega)
          have hw : lw L i = [sMea, ofL (Lib.itoa (zs.getD ((i - 1) * 2) 0)), ofL (Lib.itoa (zs.getD ((i - 1) * 2 + 1) 0))] := by
            rw [lw, hL i (by omega), lsK_at nm zs n ks k i (by omega), if_neg h0, if_pos hn, spI, data_ofL]
            show (spl 32 (liM zs (i - 1))).map ofL = _
            rw [liM_w a1 b1]; rfl
          have hact : (wd (lw L i) 0 == sAct) = false := by rw [hw]; rfl
          rw [pdZ, pdK, if_pos ⟨hpd, hact⟩, if_neg (by rw [hact]; rintro ⟨_, h⟩; cases h), j3, hw]
          refine ⟨rfl, ?_, by rw [show i - 1 - n = 0 by omega, show i - n = 0 by omega]⟩
          show _ ++ [drV (ofL (Lib.itoa (zs.getD ((i - 1) * 2) 0))), drV (ofL (Lib.itoa (zs.getD ((i - 1) * 2 + 1) 0)))] = _
          rw [(itoa_read a1 a2).2.1, (itoa_read b1 b2).2.1]
          have hz := v.lz
          rw [show i * 2 = (i - 1) * 2 + 1 + 1 by omega, take_snoc (by omega), take_snoc (by omega), List.append_assoc]; rfl
        · obtain ⟨⟨a1, a2⟩, a3⟩ := v.kv (i - 1 - n) (by omega)
          have hw : lw L i = [sAct, ofL (Lib.itoa (ks.getD (i - 1 - n) (0, ⟨#[]⟩)).1), (ks.getD (i - 1 - n) (0, ⟨#[]⟩)).2] := by
            rw [lw, hL i (by omega), lsK_at nm zs n ks k i (by omega), if_neg h0, if_neg hn, spI, data_ofL]
            show (spl 32 (liK ks (i - 1 - n))).map ofL = _
            rw [liK_w a1 a3, List.map_cons, List.map_cons, List.map_cons, ofL_data]; rfl
          have hact : (wd (lw L i) 0 == sAct) = true := by rw [hw]; rfl
          rw [pdZ, pdK, if_neg (by rw [hact]; rintro ⟨_, h⟩; cases h), if_pos ⟨hpd, hact⟩, j3, hw]
          have hz := v.lz
          have hk := v.lk
          refine ⟨rfl, by rw [List.take_of_length_le (by omega), List.take_of_length_le (by omega)], ?_⟩
          show _ ++ [(drV (ofL (Lib.itoa (ks.getD (i - 1 - n) (0, ⟨#[]⟩)).1)), (ks.getD (i - 1 - n) (0, ⟨#[]⟩)).2)] = _
          rw [(itoa_read a1 a2).2.1, show i - n = i - 1 - n + 1 by omega, take_snoc (by omega)]
    refine ⟨fun _ => key, fun h => ?_⟩
    obtain ⟨k1, k2, k3⟩ := key
    rw [okL, if_neg (by omega), k3]
    by_cases hn : i + 1 ≤ n
    · obtain ⟨a1, a2⟩ := v.zv (i * 2) (by omega)
      obtain ⟨b1, b2⟩ := v.zv (i * 2 + 1) (by omega)
      have hw : lw L (i + 1) = [sMea, ofL (Lib.itoa (zs.getD (i * 2) 0)), ofL (Lib.itoa (zs.getD (i * 2 + 1) 0))] := by
        rw [lw, hL (i + 1) h, lsK_at nm zs n ks k (i + 1) (by omega), if_neg (by omega), if_pos hn, spI, data_ofL, Nat.add_sub_cancel]
        show (spl 32 (liM zs i)).map ofL = _
        rw [liM_w a1 b1]; rfl
      have f1 := ofL_full (l := Lib.itoa (zs.getD (i * 2) 0)) (by rw [itoa_dec a1]; exact (dec_facts _).1)
      have f2 := ofL_full (l := Lib.itoa (zs.getD (i * 2 + 1) 0)) (by rw [itoa_dec b1]; exact (dec_facts _).1)
      rw [show i - n = 0 by omega, List.take_zero, pdO, hw]
      show (true && !(ofL (Lib.itoa (zs.getD (i * 2) 0)) == ⟨#[]⟩) && !(ofL (Lib.itoa (zs.getD (i * 2 + 1) 0)) == ⟨#[]⟩) && igB (ofL (Lib.itoa (zs.getD (i * 2) 0))) && (false || (true && igB (ofL (Lib.itoa (zs.getD (i * 2 + 1) 0))) && true))) = true
      rw [f1, f2, (itoa_read a1 a2).1, (itoa_read b1 b2).1]; rfl
    · obtain ⟨⟨a1, a2⟩, a3⟩ := v.kv (i - n) (by omega)
      have hw : lw L (i + 1) = [sAct, ofL (Lib.itoa (ks.getD (i - n) (0, ⟨#[]⟩)).1), (ks.getD (i - n) (0, ⟨#[]⟩)).2] := by
        rw [lw, hL (i + 1) h, lsK_at nm zs n ks k (i + 1) (by omega), if_neg (by omega), if_neg hn, spI, data_ofL, Nat.add_sub_cancel]
        show (spl 32 (liK ks (i - n))).map ofL = _
        rw [liK_w a1 a3, List.map_cons, List.map_cons, List.map_cons, ofL_data]; rfl
      have f1 := ofL_full (l := Lib.itoa (ks.getD (i - n) (0, ⟨#[]⟩)).1) (by rw [itoa_dec a1]; exact (dec_facts _).1)
      rw [pdO, hw]
      show (true && !(ofL (Lib.itoa (ks.getD (i - n) (0, ⟨#[]⟩)).1) == ⟨#[]⟩) && !((ks.getD (i - n) (0, ⟨#[]⟩)).2 == ⟨#[]⟩) && igB (ofL (Lib.itoa (ks.getD (i - n) (0, ⟨#[]⟩)).1)) && (true || _)) = true
      rw [f1, (nm_ok a3).1, (itoa_read a1 a2).1]; rfl
end
end Qq
