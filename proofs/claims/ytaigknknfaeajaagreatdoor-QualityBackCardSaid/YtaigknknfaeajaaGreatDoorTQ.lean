/- Texts, back: the lines of a section, plain. -/
import Derived.Test.YtaigknknfaeajaaGreatDoorTP
open Go Go.Vm Go.Proofs Sp
namespace Qq
noncomputable section
def li0 (nm : ByteArray) : List UInt8 := wSec ++ 32 :: nm.data.toList
def liM (zs : List Int) (i : Nat) : List UInt8 := wMea ++ 32 :: (Lib.itoa (zs.getD (i * 2) 0) ++ 32 :: Lib.itoa (zs.getD (i * 2 + 1) 0))
def liK (ks : List (Int × ByteArray)) (i : Nat) : List UInt8 := wAct ++ 32 :: (Lib.itoa (ks.getD i (0, ⟨#[]⟩)).1 ++ 32 :: (ks.getD i (0, ⟨#[]⟩)).2.data.toList)
def lsM (nm : ByteArray) (zs : List Int) : Nat → List (List UInt8)
  | 0 => [li0 nm]
  | i + 1 => lsM nm zs i ++ [liM zs i]
def lsK (nm : ByteArray) (zs : List Int) (n : Nat) (ks : List (Int × ByteArray)) : Nat → List (List UInt8)
  | 0 => lsM nm zs n
  | i + 1 => lsK nm zs n ks i ++ [liK ks i]
def en : List (List UInt8) → List UInt8
  | [] => []
  | a :: r => a ++ 10 :: en r
theorem en_app (a b : List (List UInt8)) : en (a ++ b) = en a ++ en b := by
  induction a with
  | nil => rfl
  | cons x a ih => rw [List.cons_append, en, en, ih, List.append_assoc]; rfl
theorem en_jn : ∀ {ls : List (List UInt8)}, ls ≠ [] → en ls = jn 10 ls ++ [10]
  | [], h => absurd rfl h
  | [a], _ => rfl
  | a :: b :: r, _ => by
    rw [en, en_jn (by simp), jn, List.append_assoc]; rfl
theorem jn_en : ∀ ls : List (List UInt8), jn 10 (ls ++ [[]]) = en ls
  | [] => rfl
  | [a] => rfl
  | a :: b :: r => by
    rw [List.cons_append, List.cons_append, jn, ← List.cons_append, jn_en, en, en, en]
theorem txM_en (nm : ByteArray) (zs : List Int) : ∀ i, txM nm zs i = en (lsM nm zs i)
  | 0 => by rw [txM, lsM, en, en, li0, List.append_assoc]; rfl
  | i + 1 => by
    rw [txM, lsM, txM_en, en_app, lnM, en, en, liM]
    simp only [List.append_assoc, List.cons_append]
theorem txK_en (nm : ByteArray) (zs : List Int) (n : Nat) (ks : List (Int × ByteArray)) : ∀ i, txK nm zs n ks i = en (lsK nm zs n ks i)
  | 0 => txM_en nm zs n
  | i + 1 => by
    rw [txK, lsK, txK_en, en_app, lnK, en, en, liK]
    simp only [List.append_assoc, List.cons_append]
theorem lsM_len (nm : ByteArray) (zs : List Int) : ∀ n, (lsM nm zs n).length = n + 1
  | 0 => rfl
  | n + 1 => by rw [lsM, List.length_append, lsM_len]; rfl
theorem lsK_len (nm : ByteArray) (zs : List Int) (n : Nat) (ks : List (Int × ByteArray)) : ∀ k, (lsK nm zs n ks k).length = n + k + 1
  | 0 => lsM_len nm zs n
  | k + 1 => by rw [lsK, List.length_append, lsK_len]; rfl
theorem getD_snoc {α : Type} (l : List α) (x d : α) (i : Nat) : (l ++ [x]).getD i d = if i < l.length then l.getD i d else if i = l.length then x else d := by
  rw [List.getD_eq_getElem?_getD]
  by_cases h : i < l.length
  · rw [if_pos h, List.getElem?_append_left h, ← List.getD_eq_getElem?_getD]
  · rw [if_neg h, List.getElem?_append_right (by omega)]
    by_cases h2 : i = l.length
    · rw [if_pos h2, h2, Nat.sub_self]; rfl
    · rw [if_neg h2]
      obtain ⟨j, hj⟩ : ∃ j, i - l.length = j + 1 := ⟨i - l.length - 1, by omega⟩
      rw [hj]; rfl
theorem lsM_at (nm : ByteArray) (zs : List Int) : ∀ n i, i ≤ n → (lsM nm zs n).getD i [] = if i = 0 then li0 nm else liM zs (i - 1)
  | 0, i, h => by rw [show i = 0 by omega]; rfl
  | n + 1, i, h => by
    rw [lsM, getD_snoc, lsM_len]
    by_cases h1 : i < n + 1
    · rw [if_pos h1, lsM_at nm zs n i (by omega)]
    · rw [if_neg h1, if_pos (by omega), if_neg (by omega), show i - 1 = n by omega]
theorem lsK_at (nm : ByteArray) (zs : List Int) (n : Nat) (ks : List (Int × ByteArray)) : ∀ k i, i ≤ n + k → (lsK nm zs n ks k).getD i [] = if i = 0 then li0 nm else if i ≤ n then liM zs (i - 1) else liK ks (i - 1 - n)
  | 0, i, h => by
    rw [lsK, lsM_at nm zs n i (by omega)]
    by_cases h0 : i = 0
    · rw [if_pos h0, if_pos h0]
    · rw [if_neg h0, if_neg h0, if_pos (by omega)]
  | k + 1, i, h => by
    rw [lsK, getD_snoc, lsK_len]
    by_cases h1 : i < n + k + 1
    · rw [if_pos h1, lsK_at nm zs n ks k i (by omega)]
    · rw [if_neg h1, if_pos (by omega), if_neg (by omega), if_neg (by omega), show i - 1 - n = k by omega]
/- Names. -/
theorem nm_ok {s : ByteArray} (h : nameB s = true) : (s == ⟨#[]⟩) = false ∧ s.size ≤ 24 ∧ (32 : UInt8) ∉ s.data.toList ∧ (10 : UInt8) ∉ s.data.toList := by
  obtain ⟨h1, h2, h3⟩ := (name_iff s).1 h
  have fr : ∀ c : UInt8, in2 ((c.toNat : Nat) : Int) = false → c ∉ s.data.toList := fun c hc hm => by
    obtain ⟨i, hi, e⟩ := List.mem_iff_getElem.1 hm
    have := (h3 i (by rw [size_len]; exact hi)).1
    rw [show bt s i = (((s.data.toList.getD i 0).toNat : Nat) : Int) from rfl, List.getD_eq_getElem?_getD, List.getElem?_eq_getElem hi, e] at this
    have this : in2 ((c.toNat : Nat) : Int) = true := this
    rw [hc] at this
    cases this
  refine ⟨?_, h2, fr 32 (by decide +kernel), fr 10 (by decide +kernel)⟩
  rw [beq_size]; exact decide_eq_false (by omega)
structure Vd (nm : ByteArray) (zs : List Int) (n : Nat) (ks : List (Int × ByteArray)) (k : Nat) : Prop where
  lz : zs.length = n * 2
  lk : ks.length = k
  hn : nameB nm = true
  zv : ∀ i, i < n * 2 → 0 ≤ zs.getD i 0 ∧ zs.getD i 0 ≤ 100000
  kv : ∀ i, i < k → (0 ≤ (ks.getD i (0, ⟨#[]⟩)).1 ∧ (ks.getD i (0, ⟨#[]⟩)).1 ≤ 100000) ∧ nameB (ks.getD i (0, ⟨#[]⟩)).2 = true
theorem vd_of {nm : ByteArray} {zs : List Int} {n : Nat} {ks : List (Int × ByteArray)} {k : Nat} (h : secE nm zs n ks k = 0) (hz : zs.length = n * 2) (hk : ks.length = k) : Vd nm zs n ks k := by
  obtain ⟨h1, h2, h3, h4, h5⟩ := secE_all h
  have a := mchk_all zs (-1) h4 (by omega)
  have b := achk_all ks (-1) h5
  refine ⟨hz, hk, h1, fun i hi => ?_, fun i hi => ?_⟩
  · refine a _ ?_
    rw [List.getD_eq_getElem?_getD, List.getElem?_eq_getElem (by omega)]
    exact List.getElem_mem _
  · refine b _ ?_
    rw [List.getD_eq_getElem?_getD, List.getElem?_eq_getElem (by omega)]
    exact List.getElem_mem _
theorem w_free {c : UInt8} (h : c = 32 ∨ c = 10) : c ∉ wSec ∧ c ∉ wMea ∧ c ∉ wAct ∧ digB c = false := by
  rcases h with rfl | rfl <;> decide +kernel
theorem li0_w {nm : ByteArray} (h : nameB nm = true) : spl 32 (li0 nm) = [wSec, nm.data.toList] := by
  rw [li0, spl_cut (w_free (.inl rfl)).1, spl_one (nm_ok h).2.2.1]
theorem liM_w {zs : List Int} {i : Nat} (h1 : 0 ≤ zs.getD (i * 2) 0) (h2 : 0 ≤ zs.getD (i * 2 + 1) 0) : spl 32 (liM zs i) = [wMea, Lib.itoa (zs.getD (i * 2) 0), Lib.itoa (zs.getD (i * 2 + 1) 0)] := by
  have w := w_free (c := 32) (.inl rfl)
  rw [liM, spl_cut w.2.1, spl_cut (itoa_free h1 w.2.2.2), spl_one (itoa_free h2 w.2.2.2)]
theorem liK_w {ks : List (Int × ByteArray)} {i : Nat} (h1 : 0 ≤ (ks.getD i (0, ⟨#[]⟩)).1) (h2 : nameB (ks.getD i (0, ⟨#[]⟩)).2 = true) : spl 32 (liK ks i) = [wAct, Lib.itoa (ks.getD i (0, ⟨#[]⟩)).1, (ks.getD i (0, ⟨#[]⟩)).2.data.toList] := by
  have w := w_free (c := 32) (.inl rfl)
  rw [liK, spl_cut w.2.2.1, spl_cut (itoa_free h1 w.2.2.2), spl_one (nm_ok h2).2.2.1]
theorem free_app {c b : UInt8} {l r : List UInt8} (h1 : c ∉ l) (hb : c ≠ b) (h2 : c ∉ r) : c ∉ l ++ b :: r := by
  intro h
  rcases List.mem_append.1 h with h | h
  · exact h1 h
  · rcases List.mem_cons.1 h with h | h
    · exact hb h
    · exact h2 h
theorem ls_free {nm : ByteArray} {zs : List Int} {n : Nat} {ks : List (Int × ByteArray)} {k : Nat} (h : Vd nm zs n ks k) : ∀ l ∈ lsK nm zs n ks k, (10 : UInt8) ∉ l ∧ l.length ≤ 40 := by
  intro l hl
  obtain ⟨i, hi, e⟩ := List.mem_iff_getElem.1 hl
  have w := w_free (c := 10) (.inr rfl)
  rw [lsK_len] at hi
  have e2 : (lsK nm zs n ks k).getD i [] = l := by rw [List.getD_eq_getElem?_getD, List.getElem?_eq_getElem (by rw [lsK_len]; exact hi), e]; rfl
  rw [lsK_at nm zs n ks k i (by omega)] at e2
  by_cases h0 : i = 0
  · rw [if_pos h0] at e2
    obtain ⟨_, n2, n3, n4⟩ := nm_ok h.hn
    rw [← e2, li0]
    rw [size_len] at n2
    exact ⟨free_app w.1 (by decide) n4, by rw [List.length_append, List.length_cons, show wSec.length = 7 from rfl]; omega⟩
  · rw [if_neg h0] at e2
    by_cases hn : i ≤ n
    · rw [if_pos hn] at e2
      obtain ⟨a1, a2⟩ := h.zv ((i - 1) * 2) (by omega)
      obtain ⟨b1, b2⟩ := h.zv ((i - 1) * 2 + 1) (by omega)
      rw [← e2, liM]
      refine ⟨free_app w.2.1 (by decide) (free_app (itoa_free a1 w.2.2.2) (by decide) (itoa_free b1 w.2.2.2)), ?_⟩
      have := (itoa_read a1 a2).2.2
      have := (itoa_read b1 b2).2.2
      rw [List.length_append, List.length_cons, List.length_append, List.length_cons, show wMea.length = 8 from rfl]; omega
    · rw [if_neg hn] at e2
      obtain ⟨⟨a1, a2⟩, a3⟩ := h.kv (i - 1 - n) (by omega)
      obtain ⟨_, n2, n3, n4⟩ := nm_ok a3
      rw [size_len] at n2
      rw [← e2, liK]
      refine ⟨free_app w.2.2.1 (by decide) (free_app (itoa_free a1 w.2.2.2) (by decide) n4), ?_⟩
      have := (itoa_read a1 a2).2.2
      rw [List.length_append, List.length_cons, List.length_append, List.length_cons, show wAct.length = 3 from rfl]; omega
end
end Qq
