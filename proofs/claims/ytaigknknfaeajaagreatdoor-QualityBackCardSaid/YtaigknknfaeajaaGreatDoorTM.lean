/- Texts, read: the program says what the reference says. -/
import Derived.Test.YtaigknknfaeajaaGreatDoorTL
open Go Go.Vm Go.Proofs Sp
namespace Qq
noncomputable section
theorem cs_full (p : ByteArray) : csB (cat p ⟨#[10]⟩) ⟨#[10]⟩ = true ∧ csT (cat p ⟨#[10]⟩) ⟨#[10]⟩ = p := by
  have e : (cat p ⟨#[10]⟩).data.toList = p.data.toList ++ [10] := by
    show (p ++ ofL [10]).data.toList = _
    rw [ByteArray.data_append, Array.toList_append]; rfl
  have h : Lib.hasSuffix (p.data.toList ++ [10]) [10] = true := by
    rw [Lib.hasSuffix, List.isSuffixOf_iff_suffix]; exact List.suffix_append _ _
  refine ⟨?_, ?_⟩
  · rw [csB, e]; exact h
  · rw [csT, e]
    show ofL (Lib.trimSuffix (p.data.toList ++ [10]) [10]) = p
    rw [Lib.trimSuffix, if_pos h, List.length_append, List.length_cons, List.length_nil, Nat.add_sub_cancel, List.take_left, ofL_data]
theorem cs_part {p : ByteArray} (h : (10 : UInt8) ∉ p.data.toList) : csB p ⟨#[10]⟩ = false := by
  cases hb : csB p ⟨#[10]⟩ with
  | false => rfl
  | true =>
    have h2 : Lib.hasSuffix p.data.toList [10] = true := hb
    rw [Lib.hasSuffix, List.isSuffixOf_iff_suffix] at h2
    obtain ⟨t, ht⟩ := h2
    exact absurd (by rw [← ht]; simp) h
theorem igV_dr {s : ByteArray} (h : igB s = true) : igV s = drV s := by
  have h2 := h
  rw [igB, dgOk] at h2
  simp only [Bool.and_eq_true, decide_eq_true_eq] at h2
  rw [drV, if_pos h, igV, if_pos ⟨h2.2, by rw [size_len]; exact h2.1.1.2⟩]
/- Words taken. -/
theorem tk_0 {ws : List ByteArray} (h : 1 ≤ ws.length) : tkS ws 0 ws.length = wd ws 0 ∧ tkB ws 0 ws.length = (wd ws 0 == ⟨#[]⟩) := by
  have e : tkB ws 0 ws.length = (wd ws 0 == ⟨#[]⟩) := by
    rw [tkB, decide_eq_false (by omega)]; rfl
  refine ⟨?_, e⟩
  rw [tkS, e]
  cases hb : (wd ws 0 == ⟨#[]⟩) with
  | false => rw [if_neg (by decide)]; rfl
  | true =>
    rw [if_pos rfl]
    rw [beq_size] at hb
    have h0 := of_decide_eq_true hb
    rw [size_len] at h0
    have := List.eq_nil_of_length_eq_zero h0
    rw [← ofL_data (wd ws 0), this]; rfl
/-- A word that is there. -/
theorem tk_ok {ws : List ByteArray} {off m : Nat} (h : tkB ws off m = false) : m ≠ 0 ∧ (wd ws off == ⟨#[]⟩) = false ∧ tkS ws off m = wd ws off ∧ tkM ws off m = m - 1 := by
  have h2 := Bool.or_eq_false_iff.1 h
  exact ⟨of_decide_eq_false h2.1, h2.2, by rw [tkS, if_neg (by rw [h]; decide)]; rfl, by rw [tkM, if_neg (by rw [h]; decide)]⟩
theorem tk_some {ws : List ByteArray} {off m : Nat} (h0 : m ≠ 0) (h : (wd ws off == ⟨#[]⟩) = false) : tkB ws off m = false := by
  rw [tkB, decide_eq_false h0]; exact h
theorem kd_sec {w : ByteArray} : kdS w = 0 ↔ (w == sSec) = true := by
  have e : (w == sSec) = decide (w.toList = wSec) := by
    have := beq_lit w wSec
    rw [show sSec = ofL wSec from rfl, ← this, Bool.eq_iff_iff]; simp
  rw [e, kdS, decide_eq_true_eq]
  constructor
  · intro h
    split at h
    · assumption
    · split at h
      · cases h
      · split at h <;> cases h
  · intro h; rw [if_pos h]
theorem kd_mea {w : ByteArray} : kdS w = 1 ↔ (w == sMea) = true := by
  have e : (w == sMea) = decide (w.toList = wMea) := by
    have := beq_lit w wMea
    rw [show sMea = ofL wMea from rfl, ← this, Bool.eq_iff_iff]; simp
  rw [e, kdS, decide_eq_true_eq]
  constructor
  · intro h
    split at h
    · cases h
    · split at h
      · assumption
      · split at h <;> cases h
  · intro h; rw [if_neg (by rw [h]; decide), if_pos h]
theorem kd_act {w : ByteArray} : kdS w = 2 ↔ (w == sAct) = true := by
  have e : (w == sAct) = decide (w.toList = wAct) := by
    have := beq_lit w wAct
    rw [show sAct = ofL wAct from rfl, ← this, Bool.eq_iff_iff]; simp
  rw [e, kdS, decide_eq_true_eq]
  constructor
  · intro h
    split at h
    · cases h
    · split at h
      · cases h
      · split at h
        · assumption
        · cases h
  · intro h; rw [if_neg (by rw [h]; decide), if_neg (by rw [h]; decide), if_pos h]
theorem kd_in (w : ByteArray) : kdS w = -1 ∨ kdS w = 0 ∨ kdS w = 1 ∨ kdS w = 2 := by
  rw [kdS]; split
  · simp
  · split
    · simp
    · split <;> simp
theorem ls_in (L : List ByteArray) (i : Nat) : 0 ≤ lsF L i ∧ lsF L i ≤ 2 := by
  rw [lsF]; split
  · decide
  · split <;> decide
/-- The kind of the line before tells whether there is an intervention. -/
theorem ls_two {L : List ByteArray} {i : Nat} : lsF L i ≤ 1 ↔ (stK L i).isEmpty = true := by
  rw [lsF]
  split
  · rename_i h
    have : stK L i = [] := by
      rcases Nat.le_one_iff_eq_zero_or_eq_one.1 h with rfl | rfl
      · exact (st_zero L).2.2.1
      · exact (st_one L).2.2
    rw [this]; simp
  · split
    · rename_i h; rw [h]; simp
    · rename_i h
      cases hk : stK L i with
      | nil => exact absurd hk h
      | cons => simp
end
end Qq
