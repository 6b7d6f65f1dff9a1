/- Texts, back: numbers and lines, plain. -/
import Derived.Test.YtaigknknfaeajaaGreatDoorTN
import Derived.Test.YtaigknknfaeajaaGreatDoorZL
open Go Go.Vm Go.Proofs Sp
namespace Qq
noncomputable section
theorem digB_of {i : Nat} (h : i < 10) : digB (UInt8.ofNat (48 + i)) = true ∧ (UInt8.ofNat (48 + i)).toNat = 48 + i := by
  have e : (UInt8.ofNat (48 + i)).toNat = 48 + i := by rw [UInt8.toNat_ofNat']; omega
  refine ⟨?_, e⟩
  rw [digB, e, Bool.and_eq_true, decide_eq_true_eq, decide_eq_true_eq]; omega
theorem dec_small {n : Nat} (h : n < 10) : Lib.decDigits n = [UInt8.ofNat (48 + n)] := by rw [Lib.decDigits, dif_pos h]
theorem dec_big {n : Nat} (h : ¬ n < 10) : Lib.decDigits n = Lib.decDigits (n / 10) ++ [UInt8.ofNat (48 + n % 10)] := by rw [Lib.decDigits, dif_neg h]
theorem dec_facts (n : Nat) : Lib.decDigits n ≠ [] ∧ (Lib.decDigits n).all digB = true ∧ dgF 0 (Lib.decDigits n) = (n : Int) ∧ (n ≠ 0 → (Lib.decDigits n).headD 0 ≠ 48) := by
  induction n using Nat.strongRecOn with
  | _ n ih =>
    by_cases h : n < 10
    · obtain ⟨q1, q2⟩ := digB_of h
      rw [dec_small h]
      refine ⟨by simp, by rw [List.all_cons, q1]; rfl, ?_, fun h0 e => ?_⟩
      · show 10 * 0 + (((UInt8.ofNat (48 + n)).toNat : Int) - 48) = n
        rw [q2]; omega
      · have e : UInt8.ofNat (48 + n) = 48 := e
        rw [e] at q2
        have : (48 : UInt8).toNat = 48 := rfl
        omega
    · obtain ⟨i1, i2, i3, i4⟩ := ih (n / 10) (by omega)
      obtain ⟨q1, q2⟩ := digB_of (i := n % 10) (by omega)
      rw [dec_big h]
      refine ⟨by simp, by rw [List.all_append, i2, List.all_cons, q1]; rfl, ?_, fun _ => ?_⟩
      · rw [dgF_snoc, i3, q2]; omega
      · obtain ⟨b, r, hb⟩ : ∃ b r, Lib.decDigits (n / 10) = b :: r := by
          cases hd : Lib.decDigits (n / 10) with
          | nil => exact absurd hd i1
          | cons b r => exact ⟨b, r, rfl⟩
        have := i4 (by omega)
        rw [hb] at this ⊢
        exact this
theorem dec_len : ∀ (k n : Nat), n < 10 ^ (k + 1) → (Lib.decDigits n).length ≤ k + 1
  | 0, n, h => by rw [dec_small (by omega)]; simp
  | k + 1, n, h => by
    by_cases h1 : n < 10
    · rw [dec_small h1]; simp
    · rw [dec_big h1, List.length_append]
      have := dec_len k (n / 10) (by rw [Nat.pow_succ] at h; omega)
      simp; omega
/-- Digits that begin with another digit than 0 are what the number prints. -/
theorem dec_back : ∀ (k : Nat) (l : List UInt8), l.length = k + 1 → l.all digB = true → (l.length = 1 ∨ l.headD 0 ≠ 48) → 0 ≤ dgF 0 l ∧ Lib.decDigits (dgF 0 l).toNat = l
  | 0, l, hl, ha, _ => by
    obtain ⟨b, rfl⟩ := List.length_eq_one_iff.1 hl
    have hb : digB b = true := by simpa using ha
    rw [digB, Bool.and_eq_true, decide_eq_true_eq, decide_eq_true_eq] at hb
    have e : dgF 0 [b] = ((b.toNat - 48 : Nat) : Int) := by show 10 * 0 + ((b.toNat : Int) - 48) = _; omega
    refine ⟨by rw [e]; omega, ?_⟩
    rw [e, Int.toNat_natCast, dec_small (by omega), show 48 + (b.toNat - 48) = b.toNat by omega, UInt8.ofNat_toNat]
  | k + 1, l, hl, ha, hh => by
    obtain ⟨l', b, rfl⟩ : ∃ l' b, l = l' ++ [b] := ⟨l.dropLast, l.getLast (by intro e; rw [e] at hl; cases hl), (List.dropLast_concat_getLast _).symm⟩
    have hl' : l'.length = k + 1 := by simpa using hl
    rw [List.all_append, Bool.and_eq_true] at ha
    obtain ⟨c, r, rfl⟩ : ∃ c r, l' = c :: r := by
      cases l' with
      | nil => cases hl'
      | cons c r => exact ⟨c, r, rfl⟩
    have hc : c ≠ 48 := by
      rcases hh with h | h
      · simp at h
      · exact h
    obtain ⟨i1, i2⟩ := dec_back k (c :: r) hl' ha.1 (.inr hc)
    have hb : digB b = true := by simpa using ha.2
    rw [digB, Bool.and_eq_true, decide_eq_true_eq, decide_eq_true_eq] at hb
    have hv : (dgF 0 (c :: r)).toNat ≠ 0 := fun e => by
      rw [e, dec_small (by omega)] at i2
      have := (List.cons.inj i2).1
      exact hc (by rw [← this]; rfl)
    have e : dgF 0 (c :: r ++ [b]) = ((10 * (dgF 0 (c :: r)).toNat + (b.toNat - 48) : Nat) : Int) := by rw [dgF_snoc]; omega
    refine ⟨by rw [e]; omega, ?_⟩
    rw [e, Int.toNat_natCast, dec_big (by omega), show (10 * (dgF 0 (c :: r)).toNat + (b.toNat - 48)) / 10 = (dgF 0 (c :: r)).toNat by omega, i2,
      show 48 + (10 * (dgF 0 (c :: r)).toNat + (b.toNat - 48)) % 10 = b.toNat by omega, UInt8.ofNat_toNat]
theorem itoa_dec {x : Int} (h : 0 ≤ x) : Lib.itoa x = Lib.decDigits x.toNat := by rw [Lib.itoa, if_neg (by omega)]
theorem itoa_read {x : Int} (h0 : 0 ≤ x) (h1 : x ≤ 100000) : igB (ofL (Lib.itoa x)) = true ∧ drV (ofL (Lib.itoa x)) = x ∧ (Lib.itoa x).length ≤ 6 := by
  rw [itoa_dec h0]
  obtain ⟨d1, d2, d3, d4⟩ := dec_facts x.toNat
  have d5 := dec_len 5 x.toNat (by omega)
  have hb : igB (ofL (Lib.decDigits x.toNat)) = true := by
    rw [igB, data_ofL, dgOk, d2, decide_eq_true d1, decide_eq_true (show (Lib.decDigits x.toNat).length ≤ 9 by omega), Bool.and_true, Bool.true_and, Bool.true_and]
    by_cases h : x.toNat = 0
    · rw [h, dec_small (by omega)]; rfl
    · rw [decide_eq_true (d4 h), Bool.or_true]
  refine ⟨hb, ?_, d5⟩
  rw [drV, if_pos hb, data_ofL, d3]; omega
theorem read_itoa {w : ByteArray} (h : igB w = true) : ofL (Lib.itoa (drV w)) = w := by
  have h2 := h
  rw [igB, dgOk] at h2
  simp only [Bool.and_eq_true, Bool.or_eq_true, decide_eq_true_eq] at h2
  obtain ⟨⟨⟨a, _⟩, c⟩, d⟩ := h2
  obtain ⟨k, hk⟩ : ∃ k, w.data.toList.length = k + 1 := ⟨w.data.toList.length - 1, by have := List.length_pos_iff.2 a; omega⟩
  obtain ⟨e1, e2⟩ := dec_back k _ hk d c
  rw [drV, if_pos h, itoa_dec e1, e2, ofL_data]
theorem dig_free {c : UInt8} (hc : digB c = false) {l : List UInt8} (h : l.all digB = true) : c ∉ l := fun hm => by
  rw [List.all_eq_true.1 h c hm] at hc; cases hc
theorem itoa_free {x : Int} (h : 0 ≤ x) {c : UInt8} (hc : digB c = false) : c ∉ Lib.itoa x := by
  rw [itoa_dec h]; exact dig_free hc (dec_facts _).2.1
end
end Qq
