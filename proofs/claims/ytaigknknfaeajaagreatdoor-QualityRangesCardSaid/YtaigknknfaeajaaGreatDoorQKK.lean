/- Fits, and the law about it. -/
import Derived.Test.YtaigknknfaeajaaGreatDoorQHH
import Derived.Test.YtaigknknfaeajaaGreatDoorQII
open Go Go.Vm Go.Proofs Sp
namespace Qq
noncomputable section
theorem mxG_lt (c : Int) : ∀ (l : List Int) (m : Int), c < mxG m l ↔ c < m ∨ ∃ x ∈ l, c < x
  | [], m => by simp [mxG]
  | x :: r, m => by
    simp only [mxG, mxG_lt c r, List.mem_cons, exists_eq_or_imp]
    by_cases hx : x > m
    · simp only [if_pos hx]; constructor
      · rintro (h | h)
        · exact .inr (.inl h)
        · exact .inr (.inr h)
      · rintro (h | h | h)
        · exact .inl (by omega)
        · exact .inl h
        · exact .inr h
    · simp only [if_neg hx]; constructor
      · rintro (h | h)
        · exact .inl h
        · exact .inr (.inr h)
      · rintro (h | h | h)
        · exact .inl h
        · exact .inl (by omega)
        · exact .inr h
theorem rtE_in {n d : Int} (h : rtE n d = 0) : -999999999 ≤ n ∧ n ≤ 999999999 ∧ 1 ≤ d ∧ d ≤ 999999999 := by
  have h' := (sel_zero.1 h).1
  have h1 := wi_zero.1 (fi_zero.1 h' (wi n (-999999999) 999999999) (by simp))
  have h2 := wi_zero.1 (fi_zero.1 h' (wi d 1 999999999) (by simp))
  omega
theorem li_pre {a p q r t : Int} (h : fi [wi a 0 100000, rtE p q, rtE r t] = 0) : (0 ≤ a ∧ a ≤ 100000) ∧ (-999999999 ≤ p ∧ p ≤ 999999999 ∧ 1 ≤ q ∧ q ≤ 999999999) ∧ (-999999999 ≤ r ∧ r ≤ 999999999 ∧ 1 ≤ t ∧ t ≤ 999999999) :=
  ⟨wi_zero.1 (fi_zero.1 h (wi a 0 100000) (by simp)), rtE_in (fi_zero.1 h (rtE p q) (by simp)), rtE_in (fi_zero.1 h (rtE r t) (by simp))⟩
theorem okLi : Ok Tryz.prog 140 orcLi := by
  intro args H ret H' h
  unfold orcLi at h
  split at h
  · rename_i a p q r t
    cases h
    refine fnP_res hm c20_ok (hs := h0) ?_
    show fnP Tryz.prog c20 h0 140 [.agg (liC a p q r t).toArray] [] _
    rw [li_t]
    refine br_of (fun h => ?_) (fun h => ?_)
    · rw [liE, sel_ne h]; exact ⟨by first | trivial | rfl, by first | trivial | rfl⟩
    · have h' : fi [wi a 0 100000, rtE p q, rtE r t] = 0 := by simpa using h
      obtain ⟨k1, k2, k3⟩ := li_pre h'
      have e1 : IntKind.wrap .i64 (0 - p) = -p := by rw [wrap_eq (by omega) (by omega)]; omega
      have e2 : IntKind.wrap .i64 (0 - r) = -r := by rw [wrap_eq (by omega) (by omega)]; omega
      have e : decide ((1000000 : Int) < mxL [p, -p, q, r, -r, t]) = bgB p q r t := by
        rw [Bool.eq_iff_iff, decide_eq_true_eq]
        have : mxL [p, -p, q, r, -r, t] = mxG p [-p, q, r, -r, t] := rfl
        rw [this, mxG_lt]
        simp only [bgB, Bool.or_eq_true, decide_eq_true_eq, List.mem_cons, List.not_mem_nil, or_false, exists_eq_or_imp, exists_eq_left]
        omega
      rw [liE, sel_eq h, e1, e2]
      refine ⟨?_, by first | trivial | rfl⟩
      rw [e]
  · cases h
noncomputable def t21 : List (Nat × Orc) := (134, orcDay) :: (140, orcLi) :: t20
theorem t21_all : ∀ p ∈ t21, Ok Tryz.prog p.1 p.2 := all_cons okIdxP (all_cons okLi t20_all)
noncomputable def c21 : CallF := ctx Tryz.prog t21
theorem c21_ok : CallOK Tryz.prog c21 := ctx_ok hm t21_all
theorem ptP_len {zs : List Int} {off m : Nat} (h : off + m * 2 ≤ zs.length) : (ptP zs off m).length = m * 2 := by
  rw [ptP, List.length_take, List.length_drop]; omega
theorem FitIn.own {zs : List Int} {off m : Nat} {w a b s d : Int} (h : FitIn zs off m w a b s d) : FitIn (ptP zs off m) 0 m w a b s d := by
  obtain ⟨h1, h2, h3, h4, h5, h6, h7, h8, h9, h10, h11, h12, h13, h14⟩ := h
  refine ⟨by rw [ptP_len h1]; omega, h2, h3, h4, h5, h6, h7, h8, h9, h10, h11, h12, fun i hi => ?_, fun i hi => ?_⟩
  · rw [Nat.zero_add, ptP, pP_get (by omega)]; exact h13 i hi
  · rw [Nat.zero_add, ptP, pP_get (by omega), ← Nat.add_assoc]; exact h14 i hi
end
end Qq
