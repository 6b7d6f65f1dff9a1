/- Fits, and the law about it. -/
import Derived.Test.YtaigknknfaeajaaGreatDoorQHH
import Derived.Test.YtaigknknfaeajaaGreatDoorQII
open Go Go.Vm Go.Proofs Sp
namespace Qq
noncomputable section
theorem mxG_lt (c : Int) : ∀ (l : List Int) (m : Int), c < mxG m l ↔ c < m ∨ ∃ x ∈ l, c < x
  | [], m => by simp [mxG]
  | x :: r, m => by
    simp only [mxG, mxG_lt c r, List.mem_cons, exists_eq_or_imp]
    by_cases hx : x > m
    · simp only [if_pos hx]; constructor
      · rintro (h | h)
        · exact .inr (.inl h)
        · exact .inr (.inr h)
      · rintro (h | h | h)
        · exact .inl (by omega)
        · exact .inl h
        · exact .inr h
    · simp only [if_neg hx]; constructor
      · rintro (h | h)
        · exact .inl h
        · exact .inr (.inr h)
      · rintro (h | h | h)
        · exact .inl h
        · exact .inl (by omega)
        · exact .inr h
theorem rtE_in {n d : Int} (h : rtE n d = 0) : -999999999 ≤ n ∧ n ≤ 999999999 ∧ 1 ≤ d ∧ d ≤ 999999999 := by
  have h' := (sel_zero.1 h).1
  have h1 := wi_zero.1 (fi_zero.1 h' (wi n (-999999999) 999999999) (by simp))
  have h2 := wi_zero.1 (fi_zero.1 h' (wi d 1 999999999) (by simp))
  omega
theorem li_pre {a p q r t : Int} (h : fi [wi a 0 100000, rtE p q, rtE r t] = 0) : (0 ≤ a ∧ a ≤ 100000) ∧ (-999999999 ≤ p ∧ p ≤ 999999999 ∧ 1 ≤ q ∧ q ≤ 999999999) ∧ (-999999999 ≤ r ∧ r ≤ 999999999 ∧ 1 ≤ t ∧ t ≤ 999999999) :=
  ⟨wi_zero.1 (fi_zero.1 h (wi a 0 100000) (by simp)), rtE_in (fi_zero.1 h (rtE p q) (by simp)), rtE_in (fi_zero.1 h (rtE r t) (by simp))⟩
theorem li_in {a p q r t : Int} (h : liE a p q r t = 0) : (0 ≤ a ∧ a ≤ 100000) ∧ (-1000000 ≤ p ∧ p ≤ 1000000) ∧ (1 ≤ q ∧ q ≤ 1000000) ∧ (-1000000 ≤ r ∧ r ≤ 1000000) ∧ (1 ≤ t ∧ t ≤ 1000000) := by
  obtain ⟨h1, h2⟩ := sel_zero.1 h
  obtain ⟨k1, k2, k3⟩ := li_pre h1
  have h2 := (wh_zero (by decide)).1 h2
  simp only [bgB, Bool.or_eq_false_iff, decide_eq_false_iff_not] at h2
  omega
theorem okLi : Ok Tryz.prog 140 orcLi := by
  intro args H ret H' h
  unfold orcLi at h
  split at h
  · rename_i a p q r t
    cases h
    refine fnP_res hm c20_ok (hs := h0) ?_
    show fnP Tryz.prog c20 h0 140 [.agg (liC a p q r t).toArray] [] _
    rw [li_t]
    refine br_of (fun h => ?_) (fun h => ?_)
    · rw [liE, sel_ne h]; exact ⟨by first | trivial | rfl, by first | trivial | rfl⟩
    · have h' : fi [wi a 0 100000, rtE p q, rtE r t] = 0 := by simpa using h
      obtain ⟨k1, k2, k3⟩ := li_pre h'
      have e1 : IntKind.wrap .i64 (0 - p) = -p := by rw [wrap_eq (by omega) (by omega)]; omega
      have e2 : IntKind.wrap .i64 (0 - r) = -r := by rw [wrap_eq (by omega) (by omega)]; omega
      have e : decide ((1000000 : Int) < mxL [p, -p, q, r, -r, t]) = bgB p q r t := by
        rw [Bool.eq_iff_iff, decide_eq_true_eq]
        have : mxL [p, -p, q, r, -r, t] = mxG p [-p, q, r, -r, t] := rfl
        rw [this, mxG_lt]
        simp only [bgB, Bool.or_eq_true, decide_eq_true_eq, List.mem_cons, List.not_mem_nil, or_false, exists_eq_or_imp, exists_eq_left]
        omega
      rw [liE, sel_eq h, e1, e2]
      refine ⟨?_, by first | trivial | rfl⟩
      rw [e]
  · cases h
noncomputable def t21 : List (Nat × Orc) := (134, orcDay) :: (140, orcLi) :: t20
theorem t21_all : ∀ p ∈ t21, Ok Tryz.prog p.1 p.2 := all_cons okIdxP (all_cons okLi t20_all)
noncomputable def c21 : CallF := ctx Tryz.prog t21
theorem c21_ok : CallOK Tryz.prog c21 := ctx_ok hm t21_all
noncomputable def hsF8 (zs : List Int) (ks : List (Int × ByteArray)) : Hs Tryz.prog where
  au := auCalls [(129, hCa Tryz.prog 129 (orcCpV zs ks) (cp_okV zs ks)), (142, hCa Tryz.prog 142 (orcPdV zs ks) (pd_okV zs ks)), (141, hCa Tryz.prog 141 (orcSfV zs) (sf_okV zs))]
theorem f8_t (nm : ByteArray) (zs : List Int) (ks : List (Int × ByteArray)) (n : Nat) (c : Nat) (k : Nat) (d : Nat) (x : Int) (w : Int) (a : Int) (p : Int) (q : Int) (r : Int) (t : Int) (K : Value → Heap → Prop) :
    (fnP Tryz.prog c21 (hsF8 zs ks) (54 : FuncId) [Value.agg (List.toArray (secA nm (0 : Nat) n c (1 : Nat) k d)), Value.int IntKind.i64 x, Value.int IntKind.i64 w, Value.agg (List.toArray (liC a p q r t))] (hp2 zs ks true true true true []) K) =
    (Is (isSec zs ks n k (ints zs) (acs ks)) ∧ br (fi [perE nm zs n ks k x, wi w (0 : Int) (100000 : Int), liE a p q r t] != (0 : Int)) (K (Value.tuple #[Value.bool false, Value.int IntKind.i64 (fi [perE nm zs n ks k x, wi w (0 : Int) (100000 : Int), liE a p q r t])]) (some (AObj.row (ints zs) (2 : Nat) true true true) :: some (AObj.row (acs ks) (2 : Nat) true true true) :: noH)) (Is (isPer zs ks n k x (ints zs) (acs ks)) ∧ Is (ints zs = ints zs ∧ FitIn zs (pf zs ks x * (2 : Nat)) (pm zs ks n k x) w a (IntKind.wrap IntKind.i64 (p * t)) (IntKind.wrap IntKind.i64 (r * q)) (IntKind.wrap IntKind.i64 (q * t))) ∧ K (Value.tuple #[Value.bool (fitB w (a, IntKind.wrap IntKind.i64 (p * t), IntKind.wrap IntKind.i64 (r * q), IntKind.wrap IntKind.i64 (q * t)) (List.take (pm zs ks n k x * (2 : Nat)) (List.drop (pf zs ks x * (2 : Nat)) zs))), Value.int IntKind.i64 (0 : Int)]) (some (AObj.row (ints zs) (2 : Nat) true true true) :: some (AObj.row (acs ks) (2 : Nat) true true true) :: noH))) := by kernel_rfl
noncomputable def f8E (nm : ByteArray) (zs : List Int) (n : Nat) (ks : List (Int × ByteArray)) (k : Nat) (x w a p q r t : Int) : Int := fi [perE nm zs n ks k x, wi w 0 100000, liE a p q r t]
noncomputable def f8B (nm : ByteArray) (zs : List Int) (n : Nat) (ks : List (Int × ByteArray)) (k : Nat) (x w a p q r t : Int) : Bool := (f8E nm zs n ks k x w a p q r t == 0) && fitB w (a, p * t, r * q, q * t) (pP zs ks n k x)
theorem li_fit {zs : List Int} {off m : Nat} {w a p q r t : Int} (hp : Part zs off m) (w0 : 0 ≤ w) (w1 : w ≤ 100000) (h : liE a p q r t = 0) :
    FitIn zs off m w a (p * t) (r * q) (q * t) ∧ IntKind.wrap .i64 (p * t) = p * t ∧ IntKind.wrap .i64 (r * q) = r * q ∧ IntKind.wrap .i64 (q * t) = q * t ∧ -1000000 ≤ r ∧ r ≤ 1000000 := by
  obtain ⟨⟨a0, a1⟩, ⟨p0, p1⟩, ⟨q0, q1⟩, ⟨r0, r1⟩, ⟨t0, t1⟩⟩ := li_in h
  have g1 := bmul (A := 1000000) (B := 1000000) (by omega) (by omega) p0 p1 (show -1000000 ≤ t by omega) t1
  have g2 := bmul (A := 1000000) (B := 1000000) (by omega) (by omega) r0 r1 (show -1000000 ≤ q by omega) q1
  have g3 := mul_in (show 0 ≤ q by omega) q1 (show 0 ≤ t by omega) t1
  have g4 := Int.mul_pos (show 0 < q by omega) (show 0 < t by omega)
  have hf := hp.few
  exact ⟨⟨hp.len, by omega, w0, w1, a0, a1, by omega, by omega, by omega, by omega, g4, by omega, hp.pts, hp.idx⟩, wrap_eq (by omega) (by omega), wrap_eq (by omega) (by omega), wrap_eq (by omega) (by omega), r0, r1⟩
theorem f8_ok {nm : ByteArray} {zs : List Int} {ks : List (Int × ByteArray)} {n c k d : Nat} {x w a p q r t : Int} (hi : isSec zs ks n k (ints zs) (acs ks)) :
    SmallRes Tryz.prog 54 [.agg (secA nm 0 n c 1 k d).toArray, .int .i64 x, .int .i64 w, .agg (liC a p q r t).toArray] (hp2 zs ks true true true true [])
      (.tuple #[.bool (f8B nm zs n ks k x w a p q r t), .int .i64 (f8E nm zs n ks k x w a p q r t)]) (hp2 zs ks true true true true []) := by
  refine fnP_res hm c21_ok (hs := hsF8 zs ks) ?_
  rw [f8_t]
  refine ⟨⟨hi⟩, br_of (fun h => ?_) (fun h => ?_)⟩
  · have h' : f8E nm zs n ks k x w a p q r t ≠ 0 := by simp only [f8E]; simpa using h
    rw [f8B, show (f8E nm zs n ks k x w a p q r t == 0) = false by simpa using h']
    exact ⟨by first | trivial | rfl, by first | trivial | rfl⟩
  · have h' : f8E nm zs n ks k x w a p q r t = 0 := by simp only [f8E]; simpa using h
    have hp := perE_ok hi (fi_zero.1 h' (perE nm zs n ks k x) (by simp))
    have hw := wi_zero.1 (fi_zero.1 h' (wi w 0 100000) (by simp))
    have hl := fi_zero.1 h' (liE a p q r t) (by simp)
    obtain ⟨g0, g1, g2, g3, _⟩ := li_fit (per_part hp).1 hw.1 hw.2 hl
    rw [g1, g2, g3, f8B, h']
    exact ⟨⟨hp⟩, ⟨by first | trivial | rfl, g0⟩, by first | trivial | rfl, by first | trivial | rfl⟩
noncomputable def orcF8V (zs : List Int) (ks : List (Int × ByteArray)) : OrcV
  | [.agg ⟨[.string nm, .slice (some ⟨0, 0, none⟩) n _c, .slice (some ⟨1, 0, none⟩) k _d]⟩, .int .i64 x, .int .i64 w, .agg ⟨[.int .i64 a, .int .i64 p, .int .i64 q, .int .i64 r, .int .i64 t]⟩], [some (.row e1 2 true true true), some (.row e2 2 true true true)] =>
    some (.tuple #[.bool (f8B nm zs n ks k x w a p q r t), .int .i64 (f8E nm zs n ks k x w a p q r t)], [some (.row e1 2 true true true), some (.row e2 2 true true true)], isSec zs ks n k e1 e2)
  | _, _ => none
theorem f8_okV (zs : List Int) (ks : List (Int × ByteArray)) : OkV Tryz.prog 54 (orcF8V zs ks) := by
  intro args H ret H' vc h hv
  unfold orcF8V at h
  split at h
  · cases h
    obtain ⟨rfl, rfl, h1⟩ := hv
    exact f8_ok ⟨rfl, rfl, h1⟩
  · cases h
theorem ptP_len {zs : List Int} {off m : Nat} (h : off + m * 2 ≤ zs.length) : (ptP zs off m).length = m * 2 := by
  rw [ptP, List.length_take, List.length_drop]; omega
theorem FitIn.own {zs : List Int} {off m : Nat} {w a b s d : Int} (h : FitIn zs off m w a b s d) : FitIn (ptP zs off m) 0 m w a b s d := by
  obtain ⟨h1, h2, h3, h4, h5, h6, h7, h8, h9, h10, h11, h12, h13, h14⟩ := h
  refine ⟨by rw [ptP_len h1]; omega, h2, h3, h4, h5, h6, h7, h8, h9, h10, h11, h12, fun i hi => ?_, fun i hi => ?_⟩
  · rw [Nat.zero_add, ptP, pP_get (by omega)]; exact h13 i hi
  · rw [Nat.zero_add, ptP, pP_get (by omega), ← Nat.add_assoc]; exact h14 i hi
end
end Qq
