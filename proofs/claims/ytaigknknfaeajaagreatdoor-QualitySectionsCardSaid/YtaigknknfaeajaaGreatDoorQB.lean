/- The reference's moments and quotients; the statement on moments. -/
import Derived.Test.YtaigknknfaeajaaGreatDoorQA
open Go Go.Vm Go.Proofs Sp
namespace Qq
noncomputable section

noncomputable def orcDiv : OrcV
  | [.int .i64 a, .int .i64 b], [] => some (.int .i64 (Int.ofNat (Nat.gcd a.natAbs b.natAbs)), [], -9223372036854775808 < a ∧ a < 9223372036854775808 ∧ -9223372036854775808 < b ∧ b < 9223372036854775808)
  | _, _ => none
theorem okDiv : OkV Tryz.prog 165 orcDiv := by
  intro args H ret H' vc h hv
  unfold orcDiv at h
  split at h
  · rename_i a b
    cases h
    obtain ⟨v1, v2, v3, v4⟩ := hv
    refine fnP_res hm cr2_ok (hs := hDiv (Nat.gcd a.natAbs b.natAbs)) ?_
    rw [div_t]
    refine ⟨⟨(a.natAbs, b.natAbs), ⟨rfl, by simp; omega, by simp; omega⟩, ?_, rfl⟩, fun s hs => ?_⟩
    · rw [max_abs v1 v2, max_abs v3 v4]
    · obtain ⟨i1, i2, i3⟩ := hs.out
      refine br_of (fun hc => ?_) (fun hc => ?_)
      · have hc : 0 < s.2 := by simpa using hc
        refine ⟨⟨by omega⟩, (s.2, s.1 % s.2), ⟨by rw [← i1]; exact gcd_step, i3, ?_⟩, ⟨Nat.mod_lt _ (by omega)⟩, ?_, rfl⟩
        · have := Nat.mod_lt s.1 (show 0 < s.2 by omega); show s.1 % s.2 < _; omega
        · rfl
      · have hc : s.2 = 0 := by simpa using hc
        rw [hc, Nat.gcd_zero_right] at i1
        rw [i1]
        exact ⟨rfl, rfl⟩
  · cases h
noncomputable def h5 : Hs Tryz.prog := {au := auCalls [(165, hCa Tryz.prog 165 orcDiv okDiv)]}
theorem lowR_t (a : Int) (b : Int) (K : Value → Heap → Prop) :
    (fnP Tryz.prog cr2 h5 (72 : FuncId) [Value.int IntKind.i64 a, Value.int IntKind.i64 b] [] K) =
    (Is ((-9223372036854775808 : Int) < a ∧ a < (9223372036854775808 : Int) ∧ (-9223372036854775808 : Int) < b ∧ b < (9223372036854775808 : Int)) ∧ br (decide (b < (0 : Int))) (Is (IntKind.wrap IntKind.i64 ((0 : Int) - (↑(Nat.gcd (Int.natAbs a) (Int.natAbs b)) : Int)) ≠ (0 : Int)) ∧ Is (IntKind.wrap IntKind.i64 ((0 : Int) - (↑(Nat.gcd (Int.natAbs a) (Int.natAbs b)) : Int)) ≠ (0 : Int)) ∧ K (Value.agg #[Value.int IntKind.i64 (IntKind.wrap IntKind.i64 (Int.tdiv a (IntKind.wrap IntKind.i64 ((0 : Int) - (↑(Nat.gcd (Int.natAbs a) (Int.natAbs b)) : Int))))), Value.int IntKind.i64 (IntKind.wrap IntKind.i64 (Int.tdiv b (IntKind.wrap IntKind.i64 ((0 : Int) - (↑(Nat.gcd (Int.natAbs a) (Int.natAbs b)) : Int)))))]) noH) (Is ((↑(Nat.gcd (Int.natAbs a) (Int.natAbs b)) : Int) ≠ (0 : Int)) ∧ Is ((↑(Nat.gcd (Int.natAbs a) (Int.natAbs b)) : Int) ≠ (0 : Int)) ∧ K (Value.agg #[Value.int IntKind.i64 (IntKind.wrap IntKind.i64 (Int.tdiv a (↑(Nat.gcd (Int.natAbs a) (Int.natAbs b)) : Int))), Value.int IntKind.i64 (IntKind.wrap IntKind.i64 (Int.tdiv b (↑(Nat.gcd (Int.natAbs a) (Int.natAbs b)) : Int)))]) noH)) := by kernel_rfl
theorem okLowR : OkV Tryz.prog 72 orcLow := by
  intro args H ret H' vc h hv
  unfold orcLow at h
  split at h
  · rename_i num den
    cases h
    obtain ⟨v1, v2, v3, v4⟩ := hv
    refine fnP_res hm cr2_ok (hs := h5) ?_
    rw [lowR_t]
    refine ⟨⟨v3, v4, by omega, v2⟩, br_of (fun h => absurd (of_decide_eq_true h) (by omega)) (fun h => ?_)⟩
    have hg : 0 < Nat.gcd num.natAbs den.natAbs := Nat.gcd_pos_of_pos_right _ (by omega)
    exact ⟨⟨by omega⟩, ⟨by omega⟩, rfl, rfl⟩
  · cases h
/-- The reference's CheckMoments. -/
noncomputable def ckR (n a b : Int) : Int :=
  sel (wi n 0 4096) (sel (fi [wi a (W (0 - W (n * 16384))) (W (n * 16384)), wi b 0 (W (n * 268435456))]) (wh (decide (W (n * b) < W (a * a))) 24))
noncomputable def orcCkR : Orc
  | [.agg ⟨[.int .i64 n, .int .i64 a, .int .i64 b]⟩], [] => some (.int .i64 (ckR n a b), [])
  | _, _ => none
theorem okCkR : Ok Tryz.prog 79 orcCkR := by
  intro args H ret H' h
  unfold orcCkR at h
  split at h
  · cases h
    refine fnP_res hm cr2_ok (hs := h0) ?_
    rw [checkR_t]
    refine br_of (fun h => ⟨?_, rfl⟩) (fun h => br_of (fun h' => ⟨?_, rfl⟩) (fun h' => ⟨?_, rfl⟩))
    · simp only [ckR, sel]; rw [if_neg (by simpa using h)]
    · simp only [ckR, sel]; rw [if_pos (by simpa using h), if_neg (by simpa using h')]
    · simp only [ckR, sel]; rw [if_pos (by simpa using h), if_pos (by simpa using h')]
  · cases h
noncomputable def orcAddR : Orc
  | [.agg ⟨[.int .i64 n, .int .i64 a, .int .i64 b]⟩, .agg ⟨[.int .i64 m, .int .i64 c, .int .i64 d]⟩], [] =>
    some (.agg #[.int .i64 (W (n + m)), .int .i64 (W (a + c)), .int .i64 (W (b + d))], [])
  | _, _ => none
theorem okAddR : Ok Tryz.prog 80 orcAddR := by
  intro args H ret H' h
  unfold orcAddR at h
  split at h
  · cases h
    refine fnP_res hm cr2_ok (hs := h0) ?_
    rw [addR_t]
    exact ⟨rfl, rfl⟩
  · cases h
noncomputable def h6 : Hs Tryz.prog := {au := auCalls [(72, hCa Tryz.prog 72 orcLow okLowR)]}
theorem varR_t (n : Int) (a : Int) (b : Int) (K : Value → Heap → Prop) :
    (fnP Tryz.prog cr2 h6 (81 : FuncId) [Value.agg #[Value.int IntKind.i64 n, Value.int IntKind.i64 a, Value.int IntKind.i64 b]] [] K) =
    (Is ((0 : Int) < IntKind.wrap IntKind.i64 (n * n) ∧ IntKind.wrap IntKind.i64 (n * n) < (9223372036854775808 : Int) ∧ (-9223372036854775808 : Int) < IntKind.wrap IntKind.i64 (IntKind.wrap IntKind.i64 (n * b) - IntKind.wrap IntKind.i64 (a * a)) ∧ IntKind.wrap IntKind.i64 (IntKind.wrap IntKind.i64 (n * b) - IntKind.wrap IntKind.i64 (a * a)) < (9223372036854775808 : Int)) ∧ K (Value.agg #[Value.int IntKind.i64 (lowN (IntKind.wrap IntKind.i64 (IntKind.wrap IntKind.i64 (n * b) - IntKind.wrap IntKind.i64 (a * a))) (IntKind.wrap IntKind.i64 (n * n))), Value.int IntKind.i64 (lowD (IntKind.wrap IntKind.i64 (IntKind.wrap IntKind.i64 (n * b) - IntKind.wrap IntKind.i64 (a * a))) (IntKind.wrap IntKind.i64 (n * n)))]) noH) := by kernel_rfl
noncomputable def orcVarR : OrcV
  | [.agg ⟨[.int .i64 n, .int .i64 a, .int .i64 b]⟩], [] => some (.agg #[.int .i64 (varN n a b), .int .i64 (varD n a b)], [], MomOK n a b ∧ n ≠ 0)
  | _, _ => none
theorem okVarR : OkV Tryz.prog 81 orcVarR := by
  intro args H ret H' vc h hv
  unfold orcVarR at h
  split at h
  · rename_i n a b
    cases h
    obtain ⟨hk, hn⟩ := hv
    refine fnP_res hm cr2_ok (hs := h6) ?_
    rw [varR_t]
    obtain ⟨q1, q2, q3, q4⟩ := ckM_var hk hn
    simp only [W] at q1 q4
    refine ⟨⟨by omega, by omega, ?_, ?_⟩, rfl, rfl⟩
    · rw [q4]; have := hk.aa; have := hk.nb0; omega
    · rw [q4]; have := hk.nb; have := hk.aa0; omega
  · cases h
noncomputable def orcTrue : Orc
  | [], [] => some (.bool true, [])
  | _, _ => none
noncomputable def l1 : List (Nat × Orc) := [(18, orcTrue), (77, orcAdd), (78, orcVar), (82, orcCkM), (79, orcCkR), (80, orcAddR), (28, orcFirst), (53, orcWhen)]
noncomputable def cl1 : CallF := ctx Tryz.prog l1
noncomputable def h7 : Hs Tryz.prog := {au := auCalls [(81, hCa Tryz.prog 81 orcVarR okVarR)]}
theorem law13_t (n : Int) (a : Int) (b : Int) (m : Int) (c : Int) (d : Int) (K : Value → Heap → Prop) :
    (fnP Tryz.prog cl1 h7 (13 : FuncId) [Value.agg #[Value.int IntKind.i64 n, Value.int IntKind.i64 a, Value.int IntKind.i64 b], Value.agg #[Value.int IntKind.i64 m, Value.int IntKind.i64 c, Value.int IntKind.i64 d]] [] K) =
    (br (fi [ckR n a b, ckR m c d] == (0 : Int)) (br (wh (decide ((4096 : Int) < IntKind.wrap IntKind.i64 (n + m))) (5 : Int) == (0 : Int)) (br (fi [ckR n a b, wh (n == (0 : Int)) (12 : Int)] == (0 : Int)) (Is (MomOK n a b ∧ n ≠ (0 : Int)) ∧ br (ckM n a b == ckR n a b) (Is True ∧ br (ifz (addE n a b m c d) (W (n + m)) == W (n + m) && (ifz (addE n a b m c d) (W (a + c)) == W (a + c) && (ifz (addE n a b m c d) (W (b + d)) == W (b + d) && true))) (br (addE n a b m c d == wh (decide ((4096 : Int) < IntKind.wrap IntKind.i64 (n + m))) (5 : Int)) (Is True ∧ br (ifz (varE n a b) (varN n a b) == varN n a b && (ifz (varE n a b) (varD n a b) == varD n a b && true)) (br (varE n a b == fi [ckR n a b, wh (n == (0 : Int)) (12 : Int)]) (K (Value.bool true) noH) (K (Value.bool false) noH)) (K (Value.bool false) noH)) (K (Value.bool false) noH)) (K (Value.bool false) noH)) (K (Value.bool false) noH)) (br (ckM n a b == ckR n a b) (Is True ∧ br (ifz (addE n a b m c d) (W (n + m)) == W (n + m) && (ifz (addE n a b m c d) (W (a + c)) == W (a + c) && (ifz (addE n a b m c d) (W (b + d)) == W (b + d) && true))) (br (addE n a b m c d == wh (decide ((4096 : Int) < IntKind.wrap IntKind.i64 (n + m))) (5 : Int)) (Is True ∧ br (ifz (varE n a b) (varN n a b) == (0 : Int) && (ifz (varE n a b) (varD n a b) == (0 : Int) && true)) (br (varE n a b == fi [ckR n a b, wh (n == (0 : Int)) (12 : Int)]) (K (Value.bool true) noH) (K (Value.bool false) noH)) (K (Value.bool false) noH)) (K (Value.bool false) noH)) (K (Value.bool false) noH)) (K (Value.bool false) noH))) (br (fi [ckR n a b, wh (n == (0 : Int)) (12 : Int)] == (0 : Int)) (Is (MomOK n a b ∧ n ≠ (0 : Int)) ∧ br (ckM n a b == ckR n a b) (Is True ∧ br (ifz (addE n a b m c d) (W (n + m)) == (0 : Int) && (ifz (addE n a b m c d) (W (a + c)) == (0 : Int) && (ifz (addE n a b m c d) (W (b + d)) == (0 : Int) && true))) (br (addE n a b m c d == wh (decide ((4096 : Int) < IntKind.wrap IntKind.i64 (n + m))) (5 : Int)) (Is True ∧ br (ifz (varE n a b) (varN n a b) == varN n a b && (ifz (varE n a b) (varD n a b) == varD n a b && true)) (br (varE n a b == fi [ckR n a b, wh (n == (0 : Int)) (12 : Int)]) (K (Value.bool true) noH) (K (Value.bool false) noH)) (K (Value.bool false) noH)) (K (Value.bool false) noH)) (K (Value.bool false) noH)) (K (Value.bool false) noH)) (br (ckM n a b == ckR n a b) (Is True ∧ br (ifz (addE n a b m c d) (W (n + m)) == (0 : Int) && (ifz (addE n a b m c d) (W (a + c)) == (0 : Int) && (ifz (addE n a b m c d) (W (b + d)) == (0 : Int) && true))) (br (addE n a b m c d == wh (decide ((4096 : Int) < IntKind.wrap IntKind.i64 (n + m))) (5 : Int)) (Is True ∧ br (ifz (varE n a b) (varN n a b) == (0 : Int) && (ifz (varE n a b) (varD n a b) == (0 : Int) && true)) (br (varE n a b == fi [ckR n a b, wh (n == (0 : Int)) (12 : Int)]) (K (Value.bool true) noH) (K (Value.bool false) noH)) (K (Value.bool false) noH)) (K (Value.bool false) noH)) (K (Value.bool false) noH)) (K (Value.bool false) noH)))) (br (fi [ckR n a b, ckR m c d] == (0 : Int)) (br (fi [ckR n a b, wh (n == (0 : Int)) (12 : Int)] == (0 : Int)) (Is (MomOK n a b ∧ n ≠ (0 : Int)) ∧ br (ckM n a b == ckR n a b) (Is True ∧ br (ifz (addE n a b m c d) (W (n + m)) == W (n + m) && (ifz (addE n a b m c d) (W (a + c)) == W (a + c) && (ifz (addE n a b m c d) (W (b + d)) == W (b + d) && true))) (br (addE n a b m c d == fi [ckR n a b, ckR m c d]) (Is True ∧ br (ifz (varE n a b) (varN n a b) == varN n a b && (ifz (varE n a b) (varD n a b) == varD n a b && true)) (br (varE n a b == fi [ckR n a b, wh (n == (0 : Int)) (12 : Int)]) (K (Value.bool true) noH) (K (Value.bool false) noH)) (K (Value.bool false) noH)) (K (Value.bool false) noH)) (K (Value.bool false) noH)) (K (Value.bool false) noH)) (br (ckM n a b == ckR n a b) (Is True ∧ br (ifz (addE n a b m c d) (W (n + m)) == W (n + m) && (ifz (addE n a b m c d) (W (a + c)) == W (a + c) && (ifz (addE n a b m c d) (W (b + d)) == W (b + d) && true))) (br (addE n a b m c d == fi [ckR n a b, ckR m c d]) (Is True ∧ br (ifz (varE n a b) (varN n a b) == (0 : Int) && (ifz (varE n a b) (varD n a b) == (0 : Int) && true)) (br (varE n a b == fi [ckR n a b, wh (n == (0 : Int)) (12 : Int)]) (K (Value.bool true) noH) (K (Value.bool false) noH)) (K (Value.bool false) noH)) (K (Value.bool false) noH)) (K (Value.bool false) noH)) (K (Value.bool false) noH))) (br (fi [ckR n a b, wh (n == (0 : Int)) (12 : Int)] == (0 : Int)) (Is (MomOK n a b ∧ n ≠ (0 : Int)) ∧ br (ckM n a b == ckR n a b) (Is True ∧ br (ifz (addE n a b m c d) (W (n + m)) == (0 : Int) && (ifz (addE n a b m c d) (W (a + c)) == (0 : Int) && (ifz (addE n a b m c d) (W (b + d)) == (0 : Int) && true))) (br (addE n a b m c d == fi [ckR n a b, ckR m c d]) (Is True ∧ br (ifz (varE n a b) (varN n a b) == varN n a b && (ifz (varE n a b) (varD n a b) == varD n a b && true)) (br (varE n a b == fi [ckR n a b, wh (n == (0 : Int)) (12 : Int)]) (K (Value.bool true) noH) (K (Value.bool false) noH)) (K (Value.bool false) noH)) (K (Value.bool false) noH)) (K (Value.bool false) noH)) (K (Value.bool false) noH)) (br (ckM n a b == ckR n a b) (Is True ∧ br (ifz (addE n a b m c d) (W (n + m)) == (0 : Int) && (ifz (addE n a b m c d) (W (a + c)) == (0 : Int) && (ifz (addE n a b m c d) (W (b + d)) == (0 : Int) && true))) (br (addE n a b m c d == fi [ckR n a b, ckR m c d]) (Is True ∧ br (ifz (varE n a b) (varN n a b) == (0 : Int) && (ifz (varE n a b) (varD n a b) == (0 : Int) && true)) (br (varE n a b == fi [ckR n a b, wh (n == (0 : Int)) (12 : Int)]) (K (Value.bool true) noH) (K (Value.bool false) noH)) (K (Value.bool false) noH)) (K (Value.bool false) noH)) (K (Value.bool false) noH)) (K (Value.bool false) noH))))) := by kernel_rfl

theorem br_if {b : Bool} {T F : Prop} : br b T F = if b = true then T else F := by cases b <;> simp
theorem ck_same (n a b : Int) : ckM n a b = ckR n a b := by
  simp only [ckM, ckR, fi]
  by_cases h : wi n 0 4096 = 0
  · have h' := wi_zero.1 h
    have e1 : W (0 - n) = 0 - n := wrap_eq (by omega) (by omega)
    have e2 : W (n * 16384) = n * 16384 := wrap_eq (by omega) (by omega)
    have e3 : (0 - n) * 16384 = 0 - n * 16384 := by omega
    rw [e1, e2, e3, h]
    simp [sel]
  · simp [sel, h]

theorem law13 (hl : ∀ p ∈ l1, Ok Tryz.prog p.1 p.2) (n a b m c d : Int) : SmallRes Tryz.prog 13 [.agg #[.int .i64 n, .int .i64 a, .int .i64 b], .agg #[.int .i64 m, .int .i64 c, .int .i64 d]] [] (.bool true) [] := by
  refine fnP_res hm (ctx_ok hm hl) (hs := h7) ?_
  show fnP Tryz.prog cl1 h7 13 _ _ _
  rw [law13_t]
  have hA : addE n a b m c d = sel (fi [ckR n a b, ckR m c d]) (wh (decide (4096 < W (n + m))) 5) := by rw [addE, ck_same, ck_same]
  have hV : varE n a b = fi [ckR n a b, wh (n == 0) 12] := by rw [varE, ck_same]
  have hM : fi [ckR n a b, wh (n == 0) 12] = 0 → MomOK n a b ∧ n ≠ 0 := fun h => varE_ok (hV.trans h)
  rw [hA, hV, ck_same]
  simp only [W] at *
  generalize fi [ckR n a b, ckR m c d] = A at *
  generalize fi [ckR n a b, wh (n == 0) 12] = V at *
  generalize wh (decide (4096 < IntKind.wrap .i64 (n + m))) 5 = B at *
  clear hA hV
  clear hl
  by_cases hA : A = 0 <;> by_cases hB : B = 0 <;> by_cases hV : V = 0 <;> simp_all [br_if, sel, ifz, is_iff]
