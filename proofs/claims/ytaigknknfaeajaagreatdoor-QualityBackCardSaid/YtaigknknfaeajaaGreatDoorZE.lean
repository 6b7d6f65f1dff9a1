/- Parts of the proof: QA, QB. -/
import Derived.Test.YtaigknknfaeajaaGreatDoorZC
import Derived.Test.YtaigknknfaeajaaGreatDoorProg
section
/- Contracts of the small functions of chapter 8: errors, ranges, moments, quotients in lowest terms. -/
open Go Go.Vm Go.Proofs Sp
namespace Qq
noncomputable section

theorem hm : Tryz.prog.follows .mixedOrders = true := by kernel_rfl
theorem ints_at {l : List Int} {i : Nat} (h : i < l.length) : (ints l)[i]? = some (.int .i64 (l.getD i 0)) := by
  simp [ints, List.getD_eq_getElem?_getD, h]
theorem fi_drop {l : List Int} {i : Nat} (h : i < l.length) : fi (l.drop i) = if l.getD i 0 = 0 then fi (l.drop (i + 1)) else l.getD i 0 := by
  rw [List.drop_eq_getElem_cons h]
  simp [fi, List.getD_eq_getElem?_getD, h]

noncomputable def orcWhen : Orc
  | [.bool b, .int .i64 e], [] => some (.int .i64 (wh b e), [])
  | _, _ => none
noncomputable def orcFirst : Orc
  | [.slice (some ⟨0, 0, none⟩) n _c], [some (.row cells es more rw true)] =>
    match intsOf cells with
    | some l => if n = l.length ∧ n < 1000 then some (.int .i64 (fi l), [some (.row cells es more rw true)]) else none
    | none => none
  | _, _ => none

noncomputable def c0 : CallF := ctx Tryz.prog []
theorem c0_ok : CallOK Tryz.prog c0 := ctx_ok hm all_nil
noncomputable def h0 : Hs Tryz.prog := {au := au0 Tryz.prog}
theorem when_t (b : Bool) (e : Int) (K : Value → Heap → Prop) :
    (fnP Tryz.prog c0 h0 (109 : FuncId) [Value.bool b, Value.int IntKind.i64 e] [] K) =
    (br b (K (Value.int IntKind.i64 e) noH) (K (Value.int IntKind.i64 (0 : Int)) noH)) := by kernel_rfl
theorem okWhen : Ok Tryz.prog 109 orcWhen := by
  intro args H ret H' h
  unfold orcWhen at h
  split at h
  · cases h
    refine fnP_res hm c0_ok (hs := h0) ?_
    rw [when_t]
    exact br_of (fun h => by simp [wh, h]) (fun h => by simp [wh, h])
  · cases h
noncomputable def lpFirst (l : List Int) (n c es : Nat) (more rw : Bool) : Lp where
  σ := Nat
  E i := slots 15 [(5, .slice (some ⟨0, 0, none⟩) n c), (6, .int .i64 (Int.ofNat n)), (7, .int .i64 (Int.ofNat i))]
  Hp _ := [some (.row (ints l) es more rw true)]
  I i := i ≤ l.length ∧ fi (l.drop i) = fi l
  m i := l.length - i
noncomputable def hFirst (l : List Int) (n c es : Nat) (more rw : Bool) : Hs Tryz.prog where
  op k := if k = 300 then some (hIa Tryz.prog) else if k = 301 then some (hLd Tryz.prog fun off => .int .i64 (l.getD off 0)) else none
  lp _ := some (lpFirst l n c es more rw)
  cl _ := keep 15 [5, 6, 7]
theorem first_t (l : List Int) (n : Nat) (c : Nat) (es : Nat) (more : Bool) (rw : Bool) (K : Value → Heap → Prop) :
    (fnP Tryz.prog c0 (hFirst l n c es more rw) (107 : FuncId) [Value.slice (some { block := (0 : Nat), off := (0 : Nat) }) n c] [some (AObj.row (ints l) es more rw true)] K) =
    ((∃ s, Is (s ≤ List.length l ∧ fi (List.drop s l) = fi l) ∧ [poi, poi, poi, poi, poi, Value.slice (some { block := (0 : Nat), off := (0 : Nat) }) n c, Value.int IntKind.i64 (↑n : Int), Value.int IntKind.i64 (0 : Int), poi, poi, poi, poi, poi, poi, poi] = [poi, poi, poi, poi, poi, Value.slice (some { block := (0 : Nat), off := (0 : Nat) }) n c, Value.int IntKind.i64 (↑n : Int), Value.int IntKind.i64 (↑s : Int), poi, poi, poi, poi, poi, poi, poi] ∧ some (AObj.row (ints l) es more rw true) :: noH = some (AObj.row (ints l) es more rw true) :: noH) ∧ ∀ (s : Nat), Is (s ≤ List.length l ∧ fi (List.drop s l) = fi l) → br (decide ((↑s : Int) < (↑n : Int))) (Is ((0 : Int) ≤ (↑s : Int) ∧ (↑s : Int) < (↑n : Int)) ∧ Is ((ints l)[(0 : Nat) + Int.toNat (↑s : Int) * (1 : Nat)]? = some (Value.int IntKind.i64 (List.getD l ((0 : Nat) + Int.toNat (↑s : Int) * (1 : Nat)) (0 : Int)))) ∧ br (List.getD l ((0 : Nat) + Int.toNat (↑s : Int) * (1 : Nat)) (0 : Int) != (0 : Int)) (K (Value.int IntKind.i64 (List.getD l ((0 : Nat) + Int.toNat (↑s : Int) * (1 : Nat)) (0 : Int))) (some (AObj.row (ints l) es more rw true) :: noH)) (∃ s', Is (s' ≤ List.length l ∧ fi (List.drop s' l) = fi l) ∧ Is (List.length l - s' < List.length l - s) ∧ [poi, poi, poi, poi, poi, Value.slice (some { block := (0 : Nat), off := (0 : Nat) }) n c, Value.int IntKind.i64 (↑n : Int), Value.int IntKind.i64 (IntKind.wrap IntKind.i64 ((↑s : Int) + (1 : Int))), poi, poi, poi, poi, poi, poi, poi] = [poi, poi, poi, poi, poi, Value.slice (some { block := (0 : Nat), off := (0 : Nat) }) n c, Value.int IntKind.i64 (↑n : Int), Value.int IntKind.i64 (↑s' : Int), poi, poi, poi, poi, poi, poi, poi] ∧ some (AObj.row (ints l) es more rw true) :: noH = some (AObj.row (ints l) es more rw true) :: noH)) (K (Value.int IntKind.i64 (0 : Int)) (some (AObj.row (ints l) es more rw true) :: noH))) := by kernel_rfl

theorem okFirst : Ok Tryz.prog 107 orcFirst := by
  intro args H ret H' h
  unfold orcFirst at h
  split at h
  · rename_i n c cells es more rw
    split at h
    · rename_i l hl
      split at h
      · rename_i hn
        cases h
        have := intsOf_eq hl
        subst this
        obtain ⟨hn, hlt⟩ := hn
        subst hn
        refine fnP_res hm c0_ok (hs := hFirst l l.length c es more rw) ?_
        rw [first_t]
        refine ⟨⟨(0 : Nat), ⟨by simp, by simp⟩, rfl, rfl⟩, fun s hs => ?_⟩
        obtain ⟨h1, h2⟩ := hs.out
        refine br_of (fun hc => ?_) (fun hc => ?_)
        · have hc : s < l.length := by simpa using hc
          refine ⟨⟨by omega, by omega⟩, ⟨by simpa using ints_at hc⟩, br_of (fun hd => ?_) (fun hd => ?_)⟩
          · have := fi_drop hc
            have hd' : l.getD s 0 ≠ 0 := by simpa using hd
            rw [if_neg hd'] at this
            simp [← h2, this]
          · have := fi_drop hc
            have hd' : l.getD s 0 = 0 := by simpa using hd
            rw [if_pos hd'] at this
            refine ⟨s + 1, ⟨hc, by rw [← this, h2]⟩, ⟨by omega⟩, ?_, rfl⟩
            rw [wrap_eq (by omega) (by omega)]
            rfl
        · have hc : l.length ≤ s := by simpa using hc
          have : s = l.length := by omega
          subst this
          simp [← h2, fi]
      · cases h
    · cases h
  · cases h

noncomputable def orcWithin : Orc
  | [.int .i64 n, .int .i64 lo, .int .i64 hi], [] => some (.int .i64 (wi n lo hi), [])
  | _, _ => none
noncomputable def t1 : List (Nat × Orc) := [(109, orcWhen), (107, orcFirst)]
theorem t1_all : ∀ p ∈ t1, Ok Tryz.prog p.1 p.2 := all_cons okWhen (all_cons okFirst all_nil)
noncomputable def c1 : CallF := ctx Tryz.prog t1
theorem c1_ok : CallOK Tryz.prog c1 := ctx_ok hm t1_all
theorem within_t (n : Int) (lo : Int) (hi : Int) (K : Value → Heap → Prop) :
    (fnP Tryz.prog c1 h0 (122 : FuncId) [Value.int IntKind.i64 n, Value.int IntKind.i64 lo, Value.int IntKind.i64 hi] [] K) =
    (br (decide (n < lo)) (K (Value.int IntKind.i64 (3 : Int)) noH) (K (Value.int IntKind.i64 (wh (decide (hi < n)) (3 : Int))) noH)) := by kernel_rfl
theorem okWithin : Ok Tryz.prog 122 orcWithin := by
  intro args H ret H' h
  unfold orcWithin at h
  split at h
  · cases h
    refine fnP_res hm c1_ok (hs := h0) ?_
    rw [within_t]
    exact br_of (fun h => by simp [wi, of_decide_eq_true h]) (fun h => by simp [wi, wh, of_decide_eq_false h])
  · cases h
noncomputable def t2 : List (Nat × Orc) := (122, orcWithin) :: t1
theorem t2_all : ∀ p ∈ t2, Ok Tryz.prog p.1 p.2 := all_cons okWithin t1_all
noncomputable def c2 : CallF := ctx Tryz.prog t2
theorem c2_ok : CallOK Tryz.prog c2 := ctx_ok hm t2_all
/-- CheckMoments. -/
noncomputable def ckM (n a b : Int) : Int :=
  sel (fi [wi n 0 4096, wi a (W (W (0 - n) * 16384)) (W (n * 16384)), wi b 0 (W (n * 268435456))]) (wh (decide (W (n * b) < W (a * a))) 24)
noncomputable def orcCkM : Orc
  | [.agg ⟨[.int .i64 n, .int .i64 a, .int .i64 b]⟩], [] => some (.int .i64 (ckM n a b), [])
  | _, _ => none
theorem checkM_t (n : Int) (a : Int) (b : Int) (K : Value → Heap → Prop) :
    (fnP Tryz.prog c2 h0 (82 : FuncId) [Value.agg #[Value.int IntKind.i64 n, Value.int IntKind.i64 a, Value.int IntKind.i64 b]] [] K) =
    (br (fi [wi n (0 : Int) (4096 : Int), wi a (IntKind.wrap IntKind.i64 (IntKind.wrap IntKind.i64 ((0 : Int) - n) * (16384 : Int))) (IntKind.wrap IntKind.i64 (n * (16384 : Int))), wi b (0 : Int) (IntKind.wrap IntKind.i64 (n * (268435456 : Int)))] != (0 : Int)) (K (Value.int IntKind.i64 (fi [wi n (0 : Int) (4096 : Int), wi a (IntKind.wrap IntKind.i64 (IntKind.wrap IntKind.i64 ((0 : Int) - n) * (16384 : Int))) (IntKind.wrap IntKind.i64 (n * (16384 : Int))), wi b (0 : Int) (IntKind.wrap IntKind.i64 (n * (268435456 : Int)))])) noH) (K (Value.int IntKind.i64 (wh (decide (IntKind.wrap IntKind.i64 (n * b) < IntKind.wrap IntKind.i64 (a * a))) (24 : Int))) noH)) := by kernel_rfl
theorem okCkM : Ok Tryz.prog 82 orcCkM := by
  intro args H ret H' h
  unfold orcCkM at h
  split at h
  · cases h
    refine fnP_res hm c2_ok (hs := h0) ?_
    rw [checkM_t]
    exact br_of (fun h => ⟨by simp only [ckM, sel]; rw [if_neg (by simpa using h)], rfl⟩) (fun h => ⟨by simp only [ckM, sel]; rw [if_pos (by simpa using h)], rfl⟩)
  · cases h
noncomputable def t3 : List (Nat × Orc) := (82, orcCkM) :: t2
theorem t3_all : ∀ p ∈ t3, Ok Tryz.prog p.1 p.2 := all_cons okCkM t2_all
noncomputable def c3 : CallF := ctx Tryz.prog t3
theorem c3_ok : CallOK Tryz.prog c3 := ctx_ok hm t3_all
/-- The loop of quotients in lowest terms. -/
noncomputable def lpLow (num den : Int) (g : Nat) : Lp where
  σ := Nat × Nat
  E s := slots 25 [(0, .int .i64 num), (1, .int .i64 den), (4, .pointer (some ⟨0, 0, none⟩)), (5, .int .i64 (Int.ofNat s.1)), (6, .int .i64 (Int.ofNat s.2))]
  Hp _ := [some (.row [.int .i64 0, .int .i64 0] 0 false true true)]
  I s := Nat.gcd s.1 s.2 = g ∧ s.1 < 9223372036854775808 ∧ s.2 < 9223372036854775808
  m s := s.2
noncomputable def hLow (num den : Int) (g : Nat) : Hs Tryz.prog where
  lp _ := some (lpLow num den g)
  cl _ := keep 25 [0, 1, 4, 5, 6]
  au := au0 Tryz.prog
theorem low_t (num : Int) (den : Int) (g : Nat) (K : Value → Heap → Prop) :
    (fnP Tryz.prog c3 (hLow num den g) (131 : FuncId) [Value.int IntKind.i64 num, Value.int IntKind.i64 den] [] K) =
    ((∃ s, Is (Nat.gcd (Prod.fst s) (Prod.snd s) = g ∧ Prod.fst s < (9223372036854775808 : Nat) ∧ Prod.snd s < (9223372036854775808 : Nat)) ∧ [Value.int IntKind.i64 num, Value.int IntKind.i64 den, poi, poi, Value.pointer (some { block := (0 : Nat), off := (0 : Nat) }), Value.int IntKind.i64 (if IntKind.wrap IntKind.i64 ((0 : Int) - num) > num then IntKind.wrap IntKind.i64 ((0 : Int) - num) else num), Value.int IntKind.i64 den, poi, poi, poi, poi, poi, poi, poi, poi, poi, poi, poi, poi, poi, poi, poi, poi, poi, poi] = [Value.int IntKind.i64 num, Value.int IntKind.i64 den, poi, poi, Value.pointer (some { block := (0 : Nat), off := (0 : Nat) }), Value.int IntKind.i64 (↑(Prod.fst s) : Int), Value.int IntKind.i64 (↑(Prod.snd s) : Int), poi, poi, poi, poi, poi, poi, poi, poi, poi, poi, poi, poi, poi, poi, poi, poi, poi, poi] ∧ some (AObj.row [Value.int IntKind.i64 (0 : Int), Value.int IntKind.i64 (0 : Int)] (0 : Nat) false true true) :: noH = some (AObj.row [Value.int IntKind.i64 (0 : Int), Value.int IntKind.i64 (0 : Int)] (0 : Nat) false true true) :: noH) ∧ ∀ (s : Nat × Nat), Is (Nat.gcd (Prod.fst s) (Prod.snd s) = g ∧ Prod.fst s < (9223372036854775808 : Nat) ∧ Prod.snd s < (9223372036854775808 : Nat)) → br ((↑(Prod.snd s) : Int) != (0 : Int)) (Is ((↑(Prod.snd s) : Int) ≠ (0 : Int)) ∧ ∃ s', Is (Nat.gcd (Prod.fst s') (Prod.snd s') = g ∧ Prod.fst s' < (9223372036854775808 : Nat) ∧ Prod.snd s' < (9223372036854775808 : Nat)) ∧ Is (Prod.snd s' < Prod.snd s) ∧ [Value.int IntKind.i64 num, Value.int IntKind.i64 den, poi, poi, Value.pointer (some { block := (0 : Nat), off := (0 : Nat) }), Value.int IntKind.i64 (↑(Prod.snd s) : Int), Value.int IntKind.i64 (Int.tmod (↑(Prod.fst s) : Int) (↑(Prod.snd s) : Int)), poi, poi, poi, poi, poi, poi, poi, poi, poi, poi, poi, poi, poi, poi, poi, poi, poi, poi] = [Value.int IntKind.i64 num, Value.int IntKind.i64 den, poi, poi, Value.pointer (some { block := (0 : Nat), off := (0 : Nat) }), Value.int IntKind.i64 (↑(Prod.fst s') : Int), Value.int IntKind.i64 (↑(Prod.snd s') : Int), poi, poi, poi, poi, poi, poi, poi, poi, poi, poi, poi, poi, poi, poi, poi, poi, poi, poi] ∧ some (AObj.row [Value.int IntKind.i64 (0 : Int), Value.int IntKind.i64 (0 : Int)] (0 : Nat) false true true) :: noH = some (AObj.row [Value.int IntKind.i64 (0 : Int), Value.int IntKind.i64 (0 : Int)] (0 : Nat) false true true) :: noH) (Is ((↑(Prod.fst s) : Int) ≠ (0 : Int)) ∧ Is ((↑(Prod.fst s) : Int) ≠ (0 : Int)) ∧ K (Value.agg #[Value.int IntKind.i64 (IntKind.wrap IntKind.i64 (Int.tdiv num (↑(Prod.fst s) : Int))), Value.int IntKind.i64 (IntKind.wrap IntKind.i64 (Int.tdiv den (↑(Prod.fst s) : Int)))]) noH)) := by kernel_rfl

theorem max_abs {n : Int} (h1 : -9223372036854775808 < n) (h2 : n < 9223372036854775808) : (if W (0 - n) > n then W (0 - n) else n) = (n.natAbs : Int) := by
  rw [W, wrap_eq (by omega) (by omega)]
  split <;> omega
theorem gcd_step {a b : Nat} : Nat.gcd b (a % b) = Nat.gcd a b := by
  rw [Nat.gcd_comm a b, Nat.gcd_rec b a, Nat.gcd_comm]
noncomputable def lowN (num den : Int) : Int := W (num.tdiv (Nat.gcd num.natAbs den.natAbs))
noncomputable def lowD (num den : Int) : Int := W (den.tdiv (Nat.gcd num.natAbs den.natAbs))
noncomputable def orcLow : OrcV
  | [.int .i64 num, .int .i64 den], [] => some (.agg #[.int .i64 (lowN num den), .int .i64 (lowD num den)], [], 0 < den ∧ den < 9223372036854775808 ∧ -9223372036854775808 < num ∧ num < 9223372036854775808)
  | _, _ => none
theorem okLow : OkV Tryz.prog 131 orcLow := by
  intro args H ret H' vc h hv
  unfold orcLow at h
  split at h
  · rename_i num den
    cases h
    obtain ⟨v1, v2, v3, v4⟩ := hv
    refine fnP_res hm c3_ok (hs := hLow num den (Nat.gcd num.natAbs den.natAbs)) ?_
    rw [low_t]
    refine ⟨⟨(num.natAbs, den.natAbs), ⟨rfl, by simp; omega, by simp; omega⟩, ?_, rfl⟩, fun s hs => ?_⟩
    · rw [max_abs v3 v4]
      have : ((den.natAbs : Nat) : Int) = den := by omega
      simp only [this]
    · obtain ⟨i1, i2, i3⟩ := hs.out
      refine br_of (fun hc => ?_) (fun hc => ?_)
      · have hc : s.2 ≠ 0 := by simpa using hc
        refine ⟨⟨by omega⟩, (s.2, s.1 % s.2), ⟨by rw [← i1]; exact gcd_step, i3, ?_⟩, ⟨Nat.mod_lt _ (by omega)⟩, ?_, rfl⟩
        · have := Nat.mod_lt s.1 (show 0 < s.2 by omega); show s.1 % s.2 < _; omega
        · rfl
      · have hc : s.2 = 0 := by simpa using hc
        rw [hc, Nat.gcd_zero_right] at i1
        have hg : 0 < Nat.gcd num.natAbs den.natAbs := Nat.gcd_pos_of_pos_right _ (by omega)
        refine ⟨⟨by rw [i1]; omega⟩, ⟨by rw [i1]; omega⟩, ?_, rfl⟩
        rw [i1]; rfl
  · cases h

/-! ### Plain facts -/
theorem fi_zero : ∀ {l : List Int}, fi l = 0 ↔ ∀ e ∈ l, e = 0
  | [] => by simp [fi]
  | e :: r => by
    simp only [fi, List.mem_cons, forall_eq_or_imp]
    split
    · rename_i h; rw [fi_zero (l := r)]; simp [h]
    · rename_i h; simp [h]
theorem wi_zero {n lo hi : Int} : wi n lo hi = 0 ↔ lo ≤ n ∧ n ≤ hi := by
  unfold wi
  split <;> omega
theorem wh_zero {b : Bool} {e : Int} (he : e ≠ 0) : wh b e = 0 ↔ b = false := by
  cases b <;> simp [wh, he]
theorem sel_zero {e d : Int} : sel e d = 0 ↔ e = 0 ∧ d = 0 := by
  unfold sel
  split <;> simp_all
theorem mul_le {a b A B : Int} (h1 : 0 ≤ a) (h2 : a ≤ A) (h3 : 0 ≤ b) (h4 : b ≤ B) : 0 ≤ a * b ∧ a * b ≤ A * B :=
  ⟨Int.mul_nonneg h1 h3, Int.mul_le_mul h2 h4 h3 (by omega)⟩

/-- Moments that pass. -/
structure MomOK (n a b : Int) : Prop where
  n0 : 0 ≤ n
  n1 : n ≤ 4096
  a0 : -(n * 16384) ≤ a
  a1 : a ≤ n * 16384
  b0 : 0 ≤ b
  b1 : b ≤ n * 268435456
  ab : a * a ≤ n * b
  aa : a * a ≤ 4503599627370496
  nb : n * b ≤ 4503599627370496
  nb0 : 0 ≤ n * b
  aa0 : 0 ≤ a * a

noncomputable def ifz (e x : Int) : Int := if e = 0 then x else 0
noncomputable def addE (n a b m c d : Int) : Int := sel (fi [ckM n a b, ckM m c d]) (wh (decide (4096 < W (n + m))) 5)
noncomputable def orcAdd : Orc
  | [.agg ⟨[.int .i64 n, .int .i64 a, .int .i64 b]⟩, .agg ⟨[.int .i64 m, .int .i64 c, .int .i64 d]⟩], [] =>
    some (.tuple #[.agg #[.int .i64 (ifz (addE n a b m c d) (W (n + m))), .int .i64 (ifz (addE n a b m c d) (W (a + c))), .int .i64 (ifz (addE n a b m c d) (W (b + d)))], .int .i64 (addE n a b m c d)], [])
  | _, _ => none
noncomputable def orcVari : Orc
  | [.agg ⟨[.int .i64 n, .int .i64 a, .int .i64 b]⟩], [] => some (.tuple #[.int .i64 (W (W (n * b) - W (a * a))), .int .i64 (W (n * n))], [])
  | _, _ => none
noncomputable def t4 : List (Nat × Orc) := (77, orcAdd) :: (166, orcVari) :: t3
noncomputable def c4 : CallF := ctx Tryz.prog t4
noncomputable def h4 : Hs Tryz.prog := {au := auCalls [(131, hCa Tryz.prog 131 orcLow okLow)]}
theorem ckM_var {n a b : Int} (h : MomOK n a b) (hn : n ≠ 0) : W (n * n) = n * n ∧ 0 < n * n ∧ n * n ≤ 16777216 ∧ W (W (n * b) - W (a * a)) = n * b - a * a := by
  have e5 : W (n * b) = n * b := wrap_eq (by have := h.nb0; omega) (by have := h.nb; omega)
  have e6 : W (a * a) = a * a := wrap_eq (by have := h.aa0; omega) (by have := h.aa; omega)
  have q := mul_le (a := n) (b := n) (A := 4096) (B := 4096) h.n0 h.n1 h.n0 h.n1
  have q0 : 0 < n * n := Int.mul_pos (by have := h.n0; omega) (by have := h.n0; omega)
  rw [e5, e6]
  exact ⟨wrap_eq (by omega) (by omega), q0, by omega, wrap_eq (by have := h.nb0; have := h.aa; omega) (by have := h.nb; have := h.aa0; omega)⟩

noncomputable def varE (n a b : Int) : Int := fi [ckM n a b, wh (n == 0) 12]
noncomputable def varN (n a b : Int) : Int := lowN (W (W (n * b) - W (a * a))) (W (n * n))
noncomputable def varD (n a b : Int) : Int := lowD (W (W (n * b) - W (a * a))) (W (n * n))
noncomputable def orcVar : Orc
  | [.agg ⟨[.int .i64 n, .int .i64 a, .int .i64 b]⟩], [] => some (.tuple #[.agg #[.int .i64 (ifz (varE n a b) (varN n a b)), .int .i64 (ifz (varE n a b) (varD n a b))], .int .i64 (varE n a b)], [])
  | _, _ => none
/-! ### The reference -/
theorem whenR_t (b : Bool) (e : Int) (K : Value → Heap → Prop) :
    (fnP Tryz.prog c0 h0 (53 : FuncId) [Value.bool b, Value.int IntKind.i64 e] [] K) =
    (br b (K (Value.int IntKind.i64 e) noH) (K (Value.int IntKind.i64 (0 : Int)) noH)) := by kernel_rfl
theorem okWhenR : Ok Tryz.prog 53 orcWhen := by
  intro args H ret H' h
  unfold orcWhen at h
  split at h
  · cases h
    refine fnP_res hm c0_ok (hs := h0) ?_
    rw [whenR_t]
    exact br_of (fun h => by simp [wh, h]) (fun h => by simp [wh, h])
  · cases h
noncomputable def lpFirstR (l : List Int) (n c es : Nat) (more rw : Bool) : Lp where
  σ := Nat
  E i := slots 19 [(0, .slice (some ⟨0, 0, none⟩) n c), (3, .int .i64 (Int.ofNat i))]
  Hp _ := [some (.row (ints l) es more rw true)]
  I i := i ≤ l.length ∧ fi (l.drop i) = fi l
  m i := l.length - i
noncomputable def hFirstR (l : List Int) (n c es : Nat) (more rw : Bool) : Hs Tryz.prog where
  op k := if k = 402 then some (hIa Tryz.prog) else if k = 502 then some (hIa Tryz.prog) else if k = 403 then some (hLd Tryz.prog fun off => .int .i64 (l.getD off 0)) else if k = 503 then some (hLd Tryz.prog fun off => .int .i64 (l.getD off 0)) else none
  lp _ := some (lpFirstR l n c es more rw)
  cl _ := keep 19 [0, 3]
theorem firstR_t (l : List Int) (n : Nat) (c : Nat) (es : Nat) (more : Bool) (rw : Bool) (K : Value → Heap → Prop) :
    (fnP Tryz.prog c0 (hFirstR l n c es more rw) (28 : FuncId) [Value.slice (some { block := (0 : Nat), off := (0 : Nat) }) n c] [some (AObj.row (ints l) es more rw true)] K) =
    ((∃ s, Is (s ≤ List.length l ∧ fi (List.drop s l) = fi l) ∧ [Value.slice (some { block := (0 : Nat), off := (0 : Nat) }) n c, poi, poi, Value.int IntKind.i64 (0 : Int), poi, poi, poi, poi, poi, poi, poi, poi, poi, poi, poi, poi, poi, poi, poi] = [Value.slice (some { block := (0 : Nat), off := (0 : Nat) }) n c, poi, poi, Value.int IntKind.i64 (↑s : Int), poi, poi, poi, poi, poi, poi, poi, poi, poi, poi, poi, poi, poi, poi, poi] ∧ some (AObj.row (ints l) es more rw true) :: noH = some (AObj.row (ints l) es more rw true) :: noH) ∧ ∀ (s : Nat), Is (s ≤ List.length l ∧ fi (List.drop s l) = fi l) → br (decide ((↑s : Int) < (↑n : Int))) (Is ((0 : Int) ≤ (↑s : Int) ∧ (↑s : Int) < (↑n : Int)) ∧ Is ((ints l)[(0 : Nat) + Int.toNat (↑s : Int) * (1 : Nat)]? = some (Value.int IntKind.i64 (List.getD l ((0 : Nat) + Int.toNat (↑s : Int) * (1 : Nat)) (0 : Int)))) ∧ br (List.getD l ((0 : Nat) + Int.toNat (↑s : Int) * (1 : Nat)) (0 : Int) != (0 : Int)) (Is ((0 : Int) ≤ (↑s : Int) ∧ (↑s : Int) < (↑n : Int)) ∧ Is ((ints l)[(0 : Nat) + Int.toNat (↑s : Int) * (1 : Nat)]? = some (Value.int IntKind.i64 (List.getD l ((0 : Nat) + Int.toNat (↑s : Int) * (1 : Nat)) (0 : Int)))) ∧ K (Value.int IntKind.i64 (List.getD l ((0 : Nat) + Int.toNat (↑s : Int) * (1 : Nat)) (0 : Int))) (some (AObj.row (ints l) es more rw true) :: noH)) (∃ s', Is (s' ≤ List.length l ∧ fi (List.drop s' l) = fi l) ∧ Is (List.length l - s' < List.length l - s) ∧ [Value.slice (some { block := (0 : Nat), off := (0 : Nat) }) n c, poi, poi, Value.int IntKind.i64 (IntKind.wrap IntKind.i64 ((↑s : Int) + (1 : Int))), poi, poi, poi, poi, poi, poi, poi, poi, poi, poi, poi, poi, poi, poi, poi] = [Value.slice (some { block := (0 : Nat), off := (0 : Nat) }) n c, poi, poi, Value.int IntKind.i64 (↑s' : Int), poi, poi, poi, poi, poi, poi, poi, poi, poi, poi, poi, poi, poi, poi, poi] ∧ some (AObj.row (ints l) es more rw true) :: noH = some (AObj.row (ints l) es more rw true) :: noH)) (K (Value.int IntKind.i64 (0 : Int)) (some (AObj.row (ints l) es more rw true) :: noH))) := by kernel_rfl
theorem okFirstR : Ok Tryz.prog 28 orcFirst := by
  intro args H ret H' h
  unfold orcFirst at h
  split at h
  · rename_i n c cells es more rw
    split at h
    · rename_i l hl
      split at h
      · rename_i hn
        cases h
        have := intsOf_eq hl
        subst this
        obtain ⟨hn, hlt⟩ := hn
        subst hn
        refine fnP_res hm c0_ok (hs := hFirstR l l.length c es more rw) ?_
        rw [firstR_t]
        refine ⟨⟨(0 : Nat), ⟨by simp, by simp⟩, rfl, rfl⟩, fun s hs => ?_⟩
        obtain ⟨h1, h2⟩ := hs.out
        refine br_of (fun hc => ?_) (fun hc => ?_)
        · have hc : s < l.length := by simpa using hc
          have hat := ints_at hc
          refine ⟨⟨by omega, by omega⟩, ⟨by simpa using hat⟩, br_of (fun hd => ?_) (fun hd => ?_)⟩
          · have := fi_drop hc
            have hd' : l.getD s 0 ≠ 0 := by simpa using hd
            rw [if_neg hd'] at this
            refine ⟨⟨by omega, by omega⟩, ⟨by simpa using hat⟩, ?_⟩
            simp [← h2, this]
          · have := fi_drop hc
            have hd' : l.getD s 0 = 0 := by simpa using hd
            rw [if_pos hd'] at this
            refine ⟨s + 1, ⟨hc, by rw [← this, h2]⟩, ⟨by omega⟩, ?_, rfl⟩
            rw [wrap_eq (by omega) (by omega)]
            rfl
        · have hc : l.length ≤ s := by simpa using hc
          have : s = l.length := by omega
          subst this
          simp [← h2, fi]
      · cases h
    · cases h
  · cases h
noncomputable def r1 : List (Nat × Orc) := [(53, orcWhen), (28, orcFirst)]
theorem r1_all : ∀ p ∈ r1, Ok Tryz.prog p.1 p.2 := all_cons okWhenR (all_cons okFirstR all_nil)
noncomputable def cr1 : CallF := ctx Tryz.prog r1
theorem cr1_ok : CallOK Tryz.prog cr1 := ctx_ok hm r1_all
theorem rangeR_t (n : Int) (lo : Int) (hi : Int) (K : Value → Heap → Prop) :
    (fnP Tryz.prog cr1 h0 (29 : FuncId) [Value.int IntKind.i64 n, Value.int IntKind.i64 lo, Value.int IntKind.i64 hi] [] K) =
    (br (decide (n < lo)) (K (Value.int IntKind.i64 (3 : Int)) noH) (K (Value.int IntKind.i64 (wh (decide (hi < n)) (3 : Int))) noH)) := by kernel_rfl
theorem okRangeR : Ok Tryz.prog 29 orcWithin := by
  intro args H ret H' h
  unfold orcWithin at h
  split at h
  · cases h
    refine fnP_res hm cr1_ok (hs := h0) ?_
    rw [rangeR_t]
    exact br_of (fun h => by simp [wi, of_decide_eq_true h]) (fun h => by simp [wi, wh, of_decide_eq_false h])
  · cases h
noncomputable def r2 : List (Nat × Orc) := (29, orcWithin) :: r1
theorem r2_all : ∀ p ∈ r2, Ok Tryz.prog p.1 p.2 := all_cons okRangeR r1_all
noncomputable def cr2 : CallF := ctx Tryz.prog r2
theorem cr2_ok : CallOK Tryz.prog cr2 := ctx_ok hm r2_all
noncomputable def lpDiv (g : Nat) : Lp where
  σ := Nat × Nat
  E s := slots 20 [(0, .int .i64 (Int.ofNat s.1)), (1, .int .i64 (Int.ofNat s.2))]
  Hp _ := []
  I s := Nat.gcd s.1 s.2 = g ∧ s.1 < 9223372036854775808 ∧ s.2 < 9223372036854775808
  m s := s.2
noncomputable def hDiv (g : Nat) : Hs Tryz.prog where
  lp _ := some (lpDiv g)
  cl _ := keep 20 [0, 1]
  au := au0 Tryz.prog
theorem div_t (a : Int) (b : Int) (g : Nat) (K : Value → Heap → Prop) :
    (fnP Tryz.prog cr2 (hDiv g) (165 : FuncId) [Value.int IntKind.i64 a, Value.int IntKind.i64 b] [] K) =
    ((∃ s, Is (Nat.gcd (Prod.fst s) (Prod.snd s) = g ∧ Prod.fst s < (9223372036854775808 : Nat) ∧ Prod.snd s < (9223372036854775808 : Nat)) ∧ [Value.int IntKind.i64 (if IntKind.wrap IntKind.i64 ((0 : Int) - a) > a then IntKind.wrap IntKind.i64 ((0 : Int) - a) else a), Value.int IntKind.i64 (if IntKind.wrap IntKind.i64 ((0 : Int) - b) > b then IntKind.wrap IntKind.i64 ((0 : Int) - b) else b), poi, poi, poi, poi, poi, poi, poi, poi, poi, poi, poi, poi, poi, poi, poi, poi, poi, poi] = [Value.int IntKind.i64 (↑(Prod.fst s) : Int), Value.int IntKind.i64 (↑(Prod.snd s) : Int), poi, poi, poi, poi, poi, poi, poi, poi, poi, poi, poi, poi, poi, poi, poi, poi, poi, poi] ∧ noH = noH) ∧ ∀ (s : Nat × Nat), Is (Nat.gcd (Prod.fst s) (Prod.snd s) = g ∧ Prod.fst s < (9223372036854775808 : Nat) ∧ Prod.snd s < (9223372036854775808 : Nat)) → br (decide ((0 : Int) < (↑(Prod.snd s) : Int))) (Is ((↑(Prod.snd s) : Int) ≠ (0 : Int)) ∧ ∃ s', Is (Nat.gcd (Prod.fst s') (Prod.snd s') = g ∧ Prod.fst s' < (9223372036854775808 : Nat) ∧ Prod.snd s' < (9223372036854775808 : Nat)) ∧ Is (Prod.snd s' < Prod.snd s) ∧ [Value.int IntKind.i64 (↑(Prod.snd s) : Int), Value.int IntKind.i64 (Int.tmod (↑(Prod.fst s) : Int) (↑(Prod.snd s) : Int)), poi, poi, poi, poi, poi, poi, poi, poi, poi, poi, poi, poi, poi, poi, poi, poi, poi, poi] = [Value.int IntKind.i64 (↑(Prod.fst s') : Int), Value.int IntKind.i64 (↑(Prod.snd s') : Int), poi, poi, poi, poi, poi, poi, poi, poi, poi, poi, poi, poi, poi, poi, poi, poi, poi, poi] ∧ noH = noH) (K (Value.int IntKind.i64 (↑(Prod.fst s) : Int)) noH)) := by kernel_rfl
end
end Qq
end
section
/- The reference's moments and quotients; the statement on moments. -/
open Go Go.Vm Go.Proofs Sp
namespace Qq
noncomputable section

noncomputable def orcDiv : OrcV
  | [.int .i64 a, .int .i64 b], [] => some (.int .i64 (Int.ofNat (Nat.gcd a.natAbs b.natAbs)), [], -9223372036854775808 < a ∧ a < 9223372036854775808 ∧ -9223372036854775808 < b ∧ b < 9223372036854775808)
  | _, _ => none
theorem okDiv : OkV Tryz.prog 165 orcDiv := by
  intro args H ret H' vc h hv
  unfold orcDiv at h
  split at h
  · rename_i a b
    cases h
    obtain ⟨v1, v2, v3, v4⟩ := hv
    refine fnP_res hm cr2_ok (hs := hDiv (Nat.gcd a.natAbs b.natAbs)) ?_
    rw [div_t]
    refine ⟨⟨(a.natAbs, b.natAbs), ⟨rfl, by simp; omega, by simp; omega⟩, ?_, rfl⟩, fun s hs => ?_⟩
    · rw [max_abs v1 v2, max_abs v3 v4]
    · obtain ⟨i1, i2, i3⟩ := hs.out
      refine br_of (fun hc => ?_) (fun hc => ?_)
      · have hc : 0 < s.2 := by simpa using hc
        refine ⟨⟨by omega⟩, (s.2, s.1 % s.2), ⟨by rw [← i1]; exact gcd_step, i3, ?_⟩, ⟨Nat.mod_lt _ (by omega)⟩, ?_, rfl⟩
        · have := Nat.mod_lt s.1 (show 0 < s.2 by omega); show s.1 % s.2 < _; omega
        · rfl
      · have hc : s.2 = 0 := by simpa using hc
        rw [hc, Nat.gcd_zero_right] at i1
        rw [i1]
        exact ⟨rfl, rfl⟩
  · cases h
noncomputable def h5 : Hs Tryz.prog := {au := auCalls [(165, hCa Tryz.prog 165 orcDiv okDiv)]}
theorem lowR_t (a : Int) (b : Int) (K : Value → Heap → Prop) :
    (fnP Tryz.prog cr2 h5 (72 : FuncId) [Value.int IntKind.i64 a, Value.int IntKind.i64 b] [] K) =
    (Is ((-9223372036854775808 : Int) < a ∧ a < (9223372036854775808 : Int) ∧ (-9223372036854775808 : Int) < b ∧ b < (9223372036854775808 : Int)) ∧ br (decide (b < (0 : Int))) (Is (IntKind.wrap IntKind.i64 ((0 : Int) - (↑(Nat.gcd (Int.natAbs a) (Int.natAbs b)) : Int)) ≠ (0 : Int)) ∧ Is (IntKind.wrap IntKind.i64 ((0 : Int) - (↑(Nat.gcd (Int.natAbs a) (Int.natAbs b)) : Int)) ≠ (0 : Int)) ∧ K (Value.agg #[Value.int IntKind.i64 (IntKind.wrap IntKind.i64 (Int.tdiv a (IntKind.wrap IntKind.i64 ((0 : Int) - (↑(Nat.gcd (Int.natAbs a) (Int.natAbs b)) : Int))))), Value.int IntKind.i64 (IntKind.wrap IntKind.i64 (Int.tdiv b (IntKind.wrap IntKind.i64 ((0 : Int) - (↑(Nat.gcd (Int.natAbs a) (Int.natAbs b)) : Int)))))]) noH) (Is ((↑(Nat.gcd (Int.natAbs a) (Int.natAbs b)) : Int) ≠ (0 : Int)) ∧ Is ((↑(Nat.gcd (Int.natAbs a) (Int.natAbs b)) : Int) ≠ (0 : Int)) ∧ K (Value.agg #[Value.int IntKind.i64 (IntKind.wrap IntKind.i64 (Int.tdiv a (↑(Nat.gcd (Int.natAbs a) (Int.natAbs b)) : Int))), Value.int IntKind.i64 (IntKind.wrap IntKind.i64 (Int.tdiv b (↑(Nat.gcd (Int.natAbs a) (Int.natAbs b)) : Int)))]) noH)) := by kernel_rfl
theorem okLowR : OkV Tryz.prog 72 orcLow := by
  intro args H ret H' vc h hv
  unfold orcLow at h
  split at h
  · rename_i num den
    cases h
    obtain ⟨v1, v2, v3, v4⟩ := hv
    refine fnP_res hm cr2_ok (hs := h5) ?_
    rw [lowR_t]
    refine ⟨⟨v3, v4, by omega, v2⟩, br_of (fun h => absurd (of_decide_eq_true h) (by omega)) (fun h => ?_)⟩
    have hg : 0 < Nat.gcd num.natAbs den.natAbs := Nat.gcd_pos_of_pos_right _ (by omega)
    exact ⟨⟨by omega⟩, ⟨by omega⟩, rfl, rfl⟩
  · cases h
/-- The reference's CheckMoments. -/
noncomputable def ckR (n a b : Int) : Int :=
  sel (wi n 0 4096) (sel (fi [wi a (W (0 - W (n * 16384))) (W (n * 16384)), wi b 0 (W (n * 268435456))]) (wh (decide (W (n * b) < W (a * a))) 24))
noncomputable def orcCkR : Orc
  | [.agg ⟨[.int .i64 n, .int .i64 a, .int .i64 b]⟩], [] => some (.int .i64 (ckR n a b), [])
  | _, _ => none
noncomputable def orcAddR : Orc
  | [.agg ⟨[.int .i64 n, .int .i64 a, .int .i64 b]⟩, .agg ⟨[.int .i64 m, .int .i64 c, .int .i64 d]⟩], [] =>
    some (.agg #[.int .i64 (W (n + m)), .int .i64 (W (a + c)), .int .i64 (W (b + d))], [])
  | _, _ => none
noncomputable def h6 : Hs Tryz.prog := {au := auCalls [(72, hCa Tryz.prog 72 orcLow okLowR)]}
theorem varR_t (n : Int) (a : Int) (b : Int) (K : Value → Heap → Prop) :
    (fnP Tryz.prog cr2 h6 (81 : FuncId) [Value.agg #[Value.int IntKind.i64 n, Value.int IntKind.i64 a, Value.int IntKind.i64 b]] [] K) =
    (Is ((0 : Int) < IntKind.wrap IntKind.i64 (n * n) ∧ IntKind.wrap IntKind.i64 (n * n) < (9223372036854775808 : Int) ∧ (-9223372036854775808 : Int) < IntKind.wrap IntKind.i64 (IntKind.wrap IntKind.i64 (n * b) - IntKind.wrap IntKind.i64 (a * a)) ∧ IntKind.wrap IntKind.i64 (IntKind.wrap IntKind.i64 (n * b) - IntKind.wrap IntKind.i64 (a * a)) < (9223372036854775808 : Int)) ∧ K (Value.agg #[Value.int IntKind.i64 (lowN (IntKind.wrap IntKind.i64 (IntKind.wrap IntKind.i64 (n * b) - IntKind.wrap IntKind.i64 (a * a))) (IntKind.wrap IntKind.i64 (n * n))), Value.int IntKind.i64 (lowD (IntKind.wrap IntKind.i64 (IntKind.wrap IntKind.i64 (n * b) - IntKind.wrap IntKind.i64 (a * a))) (IntKind.wrap IntKind.i64 (n * n)))]) noH) := by kernel_rfl
noncomputable def orcVarR : OrcV
  | [.agg ⟨[.int .i64 n, .int .i64 a, .int .i64 b]⟩], [] => some (.agg #[.int .i64 (varN n a b), .int .i64 (varD n a b)], [], MomOK n a b ∧ n ≠ 0)
  | _, _ => none
theorem okVarR : OkV Tryz.prog 81 orcVarR := by
  intro args H ret H' vc h hv
  unfold orcVarR at h
  split at h
  · rename_i n a b
    cases h
    obtain ⟨hk, hn⟩ := hv
    refine fnP_res hm cr2_ok (hs := h6) ?_
    rw [varR_t]
    obtain ⟨q1, q2, q3, q4⟩ := ckM_var hk hn
    simp only [W] at q1 q4
    refine ⟨⟨by omega, by omega, ?_, ?_⟩, rfl, rfl⟩
    · rw [q4]; have := hk.aa; have := hk.nb0; omega
    · rw [q4]; have := hk.nb; have := hk.aa0; omega
  · cases h
noncomputable def orcTrue : Orc
  | [], [] => some (.bool true, [])
  | _, _ => none
noncomputable def l1 : List (Nat × Orc) := [(18, orcTrue), (77, orcAdd), (78, orcVar), (82, orcCkM), (79, orcCkR), (80, orcAddR), (28, orcFirst), (53, orcWhen)]
noncomputable def h7 : Hs Tryz.prog := {au := auCalls [(81, hCa Tryz.prog 81 orcVarR okVarR)]}
end
end Qq
end
