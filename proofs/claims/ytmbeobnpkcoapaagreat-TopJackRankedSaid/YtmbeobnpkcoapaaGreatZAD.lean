/- Parts of the proof: QA, QB, QF, QG, QH, QI, YA, QO, QP, QT. -/
import Derived.Test.YtmbeobnpkcoapaaGreatZAC
import Derived.Test.YtmbeobnpkcoapaaGreatProg
import Derived.Laws.RangeString
import Derived.Laws.RangeAny
section
/- Contracts of the small functions of chapter 8: errors, ranges, moments, quotients in lowest terms. -/
open Go Go.Vm Go.Proofs Sp
namespace Qq
noncomputable section

theorem hm : Tryz.prog.follows .mixedOrders = true := by kernel_rfl
theorem ints_at {l : List Int} {i : Nat} (h : i < l.length) : (ints l)[i]? = some (.int .i64 (l.getD i 0)) := by
  simp [ints, List.getD_eq_getElem?_getD, h]
theorem fi_drop {l : List Int} {i : Nat} (h : i < l.length) : fi (l.drop i) = if l.getD i 0 = 0 then fi (l.drop (i + 1)) else l.getD i 0 := by
  rw [List.drop_eq_getElem_cons h]
  simp [fi, List.getD_eq_getElem?_getD, h]

noncomputable def orcWhen : Orc
  | [.bool b, .int .i64 e], [] => some (.int .i64 (wh b e), [])
  | _, _ => none
noncomputable def orcFirst : Orc
  | [.slice (some ⟨0, 0, none⟩) n _c], [some (.row cells es more rw true)] =>
    match intsOf cells with
    | some l => if n = l.length ∧ n < 1000 then some (.int .i64 (fi l), [some (.row cells es more rw true)]) else none
    | none => none
  | _, _ => none

noncomputable def c0 : CallF := ctx Tryz.prog []
theorem c0_ok : CallOK Tryz.prog c0 := ctx_ok hm all_nil
noncomputable def h0 : Hs Tryz.prog := {au := au0 Tryz.prog}
theorem when_t (b : Bool) (e : Int) (K : Value → Heap → Prop) :
    (fnP Tryz.prog c0 h0 (20 : FuncId) [Value.bool b, Value.int IntKind.i64 e] [] K) =
    (br b (K (Value.int IntKind.i64 e) noH) (K (Value.int IntKind.i64 (0 : Int)) noH)) := by kernel_rfl
theorem okWhen : Ok Tryz.prog 20 orcWhen := by
  intro args H ret H' h
  unfold orcWhen at h
  split at h
  · cases h
    refine fnP_res hm c0_ok (hs := h0) ?_
    rw [when_t]
    exact br_of (fun h => by simp [wh, h]) (fun h => by simp [wh, h])
  · cases h
noncomputable def lpFirst (l : List Int) (n c es : Nat) (more rw : Bool) : Lp where
  σ := Nat
  E i := slots 15 [(5, .slice (some ⟨0, 0, none⟩) n c), (6, .int .i64 (Int.ofNat n)), (7, .int .i64 (Int.ofNat i))]
  Hp _ := [some (.row (ints l) es more rw true)]
  I i := i ≤ l.length ∧ fi (l.drop i) = fi l
  m i := l.length - i
noncomputable def hFirst (l : List Int) (n c es : Nat) (more rw : Bool) : Hs Tryz.prog where
  op k := if k = 300 then some (hIa Tryz.prog) else if k = 301 then some (hLd Tryz.prog fun off => .int .i64 (l.getD off 0)) else none
  lp _ := some (lpFirst l n c es more rw)
  cl _ := keep 15 [5, 6, 7]
theorem first_t (l : List Int) (n : Nat) (c : Nat) (es : Nat) (more : Bool) (rw : Bool) (K : Value → Heap → Prop) :
    (fnP Tryz.prog c0 (hFirst l n c es more rw) (18 : FuncId) [Value.slice (some { block := (0 : Nat), off := (0 : Nat) }) n c] [some (AObj.row (ints l) es more rw true)] K) =
    ((∃ s, Is (s ≤ List.length l ∧ fi (List.drop s l) = fi l) ∧ [poi, poi, poi, poi, poi, Value.slice (some ⟨0, 0, none⟩) n c, Value.int .i64 (n : Int), Value.int .i64 0, poi, poi, poi, poi, poi, poi, poi] = [poi, poi, poi, poi, poi, Value.slice (some ⟨0, 0, none⟩) n c, Value.int .i64 (n : Int), Value.int .i64 (s : Int), poi, poi, poi, poi, poi, poi, poi] ∧ some (AObj.row (ints l) es more rw true) :: noH = some (AObj.row (ints l) es more rw true) :: noH) ∧ ∀ (s : Nat), Is (s ≤ List.length l ∧ fi (List.drop s l) = fi l) → br (decide ((s : Int) < (n : Int))) (Is ((0 : Int) ≤ (s : Int) ∧ (s : Int) < (n : Int)) ∧ Is ((ints l)[0 + Int.toNat (s : Int) * 1]? = some (Value.int .i64 (List.getD l (0 + Int.toNat (s : Int) * 1) (0 : Int)))) ∧ br (List.getD l (0 + Int.toNat (s : Int) * 1) (0 : Int) != (0 : Int)) (K (Value.int .i64 (List.getD l (0 + Int.toNat (s : Int) * 1) (0 : Int))) (some (AObj.row (ints l) es more rw true) :: noH)) (∃ s', Is (s' ≤ List.length l ∧ fi (List.drop s' l) = fi l) ∧ Is (List.length l - s' < List.length l - s) ∧ [poi, poi, poi, poi, poi, Value.slice (some ⟨0, 0, none⟩) n c, Value.int .i64 (n : Int), Value.int .i64 (IntKind.wrap .i64 ((s : Int) + (1 : Int))), poi, poi, poi, poi, poi, poi, poi] = [poi, poi, poi, poi, poi, Value.slice (some ⟨0, 0, none⟩) n c, Value.int .i64 (n : Int), Value.int .i64 (↑s' : Int), poi, poi, poi, poi, poi, poi, poi] ∧ some (AObj.row (ints l) es more rw true) :: noH = some (AObj.row (ints l) es more rw true) :: noH)) (K (Value.int .i64 0) (some (AObj.row (ints l) es more rw true) :: noH))) := by kernel_rfl

theorem okFirst : Ok Tryz.prog 18 orcFirst := by
  intro args H ret H' h
  unfold orcFirst at h
  split at h
  · rename_i n c cells es more rw
    split at h
    · rename_i l hl
      split at h
      · rename_i hn
        cases h
        have := intsOf_eq hl
        subst this
        obtain ⟨hn, hlt⟩ := hn
        subst hn
        refine fnP_res hm c0_ok (hs := hFirst l l.length c es more rw) ?_
        rw [first_t]
        refine ⟨⟨(0 : Nat), ⟨by simp, by simp⟩, rfl, rfl⟩, fun s hs => ?_⟩
        obtain ⟨h1, h2⟩ := hs.out
        refine br_of (fun hc => ?_) (fun hc => ?_)
        · have hc : s < l.length := by simpa using hc
          refine ⟨⟨by omega, by omega⟩, ⟨by simpa using ints_at hc⟩, br_of (fun hd => ?_) (fun hd => ?_)⟩
          · have := fi_drop hc
            have hd' : l.getD s 0 ≠ 0 := by simpa using hd
            rw [if_neg hd'] at this
            simp [← h2, this]
          · have := fi_drop hc
            have hd' : l.getD s 0 = 0 := by simpa using hd
            rw [if_pos hd'] at this
            refine ⟨s + 1, ⟨hc, by rw [← this, h2]⟩, ⟨by omega⟩, ?_, rfl⟩
            rw [wrap_eq (by omega) (by omega)]
            rfl
        · have hc : l.length ≤ s := by simpa using hc
          have : s = l.length := by omega
          subst this
          simp [← h2, fi]
      · cases h
    · cases h
  · cases h

noncomputable def orcWithin : Orc
  | [.int .i64 n, .int .i64 lo, .int .i64 hi], [] => some (.int .i64 (wi n lo hi), [])
  | _, _ => none
noncomputable def t1 : List (Nat × Orc) := [(20, orcWhen), (18, orcFirst)]
theorem t1_all : ∀ p ∈ t1, Ok Tryz.prog p.1 p.2 := all_cons okWhen (all_cons okFirst all_nil)
noncomputable def c1 : CallF := ctx Tryz.prog t1
theorem c1_ok : CallOK Tryz.prog c1 := ctx_ok hm t1_all
theorem within_t (n : Int) (lo : Int) (hi : Int) (K : Value → Heap → Prop) :
    (fnP Tryz.prog c1 h0 (49 : FuncId) [Value.int IntKind.i64 n, Value.int IntKind.i64 lo, Value.int IntKind.i64 hi] [] K) =
    (br (decide (n < lo)) (K (Value.int IntKind.i64 (3 : Int)) noH) (K (Value.int IntKind.i64 (wh (decide (hi < n)) (3 : Int))) noH)) := by kernel_rfl
theorem okWithin : Ok Tryz.prog 49 orcWithin := by
  intro args H ret H' h
  unfold orcWithin at h
  split at h
  · cases h
    refine fnP_res hm c1_ok (hs := h0) ?_
    rw [within_t]
    exact br_of (fun h => by simp [wi, of_decide_eq_true h]) (fun h => by simp [wi, wh, of_decide_eq_false h])
  · cases h
noncomputable def t2 : List (Nat × Orc) := (49, orcWithin) :: t1
theorem t2_all : ∀ p ∈ t2, Ok Tryz.prog p.1 p.2 := all_cons okWithin t1_all
noncomputable def c2 : CallF := ctx Tryz.prog t2
theorem c2_ok : CallOK Tryz.prog c2 := ctx_ok hm t2_all
noncomputable def t3 : List (Nat × Orc) := t2
noncomputable def c3 : CallF := ctx Tryz.prog t3
theorem max_abs {n : Int} (h1 : -9223372036854775808 < n) (h2 : n < 9223372036854775808) : (if W (0 - n) > n then W (0 - n) else n) = (n.natAbs : Int) := by
  rw [W, wrap_eq (by omega) (by omega)]
  split <;> omega
theorem gcd_step {a b : Nat} : Nat.gcd b (a % b) = Nat.gcd a b := by
  rw [Nat.gcd_comm a b, Nat.gcd_rec b a, Nat.gcd_comm]
noncomputable def lowN (num den : Int) : Int := W (num.tdiv (Nat.gcd num.natAbs den.natAbs))
noncomputable def lowD (num den : Int) : Int := W (den.tdiv (Nat.gcd num.natAbs den.natAbs))
noncomputable def orcLow : OrcV
  | [.int .i64 num, .int .i64 den], [] => some (.agg #[.int .i64 (lowN num den), .int .i64 (lowD num den)], [], 0 < den ∧ den < 9223372036854775808 ∧ -9223372036854775808 < num ∧ num < 9223372036854775808)
  | _, _ => none
/-! ### Plain facts -/
theorem fi_zero : ∀ {l : List Int}, fi l = 0 ↔ ∀ e ∈ l, e = 0
  | [] => by simp [fi]
  | e :: r => by
    simp only [fi, List.mem_cons, forall_eq_or_imp]
    split
    · rename_i h; rw [fi_zero (l := r)]; simp [h]
    · rename_i h; simp [h]
theorem wi_zero {n lo hi : Int} : wi n lo hi = 0 ↔ lo ≤ n ∧ n ≤ hi := by
  unfold wi
  split <;> omega
theorem wh_zero {b : Bool} {e : Int} (he : e ≠ 0) : wh b e = 0 ↔ b = false := by
  cases b <;> simp [wh, he]
theorem sel_zero {e d : Int} : sel e d = 0 ↔ e = 0 ∧ d = 0 := by
  unfold sel
  split <;> simp_all
/-- Moments that pass. -/
structure MomOK (n a b : Int) : Prop where
  n0 : 0 ≤ n
  n1 : n ≤ 4096
  a0 : -(n * 16384) ≤ a
  a1 : a ≤ n * 16384
  b0 : 0 ≤ b
  b1 : b ≤ n * 268435456
  ab : a * a ≤ n * b
  aa : a * a ≤ 4503599627370496
  nb : n * b ≤ 4503599627370496
  nb0 : 0 ≤ n * b
  aa0 : 0 ≤ a * a

noncomputable def h4 : Hs Tryz.prog := {au := au0 Tryz.prog}
/-! ### The reference -/
theorem whenR_t (b : Bool) (e : Int) (K : Value → Heap → Prop) :
    (fnP Tryz.prog c0 h0 (69 : FuncId) [Value.bool b, Value.int IntKind.i64 e] [] K) =
    (br b (K (Value.int IntKind.i64 e) noH) (K (Value.int IntKind.i64 (0 : Int)) noH)) := by kernel_rfl
theorem okWhenR : Ok Tryz.prog 69 orcWhen := by
  intro args H ret H' h
  unfold orcWhen at h
  split at h
  · cases h
    refine fnP_res hm c0_ok (hs := h0) ?_
    rw [whenR_t]
    exact br_of (fun h => by simp [wh, h]) (fun h => by simp [wh, h])
  · cases h
noncomputable def lpFirstR (l : List Int) (n c es : Nat) (more rw : Bool) : Lp where
  σ := Nat
  E i := slots 19 [(0, .slice (some ⟨0, 0, none⟩) n c), (3, .int .i64 (Int.ofNat i))]
  Hp _ := [some (.row (ints l) es more rw true)]
  I i := i ≤ l.length ∧ fi (l.drop i) = fi l
  m i := l.length - i
noncomputable def hFirstR (l : List Int) (n c es : Nat) (more rw : Bool) : Hs Tryz.prog where
  op k := if k = 402 then some (hIa Tryz.prog) else if k = 502 then some (hIa Tryz.prog) else if k = 403 then some (hLd Tryz.prog fun off => .int .i64 (l.getD off 0)) else if k = 503 then some (hLd Tryz.prog fun off => .int .i64 (l.getD off 0)) else none
  lp _ := some (lpFirstR l n c es more rw)
  cl _ := keep 19 [0, 3]
theorem firstR_t (l : List Int) (n : Nat) (c : Nat) (es : Nat) (more : Bool) (rw : Bool) (K : Value → Heap → Prop) :
    (fnP Tryz.prog c0 (hFirstR l n c es more rw) (67 : FuncId) [Value.slice (some { block := (0 : Nat), off := (0 : Nat) }) n c] [some (AObj.row (ints l) es more rw true)] K) =
    ((∃ s, Is (s ≤ List.length l ∧ fi (List.drop s l) = fi l) ∧ [Value.slice (some ⟨0, 0, none⟩) n c, poi, poi, Value.int .i64 0, poi, poi, poi, poi, poi, poi, poi, poi, poi, poi, poi, poi, poi, poi, poi] = [Value.slice (some ⟨0, 0, none⟩) n c, poi, poi, Value.int .i64 (s : Int), poi, poi, poi, poi, poi, poi, poi, poi, poi, poi, poi, poi, poi, poi, poi] ∧ some (AObj.row (ints l) es more rw true) :: noH = some (AObj.row (ints l) es more rw true) :: noH) ∧ ∀ (s : Nat), Is (s ≤ List.length l ∧ fi (List.drop s l) = fi l) → br (decide ((s : Int) < (n : Int))) (Is ((0 : Int) ≤ (s : Int) ∧ (s : Int) < (n : Int)) ∧ Is ((ints l)[0 + Int.toNat (s : Int) * 1]? = some (Value.int .i64 (List.getD l (0 + Int.toNat (s : Int) * 1) (0 : Int)))) ∧ br (List.getD l (0 + Int.toNat (s : Int) * 1) (0 : Int) != (0 : Int)) (Is ((0 : Int) ≤ (s : Int) ∧ (s : Int) < (n : Int)) ∧ Is ((ints l)[0 + Int.toNat (s : Int) * 1]? = some (Value.int .i64 (List.getD l (0 + Int.toNat (s : Int) * 1) (0 : Int)))) ∧ K (Value.int .i64 (List.getD l (0 + Int.toNat (s : Int) * 1) (0 : Int))) (some (AObj.row (ints l) es more rw true) :: noH)) (∃ s', Is (s' ≤ List.length l ∧ fi (List.drop s' l) = fi l) ∧ Is (List.length l - s' < List.length l - s) ∧ [Value.slice (some ⟨0, 0, none⟩) n c, poi, poi, Value.int .i64 (IntKind.wrap .i64 ((s : Int) + (1 : Int))), poi, poi, poi, poi, poi, poi, poi, poi, poi, poi, poi, poi, poi, poi, poi] = [Value.slice (some ⟨0, 0, none⟩) n c, poi, poi, Value.int .i64 (↑s' : Int), poi, poi, poi, poi, poi, poi, poi, poi, poi, poi, poi, poi, poi, poi, poi] ∧ some (AObj.row (ints l) es more rw true) :: noH = some (AObj.row (ints l) es more rw true) :: noH)) (K (Value.int .i64 0) (some (AObj.row (ints l) es more rw true) :: noH))) := by kernel_rfl
theorem okFirstR : Ok Tryz.prog 67 orcFirst := by
  intro args H ret H' h
  unfold orcFirst at h
  split at h
  · rename_i n c cells es more rw
    split at h
    · rename_i l hl
      split at h
      · rename_i hn
        cases h
        have := intsOf_eq hl
        subst this
        obtain ⟨hn, hlt⟩ := hn
        subst hn
        refine fnP_res hm c0_ok (hs := hFirstR l l.length c es more rw) ?_
        rw [firstR_t]
        refine ⟨⟨(0 : Nat), ⟨by simp, by simp⟩, rfl, rfl⟩, fun s hs => ?_⟩
        obtain ⟨h1, h2⟩ := hs.out
        refine br_of (fun hc => ?_) (fun hc => ?_)
        · have hc : s < l.length := by simpa using hc
          have hat := ints_at hc
          refine ⟨⟨by omega, by omega⟩, ⟨by simpa using hat⟩, br_of (fun hd => ?_) (fun hd => ?_)⟩
          · have := fi_drop hc
            have hd' : l.getD s 0 ≠ 0 := by simpa using hd
            rw [if_neg hd'] at this
            refine ⟨⟨by omega, by omega⟩, ⟨by simpa using hat⟩, ?_⟩
            simp [← h2, this]
          · have := fi_drop hc
            have hd' : l.getD s 0 = 0 := by simpa using hd
            rw [if_pos hd'] at this
            refine ⟨s + 1, ⟨hc, by rw [← this, h2]⟩, ⟨by omega⟩, ?_, rfl⟩
            rw [wrap_eq (by omega) (by omega)]
            rfl
        · have hc : l.length ≤ s := by simpa using hc
          have : s = l.length := by omega
          subst this
          simp [← h2, fi]
      · cases h
    · cases h
  · cases h
noncomputable def r1 : List (Nat × Orc) := [(69, orcWhen), (67, orcFirst)]
theorem r1_all : ∀ p ∈ r1, Ok Tryz.prog p.1 p.2 := all_cons okWhenR (all_cons okFirstR all_nil)
noncomputable def cr1 : CallF := ctx Tryz.prog r1
theorem cr1_ok : CallOK Tryz.prog cr1 := ctx_ok hm r1_all
theorem rangeR_t (n : Int) (lo : Int) (hi : Int) (K : Value → Heap → Prop) :
    (fnP Tryz.prog cr1 h0 (109 : FuncId) [Value.int IntKind.i64 n, Value.int IntKind.i64 lo, Value.int IntKind.i64 hi] [] K) =
    (br (decide (n < lo)) (K (Value.int IntKind.i64 (3 : Int)) noH) (K (Value.int IntKind.i64 (wh (decide (hi < n)) (3 : Int))) noH)) := by kernel_rfl
theorem okRangeR : Ok Tryz.prog 109 orcWithin := by
  intro args H ret H' h
  unfold orcWithin at h
  split at h
  · cases h
    refine fnP_res hm cr1_ok (hs := h0) ?_
    rw [rangeR_t]
    exact br_of (fun h => by simp [wi, of_decide_eq_true h]) (fun h => by simp [wi, wh, of_decide_eq_false h])
  · cases h
noncomputable def r2 : List (Nat × Orc) := (109, orcWithin) :: r1
theorem r2_all : ∀ p ∈ r2, Ok Tryz.prog p.1 p.2 := all_cons okRangeR r1_all
noncomputable def cr2 : CallF := ctx Tryz.prog r2
theorem cr2_ok : CallOK Tryz.prog cr2 := ctx_ok hm r2_all
noncomputable def lpDiv (g : Nat) : Lp where
  σ := Nat × Nat
  E s := slots 20 [(0, .int .i64 (Int.ofNat s.1)), (1, .int .i64 (Int.ofNat s.2))]
  Hp _ := []
  I s := Nat.gcd s.1 s.2 = g ∧ s.1 < 9223372036854775808 ∧ s.2 < 9223372036854775808
  m s := s.2
noncomputable def hDiv (g : Nat) : Hs Tryz.prog where
  lp _ := some (lpDiv g)
  cl _ := keep 20 [0, 1]
  au := au0 Tryz.prog
theorem div_t (a : Int) (b : Int) (g : Nat) (K : Value → Heap → Prop) :
    (fnP Tryz.prog cr2 (hDiv g) (34 : FuncId) [Value.int IntKind.i64 a, Value.int IntKind.i64 b] [] K) =
    ((∃ s, Is (Nat.gcd (Prod.fst s) (Prod.snd s) = g ∧ Prod.fst s < 9223372036854775808 ∧ Prod.snd s < 9223372036854775808) ∧ [Value.int .i64 (if IntKind.wrap .i64 ((0 : Int) - a) > a then IntKind.wrap .i64 ((0 : Int) - a) else a), Value.int .i64 (if IntKind.wrap .i64 ((0 : Int) - b) > b then IntKind.wrap .i64 ((0 : Int) - b) else b), poi, poi, poi, poi, poi, poi, poi, poi, poi, poi, poi, poi, poi, poi, poi, poi, poi, poi] = [Value.int .i64 (↑(Prod.fst s) : Int), Value.int .i64 (↑(Prod.snd s) : Int), poi, poi, poi, poi, poi, poi, poi, poi, poi, poi, poi, poi, poi, poi, poi, poi, poi, poi] ∧ noH = noH) ∧ ∀ (s : Nat × Nat), Is (Nat.gcd (Prod.fst s) (Prod.snd s) = g ∧ Prod.fst s < 9223372036854775808 ∧ Prod.snd s < 9223372036854775808) → br (decide ((0 : Int) < (↑(Prod.snd s) : Int))) (Is ((↑(Prod.snd s) : Int) ≠ (0 : Int)) ∧ ∃ s', Is (Nat.gcd (Prod.fst s') (Prod.snd s') = g ∧ Prod.fst s' < 9223372036854775808 ∧ Prod.snd s' < 9223372036854775808) ∧ Is (Prod.snd s' < Prod.snd s) ∧ [Value.int .i64 (↑(Prod.snd s) : Int), Value.int .i64 (Int.tmod (↑(Prod.fst s) : Int) (↑(Prod.snd s) : Int)), poi, poi, poi, poi, poi, poi, poi, poi, poi, poi, poi, poi, poi, poi, poi, poi, poi, poi] = [Value.int .i64 (↑(Prod.fst s') : Int), Value.int .i64 (↑(Prod.snd s') : Int), poi, poi, poi, poi, poi, poi, poi, poi, poi, poi, poi, poi, poi, poi, poi, poi, poi, poi] ∧ noH = noH) (K (Value.int .i64 (↑(Prod.fst s) : Int)) noH)) := by kernel_rfl
end
end Qq
end
section
/- The reference's moments and quotients; the statement on moments. -/
open Go Go.Vm Go.Proofs Sp
namespace Qq
noncomputable section

noncomputable def orcDiv : OrcV
  | [.int .i64 a, .int .i64 b], [] => some (.int .i64 (Int.ofNat (Nat.gcd a.natAbs b.natAbs)), [], -9223372036854775808 < a ∧ a < 9223372036854775808 ∧ -9223372036854775808 < b ∧ b < 9223372036854775808)
  | _, _ => none
theorem okDiv : OkV Tryz.prog 34 orcDiv := by
  intro args H ret H' vc h hv
  unfold orcDiv at h
  split at h
  · rename_i a b
    cases h
    obtain ⟨v1, v2, v3, v4⟩ := hv
    refine fnP_res hm cr2_ok (hs := hDiv (Nat.gcd a.natAbs b.natAbs)) ?_
    rw [div_t]
    refine ⟨⟨(a.natAbs, b.natAbs), ⟨rfl, by simp; omega, by simp; omega⟩, ?_, rfl⟩, fun s hs => ?_⟩
    · rw [max_abs v1 v2, max_abs v3 v4]
    · obtain ⟨i1, i2, i3⟩ := hs.out
      refine br_of (fun hc => ?_) (fun hc => ?_)
      · have hc : 0 < s.2 := by simpa using hc
        refine ⟨⟨by omega⟩, (s.2, s.1 % s.2), ⟨by rw [← i1]; exact gcd_step, i3, ?_⟩, ⟨Nat.mod_lt _ (by omega)⟩, ?_, rfl⟩
        · have := Nat.mod_lt s.1 (show 0 < s.2 by omega); show s.1 % s.2 < _; omega
        · rfl
      · have hc : s.2 = 0 := by simpa using hc
        rw [hc, Nat.gcd_zero_right] at i1
        rw [i1]
        exact ⟨rfl, rfl⟩
  · cases h
noncomputable def h5 : Hs Tryz.prog := {au := auCalls [(34, hCa Tryz.prog 34 orcDiv okDiv)]}
theorem lowR_t (a : Int) (b : Int) (K : Value → Heap → Prop) :
    (fnP Tryz.prog cr2 h5 (12 : FuncId) [Value.int IntKind.i64 a, Value.int IntKind.i64 b] [] K) =
    (Is ((-9223372036854775808 : Int) < a ∧ a < (9223372036854775808 : Int) ∧ (-9223372036854775808 : Int) < b ∧ b < (9223372036854775808 : Int)) ∧ br (decide (b < (0 : Int))) (Is (IntKind.wrap .i64 ((0 : Int) - (↑(Nat.gcd (Int.natAbs a) (Int.natAbs b)) : Int)) ≠ (0 : Int)) ∧ Is (IntKind.wrap .i64 ((0 : Int) - (↑(Nat.gcd (Int.natAbs a) (Int.natAbs b)) : Int)) ≠ (0 : Int)) ∧ K (Value.agg #[Value.int .i64 (IntKind.wrap .i64 (Int.tdiv a (IntKind.wrap .i64 ((0 : Int) - (↑(Nat.gcd (Int.natAbs a) (Int.natAbs b)) : Int))))), Value.int .i64 (IntKind.wrap .i64 (Int.tdiv b (IntKind.wrap .i64 ((0 : Int) - (↑(Nat.gcd (Int.natAbs a) (Int.natAbs b)) : Int)))))]) noH) (Is ((↑(Nat.gcd (Int.natAbs a) (Int.natAbs b)) : Int) ≠ (0 : Int)) ∧ Is ((↑(Nat.gcd (Int.natAbs a) (Int.natAbs b)) : Int) ≠ (0 : Int)) ∧ K (Value.agg #[Value.int .i64 (IntKind.wrap .i64 (Int.tdiv a (↑(Nat.gcd (Int.natAbs a) (Int.natAbs b)) : Int))), Value.int .i64 (IntKind.wrap .i64 (Int.tdiv b (↑(Nat.gcd (Int.natAbs a) (Int.natAbs b)) : Int)))]) noH)) := by kernel_rfl
theorem okLowR : OkV Tryz.prog 12 orcLow := by
  intro args H ret H' vc h hv
  unfold orcLow at h
  split at h
  · rename_i num den
    cases h
    obtain ⟨v1, v2, v3, v4⟩ := hv
    refine fnP_res hm cr2_ok (hs := h5) ?_
    rw [lowR_t]
    refine ⟨⟨v3, v4, by omega, v2⟩, br_of (fun h => absurd (of_decide_eq_true h) (by omega)) (fun h => ?_)⟩
    have hg : 0 < Nat.gcd num.natAbs den.natAbs := Nat.gcd_pos_of_pos_right _ (by omega)
    exact ⟨⟨by omega⟩, ⟨by omega⟩, rfl, rfl⟩
  · cases h
noncomputable def h6 : Hs Tryz.prog := {au := auCalls [(12, hCa Tryz.prog 12 orcLow okLowR)]}
end
end Qq
end
section
/- Sections: copies of them. -/
open Go Go.Vm Go.Proofs Sp
namespace Qq
noncomputable section

/-- The cells of interventions. -/
noncomputable def acs : List (Int × ByteArray) → List Value
  | [] => []
  | a :: r => .int .i64 a.1 :: .string a.2 :: acs r
noncomputable def nil2 : List Value := [.string ⟨#[]⟩, .slice none 0 0, .slice none 0 0]
noncomputable def secA (nm : ByteArray) (i n c j k d : Nat) : List Value := [.string nm, .slice (some ⟨i, 0, none⟩) n c, .slice (some ⟨j, 0, none⟩) k d]
noncomputable def lpOwn1 (nm : ByteArray) (zs : List Int) (ks : List (Int × ByteArray)) (n c k d : Nat) (m1 w1 m2 w2 : Bool) : Lp where
  σ := Nat
  E i := slots 40 [(1, .pointer (some ⟨2, 0, none⟩)), (2, .pointer (some ⟨3, 0, none⟩)), (3, .pointer (some ⟨4, 0, none⟩)), (12, .slice (some ⟨0, 0, none⟩) n c), (13, .int .i64 (Int.ofNat n)), (14, .int .i64 (Int.ofNat i))]
  Hp i := [some (.row (ints zs) 2 m1 w1 true), some (.row (acs ks) 2 m2 w2 true), some (.row (secA nm 0 n c 1 k d) 0 false true false), some (.row nil2 0 false true true),
    some (.row (secA nm 5 i 0 6 0 0) 0 false true false), some (.row (ints (zs.take (i * 2))) 2 true true true), some (.row [] 2 true true true)]
  I i := i ≤ n
  m i := n - i
noncomputable def lpOwn2 (nm : ByteArray) (zs : List Int) (ks : List (Int × ByteArray)) (n _c k d : Nat) (m1 w1 m2 w2 : Bool) : Lp where
  σ := Nat
  E i := slots 40 [(2, .pointer (some ⟨2, 0, none⟩)), (3, .pointer (some ⟨3, 0, none⟩)), (26, .slice (some ⟨1, 0, none⟩) k d), (27, .int .i64 (Int.ofNat k)), (28, .int .i64 (Int.ofNat i))]
  Hp i := [some (.row (ints zs) 2 m1 w1 true), some (.row (acs ks) 2 m2 w2 true), some (.row nil2 0 false true true),
    some (.row (secA nm 4 n 0 5 i 0) 0 false true false), some (.row (ints (zs.take (n * 2))) 2 true true true), some (.row (acs (ks.take i)) 2 true true true)]
  I i := i ≤ k
  m i := k - i
noncomputable def hsOwn (nm : ByteArray) (zs : List Int) (ks : List (Int × ByteArray)) (n c k d : Nat) (m1 w1 m2 w2 : Bool) : Hs Tryz.prog where
  op x := if x = 400 then some (hIa Tryz.prog) else if x = 401 then some (hLd Tryz.prog fun off => .agg #[.int .i64 (zs.getD off 0), .int .i64 (zs.getD (off + 1) 0)]) else if x = 504 then some (hAp Tryz.prog)
    else if x = 900 then some (hIa Tryz.prog) else if x = 901 then some (hLd Tryz.prog fun off => .agg #[.int .i64 (ks.getD (off / 2) (0, ⟨#[]⟩)).1, .string (ks.getD (off / 2) (0, ⟨#[]⟩)).2]) else if x = 1004 then some (hAp Tryz.prog) else none
  lp x := if x = 3 then some (lpOwn1 nm zs ks n c k d m1 w1 m2 w2) else some (lpOwn2 nm zs ks n c k d m1 w1 m2 w2)
  cl x := if x = 3 then keep 40 [1, 2, 3, 12, 13, 14] else keep 40 [2, 3, 26, 27, 28]
  nl x := if x = 3 then [.cell 4 1 2, .cell 4 2 2] else []
  au := au0 Tryz.prog
theorem own_t (nm : ByteArray) (zs : List Int) (ks : List (Int × ByteArray)) (n : Nat) (c : Nat) (k : Nat) (d : Nat) (m1 : Bool) (w1 : Bool) (m2 : Bool) (w2 : Bool) (K : Value → Heap → Prop) :
    (fnP Tryz.prog c0 (hsOwn nm zs ks n c k d m1 w1 m2 w2) (6 : FuncId) [Value.agg (List.toArray (secA nm (0 : Nat) n c (1 : Nat) k d))] [some (AObj.row (ints zs) (2 : Nat) m1 w1 true), some (AObj.row (acs ks) (2 : Nat) m2 w2 true)] K) =
    (let z0 : AObj := AObj.row [Value.string { data := #[] }, Value.slice none 0 0, Value.slice none 0 0] 0 false true true; let z1 : AObj := AObj.row [Value.string nm, Value.slice (some ⟨0, 0, none⟩) n c, Value.slice (some ⟨1, 0, none⟩) k d] 0 false true false; ((∃ s, Is (s ≤ n) ∧ [poi, Value.pointer (some ⟨2, 0, none⟩), Value.pointer (some ⟨3, 0, none⟩), Value.pointer (some ⟨4, 0, none⟩), poi, poi, poi, poi, poi, poi, poi, poi, Value.slice (some ⟨0, 0, none⟩) n c, Value.int .i64 (n : Int), Value.int .i64 0, poi, poi, poi, poi, poi, poi, poi, poi, poi, poi, poi, poi, poi, poi, poi, poi, poi, poi, poi, poi, poi, poi, poi, poi, poi] = [poi, Value.pointer (some ⟨2, 0, none⟩), Value.pointer (some ⟨3, 0, none⟩), Value.pointer (some ⟨4, 0, none⟩), poi, poi, poi, poi, poi, poi, poi, poi, Value.slice (some ⟨0, 0, none⟩) n c, Value.int .i64 (n : Int), Value.int .i64 (s : Int), poi, poi, poi, poi, poi, poi, poi, poi, poi, poi, poi, poi, poi, poi, poi, poi, poi, poi, poi, poi, poi, poi, poi, poi, poi] ∧ some (AObj.row (ints zs) 2 m1 w1 true) :: some (AObj.row (acs ks) 2 m2 w2 true) :: some (AObj.row [Value.string nm, Value.slice (some ⟨0, 0, none⟩) n c, Value.slice (some ⟨1, 0, none⟩) k d] 0 false true (List.all [Value.string nm, Value.slice (some ⟨0, 0, none⟩) n c, Value.slice (some ⟨1, 0, none⟩) k d] atom)) :: some z0 :: some (AObj.row [Value.string nm, Value.slice (some ⟨5, 0, none⟩) 0 0, Value.slice (some ⟨6, 0, none⟩) 0 0] 0 false true false) :: some (AObj.row [] 2 true true true) :: some (AObj.row [] 2 true true true) :: noH = some (AObj.row (ints zs) 2 m1 w1 true) :: some (AObj.row (acs ks) 2 m2 w2 true) :: some z1 :: some z0 :: some (AObj.row [Value.string nm, Value.slice (some ⟨5, 0, none⟩) s 0, Value.slice (some ⟨6, 0, none⟩) 0 0] 0 false true false) :: some (AObj.row (ints (List.take (s * 2) zs)) 2 true true true) :: some (AObj.row [] 2 true true true) :: noH) ∧ ∀ (s : Nat), Is (s ≤ n) → br (decide ((s : Int) < (n : Int))) (Is ((0 : Int) ≤ (s : Int) ∧ (s : Int) < (n : Int)) ∧ Is ((if 0 + Int.toNat (s : Int) * 2 + 2 ≤ List.length (ints zs) then some (Value.agg (List.toArray (List.take 2 (List.drop (0 + Int.toNat (s : Int) * 2) (ints zs))))) else none) = some (Value.agg #[Value.int .i64 (List.getD zs (0 + Int.toNat (s : Int) * 2) (0 : Int)), Value.int .i64 (List.getD zs (0 + Int.toNat (s : Int) * 2 + 1) (0 : Int))])) ∧ Is (List.length (ints (List.take (s * 2) zs)) = s * 2 ∧ (s + 1) * 16 ≤ 140737488355328 ∧ s + 1 ≤ 9223372036854775807) ∧ ∃ s', Is (s' ≤ n) ∧ Is (n - s' < n - s) ∧ [poi, Value.pointer (some ⟨2, 0, none⟩), Value.pointer (some ⟨3, 0, none⟩), Value.pointer (some ⟨4, 0, none⟩), poi, poi, poi, poi, poi, poi, poi, poi, Value.slice (some ⟨0, 0, none⟩) n c, Value.int .i64 (n : Int), Value.int .i64 (IntKind.wrap .i64 ((s : Int) + (1 : Int))), poi, poi, poi, poi, poi, poi, poi, poi, poi, poi, poi, poi, poi, poi, poi, poi, poi, poi, poi, poi, poi, poi, poi, poi, poi] = [poi, Value.pointer (some ⟨2, 0, none⟩), Value.pointer (some ⟨3, 0, none⟩), Value.pointer (some ⟨4, 0, none⟩), poi, poi, poi, poi, poi, poi, poi, poi, Value.slice (some ⟨0, 0, none⟩) n c, Value.int .i64 (n : Int), Value.int .i64 (↑s' : Int), poi, poi, poi, poi, poi, poi, poi, poi, poi, poi, poi, poi, poi, poi, poi, poi, poi, poi, poi, poi, poi, poi, poi, poi, poi] ∧ some (AObj.row (ints zs) 2 m1 w1 true) :: some (AObj.row (acs ks) 2 m2 w2 true) :: some z1 :: some z0 :: some (AObj.row [Value.string nm, Value.slice (some ⟨5, 0, none⟩) (s + 1) 0, Value.slice (some ⟨6, 0, none⟩) 0 0] 0 false true false) :: some (AObj.row (ints (List.take (s * 2) zs) ++ [Value.int .i64 (List.getD zs (0 + Int.toNat (s : Int) * 2) (0 : Int)), Value.int .i64 (List.getD zs (0 + Int.toNat (s : Int) * 2 + 1) (0 : Int))]) 2 true true (List.all [Value.int .i64 (List.getD zs (0 + Int.toNat (s : Int) * 2) (0 : Int)), Value.int .i64 (List.getD zs (0 + Int.toNat (s : Int) * 2 + 1) (0 : Int))] atom)) :: some (AObj.row [] 2 true true true) :: noH = some (AObj.row (ints zs) 2 m1 w1 true) :: some (AObj.row (acs ks) 2 m2 w2 true) :: some z1 :: some z0 :: some (AObj.row [Value.string nm, Value.slice (some ⟨5, 0, none⟩) s' 0, Value.slice (some ⟨6, 0, none⟩) 0 0] 0 false true false) :: some (AObj.row (ints (List.take (s' * 2) zs)) 2 true true true) :: some (AObj.row [] 2 true true true) :: noH) ((∃ s_1, Is (s_1 ≤ k) ∧ [poi, poi, Value.pointer (some ⟨2, 0, none⟩), Value.pointer (some ⟨3, 0, none⟩), poi, poi, poi, poi, poi, poi, poi, poi, poi, poi, poi, poi, poi, poi, poi, poi, poi, poi, poi, poi, poi, poi, Value.slice (some ⟨1, 0, none⟩) k d, Value.int .i64 (k : Int), Value.int .i64 0, poi, poi, poi, poi, poi, poi, poi, poi, poi, poi, poi] = [poi, poi, Value.pointer (some ⟨2, 0, none⟩), Value.pointer (some ⟨3, 0, none⟩), poi, poi, poi, poi, poi, poi, poi, poi, poi, poi, poi, poi, poi, poi, poi, poi, poi, poi, poi, poi, poi, poi, Value.slice (some ⟨1, 0, none⟩) k d, Value.int .i64 (k : Int), Value.int .i64 (s_1 : Int), poi, poi, poi, poi, poi, poi, poi, poi, poi, poi, poi] ∧ some (AObj.row (ints zs) 2 m1 w1 true) :: some (AObj.row (acs ks) 2 m2 w2 true) :: some z0 :: some (AObj.row [Value.string nm, Value.slice (some ⟨4, 0, none⟩) s 0, Value.slice (some ⟨5, 0, none⟩) 0 0] 0 false true false) :: some (AObj.row (ints (List.take (s * 2) zs)) 2 true true true) :: some (AObj.row [] 2 true true true) :: noH = some (AObj.row (ints zs) 2 m1 w1 true) :: some (AObj.row (acs ks) 2 m2 w2 true) :: some z0 :: some (AObj.row [Value.string nm, Value.slice (some ⟨4, 0, none⟩) n 0, Value.slice (some ⟨5, 0, none⟩) s_1 0] 0 false true false) :: some (AObj.row (ints (List.take (n * 2) zs)) 2 true true true) :: some (AObj.row (acs (List.take s_1 ks)) 2 true true true) :: noH) ∧ ∀ (s : Nat), Is (s ≤ k) → br (decide ((s : Int) < (k : Int))) (Is ((0 : Int) ≤ (s : Int) ∧ (s : Int) < (k : Int)) ∧ Is ((if 0 + Int.toNat (s : Int) * 2 + 2 ≤ List.length (acs ks) then some (Value.agg (List.toArray (List.take 2 (List.drop (0 + Int.toNat (s : Int) * 2) (acs ks))))) else none) = some (Value.agg #[Value.int .i64 (Prod.fst (List.getD ks ((0 + Int.toNat (s : Int) * 2) / 2) ((0 : Int), { data := #[] }))), Value.string (Prod.snd (List.getD ks ((0 + Int.toNat (s : Int) * 2) / 2) ((0 : Int), { data := #[] })))])) ∧ Is (List.length (acs (List.take s ks)) = s * 2 ∧ (s + 1) * 24 ≤ 140737488355328 ∧ s + 1 ≤ 9223372036854775807) ∧ ∃ s', Is (s' ≤ k) ∧ Is (k - s' < k - s) ∧ [poi, poi, Value.pointer (some ⟨2, 0, none⟩), Value.pointer (some ⟨3, 0, none⟩), poi, poi, poi, poi, poi, poi, poi, poi, poi, poi, poi, poi, poi, poi, poi, poi, poi, poi, poi, poi, poi, poi, Value.slice (some ⟨1, 0, none⟩) k d, Value.int .i64 (k : Int), Value.int .i64 (IntKind.wrap .i64 ((s : Int) + (1 : Int))), poi, poi, poi, poi, poi, poi, poi, poi, poi, poi, poi] = [poi, poi, Value.pointer (some ⟨2, 0, none⟩), Value.pointer (some ⟨3, 0, none⟩), poi, poi, poi, poi, poi, poi, poi, poi, poi, poi, poi, poi, poi, poi, poi, poi, poi, poi, poi, poi, poi, poi, Value.slice (some ⟨1, 0, none⟩) k d, Value.int .i64 (k : Int), Value.int .i64 (↑s' : Int), poi, poi, poi, poi, poi, poi, poi, poi, poi, poi, poi] ∧ some (AObj.row (ints zs) 2 m1 w1 true) :: some (AObj.row (acs ks) 2 m2 w2 true) :: some z0 :: some (AObj.row [Value.string nm, Value.slice (some ⟨4, 0, none⟩) n 0, Value.slice (some ⟨5, 0, none⟩) (s + 1) 0] 0 false true (false && List.all [Value.slice (some { block := List.length (some (AObj.row (ints zs) 2 m1 w1 true) :: some (AObj.row (acs ks) 2 m2 w2 true) :: some z0 :: some (AObj.row [Value.string nm, Value.slice (some ⟨4, 0, none⟩) n 0, Value.slice (some ⟨5, 0, none⟩) s 0] 0 false true false) :: some (AObj.row (ints (List.take (n * 2) zs)) 2 true true true) :: some (AObj.row (acs (List.take s ks)) 2 true true true) :: some (AObj.row [Value.int .i64 (Prod.fst (List.getD ks ((0 + Int.toNat (s : Int) * 2) / 2) ((0 : Int), { data := #[] }))), Value.string (Prod.snd (List.getD ks ((0 + Int.toNat (s : Int) * 2) / 2) ((0 : Int), { data := #[] })))] 0 false true (true && List.all [Value.int .i64 (Prod.fst (List.getD ks ((0 + Int.toNat (s : Int) * 2) / 2) ((0 : Int), { data := #[] }))), Value.string (Prod.snd (List.getD ks ((0 + Int.toNat (s : Int) * 2) / 2) ((0 : Int), { data := #[] })))] atom)) :: some (AObj.row [Value.int .i64 (Prod.fst (List.getD ks ((0 + Int.toNat (s : Int) * 2) / 2) ((0 : Int), { data := #[] }))), Value.string (Prod.snd (List.getD ks ((0 + Int.toNat (s : Int) * 2) / 2) ((0 : Int), { data := #[] })))] 2 false true (List.all [Value.int .i64 (Prod.fst (List.getD ks ((0 + Int.toNat (s : Int) * 2) / 2) ((0 : Int), { data := #[] }))), Value.string (Prod.snd (List.getD ks ((0 + Int.toNat (s : Int) * 2) / 2) ((0 : Int), { data := #[] })))] atom)) :: noH), off := 0 }) (s + 1) 0] atom)) :: some (AObj.row (ints (List.take (n * 2) zs)) 2 true true true) :: some (AObj.row (acs (List.take s ks) ++ [Value.int .i64 (Prod.fst (List.getD ks ((0 + Int.toNat (s : Int) * 2) / 2) ((0 : Int), { data := #[] }))), Value.string (Prod.snd (List.getD ks ((0 + Int.toNat (s : Int) * 2) / 2) ((0 : Int), { data := #[] })))]) 2 true true (List.all [Value.int .i64 (Prod.fst (List.getD ks ((0 + Int.toNat (s : Int) * 2) / 2) ((0 : Int), { data := #[] }))), Value.string (Prod.snd (List.getD ks ((0 + Int.toNat (s : Int) * 2) / 2) ((0 : Int), { data := #[] })))] atom)) :: noH = some (AObj.row (ints zs) 2 m1 w1 true) :: some (AObj.row (acs ks) 2 m2 w2 true) :: some z0 :: some (AObj.row [Value.string nm, Value.slice (some ⟨4, 0, none⟩) n 0, Value.slice (some ⟨5, 0, none⟩) s' 0] 0 false true false) :: some (AObj.row (ints (List.take (n * 2) zs)) 2 true true true) :: some (AObj.row (acs (List.take s' ks)) 2 true true true) :: noH) (K (Value.agg #[Value.string nm, Value.slice (some ⟨2, 0, none⟩) n 0, Value.slice (some ⟨3, 0, none⟩) s 0]) (some (AObj.row (ints zs) 2 m1 w1 true) :: some (AObj.row (acs ks) 2 m2 w2 true) :: some (AObj.row (ints (List.take (n * 2) zs)) 2 true true true) :: some (AObj.row (acs (List.take s ks)) 2 true true true) :: noH))))) := by kernel_rfl
theorem ints_len (zs : List Int) : (ints zs).length = zs.length := by simp [ints]
theorem acs_len : ∀ ks : List (Int × ByteArray), (acs ks).length = ks.length * 2
  | [] => rfl
  | a :: r => by simp only [acs, List.length_cons, acs_len r]; omega
theorem ints_take (zs : List Int) (i : Nat) : (ints zs).take i = ints (zs.take i) := by simp [ints, List.map_take]
theorem ints_drop (zs : List Int) (i : Nat) : (ints zs).drop i = ints (zs.drop i) := by simp [ints, List.map_drop]
theorem ints_app (zs ys : List Int) : ints zs ++ ints ys = ints (zs ++ ys) := by simp [ints]
theorem acs_app : ∀ ks ls : List (Int × ByteArray), acs ks ++ acs ls = acs (ks ++ ls)
  | [], _ => rfl
  | a :: r, ls => by simp only [acs, List.cons_append, acs_app r ls]
theorem acs_drop : ∀ (ks : List (Int × ByteArray)) (i : Nat), (acs ks).drop (i * 2) = acs (ks.drop i)
  | [], i => by simp [acs]
  | a :: r, 0 => rfl
  | a :: r, i + 1 => by
    rw [Nat.add_mul]
    simp only [acs, List.drop_succ_cons, acs_drop r i]
theorem pair_at {zs : List Int} {i : Nat} (h : i + 2 ≤ zs.length) : (zs.drop i).take 2 = [zs.getD i 0, zs.getD (i + 1) 0] := by
  have h1 : i < zs.length := by omega
  have h2 : i + 1 < zs.length := by omega
  rw [List.drop_eq_getElem_cons h1, List.drop_eq_getElem_cons h2]
  simp only [List.take_succ_cons, List.take_zero, List.getD_eq_getElem?_getD, List.getElem?_eq_getElem h1, List.getElem?_eq_getElem h2, Option.getD_some]
theorem ints_pair {zs : List Int} {i : Nat} (h : i + 2 ≤ zs.length) : ((ints zs).drop i).take 2 = [.int .i64 (zs.getD i 0), .int .i64 (zs.getD (i + 1) 0)] := by
  rw [ints_drop, ints_take, pair_at h]; rfl
theorem ints_more {zs : List Int} {i : Nat} (h : i + 2 ≤ zs.length) : ints (zs.take i) ++ [.int .i64 (zs.getD i 0), .int .i64 (zs.getD (i + 1) 0)] = ints (zs.take (i + 2)) := by
  rw [List.take_add, pair_at h, ← ints_app]; rfl
theorem acs_pair {ks : List (Int × ByteArray)} {i : Nat} (h : i < ks.length) : ((acs ks).drop (i * 2)).take 2 = [.int .i64 (ks.getD i (0, ⟨#[]⟩)).1, .string (ks.getD i (0, ⟨#[]⟩)).2] := by
  rw [acs_drop, List.drop_eq_getElem_cons h]
  simp [acs, List.getD_eq_getElem?_getD, h]
theorem acs_more {ks : List (Int × ByteArray)} {i : Nat} (h : i < ks.length) : acs (ks.take i) ++ [.int .i64 (ks.getD i (0, ⟨#[]⟩)).1, .string (ks.getD i (0, ⟨#[]⟩)).2] = acs (ks.take (i + 1)) := by
  rw [List.take_add_one, ← acs_app]
  simp [h, acs, List.getD_eq_getElem?_getD]
/-- The program's loops count in 64 bits. -/
theorem up1 {s n : Nat} (h : s < n) (hn : n ≤ 100000) : IntKind.wrap .i64 ((s : Int) + 1) = ((s + 1 : Nat) : Int) := by
  rw [wrap_eq (by omega) (by omega)]; rfl
theorem lt_of_dec {s n : Nat} (h : decide ((s : Int) < (n : Int)) = true) : s < n := by simpa using h
theorem ge_of_dec {s n : Nat} (h : decide ((s : Int) < (n : Int)) = false) : n ≤ s := by simpa using h

set_option maxRecDepth 100000 in
theorem own_ok {nm : ByteArray} {zs : List Int} {ks : List (Int × ByteArray)} {n c k d : Nat} {m1 w1 m2 w2 : Bool} (hz : zs.length = n * 2) (hk : ks.length = k) (hn : n ≤ 1000) (hk2 : k ≤ 1000) :
    SmallRes Tryz.prog 6 [.agg (secA nm 0 n c 1 k d).toArray] [some (.row (ints zs) 2 m1 w1 true), some (.row (acs ks) 2 m2 w2 true)]
      (.agg (secA nm 2 n 0 3 k 0).toArray) [some (.row (ints zs) 2 m1 w1 true), some (.row (acs ks) 2 m2 w2 true), some (.row (ints zs) 2 true true true), some (.row (acs ks) 2 true true true)] := by
  refine fnP_res hm c0_ok (hs := hsOwn nm zs ks n c k d m1 w1 m2 w2) ?_
  rw [own_t]
  refine ⟨⟨(0 : Nat), ⟨by omega⟩, rfl, rfl⟩, fun s hs => br_of (fun h => ?_) (fun h => ⟨⟨(0 : Nat), ⟨by omega⟩, rfl, ?_⟩, fun r hr => br_of (fun h2 => ?_) (fun h2 => ?_)⟩)⟩
  · have h := lt_of_dec h
    simp only [Nat.zero_add, Int.toNat_natCast]
    refine ⟨⟨by omega, by omega⟩, ⟨?_⟩, ⟨by rw [ints_len, List.length_take]; omega, by omega, by omega⟩, s + 1, ⟨by omega⟩, ⟨by omega⟩, ?_, ?_⟩
    · rw [ints_len, if_pos (by omega), ints_pair (by omega)]
    · rw [up1 h (by omega)]
    · rw [ints_more (by omega), Nat.add_mul]; rfl
  · have h := ge_of_dec h
    have : s = n := by have := hs.out; omega
    subst this
    rfl
  · have h2 := lt_of_dec h2
    have e2 : r * 2 / 2 = r := by omega
    simp only [Nat.zero_add, Int.toNat_natCast, e2]
    refine ⟨⟨by omega, by omega⟩, ⟨?_⟩, ⟨by rw [acs_len, List.length_take]; omega, by omega, by omega⟩, r + 1, ⟨by omega⟩, ⟨by omega⟩, ?_, ?_⟩
    · rw [acs_len, if_pos (by omega), acs_pair (by omega)]
    · rw [up1 h2 (by omega)]
    · rw [acs_more (by omega)]; rfl
  · have h2 := ge_of_dec h2
    have : r = k := by have := hr.out; omega
    subst this
    rw [← hz, List.take_length, ← hk, List.take_length]
    exact ⟨rfl, rfl⟩
end
end Qq
end
section
/- Names. -/
open Go Go.Vm Go.Proofs Sp
namespace Sp
noncomputable section
noncomputable def letI' (c : Int) : Bool := (decide (97 ≤ c) && decide (c ≤ 122)) || (decide (65 ≤ c) && decide (c ≤ 90))
noncomputable def digI (c : Int) : Bool := decide (48 ≤ c) && decide (c ≤ 57)
noncomputable def in2 (c : Int) : Bool := letI' c || digI c || c == 95
noncomputable def nameL (l : List UInt8) : Bool :=
  match l with
  | [] => false
  | b :: r => decide (r.length < 24) && letI' b.toNat && r.all fun b => in2 b.toNat
noncomputable def nameB (s : ByteArray) : Bool := nameL s.data.toList
end
end Sp
namespace Qq
noncomputable section
noncomputable def orcLet : Orc
  | [.int .i32 c], [] => some (.bool (letI' c), [])
  | _, _ => none
noncomputable def orcDig : Orc
  | [.int .i32 c], [] => some (.bool (digI c), [])
  | _, _ => none
noncomputable def orcLet8 : Orc
  | [.int .u8 c], [] => some (.bool (letI' c), [])
  | _, _ => none
noncomputable def orcDig8 : Orc
  | [.int .u8 c], [] => some (.bool (digI c), [])
  | _, _ => none
theorem let_t (c : Int) (K : Value → Heap → Prop) :
    (fnP Tryz.prog c0 h0 (72 : FuncId) [Value.int IntKind.i32 c] [] K) =
    (br (decide ((97 : Int) ≤ c)) (br (decide (c ≤ (122 : Int))) (K (Value.bool true) noH) (br (decide ((65 : Int) ≤ c)) (K (Value.bool (decide (c ≤ (90 : Int)))) noH) (K (Value.bool false) noH))) (br (decide ((65 : Int) ≤ c)) (K (Value.bool (decide (c ≤ (90 : Int)))) noH) (K (Value.bool false) noH))) := by kernel_rfl
theorem dig_t (c : Int) (K : Value → Heap → Prop) :
    (fnP Tryz.prog c0 h0 (73 : FuncId) [Value.int IntKind.i32 c] [] K) =
    (br (decide ((48 : Int) ≤ c)) (K (Value.bool (decide (c ≤ (57 : Int)))) noH) (K (Value.bool false) noH)) := by kernel_rfl
theorem let8_t (c : Int) (K : Value → Heap → Prop) :
    (fnP Tryz.prog c0 h0 (107 : FuncId) [Value.int IntKind.u8 c] [] K) =
    (br (decide ((65 : Int) ≤ c)) (br (decide (c ≤ (90 : Int))) (K (Value.bool true) noH) (br (decide ((97 : Int) ≤ c)) (K (Value.bool (decide (c ≤ (122 : Int)))) noH) (K (Value.bool false) noH))) (br (decide ((97 : Int) ≤ c)) (K (Value.bool (decide (c ≤ (122 : Int)))) noH) (K (Value.bool false) noH))) := by kernel_rfl
theorem dig8_t (c : Int) (K : Value → Heap → Prop) :
    (fnP Tryz.prog c0 h0 (108 : FuncId) [Value.int IntKind.u8 c] [] K) =
    (br (decide ((48 : Int) ≤ c)) (K (Value.bool (decide (c ≤ (57 : Int)))) noH) (K (Value.bool false) noH)) := by kernel_rfl
noncomputable def tN : List (Nat × Orc) := [(72, orcLet), (73, orcDig)]
noncomputable def cN : CallF := ctx Tryz.prog tN
noncomputable def lpName (s : ByteArray) : Lp where
  σ := Nat
  E _ := slots 35 [(0, .string s), (6, .pointer (some ⟨0, 0, none⟩))]
  Hp p := [some (.iter s p)]
  I p := p ≤ s.size ∧ ∀ i, i < p → in2 (bt s i) = true ∧ (i = 0 → letI' (bt s i) = true)
  m p := s.size - p
noncomputable def hsName (s : ByteArray) : Hs Tryz.prog where
  lp _ := some (lpName s)
  cl _ := keep 35 [0, 6]
  au := au0 Tryz.prog
theorem name_t (s : ByteArray) (K : Value → Heap → Prop) :
    (fnP Tryz.prog cN (hsName s) (46 : FuncId) [Value.string s] [] K) =
    ((∃ s_1, Is (s_1 ≤ ByteArray.size s ∧ ∀ (i : Nat), i < s_1 → in2 (bt s i) = true ∧ (i = 0 → letI' (bt s i) = true)) ∧ [Value.string s, poi, poi, poi, poi, poi, Value.pointer (some ⟨0, 0, none⟩), poi, poi, poi, poi, poi, poi, poi, poi, poi, poi, poi, poi, poi, poi, poi, poi, poi, poi, poi, poi, poi, poi, poi, poi, poi, poi, poi, poi] = [Value.string s, poi, poi, poi, poi, poi, Value.pointer (some ⟨0, 0, none⟩), poi, poi, poi, poi, poi, poi, poi, poi, poi, poi, poi, poi, poi, poi, poi, poi, poi, poi, poi, poi, poi, poi, poi, poi, poi, poi, poi, poi] ∧ some (AObj.iter s 0) :: noH = some (AObj.iter s s_1) :: noH) ∧ ∀ (s_1 : Nat), Is (s_1 ≤ ByteArray.size s ∧ ∀ (i : Nat), i < s_1 → in2 (bt s i) = true ∧ (i = 0 → letI' (bt s i) = true)) → br (decide (s_1 < ByteArray.size s)) (br (!letI' (↑(Prod.fst (Utf8.decode s s_1)) : Int)) (br ((s_1 : Int) == (0 : Int)) (K (Value.bool false) noH) (br (!digI (↑(Prod.fst (Utf8.decode s s_1)) : Int)) (br ((↑(Prod.fst (Utf8.decode s s_1)) : Int) != (95 : Int)) (K (Value.bool false) noH) (∃ s', Is (s' ≤ ByteArray.size s ∧ ∀ (i : Nat), i < s' → in2 (bt s i) = true ∧ (i = 0 → letI' (bt s i) = true)) ∧ Is (ByteArray.size s - s' < ByteArray.size s - s_1) ∧ [Value.string s, poi, poi, poi, poi, poi, Value.pointer (some ⟨0, 0, none⟩), poi, poi, poi, poi, poi, poi, poi, poi, poi, poi, poi, poi, poi, poi, poi, poi, poi, poi, poi, poi, poi, poi, poi, poi, poi, poi, poi, poi] = [Value.string s, poi, poi, poi, poi, poi, Value.pointer (some ⟨0, 0, none⟩), poi, poi, poi, poi, poi, poi, poi, poi, poi, poi, poi, poi, poi, poi, poi, poi, poi, poi, poi, poi, poi, poi, poi, poi, poi, poi, poi, poi] ∧ some (AObj.iter s (s_1 + Prod.snd (Utf8.decode s s_1))) :: noH = some (AObj.iter s s') :: noH)) (∃ s', Is (s' ≤ ByteArray.size s ∧ ∀ (i : Nat), i < s' → in2 (bt s i) = true ∧ (i = 0 → letI' (bt s i) = true)) ∧ Is (ByteArray.size s - s' < ByteArray.size s - s_1) ∧ [Value.string s, poi, poi, poi, poi, poi, Value.pointer (some ⟨0, 0, none⟩), poi, poi, poi, poi, poi, poi, poi, poi, poi, poi, poi, poi, poi, poi, poi, poi, poi, poi, poi, poi, poi, poi, poi, poi, poi, poi, poi, poi] = [Value.string s, poi, poi, poi, poi, poi, Value.pointer (some ⟨0, 0, none⟩), poi, poi, poi, poi, poi, poi, poi, poi, poi, poi, poi, poi, poi, poi, poi, poi, poi, poi, poi, poi, poi, poi, poi, poi, poi, poi, poi, poi] ∧ some (AObj.iter s (s_1 + Prod.snd (Utf8.decode s s_1))) :: noH = some (AObj.iter s s') :: noH))) (∃ s', Is (s' ≤ ByteArray.size s ∧ ∀ (i : Nat), i < s' → in2 (bt s i) = true ∧ (i = 0 → letI' (bt s i) = true)) ∧ Is (ByteArray.size s - s' < ByteArray.size s - s_1) ∧ [Value.string s, poi, poi, poi, poi, poi, Value.pointer (some ⟨0, 0, none⟩), poi, poi, poi, poi, poi, poi, poi, poi, poi, poi, poi, poi, poi, poi, poi, poi, poi, poi, poi, poi, poi, poi, poi, poi, poi, poi, poi, poi] = [Value.string s, poi, poi, poi, poi, poi, Value.pointer (some ⟨0, 0, none⟩), poi, poi, poi, poi, poi, poi, poi, poi, poi, poi, poi, poi, poi, poi, poi, poi, poi, poi, poi, poi, poi, poi, poi, poi, poi, poi, poi, poi] ∧ some (AObj.iter s (s_1 + Prod.snd (Utf8.decode s s_1))) :: noH = some (AObj.iter s s') :: noH)) (br (decide ((0 : Int) < (↑(ByteArray.size s) : Int))) (K (Value.bool (decide ((↑(ByteArray.size s) : Int) ≤ (24 : Int)))) noH) (K (Value.bool false) noH))) := by kernel_rfl
noncomputable def tN8 : List (Nat × Orc) := [(107, orcLet8), (108, orcDig8)]
noncomputable def cN8 : CallF := ctx Tryz.prog tN8
noncomputable def lpName8 (s : ByteArray) : Lp where
  σ := Nat
  E p := slots 42 [(0, .string s), (3, .int .i64 (Int.ofNat p))]
  Hp _ := []
  I p := 1 ≤ p ∧ p ≤ s.size ∧ letI' (bt s 0) = true ∧ s.size ≤ 24 ∧ ∀ i, i < p → in2 (bt s i) = true
  m p := s.size - p
noncomputable def hsName8 (s : ByteArray) : Hs Tryz.prog where
  op x := if x = 110 then some (hSi Tryz.prog) else if x = 602 then some (hSi Tryz.prog) else if x = 608 then some (hSi Tryz.prog) else if x = 615 then some (hSi Tryz.prog) else none
  lp _ := some (lpName8 s)
  cl _ := keep 42 [0, 3]
  au := au0 Tryz.prog
theorem name8_t (s : ByteArray) (K : Value → Heap → Prop) :
    (fnP Tryz.prog cN8 (hsName8 s) (97 : FuncId) [Value.string s] [] K) =
    (br ((↑(ByteArray.size s) : Int) == (0 : Int)) (K (Value.bool false) noH) (br (decide ((24 : Int) < (↑(ByteArray.size s) : Int))) (K (Value.bool false) noH) (Is ((0 : Int) ≤ (0 : Int) ∧ (0 : Int) < (↑(ByteArray.size s) : Int)) ∧ br (!letI' (bt s 0)) (K (Value.bool false) noH) ((∃ s_1, Is (1 ≤ s_1 ∧ s_1 ≤ ByteArray.size s ∧ letI' (bt s 0) = true ∧ ByteArray.size s ≤ 24 ∧ ∀ (i : Nat), i < s_1 → in2 (bt s i) = true) ∧ [Value.string s, poi, poi, Value.int .i64 1, poi, poi, poi, poi, poi, poi, poi, poi, poi, poi, poi, poi, poi, poi, poi, poi, poi, poi, poi, poi, poi, poi, poi, poi, poi, poi, poi, poi, poi, poi, poi, poi, poi, poi, poi, poi, poi, poi] = [Value.string s, poi, poi, Value.int .i64 (s_1 : Int), poi, poi, poi, poi, poi, poi, poi, poi, poi, poi, poi, poi, poi, poi, poi, poi, poi, poi, poi, poi, poi, poi, poi, poi, poi, poi, poi, poi, poi, poi, poi, poi, poi, poi, poi, poi, poi, poi] ∧ noH = noH) ∧ ∀ (s_1 : Nat), Is (1 ≤ s_1 ∧ s_1 ≤ ByteArray.size s ∧ letI' (bt s 0) = true ∧ ByteArray.size s ≤ 24 ∧ ∀ (i : Nat), i < s_1 → in2 (bt s i) = true) → br (decide ((s_1 : Int) < (↑(ByteArray.size s) : Int))) (Is ((0 : Int) ≤ (s_1 : Int) ∧ (s_1 : Int) < (↑(ByteArray.size s) : Int)) ∧ br (!letI' (bt s (Int.toNat (s_1 : Int)))) (Is ((0 : Int) ≤ (s_1 : Int) ∧ (s_1 : Int) < (↑(ByteArray.size s) : Int)) ∧ br (!digI (bt s (Int.toNat (s_1 : Int)))) (Is ((0 : Int) ≤ (s_1 : Int) ∧ (s_1 : Int) < (↑(ByteArray.size s) : Int)) ∧ br (bt s (Int.toNat (s_1 : Int)) != (95 : Int)) (K (Value.bool false) noH) (∃ s', Is (1 ≤ s' ∧ s' ≤ ByteArray.size s ∧ letI' (bt s 0) = true ∧ ByteArray.size s ≤ 24 ∧ ∀ (i : Nat), i < s' → in2 (bt s i) = true) ∧ Is (ByteArray.size s - s' < ByteArray.size s - s_1) ∧ [Value.string s, poi, poi, Value.int .i64 (IntKind.wrap .i64 ((s_1 : Int) + (1 : Int))), poi, poi, poi, poi, poi, poi, poi, poi, poi, poi, poi, poi, poi, poi, poi, poi, poi, poi, poi, poi, poi, poi, poi, poi, poi, poi, poi, poi, poi, poi, poi, poi, poi, poi, poi, poi, poi, poi] = [Value.string s, poi, poi, Value.int .i64 (↑s' : Int), poi, poi, poi, poi, poi, poi, poi, poi, poi, poi, poi, poi, poi, poi, poi, poi, poi, poi, poi, poi, poi, poi, poi, poi, poi, poi, poi, poi, poi, poi, poi, poi, poi, poi, poi, poi, poi, poi] ∧ noH = noH)) (∃ s', Is (1 ≤ s' ∧ s' ≤ ByteArray.size s ∧ letI' (bt s 0) = true ∧ ByteArray.size s ≤ 24 ∧ ∀ (i : Nat), i < s' → in2 (bt s i) = true) ∧ Is (ByteArray.size s - s' < ByteArray.size s - s_1) ∧ [Value.string s, poi, poi, Value.int .i64 (IntKind.wrap .i64 ((s_1 : Int) + (1 : Int))), poi, poi, poi, poi, poi, poi, poi, poi, poi, poi, poi, poi, poi, poi, poi, poi, poi, poi, poi, poi, poi, poi, poi, poi, poi, poi, poi, poi, poi, poi, poi, poi, poi, poi, poi, poi, poi, poi] = [Value.string s, poi, poi, Value.int .i64 (↑s' : Int), poi, poi, poi, poi, poi, poi, poi, poi, poi, poi, poi, poi, poi, poi, poi, poi, poi, poi, poi, poi, poi, poi, poi, poi, poi, poi, poi, poi, poi, poi, poi, poi, poi, poi, poi, poi, poi, poi] ∧ noH = noH)) (∃ s', Is (1 ≤ s' ∧ s' ≤ ByteArray.size s ∧ letI' (bt s 0) = true ∧ ByteArray.size s ≤ 24 ∧ ∀ (i : Nat), i < s' → in2 (bt s i) = true) ∧ Is (ByteArray.size s - s' < ByteArray.size s - s_1) ∧ [Value.string s, poi, poi, Value.int .i64 (IntKind.wrap .i64 ((s_1 : Int) + (1 : Int))), poi, poi, poi, poi, poi, poi, poi, poi, poi, poi, poi, poi, poi, poi, poi, poi, poi, poi, poi, poi, poi, poi, poi, poi, poi, poi, poi, poi, poi, poi, poi, poi, poi, poi, poi, poi, poi, poi] = [Value.string s, poi, poi, Value.int .i64 (↑s' : Int), poi, poi, poi, poi, poi, poi, poi, poi, poi, poi, poi, poi, poi, poi, poi, poi, poi, poi, poi, poi, poi, poi, poi, poi, poi, poi, poi, poi, poi, poi, poi, poi, poi, poi, poi, poi, poi, poi] ∧ noH = noH)) (K (Value.bool true) noH))))) := by kernel_rfl
theorem letI_iff {c : Int} : letI' c = true ↔ (97 ≤ c ∧ c ≤ 122) ∨ (65 ≤ c ∧ c ≤ 90) := by simp [letI']
theorem letI_not {c : Int} : letI' c = false ↔ ¬ ((97 ≤ c ∧ c ≤ 122) ∨ (65 ≤ c ∧ c ≤ 90)) := by rw [← letI_iff]; simp
theorem digI_iff {c : Int} : digI c = true ↔ 48 ≤ c ∧ c ≤ 57 := by simp [digI]
theorem digI_not {c : Int} : digI c = false ↔ ¬ (48 ≤ c ∧ c ≤ 57) := by rw [← digI_iff]; simp
theorem in2_iff {c : Int} : in2 c = true ↔ letI' c = true ∨ digI c = true ∨ c = 95 := by simp [in2, or_assoc]
theorem okLet : Ok Tryz.prog 72 orcLet := by
  intro args H ret H' h
  unfold orcLet at h
  split at h
  · cases h
    refine fnP_res hm c0_ok (hs := h0) ?_
    rw [let_t]
    exact br_of (fun a => br_of (fun b => ⟨by simp [letI', a, b], rfl⟩) (fun b => br_of (fun d => ⟨by simp [letI', b, d], rfl⟩) (fun d => ⟨by simp [letI', b, d], rfl⟩)))
      (fun a => br_of (fun d => ⟨by simp [letI', a, d], rfl⟩) (fun d => ⟨by simp [letI', a, d], rfl⟩))
  · cases h
theorem okDig : Ok Tryz.prog 73 orcDig := by
  intro args H ret H' h
  unfold orcDig at h
  split at h
  · cases h
    refine fnP_res hm c0_ok (hs := h0) ?_
    rw [dig_t]
    exact br_of (fun a => ⟨by simp [digI, a], rfl⟩) (fun a => ⟨by simp [digI, a], rfl⟩)
  · cases h
theorem okLet8 : Ok Tryz.prog 107 orcLet8 := by
  intro args H ret H' h
  unfold orcLet8 at h
  split at h
  · cases h
    refine fnP_res hm c0_ok (hs := h0) ?_
    rw [let8_t]
    exact br_of (fun a => br_of (fun b => ⟨by simp [letI', a, b], rfl⟩) (fun b => br_of (fun d => ⟨by simp [letI', b, d], rfl⟩) (fun d => ⟨by simp [letI', b, d], rfl⟩)))
      (fun a => br_of (fun d => ⟨by simp [letI', a, d], rfl⟩) (fun d => ⟨by simp [letI', a, d], rfl⟩))
  · cases h
theorem okDig8 : Ok Tryz.prog 108 orcDig8 := by
  intro args H ret H' h
  unfold orcDig8 at h
  split at h
  · cases h
    refine fnP_res hm c0_ok (hs := h0) ?_
    rw [dig8_t]
    exact br_of (fun a => ⟨by simp [digI, a], rfl⟩) (fun a => ⟨by simp [digI, a], rfl⟩)
  · cases h
theorem name_iff (s : ByteArray) : nameB s = true ↔ 0 < s.size ∧ s.size ≤ 24 ∧ ∀ i, i < s.size → in2 (bt s i) = true ∧ (i = 0 → letI' (bt s i) = true) := by
  obtain ⟨⟨l⟩⟩ := s
  show nameL l = true ↔ 0 < l.length ∧ l.length ≤ 24 ∧ ∀ i, i < l.length → in2 (Int.ofNat (l.getD i 0).toNat) = true ∧ (i = 0 → letI' (Int.ofNat (l.getD i 0).toNat) = true)
  cases l with
  | nil => simp [nameL]
  | cons b r =>
    simp only [nameL, Bool.and_eq_true, decide_eq_true_eq, List.all_eq_true, List.length_cons]
    constructor
    · rintro ⟨⟨h1, h2⟩, h3⟩
      refine ⟨by omega, by omega, fun i hi => ?_⟩
      cases i with
      | zero => exact ⟨in2_iff.2 (.inl h2), fun _ => h2⟩
      | succ j =>
        refine ⟨?_, fun h => by omega⟩
        have hj : j < r.length := by omega
        have : (b :: r).getD (j + 1) 0 = r[j] := by simp [List.getD_eq_getElem?_getD, hj]
        rw [this]
        exact h3 _ (List.getElem_mem _)
    · rintro ⟨_, h1, h2⟩
      refine ⟨⟨by omega, (h2 0 (by omega)).2 rfl⟩, fun x hx => ?_⟩
      obtain ⟨j, hj, rfl⟩ := List.mem_iff_getElem.1 hx
      have := (h2 (j + 1) (by omega)).1
      have e : (b :: r).getD (j + 1) 0 = r[j] := by simp [List.getD_eq_getElem?_getD, hj]
      rw [e] at this
      exact this
theorem name_bad {s : ByteArray} {p : Nat} (hp : p < s.size) (h : in2 (bt s p) = true → p = 0 ∧ letI' (bt s p) = false) : nameB s = false := by
  cases hn : nameB s with
  | false => rfl
  | true =>
    obtain ⟨_, _, h3⟩ := (name_iff s).1 hn
    obtain ⟨a, b⟩ := h3 p hp
    obtain ⟨c, d⟩ := h a
    rw [b c] at d; cases d
theorem bt_at {s : ByteArray} {p : Nat} (hp : p < s.size) : (s[p]'hp).toNat = (s.data.toList.getD p 0).toNat := by
  have : p < s.data.size := hp
  simp only [List.getD_eq_getElem?_getD, Array.getElem?_toList, Array.getElem?_eq_getElem this, Option.getD_some]
  rfl
theorem bt_low {s : ByteArray} {p : Nat} (hp : p < s.size) (h : bt s p < 128) : ((Utf8.decode s p).1 : Int) = bt s p ∧ (Utf8.decode s p).2 = 1 := by
  have hb := bt_at hp
  have := decode_ascii s p hp (by rw [hb]; simp only [bt] at h; exact Int.ofNat_lt.1 h)
  rw [this, hb]
  exact ⟨rfl, rfl⟩
theorem bt_high {s : ByteArray} {p : Nat} (hp : p < s.size) (h : ¬ bt s p < 128) : (128 : Int) ≤ ((Utf8.decode s p).1 : Int) := by
  have hb := bt_at hp
  have := (decode_high s p hp (by rw [hb]; have e : bt s p = (((s.data.toList.getD p 0).toNat : Nat) : Int) := rfl; omega)).1
  omega
theorem in2_low {c : Int} (h : in2 c = true) : c < 128 := by
  rcases in2_iff.1 h with h | h | h
  · rw [letI_iff] at h; omega
  · rw [digI_iff] at h; omega
  · omega
theorem okN : CallOK Tryz.prog cN := ctx_ok hm (all_cons okLet (all_cons okDig all_nil))
theorem okN8 : CallOK Tryz.prog cN8 := ctx_ok hm (all_cons okLet8 (all_cons okDig8 all_nil))
set_option maxRecDepth 100000 in
theorem name_ok (s : ByteArray) : SmallRes Tryz.prog 46 [.string s] [] (.bool (nameB s)) [] := by
  refine fnP_res hm okN (hs := hsName s) ?_
  rw [name_t]
  refine ⟨⟨(0 : Nat), ⟨Nat.zero_le _, fun i hi => by omega⟩, rfl, rfl⟩, fun p hp => br_of (fun hlt => ?_) (fun hge => ?_)⟩
  · have hlt : p < s.size := of_decide_eq_true hlt
    obtain ⟨hp1, hp2⟩ := hp.out
    by_cases hb : bt s p < 128
    · obtain ⟨e1, e2⟩ := bt_low hlt hb
      simp only [e1, e2]
      have bad : (in2 (bt s p) = true → p = 0 ∧ letI' (bt s p) = false) → (Value.bool false = .bool (nameB s) ∧ True) := fun h => ⟨by rw [name_bad hlt h], trivial⟩
      have next : in2 (bt s p) = true → (p = 0 → letI' (bt s p) = true) → p + 1 ≤ s.size ∧ ∀ i, i < p + 1 → in2 (bt s i) = true ∧ (i = 0 → letI' (bt s i) = true) := fun h1 h2 => ⟨hlt, fun i hi => by
        rcases Nat.lt_succ_iff_lt_or_eq.1 hi with h | rfl
        · exact hp2 i h
        · exact ⟨h1, h2⟩⟩
      refine br_of (fun h1 => ?_) (fun h1 => ?_)
      · have h1 : letI' (bt s p) = false := by simpa using h1
        refine br_of (fun h2 => bad fun _ => ⟨by simpa using h2, h1⟩) (fun h2 => ?_)
        have h2 : p ≠ 0 := by simpa using h2
        refine br_of (fun h3 => br_of (fun h4 => bad fun h => ?_) (fun h4 => ?_)) (fun h3 => ?_)
        · have h3 : digI (bt s p) = false := by simpa using h3
          have h4 : bt s p ≠ 95 := by simpa using h4
          rcases in2_iff.1 h with h | h | h
          · rw [h1] at h; cases h
          · rw [h3] at h; cases h
          · exact absurd h h4
        · have h4 : bt s p = 95 := by simpa using h4
          exact ⟨p + 1, ⟨next (in2_iff.2 (.inr (.inr h4))) fun h => absurd h h2⟩, ⟨by omega⟩, by first | trivial | rfl, by first | trivial | rfl⟩
        · have h3 : digI (bt s p) = true := by simpa using h3
          exact ⟨p + 1, ⟨next (in2_iff.2 (.inr (.inl h3))) fun h => absurd h h2⟩, ⟨by omega⟩, by first | trivial | rfl, by first | trivial | rfl⟩
      · have h1 : letI' (bt s p) = true := by simpa using h1
        exact ⟨p + 1, ⟨next (in2_iff.2 (.inl h1)) fun _ => h1⟩, ⟨by omega⟩, by first | trivial | rfl, by first | trivial | rfl⟩
    · have hh := bt_high hlt hb
      have hf : nameB s = false := name_bad hlt fun h => absurd (in2_low h) hb
      have l1 : letI' (↑(Utf8.decode s p).1 : Int) = false := letI_not.2 (by omega)
      have l2 : digI (↑(Utf8.decode s p).1 : Int) = false := digI_not.2 (by omega)
      have l3 : ((↑(Utf8.decode s p).1 : Int) != 95) = true := by simp; omega
      simp only [l1, l2, l3, hf, Bool.not_false, br_t]
      exact br_of (fun _ => by first | trivial | exact ⟨rfl, rfl⟩) (fun _ => by first | trivial | exact ⟨rfl, rfl⟩)
  · have hge : ¬ p < s.size := of_decide_eq_false hge
    obtain ⟨hp1, hp2⟩ := hp.out
    have : p = s.size := by omega
    subst this
    have fin : nameB s = (decide ((0 : Int) < (s.size : Int)) && decide ((s.size : Int) ≤ 24)) := by
      rw [Bool.eq_iff_iff, name_iff]
      simp only [Bool.and_eq_true, decide_eq_true_eq]
      constructor
      · rintro ⟨a, b, _⟩; omega
      · rintro ⟨a, b⟩; exact ⟨by omega, by omega, hp2⟩
    rw [fin]
    exact br_of (fun h => ⟨by rw [h]; rfl, rfl⟩) (fun h => ⟨by rw [h]; rfl, rfl⟩)
set_option maxRecDepth 100000 in
theorem name8_ok (s : ByteArray) : SmallRes Tryz.prog 97 [.string s] [] (.bool (nameB s)) [] := by
  refine fnP_res hm okN8 (hs := hsName8 s) ?_
  rw [name8_t]
  have no : ∀ {p : Nat}, p < s.size → (in2 (bt s p) = true → p = 0 ∧ letI' (bt s p) = false) → Value.bool false = .bool (nameB s) := fun h1 h2 => by rw [name_bad h1 h2]
  have small : (s.size = 0 ∨ 24 < s.size) → Value.bool false = .bool (nameB s) := fun h => by
    cases hn : nameB s with
    | false => rfl
    | true => have := (name_iff s).1 hn; omega
  refine br_of (fun h => ⟨small (.inl (by simpa using h)), rfl⟩) (fun h1 => br_of (fun h => ⟨small (.inr (by have := of_decide_eq_true h; omega)), rfl⟩) (fun h2 => ?_))
  have h1 : s.size ≠ 0 := by simpa using h1
  have h2 : s.size ≤ 24 := by have := of_decide_eq_false h2; omega
  have z : Int.toNat 0 = 0 := rfl
  refine ⟨⟨by omega, by omega⟩, br_of (fun h => ⟨no (p := 0) (by omega) fun _ => ⟨rfl, by simpa using h⟩, by first | trivial | rfl⟩) (fun h3 => ?_)⟩
  have h3 : letI' (bt s 0) = true := by simpa using h3
  refine ⟨⟨(1 : Nat), ⟨⟨Nat.le_refl _, by omega, h3, h2, fun i hi => ?_⟩⟩, by first | trivial | rfl, by first | trivial | rfl⟩, fun p hp => br_of (fun hlt => ?_) (fun hge => ?_)⟩
  · obtain rfl : i = 0 := by omega
    exact in2_iff.2 (.inl h3)
  · have hlt := lt_of_dec hlt
    obtain ⟨p1, p2, p3, p4, p5⟩ := hp.out
    have bad : (in2 (bt s p) = false) → Value.bool false = .bool (nameB s) := fun h => no hlt fun h' => by rw [h] at h'; cases h'
    have next : in2 (bt s p) = true → 1 ≤ p + 1 ∧ p + 1 ≤ s.size ∧ letI' (bt s 0) = true ∧ s.size ≤ 24 ∧ ∀ i, i < p + 1 → in2 (bt s i) = true := fun h => ⟨by omega, hlt, p3, p4, fun i hi => by
      rcases Nat.lt_succ_iff_lt_or_eq.1 hi with h' | rfl
      · exact p5 i h'
      · exact h⟩
    have e1 : IntKind.wrap .i64 ((p : Int) + 1) = ((p + 1 : Nat) : Int) := up1 hlt (by omega)
    simp only [Int.toNat_natCast, e1]
    refine ⟨⟨by omega, by omega⟩, br_of (fun a1 => ⟨⟨by omega, by omega⟩, br_of (fun a2 => ⟨⟨by omega, by omega⟩, br_of (fun a3 => ⟨bad ?_, by first | trivial | rfl⟩) (fun a3 => ⟨p + 1, ⟨next (in2_iff.2 (.inr (.inr ?_)))⟩, ⟨by omega⟩, by first | trivial | rfl, by first | trivial | rfl⟩)⟩) (fun a2 => ⟨p + 1, ⟨next (in2_iff.2 (.inr (.inl ?_)))⟩, ⟨by omega⟩, by first | trivial | rfl, by first | trivial | rfl⟩)⟩) (fun a1 => ⟨p + 1, ⟨next (in2_iff.2 (.inl ?_))⟩, ⟨by omega⟩, by first | trivial | rfl, by first | trivial | rfl⟩)⟩
    · cases hi : in2 (bt s p) with
      | false => rfl
      | true =>
        rcases in2_iff.1 hi with h | h | h
        · simp [h] at a1
        · simp [h] at a2
        · simp [h] at a3
    · simpa using a3
    · simpa using a2
    · simpa using a1
  · have hge := ge_of_dec hge
    obtain ⟨p1, p2, p3, p4, p5⟩ := hp.out
    have : p = s.size := by omega
    subst this
    have : nameB s = true := (name_iff s).2 ⟨by omega, h2, fun i hi => ⟨p5 i hi, fun h => by subst h; exact h3⟩⟩
    rw [this]
    exact ⟨rfl, by first | trivial | rfl⟩
noncomputable def orcName : Orc
  | [.string s], [] => some (.bool (nameB s), [])
  | _, _ => none
theorem okName : Ok Tryz.prog 46 orcName := by
  intro args H ret H' h
  unfold orcName at h
  split at h
  · cases h; exact name_ok _
  · cases h
theorem okName8 : Ok Tryz.prog 97 orcName := by
  intro args H ret H' h
  unfold orcName at h
  split at h
  · cases h; exact name8_ok _
  · cases h
end
end Qq
end
section
/- Sections, checked. -/
open Go Go.Vm Go.Proofs Sp
namespace Sp
noncomputable section
noncomputable def chkM (d x : Int) : Int := fi [wi d 0 100000, wi x 0 100000]
noncomputable def chkA (d : Int) (k : ByteArray) : Int := fi [wi d 0 100000, wh (!nameB k) 13]
noncomputable def mchk : List Int → Int → Int
  | d :: x :: r, last => sel (fi [chkM d x, wh (decide (d ≤ last)) 11]) (mchk r d)
  | _, _ => 0
noncomputable def achk : List (Int × ByteArray) → Int → Int
  | [], _ => 0
  | a :: r, last => sel (fi [chkA a.1 a.2, wh (decide (a.1 ≤ last)) 11]) (achk r a.1)
noncomputable def secE (nm : ByteArray) (zs : List Int) (n : Nat) (ks : List (Int × ByteArray)) (k : Nat) : Int :=
  sel (fi [wh (!nameB nm) 8, wh (decide ((32 : Int) < n)) 5]) (sel (mchk zs (-1)) (sel (wh (decide ((16 : Int) < k)) 5) (achk ks (-1))))
end
end Sp
namespace Qq
noncomputable section
noncomputable def orcMc : Orc
  | [.agg ⟨[.int .i64 d, .int .i64 x]⟩], [] => some (.int .i64 (chkM d x), [])
  | _, _ => none
noncomputable def orcAc : Orc
  | [.agg ⟨[.int .i64 d, .string k]⟩], [] => some (.int .i64 (chkA d k), [])
  | _, _ => none
noncomputable def orcCn : Orc
  | [.string k], [] => some (.int .i64 (wh (!nameB k) 8), [])
  | _, _ => none
noncomputable def t10 : List (Nat × Orc) := (46, orcName) :: t2
theorem t10_all : ∀ p ∈ t10, Ok Tryz.prog p.1 p.2 := all_cons okName t2_all
noncomputable def c10 : CallF := ctx Tryz.prog t10
theorem c10_ok : CallOK Tryz.prog c10 := ctx_ok hm t10_all
noncomputable def r10 : List (Nat × Orc) := (97, orcName) :: r2
theorem r10_all : ∀ p ∈ r10, Ok Tryz.prog p.1 p.2 := all_cons okName8 r2_all
noncomputable def cr10 : CallF := ctx Tryz.prog r10
theorem cr10_ok : CallOK Tryz.prog cr10 := ctx_ok hm r10_all
theorem mc_t (d : Int) (x : Int) (K : Value → Heap → Prop) :
    (fnP Tryz.prog c10 h0 (47 : FuncId) [Value.agg #[Value.int IntKind.i64 d, Value.int IntKind.i64 x]] [] K) =
    (K (Value.int IntKind.i64 (fi [wi d (0 : Int) (100000 : Int), wi x (0 : Int) (100000 : Int)])) noH) := by kernel_rfl
theorem ac_t (d : Int) (k : ByteArray) (K : Value → Heap → Prop) :
    (fnP Tryz.prog c10 h0 (48 : FuncId) [Value.agg #[Value.int IntKind.i64 d, Value.string k]] [] K) =
    (K (Value.int IntKind.i64 (fi [wi d (0 : Int) (100000 : Int), wh (!nameB k) (13 : Int)])) noH) := by kernel_rfl
theorem mcR_t (d : Int) (x : Int) (K : Value → Heap → Prop) :
    (fnP Tryz.prog cr10 h0 (70 : FuncId) [Value.agg #[Value.int IntKind.i64 d, Value.int IntKind.i64 x]] [] K) =
    (K (Value.int IntKind.i64 (fi [wi d (0 : Int) (100000 : Int), wi x (0 : Int) (100000 : Int)])) noH) := by kernel_rfl
theorem cn_t (k : ByteArray) (K : Value → Heap → Prop) :
    (fnP Tryz.prog cr10 h0 (68 : FuncId) [Value.string k] [] K) =
    (K (Value.int IntKind.i64 (wh (!nameB k) (8 : Int))) noH) := by kernel_rfl
theorem okMc : Ok Tryz.prog 47 orcMc := by
  intro args H ret H' h
  unfold orcMc at h
  split at h
  · cases h
    refine fnP_res hm c10_ok (hs := h0) ?_
    rw [mc_t]
    exact ⟨rfl, rfl⟩
  · cases h
theorem okAc : Ok Tryz.prog 48 orcAc := by
  intro args H ret H' h
  unfold orcAc at h
  split at h
  · cases h
    refine fnP_res hm c10_ok (hs := h0) ?_
    rw [ac_t]
    exact ⟨rfl, rfl⟩
  · cases h
theorem okMcR : Ok Tryz.prog 70 orcMc := by
  intro args H ret H' h
  unfold orcMc at h
  split at h
  · cases h
    refine fnP_res hm cr10_ok (hs := h0) ?_
    rw [mcR_t]
    exact ⟨rfl, rfl⟩
  · cases h
theorem okCn : Ok Tryz.prog 68 orcCn := by
  intro args H ret H' h
  unfold orcCn at h
  split at h
  · cases h
    refine fnP_res hm cr10_ok (hs := h0) ?_
    rw [cn_t]
    exact ⟨rfl, rfl⟩
  · cases h
noncomputable def r11 : List (Nat × Orc) := (70, orcMc) :: (68, orcCn) :: r2
theorem r11_all : ∀ p ∈ r11, Ok Tryz.prog p.1 p.2 := all_cons okMcR (all_cons okCn r2_all)
noncomputable def cr11 : CallF := ctx Tryz.prog r11
theorem cr11_ok : CallOK Tryz.prog cr11 := ctx_ok hm r11_all
theorem acR_t (d : Int) (k : ByteArray) (K : Value → Heap → Prop) :
    (fnP Tryz.prog cr11 h0 (71 : FuncId) [Value.agg #[Value.int IntKind.i64 d, Value.string k]] [] K) =
    (K (Value.int IntKind.i64 (fi [wi d (0 : Int) (100000 : Int), wh (wh (!nameB k) (8 : Int) != (0 : Int)) (13 : Int)])) noH) := by kernel_rfl
theorem okAcR : Ok Tryz.prog 71 orcAc := by
  intro args H ret H' h
  unfold orcAc at h
  split at h
  · rename_i d k
    cases h
    refine fnP_res hm cr11_ok (hs := h0) ?_
    rw [acR_t]
    refine ⟨?_, rfl⟩
    cases h : nameB k <;> simp [chkA, wh, h]
  · cases h
noncomputable def t12 : List (Nat × Orc) := (47, orcMc) :: (48, orcAc) :: t10
theorem t12_all : ∀ p ∈ t12, Ok Tryz.prog p.1 p.2 := all_cons okMc (all_cons okAc t10_all)
noncomputable def c12 : CallF := ctx Tryz.prog t12
theorem c12_ok : CallOK Tryz.prog c12 := ctx_ok hm t12_all
noncomputable def r12 : List (Nat × Orc) := (71, orcAc) :: r11
theorem r12_all : ∀ p ∈ r12, Ok Tryz.prog p.1 p.2 := all_cons okAcR r11_all
noncomputable def cr12 : CallF := ctx Tryz.prog r12
theorem cr12_ok : CallOK Tryz.prog cr12 := ctx_ok hm r12_all

noncomputable def z2 (zs : List Int) (off : Nat) : Value := .agg #[.int .i64 (zs.getD off 0), .int .i64 (zs.getD (off + 1) 0)]
noncomputable def k2 (ks : List (Int × ByteArray)) (off : Nat) : Value := .agg #[.int .i64 (ks.getD (off / 2) (0, ⟨#[]⟩)).1, .string (ks.getD (off / 2) (0, ⟨#[]⟩)).2]
noncomputable def hp2 (zs : List Int) (ks : List (Int × ByteArray)) (m1 w1 m2 w2 : Bool) (l : List (Option AObj)) : Heap := some (.row (ints zs) 2 m1 w1 true) :: some (.row (acs ks) 2 m2 w2 true) :: l
noncomputable def lpCk1 (nm : ByteArray) (zs : List Int) (ks : List (Int × ByteArray)) (n c k d : Nat) (m1 w1 m2 w2 : Bool) : Lp where
  σ := Nat × Int
  E s := slots 74 [(1, .pointer (some ⟨2, 0, none⟩)), (4, .int .i64 s.2), (27, .slice (some ⟨0, 0, none⟩) n c), (28, .int .i64 (Int.ofNat n)), (29, .int .i64 (Int.ofNat s.1))]
  Hp _ := hp2 zs ks m1 w1 m2 w2 [some (.row (secA nm 0 n c 1 k d) 0 false true false)]
  I s := s.1 ≤ n ∧ mchk (zs.drop (s.1 * 2)) s.2 = mchk zs (-1)
  m s := n - s.1
noncomputable def lpCk2 (_nm : ByteArray) (zs : List Int) (ks : List (Int × ByteArray)) (_n _c k d : Nat) (m1 w1 m2 w2 : Bool) : Lp where
  σ := Nat × Int
  E s := slots 74 [(4, .int .i64 s.2), (53, .slice (some ⟨1, 0, none⟩) k d), (54, .int .i64 (Int.ofNat k)), (55, .int .i64 (Int.ofNat s.1))]
  Hp _ := hp2 zs ks m1 w1 m2 w2 []
  I s := s.1 ≤ k ∧ achk (ks.drop s.1) s.2 = achk ks (-1)
  m s := k - s.1
noncomputable def hsCk (nm : ByteArray) (zs : List Int) (ks : List (Int × ByteArray)) (n c k d : Nat) (m1 w1 m2 w2 : Bool) : Hs Tryz.prog where
  op x := if x = 700 then some (hIa Tryz.prog) else if x = 701 then some (hLd Tryz.prog (z2 zs)) else if x = 1800 then some (hIa Tryz.prog) else if x = 1801 then some (hLd Tryz.prog (k2 ks)) else none
  lp x := if x = 6 then some (lpCk1 nm zs ks n c k d m1 w1 m2 w2) else some (lpCk2 nm zs ks n c k d m1 w1 m2 w2)
  cl x := if x = 6 then keep 74 [1, 4, 27, 28, 29] else keep 74 [4, 53, 54, 55]
  au := au0 Tryz.prog
theorem ck_t (nm : ByteArray) (zs : List Int) (ks : List (Int × ByteArray)) (n : Nat) (c : Nat) (k : Nat) (d : Nat) (m1 : Bool) (w1 : Bool) (m2 : Bool) (w2 : Bool) (K : Value → Heap → Prop) :
    (fnP Tryz.prog c12 (hsCk nm zs ks n c k d m1 w1 m2 w2) (19 : FuncId) [Value.agg (List.toArray (secA nm (0 : Nat) n c (1 : Nat) k d))] (hp2 zs ks m1 w1 m2 w2 []) K) =
    (let z0 : AObj := AObj.row [Value.string nm, Value.slice (some ⟨0, 0, none⟩) n c, Value.slice (some ⟨1, 0, none⟩) k d] 0 false true false; (br (fi [wh (!nameB nm) (8 : Int), wh (decide ((32 : Int) < (n : Int))) (5 : Int)] != (0 : Int)) (K (Value.int .i64 (fi [wh (!nameB nm) (8 : Int), wh (decide ((32 : Int) < (n : Int))) (5 : Int)])) (some (AObj.row (ints zs) 2 m1 w1 true) :: some (AObj.row (acs ks) 2 m2 w2 true) :: noH)) ((∃ s, Is (Prod.fst s ≤ n ∧ mchk (List.drop (Prod.fst s * 2) zs) (Prod.snd s) = mchk zs (-1 : Int)) ∧ [poi, Value.pointer (some ⟨2, 0, none⟩), poi, poi, Value.int .i64 (-1 : Int), poi, poi, poi, poi, poi, poi, poi, poi, poi, poi, poi, poi, poi, poi, poi, poi, poi, poi, poi, poi, poi, poi, Value.slice (some ⟨0, 0, none⟩) n c, Value.int .i64 (n : Int), Value.int .i64 0, poi, poi, poi, poi, poi, poi, poi, poi, poi, poi, poi, poi, poi, poi, poi, poi, poi, poi, poi, poi, poi, poi, poi, poi, poi, poi, poi, poi, poi, poi, poi, poi, poi, poi, poi, poi, poi, poi, poi, poi, poi, poi, poi, poi] = [poi, Value.pointer (some ⟨2, 0, none⟩), poi, poi, Value.int .i64 (Prod.snd s), poi, poi, poi, poi, poi, poi, poi, poi, poi, poi, poi, poi, poi, poi, poi, poi, poi, poi, poi, poi, poi, poi, Value.slice (some ⟨0, 0, none⟩) n c, Value.int .i64 (n : Int), Value.int .i64 (↑(Prod.fst s) : Int), poi, poi, poi, poi, poi, poi, poi, poi, poi, poi, poi, poi, poi, poi, poi, poi, poi, poi, poi, poi, poi, poi, poi, poi, poi, poi, poi, poi, poi, poi, poi, poi, poi, poi, poi, poi, poi, poi, poi, poi, poi, poi, poi, poi] ∧ some (AObj.row (ints zs) 2 m1 w1 true) :: some (AObj.row (acs ks) 2 m2 w2 true) :: some (AObj.row [Value.string nm, Value.slice (some ⟨0, 0, none⟩) n c, Value.slice (some ⟨1, 0, none⟩) k d] 0 false true (List.all [Value.string nm, Value.slice (some ⟨0, 0, none⟩) n c, Value.slice (some ⟨1, 0, none⟩) k d] atom)) :: noH = some (AObj.row (ints zs) 2 m1 w1 true) :: some (AObj.row (acs ks) 2 m2 w2 true) :: some z0 :: noH) ∧ ∀ (s : Nat × Int), Is (Prod.fst s ≤ n ∧ mchk (List.drop (Prod.fst s * 2) zs) (Prod.snd s) = mchk zs (-1 : Int)) → br (decide ((↑(Prod.fst s) : Int) < (n : Int))) (Is ((0 : Int) ≤ (↑(Prod.fst s) : Int) ∧ (↑(Prod.fst s) : Int) < (n : Int)) ∧ Is ((if 0 + Int.toNat (↑(Prod.fst s) : Int) * 2 + 2 ≤ List.length (ints zs) then some (Value.agg (List.toArray (List.take 2 (List.drop (0 + Int.toNat (↑(Prod.fst s) : Int) * 2) (ints zs))))) else none) = some (Value.agg #[Value.int .i64 (List.getD zs (0 + Int.toNat (↑(Prod.fst s) : Int) * 2) (0 : Int)), Value.int .i64 (List.getD zs (0 + Int.toNat (↑(Prod.fst s) : Int) * 2 + 1) (0 : Int))])) ∧ br (fi [chkM (List.getD zs (0 + Int.toNat (↑(Prod.fst s) : Int) * 2) (0 : Int)) (List.getD zs (0 + Int.toNat (↑(Prod.fst s) : Int) * 2 + 1) (0 : Int)), wh (decide (List.getD zs (0 + Int.toNat (↑(Prod.fst s) : Int) * 2) (0 : Int) ≤ Prod.snd s)) (11 : Int)] != (0 : Int)) (K (Value.int .i64 (fi [chkM (List.getD zs (0 + Int.toNat (↑(Prod.fst s) : Int) * 2) (0 : Int)) (List.getD zs (0 + Int.toNat (↑(Prod.fst s) : Int) * 2 + 1) (0 : Int)), wh (decide (List.getD zs (0 + Int.toNat (↑(Prod.fst s) : Int) * 2) (0 : Int) ≤ Prod.snd s)) (11 : Int)])) (some (AObj.row (ints zs) 2 m1 w1 true) :: some (AObj.row (acs ks) 2 m2 w2 true) :: noH)) (∃ s', Is (Prod.fst s' ≤ n ∧ mchk (List.drop (Prod.fst s' * 2) zs) (Prod.snd s') = mchk zs (-1 : Int)) ∧ Is (n - Prod.fst s' < n - Prod.fst s) ∧ [poi, Value.pointer (some ⟨2, 0, none⟩), poi, poi, Value.int .i64 (List.getD zs (0 + Int.toNat (↑(Prod.fst s) : Int) * 2) (0 : Int)), poi, poi, poi, poi, poi, poi, poi, poi, poi, poi, poi, poi, poi, poi, poi, poi, poi, poi, poi, poi, poi, poi, Value.slice (some ⟨0, 0, none⟩) n c, Value.int .i64 (n : Int), Value.int .i64 (IntKind.wrap .i64 ((↑(Prod.fst s) : Int) + (1 : Int))), poi, poi, poi, poi, poi, poi, poi, poi, poi, poi, poi, poi, poi, poi, poi, poi, poi, poi, poi, poi, poi, poi, poi, poi, poi, poi, poi, poi, poi, poi, poi, poi, poi, poi, poi, poi, poi, poi, poi, poi, poi, poi, poi, poi] = [poi, Value.pointer (some ⟨2, 0, none⟩), poi, poi, Value.int .i64 (Prod.snd s'), poi, poi, poi, poi, poi, poi, poi, poi, poi, poi, poi, poi, poi, poi, poi, poi, poi, poi, poi, poi, poi, poi, Value.slice (some ⟨0, 0, none⟩) n c, Value.int .i64 (n : Int), Value.int .i64 (↑(Prod.fst s') : Int), poi, poi, poi, poi, poi, poi, poi, poi, poi, poi, poi, poi, poi, poi, poi, poi, poi, poi, poi, poi, poi, poi, poi, poi, poi, poi, poi, poi, poi, poi, poi, poi, poi, poi, poi, poi, poi, poi, poi, poi, poi, poi, poi, poi] ∧ some (AObj.row (ints zs) 2 m1 w1 true) :: some (AObj.row (acs ks) 2 m2 w2 true) :: some z0 :: noH = some (AObj.row (ints zs) 2 m1 w1 true) :: some (AObj.row (acs ks) 2 m2 w2 true) :: some z0 :: noH)) (br (decide ((16 : Int) < (k : Int))) (K (Value.int .i64 5) (some (AObj.row (ints zs) 2 m1 w1 true) :: some (AObj.row (acs ks) 2 m2 w2 true) :: noH)) ((∃ s, Is (Prod.fst s ≤ k ∧ achk (List.drop (Prod.fst s) ks) (Prod.snd s) = achk ks (-1 : Int)) ∧ [poi, poi, poi, poi, Value.int .i64 (-1 : Int), poi, poi, poi, poi, poi, poi, poi, poi, poi, poi, poi, poi, poi, poi, poi, poi, poi, poi, poi, poi, poi, poi, poi, poi, poi, poi, poi, poi, poi, poi, poi, poi, poi, poi, poi, poi, poi, poi, poi, poi, poi, poi, poi, poi, poi, poi, poi, poi, Value.slice (some ⟨1, 0, none⟩) k d, Value.int .i64 (k : Int), Value.int .i64 0, poi, poi, poi, poi, poi, poi, poi, poi, poi, poi, poi, poi, poi, poi, poi, poi, poi, poi] = [poi, poi, poi, poi, Value.int .i64 (Prod.snd s), poi, poi, poi, poi, poi, poi, poi, poi, poi, poi, poi, poi, poi, poi, poi, poi, poi, poi, poi, poi, poi, poi, poi, poi, poi, poi, poi, poi, poi, poi, poi, poi, poi, poi, poi, poi, poi, poi, poi, poi, poi, poi, poi, poi, poi, poi, poi, poi, Value.slice (some ⟨1, 0, none⟩) k d, Value.int .i64 (k : Int), Value.int .i64 (↑(Prod.fst s) : Int), poi, poi, poi, poi, poi, poi, poi, poi, poi, poi, poi, poi, poi, poi, poi, poi, poi, poi] ∧ some (AObj.row (ints zs) 2 m1 w1 true) :: some (AObj.row (acs ks) 2 m2 w2 true) :: noH = some (AObj.row (ints zs) 2 m1 w1 true) :: some (AObj.row (acs ks) 2 m2 w2 true) :: noH) ∧ ∀ (s : Nat × Int), Is (Prod.fst s ≤ k ∧ achk (List.drop (Prod.fst s) ks) (Prod.snd s) = achk ks (-1 : Int)) → br (decide ((↑(Prod.fst s) : Int) < (k : Int))) (Is ((0 : Int) ≤ (↑(Prod.fst s) : Int) ∧ (↑(Prod.fst s) : Int) < (k : Int)) ∧ Is ((if 0 + Int.toNat (↑(Prod.fst s) : Int) * 2 + 2 ≤ List.length (acs ks) then some (Value.agg (List.toArray (List.take 2 (List.drop (0 + Int.toNat (↑(Prod.fst s) : Int) * 2) (acs ks))))) else none) = some (Value.agg #[Value.int .i64 (Prod.fst (List.getD ks ((0 + Int.toNat (↑(Prod.fst s) : Int) * 2) / 2) ((0 : Int), { data := #[] }))), Value.string (Prod.snd (List.getD ks ((0 + Int.toNat (↑(Prod.fst s) : Int) * 2) / 2) ((0 : Int), { data := #[] })))])) ∧ br (fi [chkA (Prod.fst (List.getD ks ((0 + Int.toNat (↑(Prod.fst s) : Int) * 2) / 2) ((0 : Int), { data := #[] }))) (Prod.snd (List.getD ks ((0 + Int.toNat (↑(Prod.fst s) : Int) * 2) / 2) ((0 : Int), { data := #[] }))), wh (decide (Prod.fst (List.getD ks ((0 + Int.toNat (↑(Prod.fst s) : Int) * 2) / 2) ((0 : Int), { data := #[] })) ≤ Prod.snd s)) (11 : Int)] != (0 : Int)) (K (Value.int .i64 (fi [chkA (Prod.fst (List.getD ks ((0 + Int.toNat (↑(Prod.fst s) : Int) * 2) / 2) ((0 : Int), { data := #[] }))) (Prod.snd (List.getD ks ((0 + Int.toNat (↑(Prod.fst s) : Int) * 2) / 2) ((0 : Int), { data := #[] }))), wh (decide (Prod.fst (List.getD ks ((0 + Int.toNat (↑(Prod.fst s) : Int) * 2) / 2) ((0 : Int), { data := #[] })) ≤ Prod.snd s)) (11 : Int)])) (some (AObj.row (ints zs) 2 m1 w1 true) :: some (AObj.row (acs ks) 2 m2 w2 true) :: noH)) (∃ s', Is (Prod.fst s' ≤ k ∧ achk (List.drop (Prod.fst s') ks) (Prod.snd s') = achk ks (-1 : Int)) ∧ Is (k - Prod.fst s' < k - Prod.fst s) ∧ [poi, poi, poi, poi, Value.int .i64 (Prod.fst (List.getD ks ((0 + Int.toNat (↑(Prod.fst s) : Int) * 2) / 2) ((0 : Int), { data := #[] }))), poi, poi, poi, poi, poi, poi, poi, poi, poi, poi, poi, poi, poi, poi, poi, poi, poi, poi, poi, poi, poi, poi, poi, poi, poi, poi, poi, poi, poi, poi, poi, poi, poi, poi, poi, poi, poi, poi, poi, poi, poi, poi, poi, poi, poi, poi, poi, poi, Value.slice (some ⟨1, 0, none⟩) k d, Value.int .i64 (k : Int), Value.int .i64 (IntKind.wrap .i64 ((↑(Prod.fst s) : Int) + (1 : Int))), poi, poi, poi, poi, poi, poi, poi, poi, poi, poi, poi, poi, poi, poi, poi, poi, poi, poi] = [poi, poi, poi, poi, Value.int .i64 (Prod.snd s'), poi, poi, poi, poi, poi, poi, poi, poi, poi, poi, poi, poi, poi, poi, poi, poi, poi, poi, poi, poi, poi, poi, poi, poi, poi, poi, poi, poi, poi, poi, poi, poi, poi, poi, poi, poi, poi, poi, poi, poi, poi, poi, poi, poi, poi, poi, poi, poi, Value.slice (some ⟨1, 0, none⟩) k d, Value.int .i64 (k : Int), Value.int .i64 (↑(Prod.fst s') : Int), poi, poi, poi, poi, poi, poi, poi, poi, poi, poi, poi, poi, poi, poi, poi, poi, poi, poi] ∧ some (AObj.row (ints zs) 2 m1 w1 true) :: some (AObj.row (acs ks) 2 m2 w2 true) :: noH = some (AObj.row (ints zs) 2 m1 w1 true) :: some (AObj.row (acs ks) 2 m2 w2 true) :: noH)) (K (Value.int .i64 0) (some (AObj.row (ints zs) 2 m1 w1 true) :: some (AObj.row (acs ks) 2 m2 w2 true) :: noH))))))) := by kernel_rfl
noncomputable def lpCkR1 (nm : ByteArray) (zs : List Int) (ks : List (Int × ByteArray)) (n c k d : Nat) (m1 w1 m2 w2 : Bool) : Lp where
  σ := Nat × Int
  E s := slots 101 [(1, .pointer (some ⟨2, 0, none⟩)), (4, .int .i64 (Int.ofNat s.1))]
  Hp _ := hp2 zs ks m1 w1 m2 w2 [some (.row (secA nm 0 n c 1 k d) 0 false true false)]
  I s := s.1 ≤ n ∧ mchk (zs.drop (s.1 * 2)) s.2 = mchk zs (-1) ∧ s.2 = if s.1 = 0 then -1 else zs.getD ((s.1 - 1) * 2) 0
  m s := n - s.1
noncomputable def lpCkR2 (nm : ByteArray) (zs : List Int) (ks : List (Int × ByteArray)) (n c k d : Nat) (m1 w1 m2 w2 : Bool) : Lp where
  σ := Nat × Int
  E s := slots 101 [(1, .pointer (some ⟨2, 0, none⟩)), (6, .int .i64 (Int.ofNat s.1))]
  Hp _ := hp2 zs ks m1 w1 m2 w2 [some (.row (secA nm 0 n c 1 k d) 0 false true false)]
  I s := s.1 ≤ k ∧ achk (ks.drop s.1) s.2 = achk ks (-1) ∧ s.2 = if s.1 = 0 then -1 else (ks.getD (s.1 - 1) (0, ⟨#[]⟩)).1
  m s := k - s.1
noncomputable def zI (zs : List Int) (off : Nat) : Value := .int .i64 (zs.getD off 0)
noncomputable def kI (ks : List (Int × ByteArray)) (off : Nat) : Value := .int .i64 (ks.getD (off / 2) (0, ⟨#[]⟩)).1
noncomputable def hsCkR (nm : ByteArray) (zs : List Int) (ks : List (Int × ByteArray)) (n c k d : Nat) (m1 w1 m2 w2 : Bool) : Hs Tryz.prog where
  op x := if [703, 712, 720, 1503, 1512, 1520].contains x then some (hIa Tryz.prog) else if x = 704 then some (hLd Tryz.prog (z2 zs)) else if [714, 722].contains x then some (hLd Tryz.prog (zI zs))
    else if x = 1504 then some (hLd Tryz.prog (k2 ks)) else if [1514, 1522].contains x then some (hLd Tryz.prog (kI ks)) else none
  lp x := if x = 5 then some (lpCkR1 nm zs ks n c k d m1 w1 m2 w2) else some (lpCkR2 nm zs ks n c k d m1 w1 m2 w2)
  cl x := if x = 5 then keep 101 [1, 4] else keep 101 [1, 6]
  au := au0 Tryz.prog
theorem ckR_t (nm : ByteArray) (zs : List Int) (ks : List (Int × ByteArray)) (n : Nat) (c : Nat) (k : Nat) (d : Nat) (m1 : Bool) (w1 : Bool) (m2 : Bool) (w2 : Bool) (K : Value → Heap → Prop) :
    (fnP Tryz.prog cr12 (hsCkR nm zs ks n c k d m1 w1 m2 w2) (45 : FuncId) [Value.agg (List.toArray (secA nm (0 : Nat) n c (1 : Nat) k d))] (hp2 zs ks m1 w1 m2 w2 []) K) =
    (let z0 : AObj := AObj.row [Value.string nm, Value.slice (some ⟨0, 0, none⟩) n c, Value.slice (some ⟨1, 0, none⟩) k d] 0 false true false; (br (fi [wh (!nameB nm) (8 : Int), wh (decide ((32 : Int) < (n : Int))) (5 : Int)] != (0 : Int)) (K (Value.int .i64 (fi [wh (!nameB nm) (8 : Int), wh (decide ((32 : Int) < (n : Int))) (5 : Int)])) (some (AObj.row (ints zs) 2 m1 w1 true) :: some (AObj.row (acs ks) 2 m2 w2 true) :: noH)) ((∃ s, Is (Prod.fst s ≤ n ∧ mchk (List.drop (Prod.fst s * 2) zs) (Prod.snd s) = mchk zs (-1 : Int) ∧ Prod.snd s = if Prod.fst s = 0 then (-1 : Int) else List.getD zs ((Prod.fst s - 1) * 2) (0 : Int)) ∧ [poi, Value.pointer (some ⟨2, 0, none⟩), poi, poi, Value.int .i64 0, poi, poi, poi, poi, poi, poi, poi, poi, poi, poi, poi, poi, poi, poi, poi, poi, poi, poi, poi, poi, poi, poi, poi, poi, poi, poi, poi, poi, poi, poi, poi, poi, poi, poi, poi, poi, poi, poi, poi, poi, poi, poi, poi, poi, poi, poi, poi, poi, poi, poi, poi, poi, poi, poi, poi, poi, poi, poi, poi, poi, poi, poi, poi, poi, poi, poi, poi, poi, poi, poi, poi, poi, poi, poi, poi, poi, poi, poi, poi, poi, poi, poi, poi, poi, poi, poi, poi, poi, poi, poi, poi, poi, poi, poi, poi, poi] = [poi, Value.pointer (some ⟨2, 0, none⟩), poi, poi, Value.int .i64 (↑(Prod.fst s) : Int), poi, poi, poi, poi, poi, poi, poi, poi, poi, poi, poi, poi, poi, poi, poi, poi, poi, poi, poi, poi, poi, poi, poi, poi, poi, poi, poi, poi, poi, poi, poi, poi, poi, poi, poi, poi, poi, poi, poi, poi, poi, poi, poi, poi, poi, poi, poi, poi, poi, poi, poi, poi, poi, poi, poi, poi, poi, poi, poi, poi, poi, poi, poi, poi, poi, poi, poi, poi, poi, poi, poi, poi, poi, poi, poi, poi, poi, poi, poi, poi, poi, poi, poi, poi, poi, poi, poi, poi, poi, poi, poi, poi, poi, poi, poi, poi] ∧ some (AObj.row (ints zs) 2 m1 w1 true) :: some (AObj.row (acs ks) 2 m2 w2 true) :: some (AObj.row [Value.string nm, Value.slice (some ⟨0, 0, none⟩) n c, Value.slice (some ⟨1, 0, none⟩) k d] 0 false true (List.all [Value.string nm, Value.slice (some ⟨0, 0, none⟩) n c, Value.slice (some ⟨1, 0, none⟩) k d] atom)) :: noH = some (AObj.row (ints zs) 2 m1 w1 true) :: some (AObj.row (acs ks) 2 m2 w2 true) :: some z0 :: noH) ∧ ∀ (s : Nat × Int), Is (Prod.fst s ≤ n ∧ mchk (List.drop (Prod.fst s * 2) zs) (Prod.snd s) = mchk zs (-1 : Int) ∧ Prod.snd s = if Prod.fst s = 0 then (-1 : Int) else List.getD zs ((Prod.fst s - 1) * 2) (0 : Int)) → br (decide ((↑(Prod.fst s) : Int) < (n : Int))) (Is ((0 : Int) ≤ (↑(Prod.fst s) : Int) ∧ (↑(Prod.fst s) : Int) < (n : Int)) ∧ Is ((if 0 + Int.toNat (↑(Prod.fst s) : Int) * 2 + 2 ≤ List.length (ints zs) then some (Value.agg (List.toArray (List.take 2 (List.drop (0 + Int.toNat (↑(Prod.fst s) : Int) * 2) (ints zs))))) else none) = some (Value.agg #[Value.int .i64 (List.getD zs (0 + Int.toNat (↑(Prod.fst s) : Int) * 2) (0 : Int)), Value.int .i64 (List.getD zs (0 + Int.toNat (↑(Prod.fst s) : Int) * 2 + 1) (0 : Int))])) ∧ br (decide ((0 : Int) < (↑(Prod.fst s) : Int))) (Is ((0 : Int) ≤ (↑(Prod.fst s) : Int) ∧ (↑(Prod.fst s) : Int) < (n : Int)) ∧ Is ((ints zs)[0 + Int.toNat (↑(Prod.fst s) : Int) * 2 + 0]? = some (Value.int .i64 (List.getD zs (0 + Int.toNat (↑(Prod.fst s) : Int) * 2 + 0) (0 : Int)))) ∧ Is (((0 : Int) ≤ if IntKind.wrap .i64 ((↑(Prod.fst s) : Int) - (1 : Int)) > (0 : Int) then IntKind.wrap .i64 ((↑(Prod.fst s) : Int) - (1 : Int)) else (0 : Int)) ∧ (if IntKind.wrap .i64 ((↑(Prod.fst s) : Int) - (1 : Int)) > (0 : Int) then IntKind.wrap .i64 ((↑(Prod.fst s) : Int) - (1 : Int)) else (0 : Int)) < (n : Int)) ∧ Is ((ints zs)[0 + Int.toNat (if IntKind.wrap .i64 ((↑(Prod.fst s) : Int) - (1 : Int)) > (0 : Int) then IntKind.wrap .i64 ((↑(Prod.fst s) : Int) - (1 : Int)) else (0 : Int)) * 2 + 0]? = some (Value.int .i64 (List.getD zs (0 + Int.toNat (if IntKind.wrap .i64 ((↑(Prod.fst s) : Int) - (1 : Int)) > (0 : Int) then IntKind.wrap .i64 ((↑(Prod.fst s) : Int) - (1 : Int)) else (0 : Int)) * 2 + 0) (0 : Int)))) ∧ br (fi [chkM (List.getD zs (0 + Int.toNat (↑(Prod.fst s) : Int) * 2) (0 : Int)) (List.getD zs (0 + Int.toNat (↑(Prod.fst s) : Int) * 2 + 1) (0 : Int)), wh (decide (List.getD zs (0 + Int.toNat (↑(Prod.fst s) : Int) * 2 + 0) (0 : Int) ≤ List.getD zs (0 + Int.toNat (if IntKind.wrap .i64 ((↑(Prod.fst s) : Int) - (1 : Int)) > (0 : Int) then IntKind.wrap .i64 ((↑(Prod.fst s) : Int) - (1 : Int)) else (0 : Int)) * 2 + 0) (0 : Int))) (11 : Int)] != (0 : Int)) (K (Value.int .i64 (fi [chkM (List.getD zs (0 + Int.toNat (↑(Prod.fst s) : Int) * 2) (0 : Int)) (List.getD zs (0 + Int.toNat (↑(Prod.fst s) : Int) * 2 + 1) (0 : Int)), wh (decide (List.getD zs (0 + Int.toNat (↑(Prod.fst s) : Int) * 2 + 0) (0 : Int) ≤ List.getD zs (0 + Int.toNat (if IntKind.wrap .i64 ((↑(Prod.fst s) : Int) - (1 : Int)) > (0 : Int) then IntKind.wrap .i64 ((↑(Prod.fst s) : Int) - (1 : Int)) else (0 : Int)) * 2 + 0) (0 : Int))) (11 : Int)])) (some (AObj.row (ints zs) 2 m1 w1 true) :: some (AObj.row (acs ks) 2 m2 w2 true) :: noH)) (∃ s', Is (Prod.fst s' ≤ n ∧ mchk (List.drop (Prod.fst s' * 2) zs) (Prod.snd s') = mchk zs (-1 : Int) ∧ Prod.snd s' = if Prod.fst s' = 0 then (-1 : Int) else List.getD zs ((Prod.fst s' - 1) * 2) (0 : Int)) ∧ Is (n - Prod.fst s' < n - Prod.fst s) ∧ [poi, Value.pointer (some ⟨2, 0, none⟩), poi, poi, Value.int .i64 (IntKind.wrap .i64 ((↑(Prod.fst s) : Int) + (1 : Int))), poi, poi, poi, poi, poi, poi, poi, poi, poi, poi, poi, poi, poi, poi, poi, poi, poi, poi, poi, poi, poi, poi, poi, poi, poi, poi, poi, poi, poi, poi, poi, poi, poi, poi, poi, poi, poi, poi, poi, poi, poi, poi, poi, poi, poi, poi, poi, poi, poi, poi, poi, poi, poi, poi, poi, poi, poi, poi, poi, poi, poi, poi, poi, poi, poi, poi, poi, poi, poi, poi, poi, poi, poi, poi, poi, poi, poi, poi, poi, poi, poi, poi, poi, poi, poi, poi, poi, poi, poi, poi, poi, poi, poi, poi, poi, poi] = [poi, Value.pointer (some ⟨2, 0, none⟩), poi, poi, Value.int .i64 (↑(Prod.fst s') : Int), poi, poi, poi, poi, poi, poi, poi, poi, poi, poi, poi, poi, poi, poi, poi, poi, poi, poi, poi, poi, poi, poi, poi, poi, poi, poi, poi, poi, poi, poi, poi, poi, poi, poi, poi, poi, poi, poi, poi, poi, poi, poi, poi, poi, poi, poi, poi, poi, poi, poi, poi, poi, poi, poi, poi, poi, poi, poi, poi, poi, poi, poi, poi, poi, poi, poi, poi, poi, poi, poi, poi, poi, poi, poi, poi, poi, poi, poi, poi, poi, poi, poi, poi, poi, poi, poi, poi, poi, poi, poi, poi, poi, poi, poi, poi, poi] ∧ some (AObj.row (ints zs) 2 m1 w1 true) :: some (AObj.row (acs ks) 2 m2 w2 true) :: some z0 :: noH = some (AObj.row (ints zs) 2 m1 w1 true) :: some (AObj.row (acs ks) 2 m2 w2 true) :: some z0 :: noH)) (br (fi [chkM (List.getD zs (0 + Int.toNat (↑(Prod.fst s) : Int) * 2) (0 : Int)) (List.getD zs (0 + Int.toNat (↑(Prod.fst s) : Int) * 2 + 1) (0 : Int)), (0 : Int)] != (0 : Int)) (K (Value.int .i64 (fi [chkM (List.getD zs (0 + Int.toNat (↑(Prod.fst s) : Int) * 2) (0 : Int)) (List.getD zs (0 + Int.toNat (↑(Prod.fst s) : Int) * 2 + 1) (0 : Int)), (0 : Int)])) (some (AObj.row (ints zs) 2 m1 w1 true) :: some (AObj.row (acs ks) 2 m2 w2 true) :: noH)) (∃ s', Is (Prod.fst s' ≤ n ∧ mchk (List.drop (Prod.fst s' * 2) zs) (Prod.snd s') = mchk zs (-1 : Int) ∧ Prod.snd s' = if Prod.fst s' = 0 then (-1 : Int) else List.getD zs ((Prod.fst s' - 1) * 2) (0 : Int)) ∧ Is (n - Prod.fst s' < n - Prod.fst s) ∧ [poi, Value.pointer (some ⟨2, 0, none⟩), poi, poi, Value.int .i64 (IntKind.wrap .i64 ((↑(Prod.fst s) : Int) + (1 : Int))), poi, poi, poi, poi, poi, poi, poi, poi, poi, poi, poi, poi, poi, poi, poi, poi, poi, poi, poi, poi, poi, poi, poi, poi, poi, poi, poi, poi, poi, poi, poi, poi, poi, poi, poi, poi, poi, poi, poi, poi, poi, poi, poi, poi, poi, poi, poi, poi, poi, poi, poi, poi, poi, poi, poi, poi, poi, poi, poi, poi, poi, poi, poi, poi, poi, poi, poi, poi, poi, poi, poi, poi, poi, poi, poi, poi, poi, poi, poi, poi, poi, poi, poi, poi, poi, poi, poi, poi, poi, poi, poi, poi, poi, poi, poi, poi] = [poi, Value.pointer (some ⟨2, 0, none⟩), poi, poi, Value.int .i64 (↑(Prod.fst s') : Int), poi, poi, poi, poi, poi, poi, poi, poi, poi, poi, poi, poi, poi, poi, poi, poi, poi, poi, poi, poi, poi, poi, poi, poi, poi, poi, poi, poi, poi, poi, poi, poi, poi, poi, poi, poi, poi, poi, poi, poi, poi, poi, poi, poi, poi, poi, poi, poi, poi, poi, poi, poi, poi, poi, poi, poi, poi, poi, poi, poi, poi, poi, poi, poi, poi, poi, poi, poi, poi, poi, poi, poi, poi, poi, poi, poi, poi, poi, poi, poi, poi, poi, poi, poi, poi, poi, poi, poi, poi, poi, poi, poi, poi, poi, poi, poi] ∧ some (AObj.row (ints zs) 2 m1 w1 true) :: some (AObj.row (acs ks) 2 m2 w2 true) :: some z0 :: noH = some (AObj.row (ints zs) 2 m1 w1 true) :: some (AObj.row (acs ks) 2 m2 w2 true) :: some z0 :: noH))) (br (decide ((16 : Int) < (k : Int))) (K (Value.int .i64 5) (some (AObj.row (ints zs) 2 m1 w1 true) :: some (AObj.row (acs ks) 2 m2 w2 true) :: noH)) ((∃ s, Is (Prod.fst s ≤ k ∧ achk (List.drop (Prod.fst s) ks) (Prod.snd s) = achk ks (-1 : Int) ∧ Prod.snd s = if Prod.fst s = 0 then (-1 : Int) else Prod.fst (List.getD ks (Prod.fst s - 1) ((0 : Int), { data := #[] }))) ∧ [poi, Value.pointer (some ⟨2, 0, none⟩), poi, poi, poi, poi, Value.int .i64 0, poi, poi, poi, poi, poi, poi, poi, poi, poi, poi, poi, poi, poi, poi, poi, poi, poi, poi, poi, poi, poi, poi, poi, poi, poi, poi, poi, poi, poi, poi, poi, poi, poi, poi, poi, poi, poi, poi, poi, poi, poi, poi, poi, poi, poi, poi, poi, poi, poi, poi, poi, poi, poi, poi, poi, poi, poi, poi, poi, poi, poi, poi, poi, poi, poi, poi, poi, poi, poi, poi, poi, poi, poi, poi, poi, poi, poi, poi, poi, poi, poi, poi, poi, poi, poi, poi, poi, poi, poi, poi, poi, poi, poi, poi] = [poi, Value.pointer (some ⟨2, 0, none⟩), poi, poi, poi, poi, Value.int .i64 (↑(Prod.fst s) : Int), poi, poi, poi, poi, poi, poi, poi, poi, poi, poi, poi, poi, poi, poi, poi, poi, poi, poi, poi, poi, poi, poi, poi, poi, poi, poi, poi, poi, poi, poi, poi, poi, poi, poi, poi, poi, poi, poi, poi, poi, poi, poi, poi, poi, poi, poi, poi, poi, poi, poi, poi, poi, poi, poi, poi, poi, poi, poi, poi, poi, poi, poi, poi, poi, poi, poi, poi, poi, poi, poi, poi, poi, poi, poi, poi, poi, poi, poi, poi, poi, poi, poi, poi, poi, poi, poi, poi, poi, poi, poi, poi, poi, poi, poi] ∧ some (AObj.row (ints zs) 2 m1 w1 true) :: some (AObj.row (acs ks) 2 m2 w2 true) :: some z0 :: noH = some (AObj.row (ints zs) 2 m1 w1 true) :: some (AObj.row (acs ks) 2 m2 w2 true) :: some z0 :: noH) ∧ ∀ (s : Nat × Int), Is (Prod.fst s ≤ k ∧ achk (List.drop (Prod.fst s) ks) (Prod.snd s) = achk ks (-1 : Int) ∧ Prod.snd s = if Prod.fst s = 0 then (-1 : Int) else Prod.fst (List.getD ks (Prod.fst s - 1) ((0 : Int), { data := #[] }))) → br (decide ((↑(Prod.fst s) : Int) < (k : Int))) (Is ((0 : Int) ≤ (↑(Prod.fst s) : Int) ∧ (↑(Prod.fst s) : Int) < (k : Int)) ∧ Is ((if 0 + Int.toNat (↑(Prod.fst s) : Int) * 2 + 2 ≤ List.length (acs ks) then some (Value.agg (List.toArray (List.take 2 (List.drop (0 + Int.toNat (↑(Prod.fst s) : Int) * 2) (acs ks))))) else none) = some (Value.agg #[Value.int .i64 (Prod.fst (List.getD ks ((0 + Int.toNat (↑(Prod.fst s) : Int) * 2) / 2) ((0 : Int), { data := #[] }))), Value.string (Prod.snd (List.getD ks ((0 + Int.toNat (↑(Prod.fst s) : Int) * 2) / 2) ((0 : Int), { data := #[] })))])) ∧ br (decide ((0 : Int) < (↑(Prod.fst s) : Int))) (Is ((0 : Int) ≤ (↑(Prod.fst s) : Int) ∧ (↑(Prod.fst s) : Int) < (k : Int)) ∧ Is ((acs ks)[0 + Int.toNat (↑(Prod.fst s) : Int) * 2 + 0]? = some (Value.int .i64 (Prod.fst (List.getD ks ((0 + Int.toNat (↑(Prod.fst s) : Int) * 2 + 0) / 2) ((0 : Int), { data := #[] }))))) ∧ Is (((0 : Int) ≤ if IntKind.wrap .i64 ((↑(Prod.fst s) : Int) - (1 : Int)) > (0 : Int) then IntKind.wrap .i64 ((↑(Prod.fst s) : Int) - (1 : Int)) else (0 : Int)) ∧ (if IntKind.wrap .i64 ((↑(Prod.fst s) : Int) - (1 : Int)) > (0 : Int) then IntKind.wrap .i64 ((↑(Prod.fst s) : Int) - (1 : Int)) else (0 : Int)) < (k : Int)) ∧ Is ((acs ks)[0 + Int.toNat (if IntKind.wrap .i64 ((↑(Prod.fst s) : Int) - (1 : Int)) > (0 : Int) then IntKind.wrap .i64 ((↑(Prod.fst s) : Int) - (1 : Int)) else (0 : Int)) * 2 + 0]? = some (Value.int .i64 (Prod.fst (List.getD ks ((0 + Int.toNat (if IntKind.wrap .i64 ((↑(Prod.fst s) : Int) - (1 : Int)) > (0 : Int) then IntKind.wrap .i64 ((↑(Prod.fst s) : Int) - (1 : Int)) else (0 : Int)) * 2 + 0) / 2) ((0 : Int), { data := #[] }))))) ∧ br (fi [chkA (Prod.fst (List.getD ks ((0 + Int.toNat (↑(Prod.fst s) : Int) * 2) / 2) ((0 : Int), { data := #[] }))) (Prod.snd (List.getD ks ((0 + Int.toNat (↑(Prod.fst s) : Int) * 2) / 2) ((0 : Int), { data := #[] }))), wh (decide (Prod.fst (List.getD ks ((0 + Int.toNat (↑(Prod.fst s) : Int) * 2 + 0) / 2) ((0 : Int), { data := #[] })) ≤ Prod.fst (List.getD ks ((0 + Int.toNat (if IntKind.wrap .i64 ((↑(Prod.fst s) : Int) - (1 : Int)) > (0 : Int) then IntKind.wrap .i64 ((↑(Prod.fst s) : Int) - (1 : Int)) else (0 : Int)) * 2 + 0) / 2) ((0 : Int), { data := #[] })))) (11 : Int)] != (0 : Int)) (K (Value.int .i64 (fi [chkA (Prod.fst (List.getD ks ((0 + Int.toNat (↑(Prod.fst s) : Int) * 2) / 2) ((0 : Int), { data := #[] }))) (Prod.snd (List.getD ks ((0 + Int.toNat (↑(Prod.fst s) : Int) * 2) / 2) ((0 : Int), { data := #[] }))), wh (decide (Prod.fst (List.getD ks ((0 + Int.toNat (↑(Prod.fst s) : Int) * 2 + 0) / 2) ((0 : Int), { data := #[] })) ≤ Prod.fst (List.getD ks ((0 + Int.toNat (if IntKind.wrap .i64 ((↑(Prod.fst s) : Int) - (1 : Int)) > (0 : Int) then IntKind.wrap .i64 ((↑(Prod.fst s) : Int) - (1 : Int)) else (0 : Int)) * 2 + 0) / 2) ((0 : Int), { data := #[] })))) (11 : Int)])) (some (AObj.row (ints zs) 2 m1 w1 true) :: some (AObj.row (acs ks) 2 m2 w2 true) :: noH)) (∃ s', Is (Prod.fst s' ≤ k ∧ achk (List.drop (Prod.fst s') ks) (Prod.snd s') = achk ks (-1 : Int) ∧ Prod.snd s' = if Prod.fst s' = 0 then (-1 : Int) else Prod.fst (List.getD ks (Prod.fst s' - 1) ((0 : Int), { data := #[] }))) ∧ Is (k - Prod.fst s' < k - Prod.fst s) ∧ [poi, Value.pointer (some ⟨2, 0, none⟩), poi, poi, poi, poi, Value.int .i64 (IntKind.wrap .i64 ((↑(Prod.fst s) : Int) + (1 : Int))), poi, poi, poi, poi, poi, poi, poi, poi, poi, poi, poi, poi, poi, poi, poi, poi, poi, poi, poi, poi, poi, poi, poi, poi, poi, poi, poi, poi, poi, poi, poi, poi, poi, poi, poi, poi, poi, poi, poi, poi, poi, poi, poi, poi, poi, poi, poi, poi, poi, poi, poi, poi, poi, poi, poi, poi, poi, poi, poi, poi, poi, poi, poi, poi, poi, poi, poi, poi, poi, poi, poi, poi, poi, poi, poi, poi, poi, poi, poi, poi, poi, poi, poi, poi, poi, poi, poi, poi, poi, poi, poi, poi, poi, poi] = [poi, Value.pointer (some ⟨2, 0, none⟩), poi, poi, poi, poi, Value.int .i64 (↑(Prod.fst s') : Int), poi, poi, poi, poi, poi, poi, poi, poi, poi, poi, poi, poi, poi, poi, poi, poi, poi, poi, poi, poi, poi, poi, poi, poi, poi, poi, poi, poi, poi, poi, poi, poi, poi, poi, poi, poi, poi, poi, poi, poi, poi, poi, poi, poi, poi, poi, poi, poi, poi, poi, poi, poi, poi, poi, poi, poi, poi, poi, poi, poi, poi, poi, poi, poi, poi, poi, poi, poi, poi, poi, poi, poi, poi, poi, poi, poi, poi, poi, poi, poi, poi, poi, poi, poi, poi, poi, poi, poi, poi, poi, poi, poi, poi, poi] ∧ some (AObj.row (ints zs) 2 m1 w1 true) :: some (AObj.row (acs ks) 2 m2 w2 true) :: some z0 :: noH = some (AObj.row (ints zs) 2 m1 w1 true) :: some (AObj.row (acs ks) 2 m2 w2 true) :: some z0 :: noH)) (br (fi [chkA (Prod.fst (List.getD ks ((0 + Int.toNat (↑(Prod.fst s) : Int) * 2) / 2) ((0 : Int), { data := #[] }))) (Prod.snd (List.getD ks ((0 + Int.toNat (↑(Prod.fst s) : Int) * 2) / 2) ((0 : Int), { data := #[] }))), (0 : Int)] != (0 : Int)) (K (Value.int .i64 (fi [chkA (Prod.fst (List.getD ks ((0 + Int.toNat (↑(Prod.fst s) : Int) * 2) / 2) ((0 : Int), { data := #[] }))) (Prod.snd (List.getD ks ((0 + Int.toNat (↑(Prod.fst s) : Int) * 2) / 2) ((0 : Int), { data := #[] }))), (0 : Int)])) (some (AObj.row (ints zs) 2 m1 w1 true) :: some (AObj.row (acs ks) 2 m2 w2 true) :: noH)) (∃ s', Is (Prod.fst s' ≤ k ∧ achk (List.drop (Prod.fst s') ks) (Prod.snd s') = achk ks (-1 : Int) ∧ Prod.snd s' = if Prod.fst s' = 0 then (-1 : Int) else Prod.fst (List.getD ks (Prod.fst s' - 1) ((0 : Int), { data := #[] }))) ∧ Is (k - Prod.fst s' < k - Prod.fst s) ∧ [poi, Value.pointer (some ⟨2, 0, none⟩), poi, poi, poi, poi, Value.int .i64 (IntKind.wrap .i64 ((↑(Prod.fst s) : Int) + (1 : Int))), poi, poi, poi, poi, poi, poi, poi, poi, poi, poi, poi, poi, poi, poi, poi, poi, poi, poi, poi, poi, poi, poi, poi, poi, poi, poi, poi, poi, poi, poi, poi, poi, poi, poi, poi, poi, poi, poi, poi, poi, poi, poi, poi, poi, poi, poi, poi, poi, poi, poi, poi, poi, poi, poi, poi, poi, poi, poi, poi, poi, poi, poi, poi, poi, poi, poi, poi, poi, poi, poi, poi, poi, poi, poi, poi, poi, poi, poi, poi, poi, poi, poi, poi, poi, poi, poi, poi, poi, poi, poi, poi, poi, poi, poi] = [poi, Value.pointer (some ⟨2, 0, none⟩), poi, poi, poi, poi, Value.int .i64 (↑(Prod.fst s') : Int), poi, poi, poi, poi, poi, poi, poi, poi, poi, poi, poi, poi, poi, poi, poi, poi, poi, poi, poi, poi, poi, poi, poi, poi, poi, poi, poi, poi, poi, poi, poi, poi, poi, poi, poi, poi, poi, poi, poi, poi, poi, poi, poi, poi, poi, poi, poi, poi, poi, poi, poi, poi, poi, poi, poi, poi, poi, poi, poi, poi, poi, poi, poi, poi, poi, poi, poi, poi, poi, poi, poi, poi, poi, poi, poi, poi, poi, poi, poi, poi, poi, poi, poi, poi, poi, poi, poi, poi, poi, poi, poi, poi, poi, poi] ∧ some (AObj.row (ints zs) 2 m1 w1 true) :: some (AObj.row (acs ks) 2 m2 w2 true) :: some z0 :: noH = some (AObj.row (ints zs) 2 m1 w1 true) :: some (AObj.row (acs ks) 2 m2 w2 true) :: some z0 :: noH))) (K (Value.int .i64 0) (some (AObj.row (ints zs) 2 m1 w1 true) :: some (AObj.row (acs ks) 2 m2 w2 true) :: noH))))))) := by kernel_rfl
theorem zint_at {zs : List Int} {i : Nat} (h : i < zs.length) : (ints zs)[i]? = some (.int .i64 (zs.getD i 0)) := by
  simp [ints, List.getElem?_map, List.getElem?_eq_getElem h, List.getD_eq_getElem?_getD]
theorem acs_day : ∀ {ks : List (Int × ByteArray)} {i : Nat}, i < ks.length → (acs ks)[i * 2]? = some (.int .i64 (ks.getD i (0, ⟨#[]⟩)).1)
  | [], _, h => absurd h (by simp)
  | a :: r, 0, _ => rfl
  | a :: r, i + 1, h => by
    have := acs_day (ks := r) (i := i) (by simpa using h)
    have e : (i + 1) * 2 = i * 2 + 1 + 1 := by omega
    rw [e, acs, List.getElem?_cons_succ, List.getElem?_cons_succ, this]
    simp
theorem mchk_step {zs : List Int} {i : Nat} (last : Int) (h : i * 2 + 2 ≤ zs.length) :
    mchk (zs.drop (i * 2)) last = sel (fi [chkM (zs.getD (i * 2) 0) (zs.getD (i * 2 + 1) 0), wh (decide (zs.getD (i * 2) 0 ≤ last)) 11]) (mchk (zs.drop ((i + 1) * 2)) (zs.getD (i * 2) 0)) := by
  have h1 : i * 2 < zs.length := by omega
  have h2 : i * 2 + 1 < zs.length := by omega
  have e : (i + 1) * 2 = i * 2 + 1 + 1 := by omega
  rw [List.drop_eq_getElem_cons h1, List.drop_eq_getElem_cons h2, e]
  simp only [mchk, List.getD_eq_getElem?_getD, List.getElem?_eq_getElem h1, List.getElem?_eq_getElem h2, Option.getD_some]
theorem achk_step {ks : List (Int × ByteArray)} {i : Nat} (last : Int) (h : i < ks.length) :
    achk (ks.drop i) last = sel (fi [chkA (ks.getD i (0, ⟨#[]⟩)).1 (ks.getD i (0, ⟨#[]⟩)).2, wh (decide ((ks.getD i (0, ⟨#[]⟩)).1 ≤ last)) 11]) (achk (ks.drop (i + 1)) (ks.getD i (0, ⟨#[]⟩)).1) := by
  rw [List.drop_eq_getElem_cons h]
  simp only [achk, List.getD_eq_getElem?_getD, List.getElem?_eq_getElem h, Option.getD_some]
theorem mchk_nil {zs : List Int} {i : Nat} (last : Int) (h : zs.length ≤ i) : mchk (zs.drop i) last = 0 := by
  rw [List.drop_eq_nil_of_le h]; rfl
theorem achk_nil {ks : List (Int × ByteArray)} {i : Nat} (last : Int) (h : ks.length ≤ i) : achk (ks.drop i) last = 0 := by
  rw [List.drop_eq_nil_of_le h]; rfl
theorem sel_ne {e d : Int} (h : (e != 0) = true) : sel e d = e := by
  have : e ≠ 0 := by simpa using h
  simp [sel, this]
theorem sel_eq {e d : Int} (h : (e != 0) = false) : sel e d = d := by
  have : e = 0 := by simpa using h
  simp [sel, this]
theorem fi_late {a : Int} {b : Bool} (h : b = true → a ≠ 0) : fi [a, wh b 11] = fi [a, 0] := by
  cases hb : b with
  | false => rfl
  | true =>
    have := h hb
    simp [fi, this]
theorem chkM_neg {d x : Int} (h : d ≤ -1) : chkM d x ≠ 0 := fun h0 => by
  have := (fi_zero.1 h0) (wi d 0 100000) (by simp)
  have := wi_zero.1 this
  omega
theorem chkA_neg {d : Int} {k : ByteArray} (h : d ≤ -1) : chkA d k ≠ 0 := fun h0 => by
  have := (fi_zero.1 h0) (wi d 0 100000) (by simp)
  have := wi_zero.1 this
  omega
theorem pred1 {s n : Nat} (h : s < n) (hn : n ≤ 100000) : (if IntKind.wrap .i64 ((s : Int) - 1) > 0 then IntKind.wrap .i64 ((s : Int) - 1) else 0) = ((s - 1 : Nat) : Int) := by
  rw [wrap_eq (by omega) (by omega)]
  split <;> omega
set_option maxRecDepth 100000 in
theorem ck_ok {nm : ByteArray} {zs : List Int} {ks : List (Int × ByteArray)} {n c k d : Nat} {m1 w1 m2 w2 : Bool} (hz : zs.length = n * 2) (hk : ks.length = k) (hn : n ≤ 1000) (hk2 : k ≤ 1000) :
    SmallRes Tryz.prog 19 [.agg (secA nm 0 n c 1 k d).toArray] (hp2 zs ks m1 w1 m2 w2 []) (.int .i64 (secE nm zs n ks k)) (hp2 zs ks m1 w1 m2 w2 []) := by
  refine fnP_res hm c12_ok (hs := hsCk nm zs ks n c k d m1 w1 m2 w2) ?_
  rw [ck_t]
  refine br_of (fun h => ?_) (fun h0 => ⟨⟨((0 : Nat), (-1 : Int)), ⟨by omega, by rw [Nat.zero_mul, List.drop_zero]⟩, by first | trivial | rfl, by first | trivial | rfl⟩, fun s hs => br_of (fun h => ?_) (fun h => ?_)⟩)
  · rw [secE, sel_ne h]; exact ⟨rfl, rfl⟩
  · obtain ⟨a1, a2⟩ := hs.out
    have h := lt_of_dec h
    have hst := mchk_step s.2 (show s.1 * 2 + 2 ≤ zs.length by omega)
    simp only [Nat.zero_add, Int.toNat_natCast]
    refine ⟨⟨by omega, by omega⟩, ⟨?_⟩, br_of (fun he => ?_) (fun he => ⟨(s.1 + 1, zs.getD (s.1 * 2) 0), ⟨h, ?_⟩, ⟨by simp only; omega⟩, ?_, by first | trivial | rfl⟩)⟩
    · rw [ints_len, if_pos (by omega), ints_pair (by omega)]
    · rw [secE, sel_eq h0, ← a2, hst, sel_ne he, sel_ne he]; exact ⟨rfl, rfl⟩
    · rw [← a2, hst, sel_eq he]
    · rw [up1 h (by omega)]
  · obtain ⟨a1, a2⟩ := hs.out
    have h := ge_of_dec h
    have m0 : mchk zs (-1) = 0 := by rw [← a2, mchk_nil _ (by omega)]
    refine br_of (fun h6 => ?_) (fun h6 => ⟨⟨((0 : Nat), (-1 : Int)), ⟨by omega, by rw [List.drop_zero]⟩, by first | trivial | rfl, by first | trivial | rfl⟩, fun r hr => br_of (fun h2 => ?_) (fun h2 => ?_)⟩)
    · rw [secE, sel_eq h0, m0, h6]; exact ⟨rfl, rfl⟩
    · obtain ⟨b1, b2⟩ := hr.out
      have h2 := lt_of_dec h2
      have hst := achk_step r.2 (show r.1 < ks.length by omega)
      have e2 : r.1 * 2 / 2 = r.1 := by omega
      simp only [Nat.zero_add, Int.toNat_natCast, e2]
      refine ⟨⟨by omega, by omega⟩, ⟨?_⟩, br_of (fun he => ?_) (fun he => ⟨(r.1 + 1, (ks.getD r.1 (0, ⟨#[]⟩)).1), ⟨h2, ?_⟩, ⟨by simp only; omega⟩, ?_, by first | trivial | rfl⟩)⟩
      · rw [acs_len, if_pos (by omega), acs_pair (by omega)]
      · rw [secE, sel_eq h0, m0, h6, ← b2, hst, sel_ne he]
        exact ⟨rfl, rfl⟩
      · rw [← b2, hst, sel_eq he]
      · rw [up1 h2 (by omega)]
    · obtain ⟨b1, b2⟩ := hr.out
      have h2 := ge_of_dec h2
      have k0 : achk ks (-1) = 0 := by rw [← b2, achk_nil _ (by omega)]
      rw [secE, sel_eq h0, m0, h6, k0]
      exact ⟨rfl, rfl⟩
set_option maxRecDepth 100000 in
theorem ckR_ok {nm : ByteArray} {zs : List Int} {ks : List (Int × ByteArray)} {n c k d : Nat} {m1 w1 m2 w2 : Bool} (hz : zs.length = n * 2) (hk : ks.length = k) (hn : n ≤ 1000) (hk2 : k ≤ 1000) :
    SmallRes Tryz.prog 45 [.agg (secA nm 0 n c 1 k d).toArray] (hp2 zs ks m1 w1 m2 w2 []) (.int .i64 (secE nm zs n ks k)) (hp2 zs ks m1 w1 m2 w2 []) := by
  refine fnP_res hm cr12_ok (hs := hsCkR nm zs ks n c k d m1 w1 m2 w2) ?_
  rw [ckR_t]
  refine br_of (fun h => ?_) (fun h0 => ⟨⟨((0 : Nat), (-1 : Int)), ⟨by omega, by rw [Nat.zero_mul, List.drop_zero], by first | trivial | rfl⟩, by first | trivial | rfl, by first | trivial | rfl⟩, fun s hs => br_of (fun h => ?_) (fun h => ?_)⟩)
  · rw [secE, sel_ne h]; exact ⟨rfl, rfl⟩
  · obtain ⟨a1, a2, a3⟩ := hs.out
    have h := lt_of_dec h
    have hst := mchk_step s.2 (show s.1 * 2 + 2 ≤ zs.length by omega)
    have pair : (if s.1 * 2 + 2 ≤ (ints zs).length then some (Value.agg (List.take 2 (List.drop (s.1 * 2) (ints zs))).toArray) else none) = some (.agg #[.int .i64 (zs.getD (s.1 * 2) 0), .int .i64 (zs.getD (s.1 * 2 + 1) 0)]) := by
      rw [ints_len, if_pos (by omega), ints_pair (by omega)]
    simp only [Nat.zero_add, Nat.add_zero, Int.toNat_natCast, pred1 h (by omega)]
    refine ⟨⟨by omega, by omega⟩, ⟨pair⟩, br_of (fun hp => ?_) (fun hp => ?_)⟩
    · have hp : 0 < s.1 := by have := of_decide_eq_true hp; omega
      have a3 : s.2 = zs.getD ((s.1 - 1) * 2) 0 := by rw [a3, if_neg (by omega)]
      rw [a3] at hst a2
      refine ⟨⟨by omega, by omega⟩, ⟨?_⟩, ⟨by omega, by omega⟩, ⟨?_⟩, br_of (fun he => ?_) (fun he => ⟨(s.1 + 1, zs.getD (s.1 * 2) 0), ⟨h, ?_, ?_⟩, ⟨by simp only; omega⟩, ?_, by first | trivial | rfl⟩)⟩
      · exact zint_at (by omega)
      · exact zint_at (by omega)
      · rw [secE, sel_eq h0, ← a2, hst, sel_ne he, sel_ne he]; exact ⟨rfl, rfl⟩
      · rw [← a2, hst, sel_eq he]
      · simp
      · rw [up1 h (by omega)]
    · have hp : s.1 = 0 := by have := of_decide_eq_false hp; omega
      have a3 : s.2 = -1 := by rw [a3, if_pos hp]
      rw [a3] at hst a2
      rw [fi_late fun hd => chkM_neg (of_decide_eq_true hd)] at hst
      refine br_of (fun he => ?_) (fun he => ⟨(s.1 + 1, zs.getD (s.1 * 2) 0), ⟨h, ?_, ?_⟩, ⟨by simp only; omega⟩, ?_, by first | trivial | rfl⟩)
      · rw [secE, sel_eq h0, ← a2, hst, sel_ne he, sel_ne he]; exact ⟨rfl, rfl⟩
      · rw [← a2, hst, sel_eq he]
      · simp
      · rw [up1 h (by omega)]
  · obtain ⟨a1, a2, a3⟩ := hs.out
    have h := ge_of_dec h
    have m0 : mchk zs (-1) = 0 := by rw [← a2, mchk_nil _ (by omega)]
    refine br_of (fun h6 => ?_) (fun h6 => ⟨⟨((0 : Nat), (-1 : Int)), ⟨by omega, by rw [List.drop_zero], by first | trivial | rfl⟩, by first | trivial | rfl, by first | trivial | rfl⟩, fun r hr => br_of (fun h2 => ?_) (fun h2 => ?_)⟩)
    · rw [secE, sel_eq h0, m0, h6]; exact ⟨rfl, rfl⟩
    · obtain ⟨b1, b2, b3⟩ := hr.out
      have h2 := lt_of_dec h2
      have hst := achk_step r.2 (show r.1 < ks.length by omega)
      have e2 : r.1 * 2 / 2 = r.1 := by omega
      have e3 : (r.1 - 1) * 2 / 2 = r.1 - 1 := by omega
      have pair : (if r.1 * 2 + 2 ≤ (acs ks).length then some (Value.agg (List.take 2 (List.drop (r.1 * 2) (acs ks))).toArray) else none) = some (.agg #[.int .i64 (ks.getD r.1 (0, ⟨#[]⟩)).1, .string (ks.getD r.1 (0, ⟨#[]⟩)).2]) := by
        rw [acs_len, if_pos (by omega), acs_pair (by omega)]
      simp only [Nat.zero_add, Nat.add_zero, Int.toNat_natCast, pred1 h2 (by omega), e2, e3]
      refine ⟨⟨by omega, by omega⟩, ⟨pair⟩, br_of (fun hp => ?_) (fun hp => ?_)⟩
      · have hp : 0 < r.1 := by have := of_decide_eq_true hp; omega
        have b3 : r.2 = (ks.getD (r.1 - 1) (0, ⟨#[]⟩)).1 := by rw [b3, if_neg (by omega)]
        rw [b3] at hst b2
        refine ⟨⟨by omega, by omega⟩, ⟨?_⟩, ⟨by omega, by omega⟩, ⟨?_⟩, br_of (fun he => ?_) (fun he => ⟨(r.1 + 1, (ks.getD r.1 (0, ⟨#[]⟩)).1), ⟨h2, ?_, ?_⟩, ⟨by simp only; omega⟩, ?_, by first | trivial | rfl⟩)⟩
        · exact acs_day (by omega)
        · exact acs_day (by omega)
        · rw [secE, sel_eq h0, m0, h6, ← b2, hst, sel_ne he]; exact ⟨rfl, rfl⟩
        · rw [← b2, hst, sel_eq he]
        · simp
        · rw [up1 h2 (by omega)]
      · have hp : r.1 = 0 := by have := of_decide_eq_false hp; omega
        have b3 : r.2 = -1 := by rw [b3, if_pos hp]
        rw [b3] at hst b2
        rw [fi_late fun hd => chkA_neg (of_decide_eq_true hd)] at hst
        refine br_of (fun he => ?_) (fun he => ⟨(r.1 + 1, (ks.getD r.1 (0, ⟨#[]⟩)).1), ⟨h2, ?_, ?_⟩, ⟨by simp only; omega⟩, ?_, by first | trivial | rfl⟩)
        · rw [secE, sel_eq h0, m0, h6, ← b2, hst, sel_ne he]; exact ⟨rfl, rfl⟩
        · rw [← b2, hst, sel_eq he]
        · simp
        · rw [up1 h2 (by omega)]
    · obtain ⟨b1, b2, b3⟩ := hr.out
      have h2 := ge_of_dec h2
      have k0 : achk ks (-1) = 0 := by rw [← b2, achk_nil _ (by omega)]
      rw [secE, sel_eq h0, m0, h6, k0]
      exact ⟨rfl, rfl⟩
end
end Qq
end
section
/- Periods of sections, and the law about them. -/
open Go Go.Vm Go.Proofs Sp
namespace Sp
noncomputable section
noncomputable def cnt : List Int → Int → Nat
  | d :: _ :: r, x => (if d < x then 1 else 0) + cnt r x
  | _, _ => 0
noncomputable def frm (zs : List Int) (ks : List (Int × ByteArray)) : Nat → Nat
  | 0 => 0
  | i + 1 => cnt zs (ks.getD i (0, ⟨#[]⟩)).1
noncomputable def spn (zs : List Int) (ks : List (Int × ByteArray)) : Nat → List Int
  | 0 => []
  | i + 1 => spn zs ks i ++ [((frm zs ks i : Nat) : Int), ((frm zs ks (i + 1) : Nat) : Int)]
noncomputable def spans (zs : List Int) (ks : List (Int × ByteArray)) (n k : Nat) : List Int := spn zs ks k ++ [((frm zs ks k : Nat) : Int), (n : Int)]
noncomputable def shortS (nm : ByteArray) (n : Nat) (ks : List (Int × ByteArray)) (k : Nat) : Bool :=
  ks.all (fun a => !decide ((40 : Int) < a.2.size)) && (decide ((nm.size : Int) ≤ 40) && ((decide ((n : Int) ≤ 12) || (n : Int) == 33) && (decide ((k : Int) ≤ 6) || (k : Int) == 17)))
end
end Sp
namespace Qq
noncomputable section
noncomputable def isSec (zs : List Int) (ks : List (Int × ByteArray)) (n k : Nat) (e1 e2 : List Value) : Prop := e1 = ints zs ∧ e2 = acs ks ∧ zs.length = n * 2 ∧ ks.length = k ∧ n ≤ 1000 ∧ k ≤ 1000
noncomputable def kS (ks : List (Int × ByteArray)) (off : Nat) : Value := .string (ks.getD (off / 2) (0, ⟨#[]⟩)).2
noncomputable def secR (nm : ByteArray) (n c k d : Nat) : Option AObj := some (.row (secA nm 0 n c 1 k d) 0 false true false)
noncomputable def lst2 (l : List Int) : Option AObj := some (.row (ints l) 2 true true true)
/- The reference's first. -/
/- The program's periods. -/
noncomputable def lpP1 (nm : ByteArray) (zs : List Int) (ks : List (Int × ByteArray)) (n c k d : Nat) (m1 w1 m2 w2 : Bool) : Lp where
  σ := Nat
  E i := slots 50 [(1, .pointer (some ⟨2, 0, none⟩)), (3, .slice (some ⟨3, 0, none⟩) i 0), (4, .int .i64 (Int.ofNat (frm zs ks i))), (9, .slice (some ⟨1, 0, none⟩) k d), (10, .int .i64 (Int.ofNat k)), (11, .int .i64 (Int.ofNat i))]
  Hp i := hp2 zs ks m1 w1 m2 w2 [secR nm n c k d, lst2 (spn zs ks i)]
  I i := i ≤ k
  m i := k - i
noncomputable def lpP2 (nm : ByteArray) (zs : List Int) (ks : List (Int × ByteArray)) (n c k d : Nat) (m1 w1 m2 w2 : Bool) (i : Nat) : Lp where
  σ := Nat
  E t := slots 50 [(1, .pointer (some ⟨2, 0, none⟩)), (3, .slice (some ⟨3, 0, none⟩) i 0), (4, .int .i64 (Int.ofNat (frm zs ks i))), (6, .pointer (some ⟨4, 0, none⟩)), (7, .int .i64 (Int.ofNat t)), (9, .slice (some ⟨1, 0, none⟩) k d), (10, .int .i64 (Int.ofNat k)), (11, .int .i64 (Int.ofNat i))]
  Hp _t := hp2 zs ks m1 w1 m2 w2 [secR nm n c k d, lst2 (spn zs ks i), some (.row [.int .i64 (ks.getD i (0, ⟨#[]⟩)).1, .string (ks.getD i (0, ⟨#[]⟩)).2] 0 false true true)]
  I t := t ≤ frm zs ks (i + 1)
  m t := n - t
noncomputable def hsP (nm : ByteArray) (zs : List Int) (ks : List (Int × ByteArray)) (n c k d : Nat) (m1 w1 m2 w2 : Bool) : Hs Tryz.prog where
  op y := if [500, 709].contains y then some (hIa Tryz.prog) else if y = 501 then some (hLd Tryz.prog (k2 ks)) else if y = 711 then some (hLd Tryz.prog (zI zs)) else if [905, 1207].contains y then some (hAp Tryz.prog) else none
  lp y := if y = 4 then some (lpP1 nm zs ks n c k d m1 w1 m2 w2) else none
  lq _ := some ⟨Nat, lpP2 nm zs ks n c k d m1 w1 m2 w2⟩
  cl y := if y = 4 then keep 50 [1, 3, 4, 9, 10, 11] else keep 50 [1, 3, 4, 6, 7, 9, 10, 11]
  nl y := if y = 4 then [.slot 3 2] else []
  au := au0 Tryz.prog
theorem per_t (nm : ByteArray) (zs : List Int) (ks : List (Int × ByteArray)) (n : Nat) (c : Nat) (k : Nat) (d : Nat) (m1 : Bool) (w1 : Bool) (m2 : Bool) (w2 : Bool) (K : Value → Heap → Prop) :
    (fnP Tryz.prog c0 (hsP nm zs ks n c k d m1 w1 m2 w2) (78 : FuncId) [Value.agg (List.toArray (secA nm (0 : Nat) n c (1 : Nat) k d))] (hp2 zs ks m1 w1 m2 w2 []) K) =
    (let z0 : AObj := AObj.row [Value.string nm, Value.slice (some ⟨0, 0, none⟩) n c, Value.slice (some ⟨1, 0, none⟩) k d] 0 false true false; ((∃ s, Is (s ≤ k) ∧ [poi, Value.pointer (some ⟨2, 0, none⟩), poi, Value.slice (some ⟨3, 0, none⟩) 0 0, Value.int .i64 0, poi, poi, poi, poi, Value.slice (some ⟨1, 0, none⟩) k d, Value.int .i64 (k : Int), Value.int .i64 0, poi, poi, poi, poi, poi, poi, poi, poi, poi, poi, poi, poi, poi, poi, poi, poi, poi, poi, poi, poi, poi, poi, poi, poi, poi, poi, poi, poi, poi, poi, poi, poi, poi, poi, poi, poi, poi, poi] = [poi, Value.pointer (some ⟨2, 0, none⟩), poi, Value.slice (some ⟨3, 0, none⟩) s 0, Value.int .i64 (↑(frm zs ks s) : Int), poi, poi, poi, poi, Value.slice (some ⟨1, 0, none⟩) k d, Value.int .i64 (k : Int), Value.int .i64 (s : Int), poi, poi, poi, poi, poi, poi, poi, poi, poi, poi, poi, poi, poi, poi, poi, poi, poi, poi, poi, poi, poi, poi, poi, poi, poi, poi, poi, poi, poi, poi, poi, poi, poi, poi, poi, poi, poi, poi] ∧ some (AObj.row (ints zs) 2 m1 w1 true) :: some (AObj.row (acs ks) 2 m2 w2 true) :: some (AObj.row [Value.string nm, Value.slice (some ⟨0, 0, none⟩) n c, Value.slice (some ⟨1, 0, none⟩) k d] 0 false true (List.all [Value.string nm, Value.slice (some ⟨0, 0, none⟩) n c, Value.slice (some ⟨1, 0, none⟩) k d] atom)) :: some (AObj.row [] 2 true true true) :: noH = some (AObj.row (ints zs) 2 m1 w1 true) :: some (AObj.row (acs ks) 2 m2 w2 true) :: some z0 :: some (AObj.row (ints (spn zs ks s)) 2 true true true) :: noH) ∧ ∀ (s : Nat), Is (s ≤ k) → br (decide ((s : Int) < (k : Int))) (Is ((0 : Int) ≤ (s : Int) ∧ (s : Int) < (k : Int)) ∧ Is ((if 0 + Int.toNat (s : Int) * 2 + 2 ≤ List.length (acs ks) then some (Value.agg (List.toArray (List.take 2 (List.drop (0 + Int.toNat (s : Int) * 2) (acs ks))))) else none) = some (Value.agg #[Value.int .i64 (Prod.fst (List.getD ks ((0 + Int.toNat (s : Int) * 2) / 2) ((0 : Int), { data := #[] }))), Value.string (Prod.snd (List.getD ks ((0 + Int.toNat (s : Int) * 2) / 2) ((0 : Int), { data := #[] })))])) ∧ ∃ p, (∃ s_1, Is (s_1 ≤ frm zs ks (p + 1)) ∧ [poi, Value.pointer (some ⟨2, 0, none⟩), poi, Value.slice (some ⟨3, 0, none⟩) s 0, Value.int .i64 (↑(frm zs ks s) : Int), poi, Value.pointer (some ⟨4, 0, none⟩), Value.int .i64 (↑(frm zs ks s) : Int), poi, Value.slice (some ⟨1, 0, none⟩) k d, Value.int .i64 (k : Int), Value.int .i64 (s : Int), poi, poi, poi, poi, poi, poi, poi, poi, poi, poi, poi, poi, poi, poi, poi, poi, poi, poi, poi, poi, poi, poi, poi, poi, poi, poi, poi, poi, poi, poi, poi, poi, poi, poi, poi, poi, poi, poi] = [poi, Value.pointer (some ⟨2, 0, none⟩), poi, Value.slice (some ⟨3, 0, none⟩) p 0, Value.int .i64 (↑(frm zs ks p) : Int), poi, Value.pointer (some ⟨4, 0, none⟩), Value.int .i64 (s_1 : Int), poi, Value.slice (some ⟨1, 0, none⟩) k d, Value.int .i64 (k : Int), Value.int .i64 (p : Int), poi, poi, poi, poi, poi, poi, poi, poi, poi, poi, poi, poi, poi, poi, poi, poi, poi, poi, poi, poi, poi, poi, poi, poi, poi, poi, poi, poi, poi, poi, poi, poi, poi, poi, poi, poi, poi, poi] ∧ some (AObj.row (ints zs) 2 m1 w1 true) :: some (AObj.row (acs ks) 2 m2 w2 true) :: some z0 :: some (AObj.row (ints (spn zs ks s)) 2 true true true) :: some (AObj.row [Value.int .i64 (Prod.fst (List.getD ks ((0 + Int.toNat (s : Int) * 2) / 2) ((0 : Int), { data := #[] }))), Value.string (Prod.snd (List.getD ks ((0 + Int.toNat (s : Int) * 2) / 2) ((0 : Int), { data := #[] })))] 0 false true (true && List.all [Value.int .i64 (Prod.fst (List.getD ks ((0 + Int.toNat (s : Int) * 2) / 2) ((0 : Int), { data := #[] }))), Value.string (Prod.snd (List.getD ks ((0 + Int.toNat (s : Int) * 2) / 2) ((0 : Int), { data := #[] })))] atom)) :: noH = some (AObj.row (ints zs) 2 m1 w1 true) :: some (AObj.row (acs ks) 2 m2 w2 true) :: some z0 :: some (AObj.row (ints (spn zs ks p)) 2 true true true) :: some (AObj.row [Value.int .i64 (Prod.fst (List.getD ks p ((0 : Int), { data := #[] }))), Value.string (Prod.snd (List.getD ks p ((0 : Int), { data := #[] })))] 0 false true true) :: noH) ∧ ∀ (s_1 : Nat), Is (s_1 ≤ frm zs ks (p + 1)) → br (decide ((s_1 : Int) < (n : Int))) (Is ((0 : Int) ≤ (s_1 : Int) ∧ (s_1 : Int) < (n : Int)) ∧ Is ((ints zs)[0 + Int.toNat (s_1 : Int) * 2 + 0]? = some (Value.int .i64 (List.getD zs (0 + Int.toNat (s_1 : Int) * 2 + 0) (0 : Int)))) ∧ br (decide (List.getD zs (0 + Int.toNat (s_1 : Int) * 2 + 0) (0 : Int) < Prod.fst (List.getD ks p ((0 : Int), { data := #[] })))) (∃ s', Is (s' ≤ frm zs ks (p + 1)) ∧ Is (n - s' < n - s_1) ∧ [poi, Value.pointer (some ⟨2, 0, none⟩), poi, Value.slice (some ⟨3, 0, none⟩) p 0, Value.int .i64 (↑(frm zs ks p) : Int), poi, Value.pointer (some ⟨4, 0, none⟩), Value.int .i64 (IntKind.wrap .i64 ((s_1 : Int) + (1 : Int))), poi, Value.slice (some ⟨1, 0, none⟩) k d, Value.int .i64 (k : Int), Value.int .i64 (p : Int), poi, poi, poi, poi, poi, poi, poi, poi, poi, poi, poi, poi, poi, poi, poi, poi, poi, poi, poi, poi, poi, poi, poi, poi, poi, poi, poi, poi, poi, poi, poi, poi, poi, poi, poi, poi, poi, poi] = [poi, Value.pointer (some ⟨2, 0, none⟩), poi, Value.slice (some ⟨3, 0, none⟩) p 0, Value.int .i64 (↑(frm zs ks p) : Int), poi, Value.pointer (some ⟨4, 0, none⟩), Value.int .i64 (↑s' : Int), poi, Value.slice (some ⟨1, 0, none⟩) k d, Value.int .i64 (k : Int), Value.int .i64 (p : Int), poi, poi, poi, poi, poi, poi, poi, poi, poi, poi, poi, poi, poi, poi, poi, poi, poi, poi, poi, poi, poi, poi, poi, poi, poi, poi, poi, poi, poi, poi, poi, poi, poi, poi, poi, poi, poi, poi] ∧ some (AObj.row (ints zs) 2 m1 w1 true) :: some (AObj.row (acs ks) 2 m2 w2 true) :: some z0 :: some (AObj.row (ints (spn zs ks p)) 2 true true true) :: some (AObj.row [Value.int .i64 (Prod.fst (List.getD ks p ((0 : Int), { data := #[] }))), Value.string (Prod.snd (List.getD ks p ((0 : Int), { data := #[] })))] 0 false true true) :: noH = some (AObj.row (ints zs) 2 m1 w1 true) :: some (AObj.row (acs ks) 2 m2 w2 true) :: some z0 :: some (AObj.row (ints (spn zs ks p)) 2 true true true) :: some (AObj.row [Value.int .i64 (Prod.fst (List.getD ks p ((0 : Int), { data := #[] }))), Value.string (Prod.snd (List.getD ks p ((0 : Int), { data := #[] })))] 0 false true true) :: noH) (Is (List.length (ints (spn zs ks p)) = p * 2 ∧ (p + 1) * 16 ≤ 140737488355328 ∧ p + 1 ≤ 9223372036854775807) ∧ ∃ s', Is (s' ≤ k) ∧ Is (k - s' < k - s) ∧ [poi, Value.pointer (some ⟨2, 0, none⟩), poi, Value.slice (some ⟨3, 0, none⟩) (p + 1) 0, Value.int .i64 (s_1 : Int), poi, poi, poi, poi, Value.slice (some ⟨1, 0, none⟩) k d, Value.int .i64 (k : Int), Value.int .i64 (IntKind.wrap .i64 ((p : Int) + (1 : Int))), poi, poi, poi, poi, poi, poi, poi, poi, poi, poi, poi, poi, poi, poi, poi, poi, poi, poi, poi, poi, poi, poi, poi, poi, poi, poi, poi, poi, poi, poi, poi, poi, poi, poi, poi, poi, poi, poi] = [poi, Value.pointer (some ⟨2, 0, none⟩), poi, Value.slice (some ⟨3, 0, none⟩) s' 0, Value.int .i64 (↑(frm zs ks s') : Int), poi, poi, poi, poi, Value.slice (some ⟨1, 0, none⟩) k d, Value.int .i64 (k : Int), Value.int .i64 (↑s' : Int), poi, poi, poi, poi, poi, poi, poi, poi, poi, poi, poi, poi, poi, poi, poi, poi, poi, poi, poi, poi, poi, poi, poi, poi, poi, poi, poi, poi, poi, poi, poi, poi, poi, poi, poi, poi, poi, poi] ∧ some (AObj.row (ints zs) 2 m1 w1 true) :: some (AObj.row (acs ks) 2 m2 w2 true) :: some z0 :: some (AObj.row (ints (spn zs ks p) ++ [Value.int .i64 (↑(frm zs ks p) : Int), Value.int .i64 (s_1 : Int)]) 2 true true (List.all [Value.int .i64 (↑(frm zs ks p) : Int), Value.int .i64 (s_1 : Int)] atom)) :: noH = some (AObj.row (ints zs) 2 m1 w1 true) :: some (AObj.row (acs ks) 2 m2 w2 true) :: some z0 :: some (AObj.row (ints (spn zs ks s')) 2 true true true) :: noH)) (Is (List.length (ints (spn zs ks p)) = p * 2 ∧ (p + 1) * 16 ≤ 140737488355328 ∧ p + 1 ≤ 9223372036854775807) ∧ ∃ s', Is (s' ≤ k) ∧ Is (k - s' < k - s) ∧ [poi, Value.pointer (some ⟨2, 0, none⟩), poi, Value.slice (some ⟨3, 0, none⟩) (p + 1) 0, Value.int .i64 (s_1 : Int), poi, poi, poi, poi, Value.slice (some ⟨1, 0, none⟩) k d, Value.int .i64 (k : Int), Value.int .i64 (IntKind.wrap .i64 ((p : Int) + (1 : Int))), poi, poi, poi, poi, poi, poi, poi, poi, poi, poi, poi, poi, poi, poi, poi, poi, poi, poi, poi, poi, poi, poi, poi, poi, poi, poi, poi, poi, poi, poi, poi, poi, poi, poi, poi, poi, poi, poi] = [poi, Value.pointer (some ⟨2, 0, none⟩), poi, Value.slice (some ⟨3, 0, none⟩) s' 0, Value.int .i64 (↑(frm zs ks s') : Int), poi, poi, poi, poi, Value.slice (some ⟨1, 0, none⟩) k d, Value.int .i64 (k : Int), Value.int .i64 (↑s' : Int), poi, poi, poi, poi, poi, poi, poi, poi, poi, poi, poi, poi, poi, poi, poi, poi, poi, poi, poi, poi, poi, poi, poi, poi, poi, poi, poi, poi, poi, poi, poi, poi, poi, poi, poi, poi, poi, poi] ∧ some (AObj.row (ints zs) 2 m1 w1 true) :: some (AObj.row (acs ks) 2 m2 w2 true) :: some z0 :: some (AObj.row (ints (spn zs ks p) ++ [Value.int .i64 (↑(frm zs ks p) : Int), Value.int .i64 (s_1 : Int)]) 2 true true (List.all [Value.int .i64 (↑(frm zs ks p) : Int), Value.int .i64 (s_1 : Int)] atom)) :: noH = some (AObj.row (ints zs) 2 m1 w1 true) :: some (AObj.row (acs ks) 2 m2 w2 true) :: some z0 :: some (AObj.row (ints (spn zs ks s')) 2 true true true) :: noH)) (Is (List.length (ints (spn zs ks s)) = s * 2 ∧ (s + 1) * 16 ≤ 140737488355328 ∧ s + 1 ≤ 9223372036854775807) ∧ K (Value.slice (some ⟨2, 0, none⟩) (s + 1) 0) (some (AObj.row (ints zs) 2 m1 w1 true) :: some (AObj.row (acs ks) 2 m2 w2 true) :: some (AObj.row (ints (spn zs ks s) ++ [Value.int .i64 (↑(frm zs ks s) : Int), Value.int .i64 (n : Int)]) 2 true true (List.all [Value.int .i64 (↑(frm zs ks s) : Int), Value.int .i64 (n : Int)] atom)) :: noH)))) := by kernel_rfl
/- The reference's periods. -/
noncomputable def orcPerV (zs : List Int) (ks : List (Int × ByteArray)) : OrcV
  | [.agg ⟨[.string _nm, .slice (some ⟨0, 0, none⟩) n _c, .slice (some ⟨1, 0, none⟩) k _d]⟩], [some (.row e1 2 m1 w1 true), some (.row e2 2 m2 w2 true)] => some (.slice (some ⟨2, 0, none⟩) (k + 1) 0, [some (.row e1 2 m1 w1 true), some (.row e2 2 m2 w2 true), lst2 (spans zs ks n k)], isSec zs ks n k e1 e2 ∧ mchk zs (-1) = 0 ∧ achk ks (-1) = 0)
  | _, _ => none
noncomputable def orcCkV (zs : List Int) (ks : List (Int × ByteArray)) : OrcV
  | [.agg ⟨[.string nm, .slice (some ⟨0, 0, none⟩) n _c, .slice (some ⟨1, 0, none⟩) k _d]⟩], [some (.row e1 2 m1 w1 true), some (.row e2 2 m2 w2 true)] => some (.int .i64 (secE nm zs n ks k), [some (.row e1 2 m1 w1 true), some (.row e2 2 m2 w2 true)], isSec zs ks n k e1 e2)
  | _, _ => none
noncomputable def orcShV (zs : List Int) (ks : List (Int × ByteArray)) : OrcV
  | [.agg ⟨[.string nm, .slice (some ⟨0, 0, none⟩) n _c, .slice (some ⟨1, 0, none⟩) k _d]⟩], [some (.row e1 2 m1 w1 true), some (.row e2 2 m2 w2 true)] => some (.bool (shortS nm n ks k), [some (.row e1 2 m1 w1 true), some (.row e2 2 m2 w2 true)], e1 = ints zs ∧ e2 = acs ks ∧ ks.length = k ∧ n ≤ 9223372036854775807 ∧ k ≤ 9223372036854775807)
  | _, _ => none
/- Equal lists of spans. -/
/- Short. -/
noncomputable def lpSh (nm : ByteArray) (zs : List Int) (ks : List (Int × ByteArray)) (n c k d : Nat) (m1 w1 m2 w2 : Bool) : Lp where
  σ := Nat
  E i := slots 47 [(1, .pointer (some ⟨2, 0, none⟩)), (3, .int .i64 (Int.ofNat i))]
  Hp _ := hp2 zs ks m1 w1 m2 w2 [secR nm n c k d]
  I i := i ≤ k ∧ (ks.take i).all (fun a => !decide ((40 : Int) < a.2.size)) = true
  m i := k - i
noncomputable def hsSh (nm : ByteArray) (zs : List Int) (ks : List (Int × ByteArray)) (n c k d : Nat) (m1 w1 m2 w2 : Bool) : Hs Tryz.prog where
  op y := if y = 403 then some (hIa Tryz.prog) else if y = 405 then some (hLd Tryz.prog (kS ks)) else none
  lp _ := some (lpSh nm zs ks n c k d m1 w1 m2 w2)
  cl _ := keep 47 [1, 3]
  au := au0 Tryz.prog
theorem short_t (nm : ByteArray) (zs : List Int) (ks : List (Int × ByteArray)) (n : Nat) (c : Nat) (k : Nat) (d : Nat) (m1 : Bool) (w1 : Bool) (m2 : Bool) (w2 : Bool) (K : Value → Heap → Prop) :
    (fnP Tryz.prog c0 (hsSh nm zs ks n c k d m1 w1 m2 w2) (44 : FuncId) [Value.agg (List.toArray (secA nm (0 : Nat) n c (1 : Nat) k d))] (hp2 zs ks m1 w1 m2 w2 []) K) =
    (let z0 : AObj := AObj.row [Value.string nm, Value.slice (some ⟨0, 0, none⟩) n c, Value.slice (some ⟨1, 0, none⟩) k d] 0 false true false; ((∃ s, Is (s ≤ k ∧ (List.all (List.take s ks) fun a => !decide ((40 : Int) < (↑(ByteArray.size (Prod.snd a)) : Int))) = true) ∧ [poi, Value.pointer (some ⟨2, 0, none⟩), poi, Value.int .i64 0, poi, poi, poi, poi, poi, poi, poi, poi, poi, poi, poi, poi, poi, poi, poi, poi, poi, poi, poi, poi, poi, poi, poi, poi, poi, poi, poi, poi, poi, poi, poi, poi, poi, poi, poi, poi, poi, poi, poi, poi, poi, poi, poi] = [poi, Value.pointer (some ⟨2, 0, none⟩), poi, Value.int .i64 (s : Int), poi, poi, poi, poi, poi, poi, poi, poi, poi, poi, poi, poi, poi, poi, poi, poi, poi, poi, poi, poi, poi, poi, poi, poi, poi, poi, poi, poi, poi, poi, poi, poi, poi, poi, poi, poi, poi, poi, poi, poi, poi, poi, poi] ∧ some (AObj.row (ints zs) 2 m1 w1 true) :: some (AObj.row (acs ks) 2 m2 w2 true) :: some (AObj.row [Value.string nm, Value.slice (some ⟨0, 0, none⟩) n c, Value.slice (some ⟨1, 0, none⟩) k d] 0 false true (List.all [Value.string nm, Value.slice (some ⟨0, 0, none⟩) n c, Value.slice (some ⟨1, 0, none⟩) k d] atom)) :: noH = some (AObj.row (ints zs) 2 m1 w1 true) :: some (AObj.row (acs ks) 2 m2 w2 true) :: some z0 :: noH) ∧ ∀ (s : Nat), Is (s ≤ k ∧ (List.all (List.take s ks) fun a => !decide ((40 : Int) < (↑(ByteArray.size (Prod.snd a)) : Int))) = true) → br (decide ((s : Int) < (k : Int))) (Is ((0 : Int) ≤ (s : Int) ∧ (s : Int) < (k : Int)) ∧ Is ((acs ks)[0 + Int.toNat (s : Int) * 2 + 1]? = some (Value.string (Prod.snd (List.getD ks ((0 + Int.toNat (s : Int) * 2 + 1) / 2) ((0 : Int), { data := #[] }))))) ∧ br (decide ((40 : Int) < (↑(ByteArray.size (Prod.snd (List.getD ks ((0 + Int.toNat (s : Int) * 2 + 1) / 2) ((0 : Int), { data := #[] })))) : Int))) (K (Value.bool false) (some (AObj.row (ints zs) 2 m1 w1 true) :: some (AObj.row (acs ks) 2 m2 w2 true) :: noH)) (∃ s', Is (s' ≤ k ∧ (List.all (List.take s' ks) fun a => !decide ((40 : Int) < (↑(ByteArray.size (Prod.snd a)) : Int))) = true) ∧ Is (k - s' < k - s) ∧ [poi, Value.pointer (some ⟨2, 0, none⟩), poi, Value.int .i64 (IntKind.wrap .i64 ((s : Int) + (1 : Int))), poi, poi, poi, poi, poi, poi, poi, poi, poi, poi, poi, poi, poi, poi, poi, poi, poi, poi, poi, poi, poi, poi, poi, poi, poi, poi, poi, poi, poi, poi, poi, poi, poi, poi, poi, poi, poi, poi, poi, poi, poi, poi, poi] = [poi, Value.pointer (some ⟨2, 0, none⟩), poi, Value.int .i64 (↑s' : Int), poi, poi, poi, poi, poi, poi, poi, poi, poi, poi, poi, poi, poi, poi, poi, poi, poi, poi, poi, poi, poi, poi, poi, poi, poi, poi, poi, poi, poi, poi, poi, poi, poi, poi, poi, poi, poi, poi, poi, poi, poi, poi, poi] ∧ some (AObj.row (ints zs) 2 m1 w1 true) :: some (AObj.row (acs ks) 2 m2 w2 true) :: some z0 :: noH = some (AObj.row (ints zs) 2 m1 w1 true) :: some (AObj.row (acs ks) 2 m2 w2 true) :: some z0 :: noH)) (br (decide ((↑(ByteArray.size nm) : Int) ≤ (40 : Int))) (br (decide ((n : Int) ≤ (12 : Int))) (br (decide ((k : Int) ≤ (6 : Int))) (K (Value.bool true) (some (AObj.row (ints zs) 2 m1 w1 true) :: some (AObj.row (acs ks) 2 m2 w2 true) :: noH)) (K (Value.bool ((k : Int) == (17 : Int))) (some (AObj.row (ints zs) 2 m1 w1 true) :: some (AObj.row (acs ks) 2 m2 w2 true) :: noH))) (br ((n : Int) == (33 : Int)) (br (decide ((k : Int) ≤ (6 : Int))) (K (Value.bool true) (some (AObj.row (ints zs) 2 m1 w1 true) :: some (AObj.row (acs ks) 2 m2 w2 true) :: noH)) (K (Value.bool ((k : Int) == (17 : Int))) (some (AObj.row (ints zs) 2 m1 w1 true) :: some (AObj.row (acs ks) 2 m2 w2 true) :: noH))) (K (Value.bool false) (some (AObj.row (ints zs) 2 m1 w1 true) :: some (AObj.row (acs ks) 2 m2 w2 true) :: noH)))) (K (Value.bool false) (some (AObj.row (ints zs) 2 m1 w1 true) :: some (AObj.row (acs ks) 2 m2 w2 true) :: noH))))) := by kernel_rfl

theorem cnt_le : ∀ (zs : List Int) (x : Int), cnt zs x * 2 ≤ zs.length
  | [], _ => by simp [cnt]
  | [_], _ => by simp [cnt]
  | a :: b :: r, x => by
    have := cnt_le r x
    simp only [cnt, List.length_cons]
    split <;> omega
theorem cnt_mono {x y : Int} (h : x ≤ y) : ∀ zs : List Int, cnt zs x ≤ cnt zs y
  | [] => by simp [cnt]
  | [_] => by simp [cnt]
  | a :: b :: r => by
    have := cnt_mono h r
    simp only [cnt]
    split <;> split <;> omega
theorem mchk_cons {a b last : Int} {r : List Int} (h : mchk (a :: b :: r) last = 0) : last < a ∧ mchk r a = 0 := by
  simp only [mchk] at h
  obtain ⟨h1, h2⟩ := sel_zero.1 h
  have := fi_zero.1 h1 (wh (decide (a ≤ last)) 11) (by simp)
  have := (wh_zero (by decide)).1 this
  simp at this
  exact ⟨this, h2⟩
theorem cnt_none : ∀ (zs : List Int) (last x : Int), mchk zs last = 0 → x ≤ last + 1 → cnt zs x = 0
  | [], _, _, _, _ => by simp [cnt]
  | [_], _, _, _, _ => by simp [cnt]
  | a :: b :: r, last, x, h, hx => by
    obtain ⟨h1, h2⟩ := mchk_cons h
    have := cnt_none r a x h2 (by omega)
    simp only [cnt, this]
    split <;> omega
theorem cnt_iff : ∀ (zs : List Int) (last x : Int), mchk zs last = 0 → ∀ i, i * 2 + 2 ≤ zs.length → (zs.getD (i * 2) 0 < x ↔ i < cnt zs x)
  | [], _, _, _, i, h => by simp at h
  | [_], _, _, _, i, h => by simp at h
  | a :: b :: r, last, x, hm, i, h => by
    obtain ⟨h1, h2⟩ := mchk_cons hm
    cases i with
    | zero =>
      simp only [Nat.zero_mul, List.getD_cons_zero, cnt]
      by_cases hx : a < x
      · simp only [hx, if_true, true_iff]; omega
      · have := cnt_none r a x h2 (by omega)
        simp only [hx, if_false, this, false_iff]; omega
    | succ i =>
      have e2 : (i + 1) * 2 = i * 2 + 1 + 1 := by omega
      have e3 : (a :: b :: r).getD ((i + 1) * 2) 0 = r.getD (i * 2) 0 := by rw [e2]; rfl
      have ih := cnt_iff r a x h2 i (by simp only [List.length_cons] at h; omega)
      rw [e3, ih]
      simp only [cnt]
      by_cases hx : a < x
      · simp only [hx, if_true]; omega
      · have := cnt_none r a x h2 (by omega)
        simp only [hx, if_false, this]; omega
theorem achk_cons {a : Int × ByteArray} {last : Int} {r : List (Int × ByteArray)} (h : achk (a :: r) last = 0) : last < a.1 ∧ achk r a.1 = 0 := by
  simp only [achk] at h
  obtain ⟨h1, h2⟩ := sel_zero.1 h
  have := fi_zero.1 h1 (wh (decide (a.1 ≤ last)) 11) (by simp)
  have := (wh_zero (by decide)).1 this
  simp at this
  exact ⟨this, h2⟩
theorem acts_up : ∀ (ks : List (Int × ByteArray)) (last : Int), achk ks last = 0 → ∀ i, i + 1 < ks.length → (ks.getD i (0, ⟨#[]⟩)).1 < (ks.getD (i + 1) (0, ⟨#[]⟩)).1
  | [], _, _, i, h => by simp at h
  | [_], _, _, i, h => by simp at h
  | a :: b :: r, last, hm, i, h => by
    obtain ⟨h1, h2⟩ := achk_cons hm
    cases i with
    | zero => exact (achk_cons h2).1
    | succ i => exact acts_up (b :: r) a.1 h2 i (by simpa using h)
theorem frm_up {zs : List Int} {ks : List (Int × ByteArray)} (ha : achk ks (-1) = 0) {i : Nat} (h : i < ks.length) : frm zs ks i ≤ frm zs ks (i + 1) := by
  cases i with
  | zero => exact Nat.zero_le _
  | succ i => exact cnt_mono (Int.le_of_lt (acts_up ks (-1) ha i h)) zs
theorem spn_len (zs : List Int) (ks : List (Int × ByteArray)) : ∀ i, (spn zs ks i).length = i * 2
  | 0 => rfl
  | i + 1 => by simp only [spn, List.length_append, spn_len zs ks i, List.length_cons, List.length_nil]; omega
theorem spans_len (zs : List Int) (ks : List (Int × ByteArray)) (n k : Nat) : (spans zs ks n k).length = (k + 1) * 2 := by
  simp only [spans, List.length_append, spn_len, List.length_cons, List.length_nil]; omega
theorem acs_kind : ∀ {ks : List (Int × ByteArray)} {i : Nat}, i < ks.length → (acs ks)[i * 2 + 1]? = some (.string (ks.getD i (0, ⟨#[]⟩)).2)
  | [], _, h => absurd h (by simp)
  | a :: r, 0, _ => rfl
  | a :: r, i + 1, h => by
    have := acs_kind (ks := r) (i := i) (by simpa using h)
    have e : (i + 1) * 2 + 1 = i * 2 + 1 + 1 + 1 := by omega
    rw [e, acs, List.getElem?_cons_succ, List.getElem?_cons_succ, this]
    simp

set_option maxRecDepth 100000 in
theorem per_ok {nm : ByteArray} {zs : List Int} {ks : List (Int × ByteArray)} {n c k d : Nat} {m1 w1 m2 w2 : Bool} (hz : zs.length = n * 2) (hk : ks.length = k) (hn : n ≤ 1000) (hk2 : k ≤ 1000) (hmm : mchk zs (-1) = 0) (ha : achk ks (-1) = 0) :
    SmallRes Tryz.prog 78 [.agg (secA nm 0 n c 1 k d).toArray] (hp2 zs ks m1 w1 m2 w2 []) (.slice (some ⟨2, 0, none⟩) (k + 1) 0) (hp2 zs ks m1 w1 m2 w2 [lst2 (spans zs ks n k)]) := by
  refine fnP_res hm c0_ok (hs := hsP nm zs ks n c k d m1 w1 m2 w2) ?_
  rw [per_t]
  refine ⟨⟨(0 : Nat), ⟨by omega⟩, by first | trivial | rfl, by first | trivial | rfl⟩, fun s hs => br_of (fun h => ?_) (fun h => ?_)⟩
  · have h := lt_of_dec h
    have e2 : s * 2 / 2 = s := by omega
    have hf : frm zs ks (s + 1) ≤ n := by have := cnt_le zs (ks.getD s (0, ⟨#[]⟩)).1; simp only [frm]; omega
    simp only [Nat.zero_add, Nat.add_zero, Int.toNat_natCast, e2]
    refine ⟨⟨by omega, by omega⟩, ⟨?_⟩, s, ⟨frm zs ks s, ⟨frm_up ha (by omega)⟩, by first | trivial | rfl, by first | trivial | rfl⟩, fun t ht => ?_⟩
    · rw [acs_len, if_pos (by omega), acs_pair (by omega)]
    · have ht := ht.out
      have last : t = frm zs ks (s + 1) → Is (List.length (ints (spn zs ks s)) = s * 2 ∧ (s + 1) * 16 ≤ 140737488355328 ∧ s + 1 ≤ 9223372036854775807) := fun _ => ⟨by rw [ints_len, spn_len]; omega⟩
      refine br_of (fun h1 => ⟨⟨by have := lt_of_dec h1; omega, by have := lt_of_dec h1; omega⟩, ⟨ints_at (by have := lt_of_dec h1; omega)⟩, br_of (fun h2 => ?_) (fun h2 => ?_)⟩) (fun h1 => ?_)
      · have h1 := lt_of_dec h1
        have h2 := (cnt_iff zs (-1) _ hmm t (by omega)).1 (of_decide_eq_true h2)
        exact ⟨t + 1, ⟨h2⟩, ⟨by omega⟩, by rw [up1 h1 (by omega)], by first | trivial | rfl⟩
      · have h1 := lt_of_dec h1
        have h2 : ¬ t < cnt zs (ks.getD s (0, ⟨#[]⟩)).1 := fun h => of_decide_eq_false h2 ((cnt_iff zs (-1) (ks.getD s (0, ⟨#[]⟩)).1 hmm t (by omega)).2 h)
        have e : t = frm zs ks (s + 1) := by simp only [frm] at ht ⊢; omega
        subst e
        refine ⟨last rfl, s + 1, ⟨h⟩, ⟨by omega⟩, by rw [up1 h (by omega)], ?_⟩
        rw [show ints (spn zs ks s) ++ [.int .i64 ((frm zs ks s : Nat) : Int), .int .i64 ((frm zs ks (s + 1) : Nat) : Int)] = ints (spn zs ks (s + 1)) by rw [spn, ← ints_app]; rfl]
        first | trivial | rfl
      · have h1 := ge_of_dec h1
        have e : t = frm zs ks (s + 1) := by omega
        subst e
        refine ⟨last rfl, s + 1, ⟨h⟩, ⟨by omega⟩, by rw [up1 h (by omega)], ?_⟩
        rw [show ints (spn zs ks s) ++ [.int .i64 ((frm zs ks s : Nat) : Int), .int .i64 ((frm zs ks (s + 1) : Nat) : Int)] = ints (spn zs ks (s + 1)) by rw [spn, ← ints_app]; rfl]
        first | trivial | rfl
  · have h := ge_of_dec h
    have : s = k := by have := hs.out; omega
    subst this
    refine ⟨⟨by rw [ints_len, spn_len], by omega, by omega⟩, rfl, ?_⟩
    rw [show ints (spn zs ks s) ++ [.int .i64 ((frm zs ks s : Nat) : Int), .int .i64 (n : Int)] = ints (spans zs ks n s) by rw [spans, ← ints_app]; rfl]
    rfl
theorem per_okV (zs : List Int) (ks : List (Int × ByteArray)) : OkV Tryz.prog 78 (orcPerV zs ks) := by
  intro args H ret H' vc h hv
  unfold orcPerV at h
  split at h
  · cases h
    obtain ⟨⟨rfl, rfl, h1, h2, h3, h4⟩, h5, h6⟩ := hv
    exact per_ok h1 h2 h3 h4 h5 h6
  · cases h
theorem ck_okV (zs : List Int) (ks : List (Int × ByteArray)) : OkV Tryz.prog 19 (orcCkV zs ks) := by
  intro args H ret H' vc h hv
  unfold orcCkV at h
  split at h
  · cases h
    obtain ⟨rfl, rfl, h1, h2, h3, h4⟩ := hv
    exact ck_ok h1 h2 h3 h4
  · cases h
theorem ckR_okV (zs : List Int) (ks : List (Int × ByteArray)) : OkV Tryz.prog 45 (orcCkV zs ks) := by
  intro args H ret H' vc h hv
  unfold orcCkV at h
  split at h
  · cases h
    obtain ⟨rfl, rfl, h1, h2, h3, h4⟩ := hv
    exact ckR_ok h1 h2 h3 h4
  · cases h
set_option maxRecDepth 100000 in
theorem short_ok {nm : ByteArray} {zs : List Int} {ks : List (Int × ByteArray)} {n c k d : Nat} {m1 w1 m2 w2 : Bool} (hk : ks.length = k) (hk2 : k ≤ 9223372036854775807) :
    SmallRes Tryz.prog 44 [.agg (secA nm 0 n c 1 k d).toArray] (hp2 zs ks m1 w1 m2 w2 []) (.bool (shortS nm n ks k)) (hp2 zs ks m1 w1 m2 w2 []) := by
  refine fnP_res hm c0_ok (hs := hsSh nm zs ks n c k d m1 w1 m2 w2) ?_
  rw [short_t]
  refine ⟨⟨(0 : Nat), ⟨by omega, rfl⟩, by first | trivial | rfl, by first | trivial | rfl⟩, fun s hs => br_of (fun h => ?_) (fun h => ?_)⟩
  · obtain ⟨a1, a2⟩ := hs.out
    have h := lt_of_dec h
    have e2 : (s * 2 + 1) / 2 = s := by omega
    have hu : IntKind.wrap .i64 ((s : Int) + 1) = ((s + 1 : Nat) : Int) := by rw [wrap_eq (by omega) (by omega)]; rfl
    simp only [Nat.zero_add, Int.toNat_natCast, e2]
    refine ⟨⟨by omega, by omega⟩, ⟨acs_kind (by omega)⟩, br_of (fun he => ?_) (fun he => ⟨s + 1, ⟨h, ?_⟩, ⟨by omega⟩, by rw [hu], by first | trivial | rfl⟩)⟩
    · have : ks.all (fun a => !decide ((40 : Int) < a.2.size)) = false := by
        rw [List.all_eq_false]
        refine ⟨ks.getD s (0, ⟨#[]⟩), ?_, by rw [he]; simp⟩
        rw [List.getD_eq_getElem?_getD, List.getElem?_eq_getElem (by omega)]
        exact List.getElem_mem _
      rw [shortS, this]
      exact ⟨rfl, rfl⟩
    · rw [List.take_add_one, List.all_append, a2, List.getElem?_eq_getElem (by omega)]
      rw [List.getD_eq_getElem?_getD, List.getElem?_eq_getElem (by omega)] at he
      simpa using he
  · obtain ⟨a1, a2⟩ := hs.out
    have h := ge_of_dec h
    have e : s = k := by omega
    subst e
    rw [← hk, List.take_length] at a2
    rw [shortS, a2, Bool.true_and]
    refine br_of (fun b1 => br_of (fun b2 => br_of (fun b3 => ?_) (fun b3 => ?_)) (fun b2 => br_of (fun b4 => br_of (fun b3 => ?_) (fun b3 => ?_)) (fun b4 => ?_))) (fun b1 => ?_)
    all_goals simp only [b1, Bool.true_and, Bool.false_and]
    all_goals first | simp only [b2, Bool.true_and, Bool.true_or, Bool.false_or] | skip
    all_goals first | simp only [b4, Bool.true_and, Bool.false_and] | skip
    all_goals first | simp only [b3, Bool.true_or, Bool.false_or] | skip
    all_goals exact ⟨by first | trivial | rfl, rfl⟩
theorem short_okV (zs : List Int) (ks : List (Int × ByteArray)) : OkV Tryz.prog 44 (orcShV zs ks) := by
  intro args H ret H' vc h hv
  unfold orcShV at h
  split at h
  · cases h
    obtain ⟨rfl, rfl, h1, h2, h3⟩ := hv
    exact short_ok h1 h3
  · cases h

theorem secE_ok {nm : ByteArray} {zs : List Int} {n : Nat} {ks : List (Int × ByteArray)} {k : Nat} (h : secE nm zs n ks k = 0) : mchk zs (-1) = 0 ∧ achk ks (-1) = 0 := by
  simp only [secE, sel_zero] at h
  exact ⟨h.2.1, h.2.2.2⟩
end
end Qq
end
section
/- Lists of sections that are given: how they lie; the reference's ShortList. -/
open Go Go.Vm Go.Proofs Sp
namespace Sp
noncomputable section
/-- A list of sections: names, measurements, interventions, how many. -/
structure Ls where
  nm : Nat → ByteArray
  zs : Nat → List Int
  ks : Nat → List (Int × ByteArray)
  N : Nat → Nat
  K : Nat → Nat
noncomputable def secV (l : Ls) (i : Nat) : Value := .agg #[.string (l.nm i), .slice (some ⟨1 + 2 * i, 0, none⟩) (l.N i) big, .slice (some ⟨2 + 2 * i, 0, none⟩) (l.K i) big]
noncomputable def secAt (l : Ls) (off : Nat) : Value := secV l (off / 3)
noncomputable def lsC (l : Ls) (n : Nat) : List Value := (List.range n).flatMap fun i => [.string (l.nm i), .slice (some ⟨1 + 2 * i, 0, none⟩) (l.N i) big, .slice (some ⟨2 + 2 * i, 0, none⟩) (l.K i) big]
noncomputable def lsR (l : Ls) (n : Nat) : Option AObj := some (.row (lsC l n) 3 false false false)
noncomputable def shI (l : Ls) (i : Nat) : Bool := shortS (l.nm i) (l.N i) (l.ks i) (l.K i)
noncomputable def shA (l : Ls) : Nat → Bool
  | 0 => true
  | n + 1 => shA l n && shI l n
noncomputable def shL (l : Ls) (n : Nat) : Bool := shA l n && (decide ((n : Int) ≤ 6) || (n : Int) == 33)
end
end Sp
namespace Qq
noncomputable section
/-- The lists of the sections, behind their list. -/
def lsIn (l : Ls) (n : Nat) (T : Heap) : Prop := ∀ i, i < n → rd T (2 * i) = some (.row (ints (l.zs i)) 2 false false true) ∧ rd T (2 * i + 1) = some (.row (acs (l.ks i)) 2 false false true)
/-- Sections that are given, each with its lists. -/
def okLs (l : Ls) (n : Nat) : Prop := ∀ i, i < n → (l.zs i).length = l.N i * 2 ∧ (l.ks i).length = l.K i ∧ l.N i ≤ 9223372036854775807 ∧ l.K i ≤ 9223372036854775807
noncomputable def selS (f : Nat → Value) (r : List Value → Option (List Value)) (p : Nat → List Value → Prop) (l : Ls) : Sel
  | .agg ⟨[.string nm, .slice (some ⟨j, 0, none⟩) n c, .slice (some ⟨k, 0, none⟩) m d]⟩ :: t =>
    match r t with
    | some t' => some ([j, k], .agg #[.string nm, .slice (some ⟨0, 0, none⟩) n c, .slice (some ⟨1, 0, none⟩) m d] :: t', [some (.row (ints (l.zs ((j - 1) / 2))) 2 false false true), some (.row (acs (l.ks ((j - 1) / 2))) 2 false false true)], f ((j - 1) / 2), (nm = l.nm ((j - 1) / 2) ∧ n = l.N ((j - 1) / 2) ∧ m = l.K ((j - 1) / 2)) ∧ p ((j - 1) / 2) t')
    | none => none
  | _ => none
def noMore : List Value → Option (List Value)
  | [] => some []
  | _ => none
noncomputable def selSh (l : Ls) : Sel := selS (fun i => .bool (shI l i)) noMore (fun i _ => (l.ks i).length = l.K i ∧ l.N i ≤ 9223372036854775807 ∧ l.K i ≤ 9223372036854775807) l
theorem selSh_ok (l : Ls) : ∀ ar ids a0 H0 ret vc, selSh l ar = some (ids, a0, H0, ret, vc) → vc → SmallRes Tryz.prog 44 a0 H0 ret H0 := by
  intro ar ids a0 H0 ret vc h hv
  unfold selSh selS at h
  split at h
  · rename_i nm j n c k m d t
    split at h
    · rename_i t' ht
      cases h
      have e : t' = [] := by
        unfold noMore at ht
        split at ht
        · cases ht; rfl
        · cases ht
      subst e
      obtain ⟨⟨rfl, rfl, rfl⟩, h1, h2, h3⟩ := hv
      exact short_okV (l.zs ((j - 1) / 2)) (l.ks ((j - 1) / 2)) _ _ _ _ _ rfl ⟨rfl, rfl, h1, h2, h3⟩
    · cases h
  · cases h
noncomputable def lpSl (l : Ls) (n c : Nat) (T : Heap) : Lp where
  σ := Nat
  E s := slots 24 [(0, .slice (some ⟨0, 0, none⟩) n c), (3, .int .i64 (s : Int))]
  Hp _ := lsR l n :: T
  I s := s ≤ n ∧ shA l s = true
  m s := n - s
noncomputable def hsSl (l : Ls) (n c : Nat) (T : Heap) : Hs Tryz.prog where
  op y := if y = 402 then some (hIa Tryz.prog) else if y = 403 then some (hLd Tryz.prog (secAt l)) else if y = 404 then some (hCi Tryz.prog 44 (selSh l) (selSh_ok l)) else none
  lp _ := some (lpSl l n c T)
  cl _ := keep 24 [0, 3]
  nl _ := [.stay]
  rn := [.stay]
  au := au0 Tryz.prog
theorem shL_t (l : Ls) (n : Nat) (c : Nat) (T : Heap) (K : Value → Heap → Prop) :
    (fnP Tryz.prog c0 (hsSl l n c T) (14 : FuncId) [Value.slice (some { block := (0 : Nat), off := (0 : Nat) }) n c] (lsR l n :: T) K) =
    ((∃ (s : Nat), Is (s ≤ n ∧ shA l s = true) ∧ [Value.slice (some ⟨0, 0, none⟩) n c, poi, poi, Value.int .i64 0, poi, poi, poi, poi, poi, poi, poi, poi, poi, poi, poi, poi, poi, poi, poi, poi, poi, poi, poi, poi] = [Value.slice (some ⟨0, 0, none⟩) n c, poi, poi, Value.int .i64 (s : Int), poi, poi, poi, poi, poi, poi, poi, poi, poi, poi, poi, poi, poi, poi, poi, poi, poi, poi, poi, poi] ∧ some (AObj.row (lsC l n) 3 false false false) :: T = some (AObj.row (lsC l n) 3 false false false) :: T) ∧ ∀ (s : Nat), Is (s ≤ n ∧ shA l s = true) → br (decide ((s : Int) < (n : Int))) (Is ((0 : Int) ≤ (s : Int) ∧ (s : Int) < (n : Int)) ∧ Is ((if 0 + Int.toNat (s : Int) * 3 + 3 ≤ List.length (lsC l n) then some (Value.agg (List.toArray (List.take 3 (List.drop (0 + Int.toNat (s : Int) * 3) (lsC l n))))) else none) = some (Value.agg #[Value.string (Ls.nm l ((0 + Int.toNat (s : Int) * 3) / 3)), Value.slice (some { block := 1 + 2 * ((0 + Int.toNat (s : Int) * 3) / 3), off := 0 }) (Ls.N l ((0 + Int.toNat (s : Int) * 3) / 3)) 18446744073709551616, Value.slice (some { block := 2 + 2 * ((0 + Int.toNat (s : Int) * 3) / 3), off := 0 }) (Ls.K l ((0 + Int.toNat (s : Int) * 3) / 3)) 18446744073709551616])) ∧ Is (CiOK (some (AObj.row (lsC l n) 3 false false false) :: T) [Value.agg #[Value.string (Ls.nm l ((0 + Int.toNat (s : Int) * 3) / 3)), Value.slice (some { block := 1 + 2 * ((0 + Int.toNat (s : Int) * 3) / 3), off := 0 }) (Ls.N l ((0 + Int.toNat (s : Int) * 3) / 3)) 18446744073709551616, Value.slice (some { block := 2 + 2 * ((0 + Int.toNat (s : Int) * 3) / 3), off := 0 }) (Ls.K l ((0 + Int.toNat (s : Int) * 3) / 3)) 18446744073709551616]] [1 + 2 * ((0 + Int.toNat (s : Int) * 3) / 3), 2 + 2 * ((0 + Int.toNat (s : Int) * 3) / 3)] [Value.agg #[Value.string (Ls.nm l ((0 + Int.toNat (s : Int) * 3) / 3)), Value.slice (some ⟨0, 0, none⟩) (Ls.N l ((0 + Int.toNat (s : Int) * 3) / 3)) 18446744073709551616, Value.slice (some ⟨1, 0, none⟩) (Ls.K l ((0 + Int.toNat (s : Int) * 3) / 3)) 18446744073709551616]] (some (AObj.row (ints (Ls.zs l ((1 + 2 * ((0 + Int.toNat (s : Int) * 3) / 3) - 1) / 2))) 2 false false true) :: some (AObj.row (acs (Ls.ks l ((1 + 2 * ((0 + Int.toNat (s : Int) * 3) / 3) - 1) / 2))) 2 false false true) :: noH) (Value.bool (shI l ((1 + 2 * ((0 + Int.toNat (s : Int) * 3) / 3) - 1) / 2))) ∧ (Ls.nm l ((0 + Int.toNat (s : Int) * 3) / 3) = Ls.nm l ((1 + 2 * ((0 + Int.toNat (s : Int) * 3) / 3) - 1) / 2) ∧ Ls.N l ((0 + Int.toNat (s : Int) * 3) / 3) = Ls.N l ((1 + 2 * ((0 + Int.toNat (s : Int) * 3) / 3) - 1) / 2) ∧ Ls.K l ((0 + Int.toNat (s : Int) * 3) / 3) = Ls.K l ((1 + 2 * ((0 + Int.toNat (s : Int) * 3) / 3) - 1) / 2)) ∧ List.length (Ls.ks l ((1 + 2 * ((0 + Int.toNat (s : Int) * 3) / 3) - 1) / 2)) = Ls.K l ((1 + 2 * ((0 + Int.toNat (s : Int) * 3) / 3) - 1) / 2) ∧ Ls.N l ((1 + 2 * ((0 + Int.toNat (s : Int) * 3) / 3) - 1) / 2) ≤ 9223372036854775807 ∧ Ls.K l ((1 + 2 * ((0 + Int.toNat (s : Int) * 3) / 3) - 1) / 2) ≤ 9223372036854775807) ∧ br (!shI l ((1 + 2 * ((0 + Int.toNat (s : Int) * 3) / 3) - 1) / 2)) (K (Value.bool false) (some (AObj.row (lsC l n) 3 false false false) :: T)) (∃ (s' : Nat), Is (s' ≤ n ∧ shA l s' = true) ∧ Is (n - s' < n - s) ∧ [Value.slice (some ⟨0, 0, none⟩) n c, poi, poi, Value.int .i64 (IntKind.wrap .i64 ((s : Int) + (1 : Int))), poi, poi, poi, poi, poi, poi, poi, poi, poi, poi, poi, poi, poi, poi, poi, poi, poi, poi, poi, poi] = [Value.slice (some ⟨0, 0, none⟩) n c, poi, poi, Value.int .i64 (↑s' : Int), poi, poi, poi, poi, poi, poi, poi, poi, poi, poi, poi, poi, poi, poi, poi, poi, poi, poi, poi, poi] ∧ some (AObj.row (lsC l n) 3 false false false) :: T = some (AObj.row (lsC l n) 3 false false false) :: T)) (br (decide ((n : Int) ≤ (6 : Int))) (K (Value.bool true) (some (AObj.row (lsC l n) 3 false false false) :: T)) (K (Value.bool ((n : Int) == (33 : Int))) (some (AObj.row (lsC l n) 3 false false false) :: T)))) := by kernel_rfl
theorem e3 (s : Nat) : (0 + s * 3) / 3 = s := by omega
theorem e2 (s : Nat) : (1 + 2 * s - 1) / 2 = s := by omega
theorem lsC_succ (l : Ls) (n : Nat) : lsC l (n + 1) = lsC l n ++ [.string (l.nm n), .slice (some ⟨1 + 2 * n, 0, none⟩) (l.N n) big, .slice (some ⟨2 + 2 * n, 0, none⟩) (l.K n) big] := by
  rw [lsC, List.range_succ, List.flatMap_append, List.flatMap_singleton]; rfl
theorem lsC_len (l : Ls) : ∀ n, (lsC l n).length = 3 * n
  | 0 => rfl
  | n + 1 => by rw [lsC_succ, List.length_append, lsC_len l n]; rfl
theorem lsC_part (l : Ls) {s : Nat} : ∀ {n : Nat}, s < n → ((lsC l n).drop (s * 3)).take 3 = [.string (l.nm s), .slice (some ⟨1 + 2 * s, 0, none⟩) (l.N s) big, .slice (some ⟨2 + 2 * s, 0, none⟩) (l.K s) big]
  | n + 1, h => by
    have hl := lsC_len l n
    rw [lsC_succ]
    by_cases h' : s = n
    · subst h'
      rw [List.drop_append_of_le_length (by omega), List.drop_eq_nil_of_le (by omega), List.nil_append, List.take_of_length_le (by simp)]
    · rw [List.drop_append_of_le_length (by omega), List.take_append_of_le_length (by rw [List.length_drop]; omega), lsC_part l (n := n) (by omega)]
theorem lsC_ld (l : Ls) {s n : Nat} (h : s < n) : (if 0 + s * 3 + 3 ≤ (lsC l n).length then some (Value.agg (((lsC l n).drop (0 + s * 3)).take 3).toArray) else none) = some (secV l s) := by
  rw [lsC_len, if_pos (by omega), Nat.zero_add, lsC_part l h]; rfl
theorem rd_ls {l : Ls} {n s : Nat} {T : Heap} {r : Option AObj} (h : lsIn l n T) (hs : s < n) : rd (r :: T) (1 + 2 * s) = some (.row (ints (l.zs s)) 2 false false true) ∧ rd (r :: T) (2 + 2 * s) = some (.row (acs (l.ks s)) 2 false false true) := by
  obtain ⟨h1, h2⟩ := h s hs
  refine ⟨?_, ?_⟩
  · rw [show 1 + 2 * s = 2 * s + 1 by omega, rd_cons]; exact h1
  · rw [show 2 + 2 * s = 2 * s + 1 + 1 by omega, rd_cons]; exact h2
theorem sec_ci {l : Ls} {n s : Nat} {T : Heap} {r : Option AObj} (h : lsIn l n T) (hs : s < n) {t : List Value} (ht : ∀ v ∈ t, atom v = true) {ret : Value} (hr : atom ret = true) :
    CiOK (r :: T) (.agg #[.string (l.nm s), .slice (some ⟨1 + 2 * s, 0, none⟩) (l.N s) big, .slice (some ⟨2 + 2 * s, 0, none⟩) (l.K s) big] :: t) [1 + 2 * s, 2 + 2 * s] (.agg #[.string (l.nm s), .slice (some ⟨0, 0, none⟩) (l.N s) big, .slice (some ⟨1, 0, none⟩) (l.K s) big] :: t)
      [some (.row (ints (l.zs s)) 2 false false true), some (.row (acs (l.ks s)) 2 false false true)] ret := by
  obtain ⟨h1, h2⟩ := rd_ls (r := r) h hs
  exact ci_two h1 h2 (by omega) hr (ren_two (by omega) ht)
theorem shA_step {l : Ls} {s : Nat} (h : shA l s = true) (hs : shI l s = true) : shA l (s + 1) = true := by rw [shA, h, hs]; rfl
theorem shA_no {l : Ls} {s : Nat} (hs : shI l s = false) : ∀ {n : Nat}, s < n → shA l n = false
  | n + 1, h => by
    rw [shA]
    by_cases e : s = n
    · subst e; rw [hs, Bool.and_false]
    · rw [shA_no hs (n := n) (by omega), Bool.false_and]
theorem shL_ok {l : Ls} {n c : Nat} {T : Heap} (h : lsIn l n T) (hl : okLs l n) (h9 : n ≤ 9223372036854775807) : SmallRes Tryz.prog 14 [.slice (some ⟨0, 0, none⟩) n c] (lsR l n :: T) (.bool (shL l n)) (lsR l n :: T) := by
  refine fnP_res hm c0_ok (hs := hsSl l n c T) ?_
  show fnP Tryz.prog c0 (hsSl l n c T) 14 _ _ _
  rw [shL_t]
  refine ⟨⟨(0 : Nat), ⟨Nat.zero_le _, rfl⟩, by first | trivial | rfl, rfl⟩, fun s hs => br_of (fun hc => ?_) (fun hc => ?_)⟩
  · have hc := lt_of_dec hc
    simp only [Int.toNat_natCast, e3, e2]
    obtain ⟨h1, h2, h3, h4⟩ := hl s hc
    refine ⟨⟨by omega, by omega⟩, ⟨lsC_ld l hc⟩, ⟨sec_ci h hc (by simp) rfl, ⟨by trivial, by trivial, by trivial⟩, h2, h3, h4⟩, br_of (fun hb => ?_) (fun hb => ?_)⟩
    · have hb : shI l s = false := by
        cases h : shI l s
        · rfl
        · rw [h] at hb; cases hb
      exact ⟨by rw [shL, shA_no hb hc]; rfl, rfl⟩
    · have hb : shI l s = true := by
        cases h : shI l s
        · rw [h] at hb; cases hb
        · rfl
      exact ⟨s + 1, ⟨by omega, shA_step hs.out.2 hb⟩, ⟨by omega⟩, by rw [show IntKind.wrap .i64 ((s : Int) + 1) = ((s + 1 : Nat) : Int) from (wrap_eq (by omega) (by omega)).trans (by omega)], by first | trivial | rfl⟩
  · have hc := ge_of_dec hc
    have : n = s := by have := hs.out.1; omega
    subst this
    have ha := hs.out.2
    refine br_of (fun h6 => ⟨?_, rfl⟩) (fun h6 => ⟨?_, rfl⟩)
    · rw [shL, ha, h6]; rfl
    · rw [shL, ha, h6]; rfl

end
end Qq
end
section
/- Parts of a section, and their sums. -/
open Go Go.Vm Go.Proofs Sp
namespace Sp
noncomputable section
/-- A sum over pairs. -/
noncomputable def sumP (g : Int → Int → Int) : List Int → Int
  | d :: x :: r => g d x + sumP g r
  | _ => 0
noncomputable def d0 (zs : List Int) (off : Nat) : Int := zs.getD off 0
noncomputable def sX (zs : List Int) (off i : Nat) : Int := sumP (fun d _ => d - d0 zs off) ((zs.drop off).take (i * 2))
noncomputable def sY (zs : List Int) (off i : Nat) : Int := sumP (fun _ x => x) ((zs.drop off).take (i * 2))
noncomputable def sXX (zs : List Int) (off i : Nat) : Int := sumP (fun d _ => (d - d0 zs off) * (d - d0 zs off)) ((zs.drop off).take (i * 2))
noncomputable def sXY (zs : List Int) (off i : Nat) : Int := sumP (fun d x => (d - d0 zs off) * x) ((zs.drop off).take (i * 2))
noncomputable def lvl (zs : List Int) (off m : Nat) : Int := sY zs off m * sXX zs off m - sX zs off m * sXY zs off m
noncomputable def slp (zs : List Int) (off m : Nat) : Int := m * sXY zs off m - sX zs off m * sY zs off m
noncomputable def dn (zs : List Int) (off m : Nat) : Int := m * sXX zs off m - sX zs off m * sX zs off m
/-- Where a period ends. -/
noncomputable def upto (zs : List Int) (ks : List (Int × ByteArray)) (n k i : Nat) : Nat := if i < k then frm zs ks (i + 1) else n
end
end Sp
namespace Qq
noncomputable section
noncomputable def sp2 (zs : List Int) (ks : List (Int × ByteArray)) (n k off : Nat) : Value := .agg #[.int .i64 (Int.ofNat (frm zs ks (off / 2))), .int .i64 (Int.ofNat (upto zs ks n k (off / 2)))]
noncomputable def hsPd (zs : List Int) (ks : List (Int × ByteArray)) (n k : Nat) : Hs Tryz.prog where
  op y := if y = 103 then some (hIa Tryz.prog) else if y = 104 then some (hLd Tryz.prog (sp2 zs ks n k)) else if y = 206 then some (hSl Tryz.prog) else none
  au := auCalls [(78, hCa Tryz.prog 78 (orcPerV zs ks) (per_okV zs ks))]
theorem pd_t (nm : ByteArray) (zs : List Int) (ks : List (Int × ByteArray)) (n : Nat) (c : Nat) (k : Nat) (d : Nat) (p : Int) (K : Value → Heap → Prop) :
    (fnP Tryz.prog c0 (hsPd zs ks n k) (53 : FuncId) [Value.agg (List.toArray (secA nm (0 : Nat) n c (1 : Nat) k d)), Value.int IntKind.i64 p] (hp2 zs ks true true true true []) K) =
    (Is (isSec zs ks n k (ints zs) (acs ks) ∧ mchk zs (-1 : Int) = (0 : Int) ∧ achk ks (-1 : Int) = (0 : Int)) ∧ Is ((0 : Int) ≤ p ∧ p < (↑(k + 1) : Int)) ∧ Is ((if 0 + Int.toNat p * 2 + 2 ≤ List.length (ints (spans zs ks n k)) then some (Value.agg (List.toArray (List.take 2 (List.drop (0 + Int.toNat p * 2) (ints (spans zs ks n k)))))) else none) = some (Value.agg #[Value.int .i64 (↑(frm zs ks ((0 + Int.toNat p * 2) / 2)) : Int), Value.int .i64 (↑(upto zs ks n k ((0 + Int.toNat p * 2) / 2)) : Int)])) ∧ Is ((0 : Int) ≤ (↑(frm zs ks ((0 + Int.toNat p * 2) / 2)) : Int) ∧ (↑(frm zs ks ((0 + Int.toNat p * 2) / 2)) : Int) ≤ (↑(upto zs ks n k ((0 + Int.toNat p * 2) / 2)) : Int) ∧ (↑(upto zs ks n k ((0 + Int.toNat p * 2) / 2)) : Int) ≤ (n : Int)) ∧ K (Value.slice (some { block := 0, off := 0 + Int.toNat (↑(frm zs ks ((0 + Int.toNat p * 2) / 2)) : Int) * 2 }) (Int.toNat (↑(upto zs ks n k ((0 + Int.toNat p * 2) / 2)) : Int) - Int.toNat (↑(frm zs ks ((0 + Int.toNat p * 2) / 2)) : Int)) 18446744073709551616) (some (AObj.row (ints zs) 2 true true true) :: some (AObj.row (acs ks) 2 true true true) :: noH)) := by kernel_rfl
/- The program's sums. -/
noncomputable def lpFt (zs : List Int) (off m c : Nat) (m1 w1 : Bool) : Lp where
  σ := Nat
  E i := slots 71 [(0, .slice (some ⟨0, off, none⟩) m c), (2, .pointer (some ⟨1, 0, none⟩)), (3, .int .i64 (Int.ofNat m)), (4, .int .i64 (sX zs off i)), (5, .int .i64 (sY zs off i)), (6, .int .i64 (sXX zs off i)), (7, .int .i64 (sXY zs off i)),
    (13, .slice (some ⟨0, off, none⟩) m c), (14, .int .i64 (Int.ofNat m)), (15, .int .i64 (Int.ofNat i))]
  Hp _ := [some (.row (ints zs) 2 m1 w1 true), some (.row [.int .i64 0, .int .i64 0, .int .i64 0, .int .i64 0] 0 false true true)]
  I i := i ≤ m
  m i := m - i
noncomputable def hsFt (zs : List Int) (off m c : Nat) (m1 w1 : Bool) : Hs Tryz.prog where
  op y := if [500, 603, 1001].contains y then some (hIa Tryz.prog) else if y = 501 then some (hLd Tryz.prog (z2 zs)) else if [605, 1003].contains y then some (hLd Tryz.prog (zI zs)) else none
  lp _ := some (lpFt zs off m c m1 w1)
  cl _ := keep 71 [0, 2, 3, 4, 5, 6, 7, 13, 14, 15]
  au := au0 Tryz.prog
theorem ft_t (zs : List Int) (off : Nat) (m : Nat) (c : Nat) (m1 : Bool) (w1 : Bool) (K : Value → Heap → Prop) :
    (fnP Tryz.prog c0 (hsFt zs off m c m1 w1) (75 : FuncId) [Value.slice (some { block := (0 : Nat), off := off }) m c] [some (AObj.row (ints zs) (2 : Nat) m1 w1 true)] K) =
    (let z0 : AObj := AObj.row [Value.int .i64 0, Value.int .i64 0, Value.int .i64 0, Value.int .i64 0] 0 false true true; ((∃ s, Is (s ≤ m) ∧ [Value.slice (some { block := 0, off := off }) m c, poi, Value.pointer (some ⟨1, 0, none⟩), Value.int .i64 (m : Int), Value.int .i64 0, Value.int .i64 0, Value.int .i64 0, Value.int .i64 0, poi, poi, poi, poi, poi, Value.slice (some { block := 0, off := off }) m c, Value.int .i64 (m : Int), Value.int .i64 0, poi, poi, poi, poi, poi, poi, poi, poi, poi, poi, poi, poi, poi, poi, poi, poi, poi, poi, poi, poi, poi, poi, poi, poi, poi, poi, poi, poi, poi, poi, poi, poi, poi, poi, poi, poi, poi, poi, poi, poi, poi, poi, poi, poi, poi, poi, poi, poi, poi, poi, poi, poi, poi, poi, poi] = [Value.slice (some { block := 0, off := off }) m c, poi, Value.pointer (some ⟨1, 0, none⟩), Value.int .i64 (m : Int), Value.int .i64 (sX zs off s), Value.int .i64 (sY zs off s), Value.int .i64 (sXX zs off s), Value.int .i64 (sXY zs off s), poi, poi, poi, poi, poi, Value.slice (some { block := 0, off := off }) m c, Value.int .i64 (m : Int), Value.int .i64 (s : Int), poi, poi, poi, poi, poi, poi, poi, poi, poi, poi, poi, poi, poi, poi, poi, poi, poi, poi, poi, poi, poi, poi, poi, poi, poi, poi, poi, poi, poi, poi, poi, poi, poi, poi, poi, poi, poi, poi, poi, poi, poi, poi, poi, poi, poi, poi, poi, poi, poi, poi, poi, poi, poi, poi, poi] ∧ some (AObj.row (ints zs) 2 m1 w1 true) :: some z0 :: noH = some (AObj.row (ints zs) 2 m1 w1 true) :: some z0 :: noH) ∧ ∀ (s : Nat), Is (s ≤ m) → br (decide ((s : Int) < (m : Int))) (Is ((0 : Int) ≤ (s : Int) ∧ (s : Int) < (m : Int)) ∧ Is ((if off + Int.toNat (s : Int) * 2 + 2 ≤ List.length (ints zs) then some (Value.agg (List.toArray (List.take 2 (List.drop (off + Int.toNat (s : Int) * 2) (ints zs))))) else none) = some (Value.agg #[Value.int .i64 (List.getD zs (off + Int.toNat (s : Int) * 2) (0 : Int)), Value.int .i64 (List.getD zs (off + Int.toNat (s : Int) * 2 + 1) (0 : Int))])) ∧ Is ((0 : Int) ≤ (0 : Int) ∧ (0 : Int) < (m : Int)) ∧ Is ((ints zs)[off + 0 + 0]? = some (Value.int .i64 (List.getD zs (off + 0 + 0) (0 : Int)))) ∧ ∃ s', Is (s' ≤ m) ∧ Is (m - s' < m - s) ∧ [Value.slice (some { block := 0, off := off }) m c, poi, Value.pointer (some ⟨1, 0, none⟩), Value.int .i64 (m : Int), Value.int .i64 (IntKind.wrap .i64 (sX zs off s + IntKind.wrap .i64 (List.getD zs (off + Int.toNat (s : Int) * 2) (0 : Int) - List.getD zs (off + 0 + 0) (0 : Int)))), Value.int .i64 (IntKind.wrap .i64 (sY zs off s + List.getD zs (off + Int.toNat (s : Int) * 2 + 1) (0 : Int))), Value.int .i64 (IntKind.wrap .i64 (sXX zs off s + IntKind.wrap .i64 (IntKind.wrap .i64 (List.getD zs (off + Int.toNat (s : Int) * 2) (0 : Int) - List.getD zs (off + 0 + 0) (0 : Int)) * IntKind.wrap .i64 (List.getD zs (off + Int.toNat (s : Int) * 2) (0 : Int) - List.getD zs (off + 0 + 0) (0 : Int))))), Value.int .i64 (IntKind.wrap .i64 (sXY zs off s + IntKind.wrap .i64 (IntKind.wrap .i64 (List.getD zs (off + Int.toNat (s : Int) * 2) (0 : Int) - List.getD zs (off + 0 + 0) (0 : Int)) * List.getD zs (off + Int.toNat (s : Int) * 2 + 1) (0 : Int)))), poi, poi, poi, poi, poi, Value.slice (some { block := 0, off := off }) m c, Value.int .i64 (m : Int), Value.int .i64 (IntKind.wrap .i64 ((s : Int) + (1 : Int))), poi, poi, poi, poi, poi, poi, poi, poi, poi, poi, poi, poi, poi, poi, poi, poi, poi, poi, poi, poi, poi, poi, poi, poi, poi, poi, poi, poi, poi, poi, poi, poi, poi, poi, poi, poi, poi, poi, poi, poi, poi, poi, poi, poi, poi, poi, poi, poi, poi, poi, poi, poi, poi, poi, poi] = [Value.slice (some { block := 0, off := off }) m c, poi, Value.pointer (some ⟨1, 0, none⟩), Value.int .i64 (m : Int), Value.int .i64 (sX zs off s'), Value.int .i64 (sY zs off s'), Value.int .i64 (sXX zs off s'), Value.int .i64 (sXY zs off s'), poi, poi, poi, poi, poi, Value.slice (some { block := 0, off := off }) m c, Value.int .i64 (m : Int), Value.int .i64 (↑s' : Int), poi, poi, poi, poi, poi, poi, poi, poi, poi, poi, poi, poi, poi, poi, poi, poi, poi, poi, poi, poi, poi, poi, poi, poi, poi, poi, poi, poi, poi, poi, poi, poi, poi, poi, poi, poi, poi, poi, poi, poi, poi, poi, poi, poi, poi, poi, poi, poi, poi, poi, poi, poi, poi, poi, poi] ∧ some (AObj.row (ints zs) 2 m1 w1 true) :: some z0 :: noH = some (AObj.row (ints zs) 2 m1 w1 true) :: some z0 :: noH) (Is ((0 : Int) ≤ (0 : Int) ∧ (0 : Int) < (m : Int)) ∧ Is ((ints zs)[off + 0 + 0]? = some (Value.int .i64 (List.getD zs (off + 0 + 0) (0 : Int)))) ∧ K (Value.agg #[Value.int .i64 (List.getD zs (off + 0 + 0) (0 : Int)), Value.int .i64 (IntKind.wrap .i64 (IntKind.wrap .i64 (sY zs off s * sXX zs off s) - IntKind.wrap .i64 (sX zs off s * sXY zs off s))), Value.int .i64 (IntKind.wrap .i64 (IntKind.wrap .i64 ((m : Int) * sXY zs off s) - IntKind.wrap .i64 (sX zs off s * sY zs off s))), Value.int .i64 (IntKind.wrap .i64 (IntKind.wrap .i64 ((m : Int) * sXX zs off s) - IntKind.wrap .i64 (sX zs off s * sX zs off s)))]) (some (AObj.row (ints zs) 2 m1 w1 true) :: noH)))) := by kernel_rfl
/- The reference's sums. -/
theorem sumP_take (g : Int → Int → Int) : ∀ (L : List Int) (i : Nat), i * 2 + 2 ≤ L.length → sumP g (L.take ((i + 1) * 2)) = sumP g (L.take (i * 2)) + g (L.getD (i * 2) 0) (L.getD (i * 2 + 1) 0)
  | [], i, h => by simp at h
  | [_], i, h => by simp at h
  | a :: b :: r, 0, _ => by simp [sumP]
  | a :: b :: r, i + 1, h => by
    have ih := sumP_take g r i (by simp only [List.length_cons] at h; omega)
    have e1 : (i + 1 + 1) * 2 = (i + 1) * 2 + 1 + 1 := by omega
    have e2 : (i + 1) * 2 = i * 2 + 1 + 1 := by omega
    have e3 : (a :: b :: r).getD ((i + 1) * 2) 0 = r.getD (i * 2) 0 := by rw [e2]; rfl
    have e4 : (a :: b :: r).getD ((i + 1) * 2 + 1) 0 = r.getD (i * 2 + 1) 0 := by rw [show (i + 1) * 2 + 1 = i * 2 + 1 + 1 + 1 by omega]; rfl
    rw [e3, e4, e1, List.take_succ_cons, List.take_succ_cons]
    rw [show (a :: b :: r).take ((i + 1) * 2) = a :: b :: r.take (i * 2) by rw [e2, List.take_succ_cons, List.take_succ_cons]]
    simp only [sumP]
    rw [ih]
    omega
theorem getD_drop (zs : List Int) (off j : Nat) : (zs.drop off).getD j 0 = zs.getD (off + j) 0 := by
  simp [List.getD_eq_getElem?_getD, List.getElem?_drop]
theorem sumP_step (g : Int → Int → Int) {zs : List Int} {off i : Nat} (h : off + i * 2 + 2 ≤ zs.length) :
    sumP g ((zs.drop off).take ((i + 1) * 2)) = sumP g ((zs.drop off).take (i * 2)) + g (zs.getD (off + i * 2) 0) (zs.getD (off + i * 2 + 1) 0) := by
  have := sumP_take g (zs.drop off) i (by rw [List.length_drop]; omega)
  rw [getD_drop, getD_drop] at this
  rw [this, Nat.add_assoc]
/-- A part whose sums do not leave the machine's integers. -/
structure Part (zs : List Int) (off m : Nat) : Prop where
  len : off + m * 2 ≤ zs.length
  few : m ≤ 32
  day : ∀ i, i < m → d0 zs off ≤ zs.getD (off + i * 2) 0 ∧ zs.getD (off + i * 2) 0 ≤ 100000
  idx : ∀ i, i < m → 0 ≤ zs.getD (off + i * 2 + 1) 0 ∧ zs.getD (off + i * 2 + 1) 0 ≤ 100000
  z0 : 0 ≤ d0 zs off
theorem sumP_le {g : Int → Int → Int} {zs : List Int} {off m : Nat} {B : Int} (hl : off + m * 2 ≤ zs.length) (hb : ∀ i, i < m → 0 ≤ g (zs.getD (off + i * 2) 0) (zs.getD (off + i * 2 + 1) 0) ∧ g (zs.getD (off + i * 2) 0) (zs.getD (off + i * 2 + 1) 0) ≤ B) :
    ∀ i : Nat, i ≤ m → 0 ≤ sumP g ((zs.drop off).take (i * 2)) ∧ sumP g ((zs.drop off).take (i * 2)) ≤ B * i
  | 0, _ => by simp [sumP]
  | i + 1, h => by
    obtain ⟨h1, h2⟩ := sumP_le hl hb i (by omega)
    obtain ⟨h3, h4⟩ := hb i (by omega)
    rw [sumP_step g (by omega)]
    have e : B * ((i + 1 : Nat) : Int) = B * (i : Int) + B := by rw [Int.natCast_add, Int.mul_add]; simp
    rw [e]
    omega
theorem mul_in {a b A B : Int} (a0 : 0 ≤ a) (aA : a ≤ A) (b0 : 0 ≤ b) (bB : b ≤ B) : 0 ≤ a * b ∧ a * b ≤ A * B :=
  ⟨Int.mul_nonneg a0 b0, Int.mul_le_mul aA bB b0 (Int.le_trans a0 aA)⟩
theorem Part.sums {zs : List Int} {off m : Nat} (h : Part zs off m) {i : Nat} (hi : i ≤ m) :
    (0 ≤ sX zs off i ∧ sX zs off i ≤ 3200000) ∧ (0 ≤ sY zs off i ∧ sY zs off i ≤ 3200000) ∧ (0 ≤ sXX zs off i ∧ sXX zs off i ≤ 320000000000) ∧ (0 ≤ sXY zs off i ∧ sXY zs off i ≤ 320000000000) := by
  have hd := h.z0
  have hm := h.few
  have up : ∀ {s B : Int}, 0 ≤ B → 0 ≤ s ∧ s ≤ B * i → 0 ≤ s ∧ s ≤ B * 32 := fun {s B} hB ⟨a, b⟩ => ⟨a, Int.le_trans b (Int.mul_le_mul_of_nonneg_left (by omega) hB)⟩
  refine ⟨up (B := 100000) (by omega) (sumP_le h.len (fun j hj => ?_) i hi), up (B := 100000) (by omega) (sumP_le h.len (fun j hj => h.idx j hj) i hi), up (B := 10000000000) (by omega) (sumP_le h.len (fun j hj => ?_) i hi), up (B := 10000000000) (by omega) (sumP_le h.len (fun j hj => ?_) i hi)⟩
  · have := h.day j hj; omega
  · obtain ⟨q1, q2⟩ := h.day j hj
    obtain ⟨u, hu⟩ : ∃ u, u = zs.getD (off + j * 2) 0 - Sp.d0 zs off := ⟨_, rfl⟩
    simp only [← hu]
    have hu : 0 ≤ u ∧ u ≤ 100000 := by omega
    have := mul_in hu.1 hu.2 hu.1 hu.2
    exact ⟨this.1, by omega⟩
  · obtain ⟨q1, q2⟩ := h.day j hj
    obtain ⟨q3, q4⟩ := h.idx j hj
    obtain ⟨u, hu⟩ : ∃ u, u = zs.getD (off + j * 2) 0 - Sp.d0 zs off := ⟨_, rfl⟩
    simp only [← hu]
    have hu : 0 ≤ u ∧ u ≤ 100000 := by omega
    have := mul_in hu.1 hu.2 q3 q4
    exact ⟨this.1, by omega⟩

/-- The numbers of the line do not leave the machine's integers. -/
theorem Part.line {zs : List Int} {off m : Nat} (h : Part zs off m) :
    (-1024000000000000000 ≤ lvl zs off m ∧ lvl zs off m ≤ 1024000000000000000) ∧ (-10240000000000 ≤ slp zs off m ∧ slp zs off m ≤ 10240000000000) ∧ (-10240000000000 ≤ dn zs off m ∧ dn zs off m ≤ 10240000000000) ∧
      W (W (sY zs off m * sXX zs off m) - W (sX zs off m * sXY zs off m)) = lvl zs off m ∧ W (W (m * sXY zs off m) - W (sX zs off m * sY zs off m)) = slp zs off m ∧ W (W (m * sXX zs off m) - W (sX zs off m * sX zs off m)) = dn zs off m := by
  obtain ⟨⟨x0, x1⟩, ⟨y0, y1⟩, ⟨p0, p1⟩, ⟨q0, q1⟩⟩ := h.sums (Nat.le_refl m)
  have hm := h.few
  have a1 := mul_in y0 y1 p0 p1
  have a2 := mul_in x0 x1 q0 q1
  have a3 := mul_in (show (0 : Int) ≤ m by omega) (show (m : Int) ≤ 32 by omega) q0 q1
  have a4 := mul_in x0 x1 y0 y1
  have a5 := mul_in (show (0 : Int) ≤ m by omega) (show (m : Int) ≤ 32 by omega) p0 p1
  have a6 := mul_in x0 x1 x0 x1
  simp only [lvl, slp, dn, W]
  rw [wrap_eq (x := sY zs off m * sXX zs off m) (by omega) (by omega), wrap_eq (x := sX zs off m * sXY zs off m) (by omega) (by omega), wrap_eq (x := m * sXY zs off m) (by omega) (by omega), wrap_eq (x := sX zs off m * sY zs off m) (by omega) (by omega),
    wrap_eq (x := m * sXX zs off m) (by omega) (by omega), wrap_eq (x := sX zs off m * sX zs off m) (by omega) (by omega)]
  refine ⟨⟨by omega, by omega⟩, ⟨by omega, by omega⟩, ⟨by omega, by omega⟩, wrap_eq (by omega) (by omega), wrap_eq (by omega) (by omega), wrap_eq (by omega) (by omega)⟩
theorem Part.step {zs : List Int} {off m i : Nat} (h : Part zs off m) (hi : i < m) :
    W (sX zs off i + W (zs.getD (off + i * 2) 0 - zs.getD off 0)) = sX zs off (i + 1) ∧ W (sY zs off i + zs.getD (off + i * 2 + 1) 0) = sY zs off (i + 1) ∧
      W (sXX zs off i + W (W (zs.getD (off + i * 2) 0 - zs.getD off 0) * W (zs.getD (off + i * 2) 0 - zs.getD off 0))) = sXX zs off (i + 1) ∧
      W (sXY zs off i + W (W (zs.getD (off + i * 2) 0 - zs.getD off 0) * zs.getD (off + i * 2 + 1) 0)) = sXY zs off (i + 1) := by
  have hl := h.len
  have g := h.sums (i := i + 1) hi
  have e1 : sX zs off (i + 1) = sX zs off i + (zs.getD (off + i * 2) 0 - d0 zs off) := sumP_step _ (by omega)
  have e2 : sY zs off (i + 1) = sY zs off i + zs.getD (off + i * 2 + 1) 0 := sumP_step _ (by omega)
  have e3 : sXX zs off (i + 1) = sXX zs off i + (zs.getD (off + i * 2) 0 - d0 zs off) * (zs.getD (off + i * 2) 0 - d0 zs off) := sumP_step _ (by omega)
  have e4 : sXY zs off (i + 1) = sXY zs off i + (zs.getD (off + i * 2) 0 - d0 zs off) * zs.getD (off + i * 2 + 1) 0 := sumP_step _ (by omega)
  obtain ⟨q1, q2⟩ := h.day i hi
  obtain ⟨q3, q4⟩ := h.idx i hi
  have hd := h.z0
  have hd0 : zs.getD off 0 = d0 zs off := rfl
  rw [hd0]
  obtain ⟨u, hu⟩ : ∃ u, u = zs.getD (off + i * 2) 0 - d0 zs off := ⟨_, rfl⟩
  rw [← hu] at e1 e3 e4 ⊢
  have hu : 0 ≤ u ∧ u ≤ 100000 := by omega
  have b1 := mul_in hu.1 hu.2 hu.1 hu.2
  have b2 := mul_in hu.1 hu.2 q3 q4
  obtain ⟨⟨x0, x1⟩, ⟨y0, y1⟩, ⟨p0, p1⟩, ⟨r0, r1⟩⟩ := g
  simp only [W]
  rw [wrap_eq (x := u) (by omega) (by omega), wrap_eq (x := u * u) (by omega) (by omega), wrap_eq (x := u * zs.getD (off + i * 2 + 1) 0) (by omega) (by omega), ← e1, ← e2, ← e3, ← e4]
  exact ⟨wrap_eq (by omega) (by omega), wrap_eq (by omega) (by omega), wrap_eq (by omega) (by omega), wrap_eq (by omega) (by omega)⟩
theorem spn_get (zs : List Int) (ks : List (Int × ByteArray)) : ∀ i j, j < i → (spn zs ks i)[j * 2]? = some ((frm zs ks j : Nat) : Int) ∧ (spn zs ks i)[j * 2 + 1]? = some ((frm zs ks (j + 1) : Nat) : Int)
  | 0, _, h => by omega
  | i + 1, j, h => by
    have hl := spn_len zs ks i
    simp only [spn]
    rcases Nat.lt_or_ge j i with h' | h'
    · rw [List.getElem?_append_left (by omega), List.getElem?_append_left (by omega)]
      exact spn_get zs ks i j h'
    · obtain rfl : j = i := by omega
      rw [List.getElem?_append_right (by omega), List.getElem?_append_right (by omega), hl]
      simp
theorem spans_get (zs : List Int) (ks : List (Int × ByteArray)) (n k : Nat) {j : Nat} (h : j ≤ k) :
    (spans zs ks n k).getD (j * 2) 0 = ((frm zs ks j : Nat) : Int) ∧ (spans zs ks n k).getD (j * 2 + 1) 0 = ((upto zs ks n k j : Nat) : Int) := by
  have hl := spn_len zs ks k
  simp only [spans, List.getD_eq_getElem?_getD]
  rcases Nat.lt_or_ge j k with h' | h'
  · obtain ⟨e1, e2⟩ := spn_get zs ks k j h'
    rw [List.getElem?_append_left (by omega), List.getElem?_append_left (by omega), e1, e2, upto, if_pos h']
    exact ⟨rfl, rfl⟩
  · obtain rfl : j = k := by omega
    rw [List.getElem?_append_right (by omega), List.getElem?_append_right (by omega), hl, upto, if_neg (by omega)]
    simp
theorem frm_le {zs : List Int} {ks : List (Int × ByteArray)} {n : Nat} (hz : zs.length = n * 2) (i : Nat) : frm zs ks i ≤ n := by
  cases i with
  | zero => exact Nat.zero_le _
  | succ i => have := cnt_le zs (ks.getD i (0, ⟨#[]⟩)).1; simp only [frm]; omega
theorem upto_le {zs : List Int} {ks : List (Int × ByteArray)} {n k i : Nat} (hz : zs.length = n * 2) (hk : ks.length = k) (ha : achk ks (-1) = 0) (_hi : i ≤ k) : frm zs ks i ≤ upto zs ks n k i ∧ upto zs ks n k i ≤ n := by
  simp only [upto]
  split
  · exact ⟨frm_up ha (by omega), frm_le hz _⟩
  · exact ⟨frm_le hz _, Nat.le_refl _⟩
set_option maxRecDepth 100000 in
theorem pd_ok {nm : ByteArray} {zs : List Int} {ks : List (Int × ByteArray)} {n c k d : Nat} {p : Int} (hz : zs.length = n * 2) (hk : ks.length = k) (hn : n ≤ 1000) (hk2 : k ≤ 1000) (hmm : mchk zs (-1) = 0) (ha : achk ks (-1) = 0) (p0 : 0 ≤ p) (p1 : p ≤ k) :
    SmallRes Tryz.prog 53 [.agg (secA nm 0 n c 1 k d).toArray, .int .i64 p] (hp2 zs ks true true true true [])
      (.slice (some ⟨0, frm zs ks p.toNat * 2, none⟩) (upto zs ks n k p.toNat - frm zs ks p.toNat) big) (hp2 zs ks true true true true []) := by
  refine fnP_res hm c0_ok (hs := hsPd zs ks n k) ?_
  rw [pd_t]
  obtain ⟨g1, g2⟩ := spans_get zs ks n k (j := p.toNat) (by omega)
  obtain ⟨u1, u2⟩ := upto_le (n := n) (i := p.toNat) hz hk ha (by omega)
  have e2 : p.toNat * 2 / 2 = p.toNat := by omega
  have hl := spans_len zs ks n k
  simp only [Nat.zero_add, Int.toNat_natCast, e2]
  refine ⟨⟨⟨rfl, rfl, hz, hk, hn, hk2⟩, hmm, ha⟩, ⟨p0, by omega⟩, ⟨?_⟩, ⟨by omega, by omega, by omega⟩, rfl, rfl⟩
  rw [ints_len, if_pos (by omega), ints_pair (by omega), g1, g2]
set_option maxRecDepth 100000 in
theorem ft_ok {zs : List Int} {off m c : Nat} {m1 w1 : Bool} (h : Part zs off m) (h0 : 0 < m) :
    SmallRes Tryz.prog 75 [.slice (some ⟨0, off, none⟩) m c] [some (.row (ints zs) 2 m1 w1 true)] (.agg #[.int .i64 (zs.getD off 0), .int .i64 (lvl zs off m), .int .i64 (slp zs off m), .int .i64 (dn zs off m)]) [some (.row (ints zs) 2 m1 w1 true)] := by
  refine fnP_res hm c0_ok (hs := hsFt zs off m c m1 w1) ?_
  rw [ft_t]
  have hl := h.len
  have hf := h.few
  refine ⟨⟨(0 : Nat), ⟨by omega⟩, by first | trivial | rfl, by first | trivial | rfl⟩, fun s hs => br_of (fun hc => ?_) (fun hc => ?_)⟩
  · have hc := lt_of_dec hc
    obtain ⟨s1, s2, s3, s4⟩ := h.step hc
    simp only [W] at s1 s2 s3 s4
    simp only [Nat.add_zero, Int.toNat_natCast]
    refine ⟨⟨by omega, by omega⟩, ⟨by rw [ints_len, if_pos (show off + s * 2 + 2 ≤ zs.length by omega), ints_pair (by omega)]⟩, ⟨by omega, by omega⟩, ⟨ints_at (by omega)⟩, s + 1, ⟨hc⟩, ⟨by omega⟩, ?_, by first | trivial | rfl⟩
    rw [s1, s2, s3, s4, up1 hc (by omega)]
  · have hc := ge_of_dec hc
    obtain rfl : s = m := by have := hs.out; omega
    obtain ⟨_, _, _, l1, l2, l3⟩ := h.line
    simp only [W] at l1 l2 l3
    simp only [Nat.add_zero]
    rw [l1, l2, l3]
    exact ⟨⟨by omega, by omega⟩, ⟨ints_at (by omega)⟩, by first | trivial | rfl, by first | trivial | rfl⟩
end
end Qq
end
section
/- Lines of periods. -/
open Go Go.Vm Go.Proofs Sp
namespace Qq
noncomputable section
theorem mchk_all : ∀ (zs : List Int) (last : Int), mchk zs last = 0 → ∀ i, i * 2 + 2 ≤ zs.length →
    last < zs.getD (i * 2) 0 ∧ 0 ≤ zs.getD (i * 2) 0 ∧ zs.getD (i * 2) 0 ≤ 100000 ∧ 0 ≤ zs.getD (i * 2 + 1) 0 ∧ zs.getD (i * 2 + 1) 0 ≤ 100000
  | [], _, _, i, h => by simp at h
  | [_], _, _, i, h => by simp at h
  | a :: b :: r, last, hm, i, h => by
    obtain ⟨h1, h2⟩ := mchk_cons hm
    simp only [mchk] at hm
    have h3 := fi_zero.1 (sel_zero.1 hm).1 (chkM a b) (by simp)
    have h4 := wi_zero.1 (fi_zero.1 h3 (wi a 0 100000) (by simp))
    have h5 := wi_zero.1 (fi_zero.1 h3 (wi b 0 100000) (by simp))
    cases i with
    | zero => simp; omega
    | succ i =>
      have := mchk_all r a h2 i (by simp only [List.length_cons] at h; omega)
      have e3 : (a :: b :: r).getD ((i + 1) * 2) 0 = r.getD (i * 2) 0 := by rw [show (i + 1) * 2 = i * 2 + 1 + 1 by omega]; rfl
      have e4 : (a :: b :: r).getD ((i + 1) * 2 + 1) 0 = r.getD (i * 2 + 1) 0 := by rw [show (i + 1) * 2 + 1 = i * 2 + 1 + 1 + 1 by omega]; rfl
      rw [e3, e4]
      omega
theorem mchk_up : ∀ (zs : List Int) (last : Int), mchk zs last = 0 → ∀ i j, i < j → j * 2 + 2 ≤ zs.length → zs.getD (i * 2) 0 < zs.getD (j * 2) 0
  | [], _, _, i, j, _, h => by simp at h
  | [_], _, _, i, j, _, h => by simp at h
  | a :: b :: r, last, hm, i, j, hij, h => by
    obtain ⟨h1, h2⟩ := mchk_cons hm
    obtain ⟨j, rfl⟩ : ∃ j', j = j' + 1 := ⟨j - 1, by omega⟩
    have hj : j * 2 + 2 ≤ r.length := by simp only [List.length_cons] at h; omega
    have e3 : (a :: b :: r).getD ((j + 1) * 2) 0 = r.getD (j * 2) 0 := by rw [show (j + 1) * 2 = j * 2 + 1 + 1 by omega]; rfl
    rw [e3]
    cases i with
    | zero => simpa using (mchk_all r a h2 j hj).1
    | succ i =>
      have e4 : (a :: b :: r).getD ((i + 1) * 2) 0 = r.getD (i * 2) 0 := by rw [show (i + 1) * 2 = i * 2 + 1 + 1 by omega]; rfl
      rw [e4]
      exact mchk_up r a h2 i j (by omega) hj
theorem part_of {zs : List Int} {n f m : Nat} (hz : zs.length = n * 2) (hn : n ≤ 32) (hm : mchk zs (-1) = 0) (h : f + m ≤ n) : Part zs (f * 2) m where
  len := by omega
  few := by omega
  day i hi := by
    have e : f * 2 + i * 2 = (f + i) * 2 := by omega
    rw [e]
    refine ⟨?_, (mchk_all zs (-1) hm (f + i) (by omega)).2.2.1⟩
    show zs.getD (f * 2) 0 ≤ _
    rcases Nat.eq_zero_or_pos i with h0 | h0
    · subst h0; exact Int.le_refl _
    · exact Int.le_of_lt (mchk_up zs (-1) hm f (f + i) (by omega) (by omega))
  idx i hi := by
    have e : f * 2 + i * 2 + 1 = (f + i) * 2 + 1 := by omega
    rw [e]
    exact (mchk_all zs (-1) hm (f + i) (by omega)).2.2.2
  z0 := by
    show 0 ≤ zs.getD (f * 2) 0
    rcases Nat.lt_or_ge f n with h' | h'
    · exact (mchk_all zs (-1) hm f (by omega)).2.1
    · rw [List.getD_eq_getElem?_getD, List.getElem?_eq_none (by omega)]; exact Int.le_refl _
/-- The squares of the differences from c. -/
theorem gap_eq (b c : Int) : ∀ (N : Nat) (L : List Int), L.length = N * 2 → sumP (fun d _ => (c - (d - b)) * (c - (d - b))) L = N * (c * c) - 2 * c * sumP (fun d _ => d - b) L + sumP (fun d _ => (d - b) * (d - b)) L
  | 0, [], _ => by simp [sumP]
  | N + 1, [_], h => by simp only [List.length_cons, List.length_nil] at h; omega
  | N + 1, u :: v :: r, h => by
    have ih := gap_eq b c N r (by simp only [List.length_cons] at h; omega)
    simp only [sumP]
    rw [ih]
    push_cast
    grind
theorem sumP_nonneg {g : Int → Int → Int} (hg : ∀ d x, 0 ≤ g d x) : ∀ L : List Int, 0 ≤ sumP g L
  | [] => by simp [sumP]
  | [_] => by simp [sumP]
  | a :: b :: r => by have := sumP_nonneg hg r; have := hg a b; simp only [sumP]; omega
theorem sq0 (x : Int) : 0 ≤ x * x := by
  rcases Int.le_total 0 x with h | h
  · exact Int.mul_nonneg h h
  · have := Int.mul_nonneg (show 0 ≤ -x by omega) (show 0 ≤ -x by omega)
    rwa [Int.neg_mul_neg] at this
theorem gap_pos (b : Int) : ∀ (N : Nat) (L : List Int), L.length = N * 2 → 0 ≤ N * sumP (fun d _ => (d - b) * (d - b)) L - sumP (fun d _ => d - b) L * sumP (fun d _ => d - b) L
  | 0, [], _ => by simp [sumP]
  | N + 1, [_], h => by simp only [List.length_cons, List.length_nil] at h; omega
  | N + 1, u :: v :: r, h => by
    have hr : r.length = N * 2 := by simp only [List.length_cons] at h; omega
    have ih := gap_pos b N r hr
    have e := gap_eq b (u - b) N r hr
    have p := sumP_nonneg (g := fun d _ => ((u - b) - (d - b)) * ((u - b) - (d - b))) (fun d x => sq0 _) r
    rw [e] at p
    simp only [sumP]
    push_cast
    grind
theorem gap_two (b : Int) (N : Nat) (u v w x : Int) (r : List Int) (hr : r.length = N * 2) (hne : u ≠ w) :
    0 < ((N + 2 : Nat) : Int) * sumP (fun d _ => (d - b) * (d - b)) (u :: v :: w :: x :: r) - sumP (fun d _ => d - b) (u :: v :: w :: x :: r) * sumP (fun d _ => d - b) (u :: v :: w :: x :: r) := by
  have ih := gap_pos b (N + 1) (w :: x :: r) (by simp only [List.length_cons]; omega)
  have e := gap_eq b (u - b) (N + 1) (w :: x :: r) (by simp only [List.length_cons]; omega)
  have p := sumP_nonneg (g := fun d _ => ((u - b) - (d - b)) * ((u - b) - (d - b))) (fun d x => sq0 _) r
  have q : 0 < ((u - b) - (w - b)) * ((u - b) - (w - b)) := by
    rcases Int.lt_or_gt_of_ne hne with h | h
    · have := Int.mul_pos (show 0 < w - u by omega) (show 0 < w - u by omega)
      grind
    · have := Int.mul_pos (show 0 < u - w by omega) (show 0 < u - w by omega)
      grind
  simp only [sumP] at *
  push_cast at *
  grind
theorem dn_pos {zs : List Int} {n f m : Nat} (hz : zs.length = n * 2) (hm : mchk zs (-1) = 0) (h : f + m ≤ n) (h2 : 2 ≤ m) : 0 < dn zs (f * 2) m := by
  simp only [dn, sX, sXX]
  have hL : ((zs.drop (f * 2)).take (m * 2)).length = m * 2 := by rw [List.length_take, List.length_drop]; omega
  have g : ∀ j, j < m * 2 → ((zs.drop (f * 2)).take (m * 2))[j]? = some (zs.getD (f * 2 + j) 0) := fun j hj => by
    rw [List.getElem?_take_of_lt hj, List.getElem?_drop, List.getD_eq_getElem?_getD, List.getElem?_eq_getElem (by omega)]
    rfl
  generalize (zs.drop (f * 2)).take (m * 2) = L at *
  obtain ⟨N, rfl⟩ : ∃ N, m = N + 2 := ⟨m - 2, by omega⟩
  obtain _ | ⟨u, _ | ⟨v, _ | ⟨w, _ | ⟨x, r⟩⟩⟩⟩ := L
  · simp at hL
  · simp at hL; omega
  · simp at hL; omega
  · simp at hL; omega
  · have g0 := g 0 (by omega)
    have g2 := g 2 (by omega)
    simp at g0 g2
    refine gap_two (d0 zs (f * 2)) N u v w x r (by simp only [List.length_cons] at hL; omega) ?_
    have := mchk_up zs (-1) hm f (f + 1) (by omega) (by omega)
    rw [show (f + 1) * 2 = f * 2 + 2 by omega] at this
    simp only [List.getD_eq_getElem?_getD] at this
    rw [g0, g2]
    omega
end
end Qq
end
section
/- Small contracts about sections and lines. -/
open Go Go.Vm Go.Proofs Sp
namespace Sp
noncomputable section
noncomputable def perE (nm : ByteArray) (zs : List Int) (n : Nat) (ks : List (Int × ByteArray)) (k : Nat) (p : Int) : Int := fi [secE nm zs n ks k, wh (decide (p < 0) || decide ((k : Int) < p)) 10]
end
end Sp
namespace Qq
noncomputable section
noncomputable def orcDay : Orc
  | [.int .i64 x], [] => some (.int .i64 (wi x 0 100000), [])
  | _, _ => none
theorem idxP_t (x : Int) (K : Value → Heap → Prop) :
    (fnP Tryz.prog c2 h0 (21 : FuncId) [Value.int IntKind.i64 x] [] K) =
    (K (Value.int IntKind.i64 (wi x (0 : Int) (100000 : Int))) noH) := by kernel_rfl
theorem okIdxP : Ok Tryz.prog 21 orcDay := by
  intro args H ret H' h
  unfold orcDay at h
  split at h
  · cases h
    refine fnP_res hm c2_ok (hs := h0) ?_
    rw [idxP_t]
    exact ⟨rfl, rfl⟩
  · cases h
theorem flP_t (a : Int) (b : Int) (K : Value → Heap → Prop) :
    (fnP Tryz.prog c0 h4 (77 : FuncId) [Value.int IntKind.i64 a, Value.int IntKind.i64 b] [] K) =
    (Is (b ≠ (0 : Int)) ∧ br (decide (a < IntKind.wrap .i64 (IntKind.wrap .i64 (Int.tdiv a b) * b))) (K (Value.int .i64 (IntKind.wrap .i64 (IntKind.wrap .i64 (Int.tdiv a b) - (1 : Int)))) noH) (K (Value.int .i64 (IntKind.wrap .i64 (Int.tdiv a b))) noH)) := by kernel_rfl
noncomputable def hsCp (zs : List Int) (ks : List (Int × ByteArray)) : Hs Tryz.prog where
  au := auCalls [(19, hCa Tryz.prog 19 (orcCkV zs ks) (ck_okV zs ks))]
theorem cp_t (nm : ByteArray) (zs : List Int) (ks : List (Int × ByteArray)) (n : Nat) (c : Nat) (k : Nat) (d : Nat) (p : Int) (K : Value → Heap → Prop) :
    (fnP Tryz.prog c2 (hsCp zs ks) (27 : FuncId) [Value.agg (List.toArray (secA nm (0 : Nat) n c (1 : Nat) k d)), Value.int IntKind.i64 p] (hp2 zs ks true true true true []) K) =
    (Is (isSec zs ks n k (ints zs) (acs ks)) ∧ br (decide (p < (0 : Int))) (K (Value.int .i64 (fi [secE nm zs n ks k, (10 : Int)])) (some (AObj.row (ints zs) 2 true true true) :: some (AObj.row (acs ks) 2 true true true) :: noH)) (K (Value.int .i64 (fi [secE nm zs n ks k, wh (decide ((k : Int) < p)) (10 : Int)])) (some (AObj.row (ints zs) 2 true true true) :: some (AObj.row (acs ks) 2 true true true) :: noH))) := by kernel_rfl
theorem floor_law {a b : Int} (h0 : 0 < b) (h1 : b ≤ 4000000000000000000) (h2 : -4000000000000000000 ≤ a) (h3 : a ≤ 4000000000000000000) :
    W (a.tdiv b) = a.tdiv b ∧ W (a.tdiv b * b) = a.tdiv b * b ∧ W (a.tdiv b - 1) = a.tdiv b - 1 ∧ (a < a.tdiv b * b → a.tdiv b - 1 = a / b) ∧ (¬ a < a.tdiv b * b → a.tdiv b = a / b) := by
  have hq : (a.tdiv b).natAbs ≤ a.natAbs := Int.natAbs_tdiv_le_natAbs a b
  have e := Int.tdiv_eq_ediv (a := a) (b := b)
  have s : b.sign = 1 := Int.sign_eq_one_of_pos h0
  have m := Int.emod_add_mul_ediv a b
  have m0 := Int.emod_nonneg a (show b ≠ 0 by omega)
  have m1 := Int.emod_lt_of_pos a h0
  have c : b * (a / b) = (a / b) * b := Int.mul_comm ..
  rw [s] at e
  have hb : a.tdiv b * b = (a / b) * b ∨ a.tdiv b * b = (a / b) * b + b := by
    split at e
    · left; rw [e, Int.add_zero]
    · right; rw [e, Int.add_mul, Int.one_mul]
  refine ⟨wrap_eq (by omega) (by omega), wrap_eq (by omega) (by omega), wrap_eq (by omega) (by omega), fun h => ?_, fun h => ?_⟩
  · split at e
    · rw [e, Int.add_zero] at h; omega
    · omega
  · split at e
    · omega
    · rw [e, Int.add_mul, Int.one_mul] at h; omega
noncomputable def orcFl : OrcV
  | [.int .i64 a, .int .i64 b], [] => some (.int .i64 (a / b), [], 0 < b ∧ b ≤ 4000000000000000000 ∧ -4000000000000000000 ≤ a ∧ a ≤ 4000000000000000000)
  | _, _ => none
theorem okFlP : OkV Tryz.prog 77 orcFl := by
  intro args H ret H' vc h hv
  unfold orcFl at h
  split at h
  · cases h
    obtain ⟨v1, v2, v3, v4⟩ := hv
    refine fnP_res hm c0_ok (hs := h4) ?_
    rw [flP_t]
    obtain ⟨q1, q2, q3, q4, q5⟩ := floor_law v1 v2 v3 v4
    simp only [W] at q1 q2 q3
    rw [q1, q2, q3]
    exact ⟨⟨by omega⟩, br_of (fun h => ⟨by rw [q4 (of_decide_eq_true h)], rfl⟩) (fun h => ⟨by rw [q5 (of_decide_eq_false h)], rfl⟩)⟩
  · cases h
theorem cp_ok {nm : ByteArray} {zs : List Int} {ks : List (Int × ByteArray)} {n c k d : Nat} {p : Int} (hi : isSec zs ks n k (ints zs) (acs ks)) :
    SmallRes Tryz.prog 27 [.agg (secA nm 0 n c 1 k d).toArray, .int .i64 p] (hp2 zs ks true true true true []) (.int .i64 (perE nm zs n ks k p)) (hp2 zs ks true true true true []) := by
  refine fnP_res hm c2_ok (hs := hsCp zs ks) ?_
  rw [cp_t]
  refine ⟨⟨hi⟩, br_of (fun h => ⟨?_, rfl⟩) (fun h => ⟨?_, rfl⟩)⟩
  · rw [perE, h]; rfl
  · rw [perE, h]; rfl
end
end Qq
end
