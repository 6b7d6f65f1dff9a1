/- Parts of the proof: VmAK, VmAM, FlA, FlB. -/
import Derived.Test.YtaigknknfaeajaaGreatDoorZC
import Derived.Laws.FloatArith
import Derived.Laws.NewFold
import Ieee.Arith
section
/- Floats of 32 bits that are not known: operations with named results. -/
open Go
namespace Sp
noncomputable section
def fMul (x y : Nat) : Nat := (FloatKind.f32.format.mul x y).getD 0
def fMulOk (x y : Nat) : Prop := (FloatKind.f32.format.mul x y).isSome = true
def fDiv (x y : Nat) : Nat := (FloatKind.f32.format.div x y).getD 0
def fDivOk (x y : Nat) : Prop := (FloatKind.f32.format.div x y).isSome = true
def fAdd (x y : Nat) : Nat := (FloatKind.f32.format.add x y).getD 0
def fAddOk (x y : Nat) : Prop := (FloatKind.f32.format.add x y).isSome = true
def fLt (x y : Nat) : Bool := FloatKind.f32.format.order x y == some .lt
def fGt (x y : Nat) : Bool := FloatKind.f32.format.order x y == some .gt
def fEq (x y : Nat) : Bool := FloatKind.f32.format.order x y == some .eq
def fNe (x y : Nat) : Bool := FloatKind.f32.format.order x y != some .eq
def fInt (x : Nat) : Int := (floatToIntVal .f32 x .i64).getD 0
def fIntOk (x : Nat) : Prop := (floatToIntVal .f32 x .i64).isSome = true
def fOf (n : Int) : Nat := floatOfInt .f32 n
/-- A bit pattern that is no number. -/
def isNaN (r : Nat) : Prop := ∃ t : Nat, r = (t % 2) * 2 ^ 31 + 0x7f800000 + 1 + (t / 2) % (2 ^ 23 - 1)
/-- The difference of two floats: if it is not valid, no number. -/
def fDif (x y r : Nat) : Prop := FloatKind.f32.format.sub x y = some r ∨ (FloatKind.f32.format.sub x y = none ∧ isNaN r)
end
end Sp
namespace Go.Vm
noncomputable section
/-- What an operation on two floats gives. -/
def flBin (op : BinOp) (a b : Nat) : Option (Value × Prop) :=
  match op with
  | .mul => some (.float .f32 (Sp.fMul a b), Sp.fMulOk a b)
  | .quo => some (.float .f32 (Sp.fDiv a b), Sp.fDivOk a b)
  | .add => some (.float .f32 (Sp.fAdd a b), Sp.fAddOk a b)
  | .lss => some (.bool (Sp.fLt a b), True)
  | .gtr => some (.bool (Sp.fGt a b), True)
  | .eql => some (.bool (Sp.fEq a b), True)
  | .neq => some (.bool (Sp.fNe a b), True)
  | _ => none
theorem getD_of_isSome {α : Type} {o : Option α} {z : α} (h : o.isSome = true) : o = some (o.getD z) := by
  cases o with
  | none => cases h
  | some => rfl
theorem flBin_run {P : Program} {w : World} {op : BinOp} {t : TypeId} {x y : Operand} {a b : Nat} {v : Value} {c : Prop} (h : flBin op a b = some (v, c)) (hc : c) :
    (do eqGuard op t x y (.float .f32 a) (.float .f32 b); binOp op t (.float .f32 a) (.float .f32 b) : Sem Value).run P w = .ok v w ∧ atom v = true := by
  have hg : (eqGuard op t x y (.float .f32 a) (.float .f32 b)).run P w = .ok () w := by
    unfold eqGuard; cases op <;> rfl
  rw [Sem.run_bind, hg]
  unfold flBin at h
  split at h
  all_goals first
    | (cases h
       first
         | exact ⟨run_float_arith w _ t .f32 a b _ (getD_of_isSome hc), rfl⟩
         | exact ⟨by simp [binOp, Op.floatCmp, Sp.fLt, Sp.fGt, Sp.fEq, Sp.fNe], rfl⟩)
    | cases h
/-- An operation on floats, or a conversion from or to one. -/
def fFl (P : Program) (o : Oper) (env : List Value) (_ : Heap) : Option (Out × Prop) :=
  match o.op with
  | .binOp op _ x y _ =>
    match ev env x, ev env y with
    | .float .f32 a, .float .f32 b => (flBin op a b).map fun p => (⟨p.1, [], [], []⟩, p.2)
    | _, _ => none
  | .convert src dst x =>
    match P.underlying src, P.underlying dst, ev env x with
    | some _, some (.int .i64), .float .f32 a => some (⟨.int .i64 (Sp.fInt a), [], [], []⟩, Sp.fIntOk a)
    | some _, some (.float .f32), .int _ n => some (⟨.float .f32 (Sp.fOf n), [], [], []⟩, True)
    | _, _, _ => none
  | _ => none

def hFl (P : Program) : Hint P where
  fn := fFl P
  ok := by
    intro o env H out vc h hv
    unfold fFl at h
    split at h
    · rename_i op t x y yt ho
      split at h
      · rename_i a b hx hy
        obtain ⟨⟨v, c⟩, h1, h2⟩ := Option.map_eq_some_iff.1 h
        cases h2
        refine StepOK.value fun F A ψ env1 H1 ac w hr he _ => ⟨v, ?_, .atom _ (flBin_run (P := P) (w := w) (t := t) (x := x) (y := y) h1 hv).2⟩
        have q1 := opd hr he (x := x) (by simp [ho, Op.operands])
        have q2 := opd hr he (x := y) (by simp [ho, Op.operands])
        rw [hx] at q1; rw [hy] at q2
        have e1 := q1.of_atom rfl
        have e2 := q2.of_atom rfl
        have := (flBin_run (P := P) (w := w) (t := t) (x := x) (y := y) h1 hv).1
        simp only [execOp, ho, e1, e2]
        rw [Sem.run_bind, this]; rfl
      · cases h
    · rename_i src dst x ho
      split at h
      · rename_i u a hs hd hx
        cases h
        refine StepOK.value fun F A ψ env1 H1 ac w hr he _ => ⟨.int .i64 (Sp.fInt a), ?_, .atom _ rfl⟩
        have q1 := opd hr he (x := x) (by simp [ho, Op.operands])
        rw [hx] at q1
        have e1 := q1.of_atom rfl
        have := run_convert_float_int (P := P) w src dst .f32 .i64 a (Sp.fInt a) (by rw [hs]; rfl) hd (getD_of_isSome (z := 0) hv)
        simp only [execOp, ho, e1]
        rw [Sem.run_bind, this]; rfl
      · rename_i u k n hs hd hx
        cases h
        refine StepOK.value fun F A ψ env1 H1 ac w hr he _ => ⟨.float .f32 (Sp.fOf n), ?_, .atom _ rfl⟩
        have q1 := opd hr he (x := x) (by simp [ho, Op.operands])
        rw [hx] at q1
        have e1 := q1.of_atom rfl
        have := run_convert_int_float (P := P) w src dst k .f32 n (by rw [hs]; rfl) hd
        simp only [execOp, ho, e1]
        rw [Sem.run_bind, this]; rfl
      · cases h
    · cases h

/-- A difference of floats: one number, or any bits that are no number. -/
def fDf (o : Oper) (env : List Value) : Option ((Nat → Value) × (Nat → Prop)) :=
  match o.op with
  | .binOp .sub _ x y _ =>
    match ev env x, ev env y with
    | .float .f32 a, .float .f32 b => some (fun r => .float .f32 r, Sp.fDif a b)
    | _, _ => none
  | _ => none

def hDf (P : Program) : HintN P where
  α := Nat
  fn := fDf
  ok := by
    intro o env f c h
    unfold fDf at h
    split at h
    · rename_i t x y yt ho
      split at h
      · rename_i a b hx hy
        cases h
        intro F A ψ env1 H1 ac w hr he
        have q1 := opd hr he (x := x) (by simp [ho, Op.operands])
        have q2 := opd hr he (x := y) (by simp [ho, Op.operands])
        rw [hx] at q1; rw [hy] at q2
        have e1 := q1.of_atom rfl
        have e2 := q2.of_atom rfl
        have hg : ∀ w : World, (eqGuard .sub t x y (.float .f32 a) (.float .f32 b)).run P w = .ok () w := fun w => by
          unfold eqGuard; rfl
        cases hs : FloatKind.f32.format.sub a b with
        | some r =>
          refine ⟨.float .f32 r, w, ?_, hr.heap, r, .inl hs, .atom _ rfl⟩
          have := run_float_arith (P := P) w .sub t .f32 a b r hs
          simp only [execOp, ho, e1, e2]
          rw [Sem.run_bind, Sem.run_bind, hg, Result.andThen_ok, this]; rfl
        | none =>
          refine ⟨.float .f32 ((Question.nanBits .f32 a b).cut (w.tape w.drawn (.nanBits .f32 a b))), w.drew, ?_, hr.heap.alike rfl rfl rfl rfl, _, .inr ⟨hs, w.tape w.drawn (.nanBits .f32 a b), rfl⟩, .atom _ rfl⟩
          have : (binOp .sub t (.float .f32 a) (.float .f32 b)).run P w = .ok (.float .f32 ((Question.nanBits .f32 a b).cut (w.tape w.drawn (.nanBits .f32 a b)))) w.drew := by
            simp [binOp, Op.floatArith, hs, Question.forced]
          simp only [execOp, ho, e1, e2]
          rw [Sem.run_bind, Sem.run_bind, hg, Result.andThen_ok, this]; rfl
      · cases h
    · cases h
end
end Go.Vm
end
section
/- One hint or another; floats by their operations. -/
open Go
namespace Go.Vm
noncomputable section
/-- The first hint that has an answer. -/
def hOr {P : Program} (h1 h2 : Hint P) : Hint P where
  fn := fun o env H => match h1.fn o env H with
    | some r => some r
    | none => h2.fn o env H
  ok := by
    intro o env H out vc h hv
    split at h
    · rename_i r hr
      cases h
      exact h1.ok hr hv
    · exact h2.ok h hv
/-- Floats are asked for first. -/
def auF {P : Program} (l : List (Nat × Hint P)) (o : Oper) : Option (Hint P) :=
  match o.op with
  | .binOp _ _ _ _ _ => match auCalls l o with
    | some h => some (hOr (hFl P) h)
    | none => some (hFl P)
  | .convert _ _ _ => match auCalls l o with
    | some h => some (hOr (hFl P) h)
    | none => some (hFl P)
  | _ => auCalls l o
end
end Go.Vm
end
section
/- Floats of 32 bits as exact numbers: what a word stands for, times 2^400. -/
namespace Fl
open Ieee
/-- A number with its sign. -/
def sg (s : Bool) (n : Nat) : Int := if s then -(n : Int) else n
theorem sg_abs (s : Bool) (n : Nat) : (sg s n).natAbs = n := by cases s <;> simp [sg]
theorem sg_mul (s : Bool) (n k : Nat) : sg s (n * k) = sg s n * k := by cases s <;> simp [sg, Int.neg_mul]
theorem sg_zero (s : Bool) : sg s 0 = 0 := by cases s <;> rfl
theorem sg_xor (s t : Bool) (m n : Nat) : sg (s ^^ t) (m * n) = sg s m * sg t n := by cases s <;> cases t <;> simp [sg, Int.neg_mul, Int.mul_neg]
theorem sg_not (s : Bool) (n : Nat) : sg (!s) n = -sg s n := by cases s <;> simp [sg]
theorem sg_self (n : Int) : sg (decide (n < 0)) n.natAbs = n := by
  by_cases h : n < 0
  · rw [decide_eq_true h]; simp only [sg, if_true]; omega
  · rw [decide_eq_false h]; simp only [sg, Bool.false_eq_true, if_false]; omega
theorem signed_sg (s : Bool) (m k : Nat) : signed s m k = sg s (m * 2 ^ k) := by
  simp only [signed, sg, Nat.shiftLeft_eq]

/-- A datum that is a number: no digit below 2^lo, and its value times 2^400. -/
def Has (d : Datum) (lo v : Int) : Prop := ∃ s m i, d = .number s m i ∧ lo ≤ i ∧ sg s (m * 2 ^ (i + 400).toNat) = v

theorem Has.weak {d : Datum} {lo lo' v : Int} (h : Has d lo v) (hl : lo' ≤ lo) : Has d lo' v := by
  obtain ⟨s, m, i, h1, h2, h3⟩ := h
  exact ⟨s, m, i, h1, by omega, h3⟩

theorem Has.opposite {d : Datum} {lo v : Int} (h : Has d lo v) : Has d.opposite lo (-v) := by
  obtain ⟨s, m, i, rfl, h2, rfl⟩ := h
  exact ⟨!s, m, i, rfl, h2, sg_not _ _⟩

theorem at_base {s : Bool} {m : Nat} {i b : Int} (h0 : -400 ≤ b) (h : b ≤ i) : signed s m (i - b).toNat * 2 ^ (b + 400).toNat = sg s (m * 2 ^ (i + 400).toNat) := by
  rw [signed_sg]
  have e : (i + 400).toNat = (i - b).toNat + (b + 400).toNat := by omega
  rw [e, Nat.pow_add, ← Nat.mul_assoc]
  simp only [sg_mul, Int.natCast_pow, Int.cast_ofNat_Int]

theorem Has.sum {d e : Datum} {lo v u : Int} (h0 : -400 ≤ lo) (h : Has d lo v) (k : Has e lo u) : ∃ r, d.sum e = some r ∧ Has r lo (v + u) := by
  obtain ⟨s, m, i, rfl, h2, rfl⟩ := h
  obtain ⟨t, n, j, rfl, k2, rfl⟩ := k
  refine ⟨_, rfl, ?_⟩
  have hb : lo ≤ min i j := by omega
  generalize hT : signed s m (i - min i j).toNat + signed t n (j - min i j).toNat = T
  refine ⟨_, _, _, rfl, hb, ?_⟩
  have e1 := at_base (s := s) (m := m) (i := i) (b := min i j) (by omega) (by omega)
  have e2 := at_base (s := t) (m := n) (i := j) (b := min i j) (by omega) (by omega)
  rw [← e1, ← e2, ← Int.add_mul, hT, sg_mul]
  have : sg (if T = 0 then s && t else decide (T < 0)) T.natAbs = T := by
    split
    · rename_i h; rw [h]; exact sg_zero _
    · exact sg_self T
  rw [this]; simp

theorem pow3 {m n a b c K : Nat} (h : a + b = c + K) : m * 2 ^ a * (n * 2 ^ b) = m * n * 2 ^ c * 2 ^ K := by
  rw [Nat.mul_mul_mul_comm, ← Nat.pow_add, h, Nat.pow_add, Nat.mul_assoc (m * n)]
theorem cut_hi {m a b K : Nat} (h : a = b + K) : m * 2 ^ a / 2 ^ K = m * 2 ^ b := by
  rw [h, Nat.pow_add, ← Nat.mul_assoc, Nat.mul_div_cancel _ (Nat.pow_pos (by decide))]
theorem Has.product {d e : Datum} {lo v u : Int} (h0 : -200 ≤ lo) (h : Has d lo v) (k : Has e lo u) : ∃ r t, d.product e = some r ∧ Has r (lo + lo) t ∧ t * 2 ^ 400 = v * u := by
  obtain ⟨s, m, i, rfl, h2, rfl⟩ := h
  obtain ⟨t, n, j, rfl, k2, rfl⟩ := k
  refine ⟨_, _, rfl, ⟨_, _, _, rfl, by omega, rfl⟩, ?_⟩
  rw [← sg_xor]
  have e : (i + 400).toNat + (j + 400).toNat = (i + j + 400).toNat + 400 := by omega
  have e2 := pow3 (m := m) (n := n) e
  rw [e2]
  simp only [sg_mul, Int.natCast_pow, Int.cast_ofNat_Int]

theorem compare_mul {a b : Int} {k : Nat} (hk : 0 < k) : compare (a * k) (b * k) = compare a b := by
  have hk : (0 : Int) < k := by omega
  rcases Int.lt_trichotomy a b with h | h | h
  · have : a * k < b * k := Int.mul_lt_mul_of_pos_right h hk
    rw [Int.compare_eq_lt.2 h, Int.compare_eq_lt.2 this]
  · subst h; simp
  · have : b * k < a * k := Int.mul_lt_mul_of_pos_right h hk
    rw [Int.compare_eq_gt.2 h, Int.compare_eq_gt.2 this]

theorem Has.order {d e : Datum} {lo v u : Int} (h0 : -400 ≤ lo) (h : Has d lo v) (k : Has e lo u) : d.order e = some (compare v u) := by
  obtain ⟨s, m, i, rfl, h2, rfl⟩ := h
  obtain ⟨t, n, j, rfl, k2, rfl⟩ := k
  have e1 := at_base (s := s) (m := m) (i := i) (b := min i j) (by omega) (by omega)
  have e2 := at_base (s := t) (m := n) (i := j) (b := min i j) (by omega) (by omega)
  rw [← e1, ← e2]
  have := compare_mul (a := signed s m (i - min i j).toNat) (b := signed t n (j - min i j).toNat) (k := 2 ^ (min i j + 400).toNat) (Nat.pow_pos (by decide))
  rw [show ((2 : Int) ^ (min i j + 400).toNat) = ((2 ^ (min i j + 400).toNat : Nat) : Int) by simp, this]
  rfl

theorem cut_zero (s : Bool) (n k : Nat) : Toward.zero.cut s n k = n / 2 ^ k := by
  unfold Toward.cut
  simp only [Nat.shiftLeft_eq, Nat.one_mul, Bool.toNat_false, Nat.add_zero]
  by_cases h : k ≤ n.log2 + 2
  · rw [Nat.min_eq_left h]
  · have h1 : n < 2 ^ (n.log2 + 1) := Nat.lt_log2_self
    have h2 : 2 ^ (n.log2 + 1) ≤ 2 ^ (n.log2 + 2) := Nat.pow_le_pow_right (by decide) (by omega)
    have h3 : 2 ^ (n.log2 + 1) ≤ 2 ^ k := Nat.pow_le_pow_right (by decide) (by omega)
    rw [Nat.min_eq_right (by omega), Nat.div_eq_of_lt (by omega), Nat.div_eq_of_lt (by omega)]

/-- A value made whole: cut towards zero. -/
theorem Has.toInt {d : Datum} {lo v : Int} (h0 : -400 ≤ lo) (h : Has d lo v) : ∃ s, sg s v.natAbs = v ∧ d.toInt .zero = some (sg s (v.natAbs / 2 ^ 400)) := by
  obtain ⟨s, m, i, rfl, h2, rfl⟩ := h
  refine ⟨s, by rw [sg_abs], ?_⟩
  simp only [Datum.toInt, Datum.integral, cut_zero, signed_sg, Nat.pow_zero, Nat.mul_one, sg_abs, Nat.shiftLeft_eq]
  congr 2
  by_cases hi : 0 ≤ i
  · have e1 : (i + 400).toNat = i.toNat + 400 := by omega
    have e2 : (-i).toNat = 0 := by omega
    rw [e2, cut_hi e1]
    simp
  · have e1 : i.toNat = 0 := by omega
    have e2 : 400 = (i + 400).toNat + (-i).toNat := by omega
    rw [e1, Nat.pow_zero, Nat.mul_one]
    conv => rhs; rw [e2]
    rw [Nat.pow_add, ← Nat.div_div_eq_div_mul, Nat.mul_div_cancel _ (Nat.pow_pos (by decide))]

/-! ### Writing -/
theorem cut_even {s : Bool} {n k : Nat} (h : 2 ^ k ∣ n) : Toward.even.cut s n k = n / 2 ^ k := by
  obtain ⟨q, rfl⟩ := h
  unfold Toward.cut
  simp only [Nat.shiftLeft_eq, Nat.one_mul]
  by_cases hq : q = 0
  · subst hq; simp
  · have h1 : k ≤ (2 ^ k * q).log2 := by
      refine (Nat.le_log2 (Nat.ne_of_gt (Nat.mul_pos (Nat.pow_pos (by decide)) (by omega)))).2 ?_
      exact Nat.le_mul_of_pos_right _ (by omega)
    rw [Nat.min_eq_left (by omega), Nat.mul_mod_right]
    have h2 : (0 : Nat) < 2 ^ k := Nat.pow_pos (by decide)
    have h3 : decide (2 ^ k < 2 * 0) = false := by simp
    have h4 : (2 ^ k == 2 * 0) = false := by simp
    rw [h3, h4]; rfl

theorem read_word {s : Bool} {r : Nat} (h : r < 2 ^ 31) : single.read (single.word s r) =
    (if r < 2 ^ 23 then .number s r (-149) else if r < 255 * 2 ^ 23 then .number s (2 ^ 23 + r % 2 ^ 23) (-149 + (r / 2 ^ 23 - 1 : Nat)) else if r = 255 * 2 ^ 23 then .infinity s else .nan s (r - 255 * 2 ^ 23)) := by
  have e1 : single.word s r / single.signWeight % 2 = s.toNat := by
    have : single.signWeight = 2 ^ 31 := by decide
    rw [this]
    cases s <;> simp only [Format.word, this, Bool.toNat, cond, if_true, Bool.false_eq_true, if_false] <;> omega
  have e2 : single.word s r % single.signWeight = r := by
    have : single.signWeight = 2 ^ 31 := by decide
    rw [this]
    cases s <;> simp only [Format.word, this, if_true, Bool.false_eq_true, if_false] <;> omega
  have e3 : (single.word s r / single.signWeight % 2 == 1) = s := by rw [e1]; cases s <;> rfl
  have e4 : single.binade = 2 ^ 23 := by decide
  have e5 : single.infRung = 255 * 2 ^ 23 := by decide
  have e6 : single.leastPlace = -149 := by decide
  unfold Format.read
  simp only [e2, e3, e4, e5, e6]

/-- A number that the format has, written, is read as it was. -/
theorem read_near {s : Bool} {m : Nat} {i : Int} (h : ∃ n d : Nat, m = n * 2 ^ d ∧ n < 2 ^ 24 ∧ -149 ≤ i + d) (hb : m.log2 + i ≤ 100) :
    ∃ m' i', single.read (single.nearest s m i) = .number s m' i' ∧ -149 ≤ i' ∧ ∀ c : Int, 400 ≤ c → -c ≤ i → m' * 2 ^ (i' + c).toNat = m * 2 ^ (i + c).toNat := by
  have e6 : single.leastPlace = -149 := by decide
  have e4 : single.binade = 2 ^ 23 := by decide
  have e5 : single.infRung = 255 * 2 ^ 23 := by decide
  have e7 : single.fractionBits = 23 := rfl
  by_cases h0 : m = 0
  · subst h0
    refine ⟨0, -149, ?_, by omega, fun c _ _ => by simp⟩
    unfold Format.nearest
    rw [if_pos rfl, read_word (by decide), if_pos (by decide)]
  · obtain ⟨n, d, hm, hn, hd⟩ := h
    unfold Format.nearest
    rw [if_neg h0]
    simp only [e4, e5, e6, e7]
    have hL1 : 2 ^ m.log2 ≤ m := Nat.log2_self_le h0
    have hL2 : m < 2 ^ (m.log2 + 1) := Nat.lt_log2_self
    generalize m.log2 = L at *
    have hLd : L < 24 + d := by
      have : 2 ^ L < 2 ^ (24 + d) := by
        have : n * 2 ^ d < 2 ^ 24 * 2 ^ d := Nat.mul_lt_mul_of_pos_right hn (Nat.pow_pos (by decide))
        rw [Nat.pow_add]; omega
      exact (Nat.pow_lt_pow_iff_right (by decide)).1 this
    generalize hlast : max (i + (L : Int) - (23 : Nat)) (-149) = last
    have hl1 : last - i ≤ d := by omega
    have hdiv : 2 ^ (last - i).toNat ∣ m <<< (i - last).toNat := by
      rw [Nat.shiftLeft_eq, hm]
      refine Nat.dvd_trans ?_ (Nat.dvd_mul_right _ _)
      refine Nat.dvd_trans ?_ (Nat.dvd_mul_left _ _)
      exact Nat.pow_dvd_pow 2 (by omega)
    rw [cut_even hdiv]
    generalize hk : m <<< (i - last).toNat / 2 ^ (last - i).toNat = kept
    have hkm : kept * 2 ^ (last - i).toNat = m * 2 ^ (i - last).toNat := by
      rw [← hk, Nat.div_mul_cancel hdiv, Nat.shiftLeft_eq]
    have hval : ∀ c : Int, 400 ≤ c → -c ≤ i → kept * 2 ^ (last + c).toNat = m * 2 ^ (i + c).toNat := by
      intro c hc hi
      by_cases hli : i ≤ last
      · have e1 : (i - last).toNat = 0 := by omega
        rw [e1, Nat.pow_zero, Nat.mul_one] at hkm
        rw [← hkm, Nat.mul_assoc, ← Nat.pow_add]
        congr 2
        omega
      · have e1 : (last - i).toNat = 0 := by omega
        rw [e1, Nat.pow_zero, Nat.mul_one] at hkm
        rw [hkm, Nat.mul_assoc, ← Nat.pow_add]
        congr 2
        omega
    have hup : kept < 2 ^ 24 := by
      by_cases hli : i ≤ last
      · have e1 : (i - last).toNat = 0 := by omega
        rw [e1, Nat.pow_zero, Nat.mul_one] at hkm
        have h3 : kept * 2 ^ (last - i).toNat < 2 ^ 24 * 2 ^ (last - i).toNat := by
          rw [hkm, ← Nat.pow_add]
          exact Nat.lt_of_lt_of_le hL2 (Nat.pow_le_pow_right (by decide) (by omega))
        exact Nat.lt_of_mul_lt_mul_right h3
      · have e1 : (last - i).toNat = 0 := by omega
        rw [e1, Nat.pow_zero, Nat.mul_one] at hkm
        rw [hkm]
        have h3 : m * 2 ^ (i - last).toNat < 2 ^ (L + 1) * 2 ^ (i - last).toNat := Nat.mul_lt_mul_of_pos_right hL2 (Nat.pow_pos (by decide))
        rw [← Nat.pow_add] at h3
        exact Nat.lt_of_lt_of_le h3 (Nat.pow_le_pow_right (by decide) (by omega))
    have hlow : -149 < last → 2 ^ 23 ≤ kept := by
      intro hla
      have hla : last = i + L - 23 := by omega
      by_cases hli : i ≤ last
      · have e1 : (i - last).toNat = 0 := by omega
        rw [e1, Nat.pow_zero, Nat.mul_one] at hkm
        have h3 : 2 ^ 23 * 2 ^ (last - i).toNat ≤ kept * 2 ^ (last - i).toNat := by
          rw [hkm, ← Nat.pow_add]
          exact Nat.le_trans (Nat.pow_le_pow_right (by decide) (by omega)) hL1
        exact Nat.le_of_mul_le_mul_right h3 (Nat.pow_pos (by decide))
      · have e1 : (last - i).toNat = 0 := by omega
        rw [e1, Nat.pow_zero, Nat.mul_one] at hkm
        rw [hkm]
        have h3 : 2 ^ L * 2 ^ (i - last).toNat ≤ m * 2 ^ (i - last).toNat := Nat.mul_le_mul_right _ hL1
        rw [← Nat.pow_add] at h3
        exact Nat.le_trans (Nat.pow_le_pow_right (by decide) (by omega)) h3
    have hla1 : -149 ≤ last := by omega
    have hla2 : last ≤ 100 := by omega
    obtain ⟨a, ha⟩ : ∃ a : Nat, last = -149 + a := ⟨(last + 149).toNat, by omega⟩
    subst ha
    have e8 : (-149 + (a : Int) - -149).toNat = a := by omega
    rw [e8]
    obtain ⟨B, hB⟩ : ∃ B : Nat, B = 2 ^ 23 := ⟨_, rfl⟩
    have hB2 : (2 : Nat) ^ 24 = 2 * B := by rw [hB]
    have hB0 : 0 < B := by rw [hB]; decide
    rw [hB2] at hup
    rw [← hB] at hlow ⊢
    have ha9 : a ≤ 249 := by omega
    have hle : a * B ≤ 249 * B := Nat.mul_le_mul_right _ ha9
    rw [Nat.min_eq_left (by omega)]
    refine ⟨kept, -149 + a, ?_, by omega, hval⟩
    have hr := read_word (s := s) (r := a * B + kept) (by rw [show (2 : Nat) ^ 31 = 256 * B by rw [hB]]; omega)
    rw [← hB] at hr
    rw [hr]
    rcases Nat.eq_zero_or_pos a with h0 | h0
    · subst h0
      rw [Nat.zero_mul, Nat.zero_add]
      by_cases hs : kept < B
      · rw [if_pos hs]; simp
      · rw [if_neg hs, if_pos (by omega)]
        have e1 : kept % B = kept - B := by rw [Nat.mod_eq_sub_mod (by omega), Nat.mod_eq_of_lt (by omega)]
        have e2 : kept / B = 1 := by rw [Nat.div_eq_sub_div hB0 (by omega), Nat.div_eq_of_lt (by omega)]
        rw [e1, e2, show B + (kept - B) = kept by omega]
    · have h23 : B ≤ kept := hlow (by omega)
      have h1 : B ≤ a * B := Nat.le_mul_of_pos_left _ h0
      rw [if_neg (by omega), if_pos (by omega)]
      have e1 : (a * B + kept) % B = kept - B := by
        rw [Nat.add_comm, Nat.add_mul_mod_self_right, Nat.mod_eq_sub_mod (by omega), Nat.mod_eq_of_lt (by omega)]
      have e2 : (a * B + kept) / B - 1 = a := by
        rw [Nat.add_comm, Nat.add_mul_div_right _ _ hB0, Nat.div_eq_sub_div hB0 (by omega), Nat.div_eq_of_lt (by omega)]; omega
      rw [e1, e2, show B + (kept - B) = kept by omega]

/-- Few digits, none below 2^-149, not too great: a number of the format. -/
def Rep (v : Int) : Prop := v.natAbs < 2 ^ 500 ∧ ∃ n k : Nat, v.natAbs = n * 2 ^ k ∧ n < 2 ^ 24 ∧ 251 ≤ k

theorem pow_split {n k m e : Nat} (h : m * 2 ^ e = n * 2 ^ k) (hn : n < 2 ^ 24) : ∃ n' d : Nat, m = n' * 2 ^ d ∧ n' < 2 ^ 24 ∧ k ≤ d + e := by
  by_cases hk : e ≤ k
  · refine ⟨n, k - e, ?_, hn, by omega⟩
    have : m * 2 ^ e = n * 2 ^ (k - e) * 2 ^ e := by rw [h, Nat.mul_assoc, ← Nat.pow_add]; congr 2; omega
    exact Nat.mul_right_cancel (Nat.pow_pos (by decide)) this
  · have hk : k ≤ e := by omega
    have : n = m * 2 ^ (e - k) := by
      have : n * 2 ^ k = m * 2 ^ (e - k) * 2 ^ k := by rw [← h, Nat.mul_assoc, ← Nat.pow_add]; congr 2; omega
      exact Nat.mul_right_cancel (Nat.pow_pos (by decide)) this
    refine ⟨m, 0, by simp, ?_, by omega⟩
    have : m ≤ n := by rw [this]; exact Nat.le_mul_of_pos_right _ (Nat.pow_pos (by decide))
    omega

theorem zp (k : Nat) : 0 = 0 * 2 ^ k := (Nat.zero_mul _).symm
theorem Has.write {d : Datum} {lo v : Int} (h0 : -400 ≤ lo) (h : Has d lo v) (hr : Rep v) : Has (single.read (single.write d)) (-149) v := by
  obtain ⟨s, m, i, rfl, h2, rfl⟩ := h
  obtain ⟨hb, n, k, e, hn, hk⟩ := hr
  rw [sg_abs] at hb e
  by_cases hm : m = 0
  · subst hm
    obtain ⟨m', i', q1, q2, q3⟩ := read_near (s := s) (m := 0) (i := -400) ⟨0, 400, zp 400, by decide, by decide⟩ (by decide)
    refine ⟨s, m', i', ?_, q2, ?_⟩
    · simp only [Format.write]
      rw [← q1]
      unfold Format.nearest
      simp
    · have := q3 400 (by omega) (by omega)
      rw [this]; simp
  · obtain ⟨n', d', f1, f2, f3⟩ := pow_split e hn
    have hlog : m.log2 + i ≤ 100 := by
      have h1 : 2 ^ m.log2 ≤ m := Nat.log2_self_le hm
      have h3 : 2 ^ m.log2 * 2 ^ (i + 400).toNat < 2 ^ 500 := Nat.lt_of_le_of_lt (Nat.mul_le_mul_right _ h1) hb
      rw [← Nat.pow_add] at h3
      have := (Nat.pow_lt_pow_iff_right (by decide : 1 < 2)).1 h3
      omega
    obtain ⟨m', i', q1, q2, q3⟩ := read_near (s := s) (m := m) (i := i) ⟨n', d', f1, f2, by omega⟩ hlog
    exact ⟨s, m', i', q1, q2, by rw [q3 400 (by omega) (by omega)]⟩
end Fl
end
section
/- Samples: what is known of their floats. -/
open Go
namespace Fl
open Ieee Sp
theorem fmt32 : FloatKind.f32.format = single := rfl
theorem read_any (x : Nat) : single.read x =
    (if x % 2 ^ 31 < 2 ^ 23 then .number (x / 2 ^ 31 % 2 == 1) (x % 2 ^ 31) (-149) else if x % 2 ^ 31 < 255 * 2 ^ 23 then .number (x / 2 ^ 31 % 2 == 1) (2 ^ 23 + x % 2 ^ 31 % 2 ^ 23) (-149 + (x % 2 ^ 31 / 2 ^ 23 - 1 : Nat)) else if x % 2 ^ 31 = 255 * 2 ^ 23 then .infinity (x / 2 ^ 31 % 2 == 1) else .nan (x / 2 ^ 31 % 2 == 1) (x % 2 ^ 31 - 255 * 2 ^ 23)) := by
  have e1 : single.signWeight = 2 ^ 31 := by decide
  have e4 : single.binade = 2 ^ 23 := by decide
  have e5 : single.infRung = 255 * 2 ^ 23 := by decide
  have e6 : single.leastPlace = -149 := by decide
  unfold Format.read
  simp only [e1, e4, e5, e6]
/-- Bits that are a number. -/
def IsF (x : Nat) : Prop := ∃ s m i, single.read x = .number s m i ∧ m < 2 ^ 24 ∧ -149 ≤ i ∧ i ≤ 104
noncomputable def finB (x : Nat) : Bool := match single.read x with
  | .number .. => true
  | _ => false
def one : Nat := 2 ^ 400
def top : Nat := (2 ^ 24 - 1) * 2 ^ 504
theorem fin_or (x : Nat) : IsF x ∨ (∃ s, single.read x = .infinity s) ∨ ∃ s p, single.read x = .nan s p := by
  have h := read_any x
  have hr : x % 2 ^ 31 < 2 ^ 31 := Nat.mod_lt _ (by decide)
  by_cases h1 : x % 2 ^ 31 < 2 ^ 23
  · rw [if_pos h1] at h
    exact .inl ⟨_, _, _, h, by omega, by omega, by omega⟩
  · rw [if_neg h1] at h
    by_cases h2 : x % 2 ^ 31 < 255 * 2 ^ 23
    · rw [if_pos h2] at h
      refine .inl ⟨_, _, _, h, ?_, by omega, ?_⟩
      · have := Nat.mod_lt (x % 2 ^ 31) (show 0 < 2 ^ 23 by decide); omega
      · have : x % 2 ^ 31 / 2 ^ 23 < 255 := (Nat.div_lt_iff_lt_mul (by decide)).2 h2
        omega
    · rw [if_neg h2] at h
      by_cases h3 : x % 2 ^ 31 = 255 * 2 ^ 23
      · rw [if_pos h3] at h
        exact .inr (.inl ⟨_, h⟩)
      · rw [if_neg h3] at h
        exact .inr (.inr ⟨_, _, h⟩)
theorem nan_read {r : Nat} (h : isNaN r) : ∃ s p, single.read r = .nan s p := by
  obtain ⟨t, rfl⟩ := h
  have hq : t / 2 % (2 ^ 23 - 1) < 2 ^ 23 - 1 := Nat.mod_lt _ (by decide)
  have h := read_any (t % 2 * 2 ^ 31 + 0x7f800000 + 1 + t / 2 % (2 ^ 23 - 1))
  generalize t / 2 % (2 ^ 23 - 1) = q at *
  have hb : t % 2 < 2 := Nat.mod_lt _ (by decide)
  have e : (t % 2 * 2 ^ 31 + 0x7f800000 + 1 + q) % 2 ^ 31 = 0x7f800000 + 1 + q := by omega
  rw [e, if_neg (by omega), if_neg (by omega), if_neg (by omega)] at h
  exact ⟨_, _, h⟩
theorem isF_iff (x : Nat) : IsF x ↔ finB x = true := by
  constructor
  · intro ⟨s, m, i, h, _⟩
    rw [finB, h]
  · intro h
    rcases fin_or x with h1 | ⟨s, h1⟩ | ⟨s, p, h1⟩
    · exact h1
    · rw [finB, h1] at h; cases h
    · rw [finB, h1] at h; cases h
/-- The value of a number, times 2^400. -/
noncomputable def val (x : Nat) : Int := match single.read x with
  | .number s m i => sg s (m * 2 ^ (i + 400).toNat)
  | _ => 0
theorem IsF.has {x : Nat} (h : IsF x) : Has (single.read x) (-149) (val x) := by
  obtain ⟨s, m, i, h1, h2, h3, h4⟩ := h
  exact ⟨s, m, i, h1, h3, by rw [val, h1]⟩
theorem IsF.rep {x : Nat} (h : IsF x) : ∃ n k : Nat, (val x).natAbs = n * 2 ^ k ∧ n < 2 ^ 24 ∧ 251 ≤ k ∧ k ≤ 504 := by
  obtain ⟨s, m, i, h1, h2, h3, h4⟩ := h
  exact ⟨m, (i + 400).toNat, by rw [val, h1]; exact sg_abs _ _, h2, by omega, by omega⟩
theorem has_fin {x : Nat} {v lo : Int} (h : Has (single.read x) lo v) : IsF x ∧ val x = v := by
  obtain ⟨s, m, i, h1, _, h3⟩ := h
  refine ⟨?_, by rw [val, h1]; exact h3⟩
  rcases fin_or x with h | ⟨_, h⟩ | ⟨_, _, h⟩
  · exact h
  · rw [h] at h1; cases h1
  · rw [h] at h1; cases h1
theorem order_val {x y : Nat} (hx : IsF x) (hy : IsF y) : single.order x y = some (compare (val x) (val y)) := Has.order (by decide) hx.has hy.has
theorem lt_val {x y : Nat} (hx : IsF x) (hy : IsF y) : fLt x y = decide (val x < val y) := by
  rw [fLt, fmt32, order_val hx hy]
  by_cases h : val x < val y
  · rw [decide_eq_true h, Int.compare_eq_lt.2 h]; rfl
  · rw [decide_eq_false h]
    have : compare (val x) (val y) ≠ .lt := fun e => h (Int.compare_eq_lt.1 e)
    cases hc : compare (val x) (val y) <;> first | (exact absurd hc this) | rfl
theorem gt_val {x y : Nat} (hx : IsF x) (hy : IsF y) : fGt x y = decide (val y < val x) := by
  rw [fGt, fmt32, order_val hx hy]
  by_cases h : val y < val x
  · rw [decide_eq_true h, Int.compare_eq_gt.2 h]; rfl
  · rw [decide_eq_false h]
    have : compare (val x) (val y) ≠ .gt := fun e => h (Int.compare_eq_gt.1 e)
    cases hc : compare (val x) (val y) <;> first | (exact absurd hc this) | rfl
theorem ne_val {x y : Nat} (hx : IsF x) (hy : IsF y) : fNe x y = decide (val x ≠ val y) := by
  rw [fNe, fmt32, order_val hx hy]
  by_cases h : val x = val y
  · rw [decide_eq_false (by simpa using h), h, Int.compare_eq_eq.2 rfl]; rfl
  · rw [decide_eq_true h]
    have : compare (val x) (val y) ≠ .eq := fun e => h (Int.compare_eq_eq.1 e)
    cases hc : compare (val x) (val y) <;> first | (exact absurd hc this) | rfl
theorem fin_zero : IsF 0 ∧ val 0 = 0 := by
  refine has_fin (lo := -149) ⟨false, 0, -149, by decide, by decide, by decide⟩
/-- A sample less itself: it is 0 just if it is a number. -/
theorem dif_fin {x r : Nat} (h : IsF x) (hd : fDif x x r) : fNe r 0 = false := by
  obtain ⟨d, e, hs⟩ := Has.sum (lo := -149) (by decide) h.has h.has.opposite
  have es : single.sub x x = some (single.write d) := by rw [Format.sub, e]; rfl
  rcases hd with hd | ⟨hd, _⟩
  · rw [fmt32, es] at hd
    cases hd
    have hw := has_fin (hs.write (by decide) (by rw [Int.add_right_neg]; exact ⟨by decide +kernel, 0, 251, by decide +kernel, by decide, by decide⟩))
    rw [ne_val hw.1 fin_zero.1, hw.2, fin_zero.2, Int.add_right_neg]
    simp
  · rw [fmt32, es] at hd
    cases hd
theorem dif_not {x r : Nat} (h : ¬ IsF x) (hd : fDif x x r) : fNe r 0 = true := by
  have es : single.sub x x = none := by
    rcases fin_or x with h1 | ⟨s, h1⟩ | ⟨s, p, h1⟩
    · exact absurd h1 h
    · rw [Format.sub, h1]
      cases s <;> rfl
    · rw [Format.sub, h1]; rfl
  rcases hd with hd | ⟨_, hn⟩
  · rw [fmt32, es] at hd
    cases hd
  · obtain ⟨s, p, e⟩ := nan_read hn
    rw [fNe, fmt32, Format.order, e]; rfl
/-- The reference's test for numbers. -/
theorem fin_max : IsF 0x7f7fffff ∧ val 0x7f7fffff = (top : Int) :=
  has_fin (lo := -149) ⟨false, 2 ^ 24 - 1, 104, by decide +kernel, by decide, by decide +kernel⟩
theorem fin_min : IsF 0xff7fffff ∧ val 0xff7fffff = -(top : Int) :=
  has_fin (lo := -149) ⟨true, 2 ^ 24 - 1, 104, by decide +kernel, by decide, by decide +kernel⟩
theorem pow_up {k j : Nat} (h : k ≤ j) : (2 : Nat) ^ k ≤ 2 ^ j := Nat.pow_le_pow_right (by decide) h
theorem most_of {n k c K : Nat} (hn : n ≤ c) (hk : k ≤ K) : n * 2 ^ k ≤ c * 2 ^ K := Nat.mul_le_mul hn (pow_up hk)
theorem IsF.most {x : Nat} (h : IsF x) : (val x).natAbs ≤ top := by
  obtain ⟨n, k, e, hn, _, hk⟩ := h.rep
  have h2 := most_of (n := n) (k := k) (c := 2 ^ 24 - 1) (K := 504) (by omega) hk
  rw [e]
  unfold top
  exact h2
theorem form_test (x : Nat) : (fNe x x || (fGt x 0x7f7fffff || fLt x 0xff7fffff)) = !finB x := by
  by_cases h : IsF x
  · have hm := h.most
    rw [(isF_iff x).1 h, ne_val h h, gt_val h fin_max.1, lt_val h fin_min.1, fin_max.2, fin_min.2]
    rw [decide_eq_false (by simp), decide_eq_false (by omega), decide_eq_false (by omega)]; rfl
  · have hf : finB x = false := by
      cases hb : finB x
      · rfl
      · exact absurd ((isF_iff x).2 hb) h
    rw [hf]
    rcases fin_or x with h1 | ⟨s, h1⟩ | ⟨s, p, h1⟩
    · exact absurd h1 h
    · obtain ⟨⟨s1, m1, i1, e1, _⟩, _⟩ := fin_max
      obtain ⟨⟨s2, m2, i2, e2, _⟩, _⟩ := fin_min
      rw [fNe, fGt, fLt, fmt32, Format.order, Format.order, Format.order, h1, e1, e2]
      cases s <;> rfl
    · rw [fNe, fmt32, Format.order, h1]; rfl
/-- Sixteen times a sample that is not too great. -/
theorem fin_16 : IsF 0x41800000 ∧ val 0x41800000 = 16 * (one : Int) :=
  has_fin (lo := -149) ⟨false, 2 ^ 23, -19, by decide +kernel, by decide, by decide +kernel⟩
theorem product_comm (d e : Datum) : d.product e = e.product d := by
  cases d <;> cases e <;> simp [Datum.product, Bool.xor_comm, Nat.mul_comm, Int.add_comm]
theorem mul_comm16 (x y : Nat) : fMul x y = fMul y x := by
  rw [fMul, fMul, fmt32, Format.mul, Format.mul, product_comm]
theorem mulOk_comm (x y : Nat) : fMulOk x y ↔ fMulOk y x := by
  rw [fMulOk, fMulOk, fmt32, Format.mul, Format.mul, product_comm]
theorem one_pos : 0 < one := by decide +kernel
theorem one_pow : (2 : Int) ^ 400 = (one : Int) := by decide +kernel
theorem one_nat : (2 : Nat) ^ 400 = one := by unfold one; rfl
theorem one_few : 1024 * one * 16 < 2 ^ 500 := by decide +kernel
theorem mul_16 {x : Nat} (h : IsF x) (hb : (val x).natAbs ≤ 1024 * one) : fMulOk x 0x41800000 ∧ IsF (fMul x 0x41800000) ∧ val (fMul x 0x41800000) = val x * 16 := by
  obtain ⟨r, t, e1, h1, e2⟩ := Has.product (lo := -149) (by decide) h.has fin_16.1.has
  rw [fin_16.2, one_pow] at e2
  have hp := one_pos
  have ht : t = val x * 16 := by
    have : t * (one : Int) = val x * 16 * (one : Int) := by rw [e2, Int.mul_assoc]
    exact Int.eq_of_mul_eq_mul_right (by omega) this
  have es : single.mul x 0x41800000 = some (single.write r) := by rw [Format.mul, e1]; rfl
  obtain ⟨n, k, f1, f2, f3, f4⟩ := h.rep
  have hr : Rep t := by
    rw [ht]
    refine ⟨?_, n, k + 4, ?_, f2, by omega⟩
    · rw [Int.natAbs_mul]
      have h16 : (val x).natAbs * 16 ≤ 1024 * one * 16 := Nat.mul_le_mul_right 16 hb
      have e16 : Int.natAbs 16 = 16 := rfl
      rw [e16]
      exact Nat.lt_of_le_of_lt h16 one_few
    · rw [Int.natAbs_mul, f1, Nat.pow_add, Nat.mul_assoc]; rfl
  have hw := has_fin (h1.write (by decide) hr)
  have em : fMul x 0x41800000 = single.write r := by rw [fMul, fmt32, es]; rfl
  refine ⟨by rw [fMulOk, fmt32, es]; rfl, by rw [em]; exact hw.1, by rw [em, hw.2, ht]⟩
theorem int_ok {x : Nat} (h : IsF x) (hb : (val x).natAbs ≤ 1048576 * one) : fIntOk x ∧ (fInt x).natAbs ≤ 1048576 ∧ ∃ s, sg s (val x).natAbs = val x ∧ fInt x = sg s ((val x).natAbs / one) := by
  obtain ⟨s, e1, e2⟩ := Has.toInt (by decide) h.has
  rw [one_nat] at e2
  have hq : (val x).natAbs / one ≤ 1048576 := Nat.div_le_of_le_mul (by rw [Nat.mul_comm]; exact hb)
  have e3 : floatToIntVal .f32 x .i64 = some (sg s ((val x).natAbs / one)) := by
    have : (FloatKind.f32.decode x).toInt .zero = some (sg s ((val x).natAbs / one)) := e2
    rw [floatToIntVal, this]
    simp only
    generalize (val x).natAbs / one = q at *
    have b1 : IntKind.i64.min = -9223372036854775808 := by decide
    have b2 : IntKind.i64.max = 9223372036854775807 := by decide
    rw [if_pos]
    rw [b1, b2]
    cases s <;> simp only [sg, if_true, Bool.false_eq_true, if_false] <;> omega
  refine ⟨by rw [fIntOk, e3]; rfl, by rw [fInt, e3]; simp only [Option.getD_some]; rw [sg_abs]; exact hq, s, e1, by rw [fInt, e3]; rfl⟩
theorem fin_1024 : IsF 0x44800000 ∧ val 0x44800000 = 1024 * (one : Int) :=
  has_fin (lo := -149) ⟨false, 2 ^ 23, -13, by decide +kernel, by decide, by decide +kernel⟩
theorem fin_m1024 : IsF 0xc4800000 ∧ val 0xc4800000 = -(1024 * (one : Int)) :=
  has_fin (lo := -149) ⟨true, 2 ^ 23, -13, by decide +kernel, by decide, by decide +kernel⟩
theorem of_1024 : fOf 1024 = 0x44800000 := by decide +kernel
theorem of_m1024 : fOf (-1024) = 0xc4800000 := by decide +kernel
theorem range_test {x : Nat} (h : IsF x) (h1 : fLt x 0xc4800000 = false) (h2 : fGt x 0x44800000 = false) : (val x).natAbs ≤ 1024 * one := by
  rw [lt_val h fin_m1024.1, fin_m1024.2] at h1
  rw [gt_val h fin_1024.1, fin_1024.2] at h2
  have h1 := of_decide_eq_false h1
  have h2 := of_decide_eq_false h2
  omega
end Fl
end
