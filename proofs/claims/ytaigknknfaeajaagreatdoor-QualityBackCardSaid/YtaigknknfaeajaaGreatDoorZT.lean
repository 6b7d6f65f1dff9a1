/- Parts of the proof: VmAK, VmAM. -/
import Derived.Test.YtaigknknfaeajaaGreatDoorZC
import Derived.Laws.FloatArith
import Derived.Laws.NewFold
section
/- Floats of 32 bits that are not known: operations with named results. -/
open Go
namespace Sp
noncomputable section
def fMul (x y : Nat) : Nat := (FloatKind.f32.format.mul x y).getD 0
def fMulOk (x y : Nat) : Prop := (FloatKind.f32.format.mul x y).isSome = true
def fDiv (x y : Nat) : Nat := (FloatKind.f32.format.div x y).getD 0
def fDivOk (x y : Nat) : Prop := (FloatKind.f32.format.div x y).isSome = true
def fAdd (x y : Nat) : Nat := (FloatKind.f32.format.add x y).getD 0
def fAddOk (x y : Nat) : Prop := (FloatKind.f32.format.add x y).isSome = true
def fLt (x y : Nat) : Bool := FloatKind.f32.format.order x y == some .lt
def fGt (x y : Nat) : Bool := FloatKind.f32.format.order x y == some .gt
def fEq (x y : Nat) : Bool := FloatKind.f32.format.order x y == some .eq
def fNe (x y : Nat) : Bool := FloatKind.f32.format.order x y != some .eq
def fInt (x : Nat) : Int := (floatToIntVal .f32 x .i64).getD 0
def fIntOk (x : Nat) : Prop := (floatToIntVal .f32 x .i64).isSome = true
def fOf (n : Int) : Nat := floatOfInt .f32 n
/-- A bit pattern that is no number. -/
def isNaN (r : Nat) : Prop := ∃ t : Nat, r = (t % 2) * 2 ^ 31 + 0x7f800000 + 1 + (t / 2) % (2 ^ 23 - 1)
/-- The difference of two floats: if it is not valid, no number. -/
def fDif (x y r : Nat) : Prop := FloatKind.f32.format.sub x y = some r ∨ (FloatKind.f32.format.sub x y = none ∧ isNaN r)
end
end Sp
namespace Go.Vm
noncomputable section
/-- What an operation on two floats gives. -/
def flBin (op : BinOp) (a b : Nat) : Option (Value × Prop) :=
  match op with
  | .mul => some (.float .f32 (Sp.fMul a b), Sp.fMulOk a b)
  | .quo => some (.float .f32 (Sp.fDiv a b), Sp.fDivOk a b)
  | .add => some (.float .f32 (Sp.fAdd a b), Sp.fAddOk a b)
  | .lss => some (.bool (Sp.fLt a b), True)
  | .gtr => some (.bool (Sp.fGt a b), True)
  | .eql => some (.bool (Sp.fEq a b), True)
  | .neq => some (.bool (Sp.fNe a b), True)
  | _ => none
theorem getD_of_isSome {α : Type} {o : Option α} {z : α} (h : o.isSome = true) : o = some (o.getD z) := by
  cases o with
  | none => cases h
  | some => rfl
theorem flBin_run {P : Program} {w : World} {op : BinOp} {t : TypeId} {x y : Operand} {a b : Nat} {v : Value} {c : Prop} (h : flBin op a b = some (v, c)) (hc : c) :
    (do eqGuard op t x y (.float .f32 a) (.float .f32 b); binOp op t (.float .f32 a) (.float .f32 b) : Sem Value).run P w = .ok v w ∧ atom v = true := by
  have hg : (eqGuard op t x y (.float .f32 a) (.float .f32 b)).run P w = .ok () w := by
    unfold eqGuard; cases op <;> rfl
  rw [Sem.run_bind, hg]
  unfold flBin at h
  split at h
  all_goals first
    | (cases h
       first
         | exact ⟨run_float_arith w _ t .f32 a b _ (getD_of_isSome hc), rfl⟩
         | exact ⟨by simp [binOp, Op.floatCmp, Sp.fLt, Sp.fGt, Sp.fEq, Sp.fNe], rfl⟩)
    | cases h
/-- An operation on floats, or a conversion from or to one. -/
def fFl (P : Program) (o : Oper) (env : List Value) (_ : Heap) : Option (Out × Prop) :=
  match o.op with
  | .binOp op _ x y _ =>
    match ev env x, ev env y with
    | .float .f32 a, .float .f32 b => (flBin op a b).map fun p => (⟨p.1, [], [], []⟩, p.2)
    | _, _ => none
  | .convert src dst x =>
    match P.underlying src, P.underlying dst, ev env x with
    | some _, some (.int .i64), .float .f32 a => some (⟨.int .i64 (Sp.fInt a), [], [], []⟩, Sp.fIntOk a)
    | some _, some (.float .f32), .int _ n => some (⟨.float .f32 (Sp.fOf n), [], [], []⟩, True)
    | _, _, _ => none
  | _ => none

def hFl (P : Program) : Hint P where
  fn := fFl P
  ok := by
    intro o env H out vc h hv
    unfold fFl at h
    split at h
    · rename_i op t x y yt ho
      split at h
      · rename_i a b hx hy
        obtain ⟨⟨v, c⟩, h1, h2⟩ := Option.map_eq_some_iff.1 h
        cases h2
        refine StepOK.value fun F A ψ env1 H1 ac w hr he _ => ⟨v, ?_, .atom _ (flBin_run (P := P) (w := w) (t := t) (x := x) (y := y) h1 hv).2⟩
        have q1 := opd hr he (x := x) (by simp [ho, Op.operands])
        have q2 := opd hr he (x := y) (by simp [ho, Op.operands])
        rw [hx] at q1; rw [hy] at q2
        have e1 := q1.of_atom rfl
        have e2 := q2.of_atom rfl
        have := (flBin_run (P := P) (w := w) (t := t) (x := x) (y := y) h1 hv).1
        simp only [execOp, ho, e1, e2]
        rw [Sem.run_bind, this]; rfl
      · cases h
    · rename_i src dst x ho
      split at h
      · rename_i u a hs hd hx
        cases h
        refine StepOK.value fun F A ψ env1 H1 ac w hr he _ => ⟨.int .i64 (Sp.fInt a), ?_, .atom _ rfl⟩
        have q1 := opd hr he (x := x) (by simp [ho, Op.operands])
        rw [hx] at q1
        have e1 := q1.of_atom rfl
        have := run_convert_float_int (P := P) w src dst .f32 .i64 a (Sp.fInt a) (by rw [hs]; rfl) hd (getD_of_isSome (z := 0) hv)
        simp only [execOp, ho, e1]
        rw [Sem.run_bind, this]; rfl
      · rename_i u k n hs hd hx
        cases h
        refine StepOK.value fun F A ψ env1 H1 ac w hr he _ => ⟨.float .f32 (Sp.fOf n), ?_, .atom _ rfl⟩
        have q1 := opd hr he (x := x) (by simp [ho, Op.operands])
        rw [hx] at q1
        have e1 := q1.of_atom rfl
        have := run_convert_int_float (P := P) w src dst k .f32 n (by rw [hs]; rfl) hd
        simp only [execOp, ho, e1]
        rw [Sem.run_bind, this]; rfl
      · cases h
    · cases h

/-- A difference of floats: one number, or any bits that are no number. -/
def fDf (o : Oper) (env : List Value) : Option ((Nat → Value) × (Nat → Prop)) :=
  match o.op with
  | .binOp .sub _ x y _ =>
    match ev env x, ev env y with
    | .float .f32 a, .float .f32 b => some (fun r => .float .f32 r, Sp.fDif a b)
    | _, _ => none
  | _ => none

def hDf (P : Program) : HintN P where
  α := Nat
  fn := fDf
  ok := by
    intro o env f c h
    unfold fDf at h
    split at h
    · rename_i t x y yt ho
      split at h
      · rename_i a b hx hy
        cases h
        intro F A ψ env1 H1 ac w hr he
        have q1 := opd hr he (x := x) (by simp [ho, Op.operands])
        have q2 := opd hr he (x := y) (by simp [ho, Op.operands])
        rw [hx] at q1; rw [hy] at q2
        have e1 := q1.of_atom rfl
        have e2 := q2.of_atom rfl
        have hg : ∀ w : World, (eqGuard .sub t x y (.float .f32 a) (.float .f32 b)).run P w = .ok () w := fun w => by
          unfold eqGuard; rfl
        cases hs : FloatKind.f32.format.sub a b with
        | some r =>
          refine ⟨.float .f32 r, w, ?_, hr.heap, r, .inl hs, .atom _ rfl⟩
          have := run_float_arith (P := P) w .sub t .f32 a b r hs
          simp only [execOp, ho, e1, e2]
          rw [Sem.run_bind, Sem.run_bind, hg, Result.andThen_ok, this]; rfl
        | none =>
          refine ⟨.float .f32 ((Question.nanBits .f32 a b).cut (w.tape w.drawn (.nanBits .f32 a b))), w.drew, ?_, hr.heap.alike rfl rfl rfl rfl, _, .inr ⟨hs, w.tape w.drawn (.nanBits .f32 a b), rfl⟩, .atom _ rfl⟩
          have : (binOp .sub t (.float .f32 a) (.float .f32 b)).run P w = .ok (.float .f32 ((Question.nanBits .f32 a b).cut (w.tape w.drawn (.nanBits .f32 a b)))) w.drew := by
            simp [binOp, Op.floatArith, hs, Question.forced]
          simp only [execOp, ho, e1, e2]
          rw [Sem.run_bind, Sem.run_bind, hg, Result.andThen_ok, this]; rfl
      · cases h
    · cases h
end
end Go.Vm
end
section
/- One hint or another; floats by their operations. -/
open Go
namespace Go.Vm
noncomputable section
/-- The first hint that has an answer. -/
def hOr {P : Program} (h1 h2 : Hint P) : Hint P where
  fn := fun o env H => match h1.fn o env H with
    | some r => some r
    | none => h2.fn o env H
  ok := by
    intro o env H out vc h hv
    split at h
    · rename_i r hr
      cases h
      exact h1.ok hr hv
    · exact h2.ok h hv
/-- Floats are asked for first. -/
def auF {P : Program} (l : List (Nat × Hint P)) (o : Oper) : Option (Hint P) :=
  match o.op with
  | .binOp _ _ _ _ _ => match auCalls l o with
    | some h => some (hOr (hFl P) h)
    | none => some (hFl P)
  | .convert _ _ _ => match auCalls l o with
    | some h => some (hOr (hFl P) h)
    | none => some (hFl P)
  | _ => auCalls l o
end
end Go.Vm
end
