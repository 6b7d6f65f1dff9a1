/- Structs and arrays, compared value by value. -/
import Derived.Test.YtaigknknfaeajaaGreatDoorVmQ
import Derived.Laws.StructEq
import Derived.ChangeKeysEq
namespace Go.Vm
noncomputable section

def eqFs (P : Program) (rec : TypeId → Value → Value → Option Bool) (xs ys : List Value) : List Field → Option Bool
  | [] => some true
  | f :: r =>
    if f.name ≠ "_" then
      match evPart P f.type xs f.offset, evPart P f.type ys f.offset with
      | some a, some b =>
        match rec f.type a b, eqFs P rec xs ys r with
        | some p, some q => some (p && q)
        | _, _ => none
      | _, _ => none
    else eqFs P rec xs ys r

def eqIs (P : Program) (rec : TypeId → Value → Value → Option Bool) (e : TypeId) (n : Nat) (xs ys : List Value) : List Nat → Option Bool
  | [] => some true
  | j :: r =>
    match evPart P e xs (j * n), evPart P e ys (j * n) with
    | some a, some b =>
      match rec e a b, eqIs P rec e n xs ys r with
      | some p, some q => some (p && q)
      | _, _ => none
    | _, _ => none

def eqB (P : Program) : Nat → TypeId → Value → Value → Option Bool
  | 0, _, _, _ => none
  | d + 1, t, x, y =>
    match P.underlying t, x, y with
    | some .bool, .bool a, .bool b => some (a == b)
    | some (.int _), .int k a, .int k' b => if k = k' then some (a == b) else none
    | some .string, .string a, .string b => some (a == b)
    | some (.struct fields), .agg xs, .agg ys => if P.stoodInHeld t then none else eqFs P (eqB P d) xs.toList ys.toList fields.toList
    | some (.array n e), .agg xs, .agg ys => if P.info? e = none then none else eqIs P (eqB P d) e (P.cellsOf e) xs.toList ys.toList (List.range n)
    | _, _, _ => none

section
variable {P : Program}

theorem part_run {t : TypeId} {xs : Array Value} {off : Nat} {v : Value} (hp : evPart P t xs.toList off = some v) (w : World) : (part t xs off).run P w = .ok v w := by
  unfold evPart at hp
  split at hp
  · rename_i d i hu hi
    split at hp
    · rename_i hrow
      split at hp
      · rename_i hle
        cases hp
        have : xs.extract off (off + i.size) = ((xs.toList.drop off).take i.size).toArray := by
          apply Array.ext'
          simp
        simp [part, run_isAgg' hu, hrow, sizeOf, typeInfo, hi, this]
      · cases hp
    · rename_i hrow
      have hrow' : d.isRow = false := by simpa using hrow
      have : xs[off]? = some v := by simpa using hp
      simp [part, run_isAgg' hu, hrow', this]
  · cases hp

theorem eqFs_run {rec : TypeId → Value → Value → Option Bool} {d : Nat} (hrec : ∀ t x y b w, rec t x y = some b → (Op.equalIn d t x y).run P w = .ok b w) {xs ys : Array Value} :
    ∀ (fs : List Field) (b : Bool) (w : World), eqFs P rec xs.toList ys.toList fs = some b → (Op.eqFields d xs ys fs).run P w = .ok b w
  | [], b, w, h => by simp [eqFs] at h; subst h; rfl
  | f :: r, b, w, h => by
    simp only [eqFs] at h
    unfold Op.eqFields
    split at h
    · rename_i hf
      rw [if_pos hf]
      split at h
      · rename_i x y hx hy
        split at h
        · rename_i p q hp hq
          cases h
          simp only [Sem.run_bind, part_run hx, part_run hy, Result.andThen_ok, hrec _ _ _ _ _ hp]
          cases p
          · simp
          · simpa using eqFs_run hrec r q w hq
        · cases h
      · cases h
    · rename_i hf
      rw [if_neg hf]
      exact eqFs_run hrec r b w h

theorem eqIs_run {rec : TypeId → Value → Value → Option Bool} {d : Nat} (hrec : ∀ t x y b w, rec t x y = some b → (Op.equalIn d t x y).run P w = .ok b w) {e : TypeId} {n : Nat} {xs ys : Array Value} :
    ∀ (is : List Nat) (b : Bool) (w : World), eqIs P rec e n xs.toList ys.toList is = some b → (Op.eqItems d e n xs ys is).run P w = .ok b w
  | [], b, w, h => by simp [eqIs] at h; subst h; rfl
  | j :: r, b, w, h => by
    simp only [eqIs] at h
    unfold Op.eqItems
    split at h
    · rename_i x y hx hy
      split at h
      · rename_i p q hp hq
        cases h
        simp only [Sem.run_bind, part_run hx, part_run hy, Result.andThen_ok, hrec _ _ _ _ _ hp]
        cases p
        · simp
        · simpa using eqIs_run hrec r q w hq
      · cases h
    · cases h

theorem eqB_run (m : Nat) : ∀ (d : Nat) (t : TypeId) (x y : Value) (b : Bool) (w : World), eqB P d t x y = some b → (Op.equalIn (d + m) t x y).run P w = .ok b w
  | 0, t, x, y, b, w, h => by simp [eqB] at h
  | d + 1, t, x, y, b, w, h => by
    have e : d + 1 + m = (d + m) + 1 := by omega
    rw [e]
    simp only [eqB] at h
    split at h
    · rename_i hu; cases h; exact run_equalIn_bool' w _ t _ _ hu
    · rename_i k0 k x k' y hu
      split at h
      · rename_i hk; subst hk; cases h; exact run_equalIn_int w _ t _ _ _ _ hu
      · cases h
    · rename_i x y hu; cases h; rw [run_equalIn_string w _ t _ _ hu, beq_toListBytes]
    · rename_i fields xs ys hu
      split at h
      · cases h
      · rename_i hs
        have hf : P.fieldsOf t = fields := by simp [Program.fieldsOf, hu]
        rw [run_equalIn_struct w _ t xs ys (by rw [hf]; exact hu) (by simpa using hs), hf]
        exact eqFs_run (fun t x y b w h => eqB_run m d t x y b w h) _ _ _ h
    · rename_i n e xs ys hu
      split at h
      · cases h
      · rename_i hs
        obtain ⟨i, hi⟩ := Option.ne_none_iff_exists'.1 hs
        rw [run_equalIn_array w _ xs ys hu hi]
        exact eqIs_run (fun t x y b w h => eqB_run m d t x y b w h) _ _ _ h
    · cases h

def fEq (P : Program) (o : Oper) (env : List Value) (_ : Heap) : Option (Out × Prop) :=
  match o.op with
  | .binOp op t x y _ =>
    match ev env x, ev env y with
    | .agg xs, .agg ys =>
      if ground (.agg xs) && ground (.agg ys) && !P.eqGuardType P.depth t then
        match op, eqB P 6 t (.agg xs) (.agg ys) with
        | .eql, some b => some (⟨.bool b, [], [], []⟩, True)
        | .neq, some b => some (⟨.bool (!b), [], [], []⟩, True)
        | _, _ => none
      else none
    | _, _ => none
  | _ => none

def hEq (P : Program) : Hint P where
  fn := fEq P
  ok := by
    intro o env H out vc h _
    unfold fEq at h
    split at h
    · rename_i op t x y yt ho
      split at h
      · rename_i xs ys hx hy
        split at h
        · rename_i hc
          simp only [Bool.and_eq_true, Bool.not_eq_true'] at hc
          obtain ⟨⟨g1, g2⟩, g3⟩ := hc
          have key : ∀ (b : Bool), eqB P 6 t (.agg xs) (.agg ys) = some b → ∀ w : World, (Op.equalIn 10000 t (.agg xs) (.agg ys)).run P w = .ok b w := fun b hb w => eqB_run 9994 6 t _ _ b w hb
          have fin : ∀ (op' : BinOp) (b : Bool), op = op' → (∀ w : World, (binOp op' t (.agg xs) (.agg ys)).run P w = .ok (.bool b) w) → StepOK P o env H ⟨.bool b, [], [], []⟩ := by
            intro op' b e hb
            subst e
            refine StepOK.value fun F A ψ env1 H1 ac w hr he _ => ⟨.bool b, ?_, .atom _ rfl⟩
            have h1 := opd hr he (x := x) (by simp [ho, Op.operands])
            have h2 := opd hr he (x := y) (by simp [ho, Op.operands])
            rw [hx] at h1; rw [hy] at h2
            have e1 := h1.of_ground g1
            have e2 := h2.of_ground g2
            simp only [execOp, ho, e1, e2]
            rw [Sem.run_bind, Sem.run_bind, run_eqGuard_agg w op t x y xs ys g3, Result.andThen_ok, hb w]
            rfl
          split at h
          · rename_i b hb
            cases h
            exact fin .eql b rfl fun w => by rw [run_eql_struct, key b hb w]; rfl
          · rename_i b hb
            cases h
            exact fin .neq (!b) rfl fun w => by rw [run_neq_struct, key b hb w]; rfl
          · cases h
        · cases h
      · cases h
    · cases h

end
end
end Go.Vm
