/- Calls of Go functions as operations; a region, in the order of the text and in any order. -/
import Derived.Test.YtaigknknfaeajaaGreatDoorVmH
import Derived.Tactics
namespace Go.Vm
noncomputable section

/-! ### Calls -/
structure LR (A : Nat → Prop) (ψ : Nat → Gh) (l l' : List Value) : Prop where
  len : l'.length = l.length
  at_ : ∀ i, VR A ψ (l.getD i poi) (l'.getD i undef)

def CallRes (P : Program) (f : FuncId) (args : List Value) (H : Heap) (out : Out) : Prop :=
  ∀ (F : Fr P) A ψ H1 w args', HRel F A ψ H1 w → LR A ψ args args' → (∀ id ∈ out.D, rd H1 id = rd H id) → (∀ id ∈ out.nu, ¬ A id) →
    Calls P f args'.toArray w (fun e w' => ∃ v' ψ1, e = .returned v' ∧ HRel F (fun id => A id ∨ id ∈ out.nu) ψ1 (ap H1 out.δ) w' ∧ (∀ id, A id → ψ1 id = ψ id) ∧ VR (fun id => A id ∨ id ∈ out.nu) ψ1 out.v v')

abbrev CallF := FuncId → List Value → Heap → Nat → Option Out

def CallOK (P : Program) (call : CallF) : Prop := ∀ f args H nid out, call f args H nid = some out → CallRes P f args H out

def callable (P : Program) (f : FuncId) : Bool :=
  match P.funcs[f]? with
  | some fn => fn.name != "runtime.NumGoroutine" && fn.body.isSome
  | none => false

def evStep (P : Program) (call : CallF) (env : List Value) (H : Heap) (nid : Nat) (o : Oper) : Option Out :=
  match o.op with
  | .call ⟨.value f, args, _⟩ =>
    match ev env f with
    | .func (.func g) first cap => if callable P g then call g (first.toList ++ args.toList.map (ev env) ++ cap.toList) H nid else none
    | _ => none
  | _ => evOp P env H nid o

section
variable {P : Program} {o : Oper} {env env1 : List Value} {H H1 : Heap} {F : Fr P} {A : Nat → Prop} {ψ : Nat → Gh} {a : Act} {w : World}

theorem VR.func_inv {fn : Fn} {xs us : Array Value} {v' : Value} (h : VR A ψ (.func fn xs us) v') :
    ∃ ys vs, v' = .func fn ys vs ∧ LR A ψ xs.toList ys.toList ∧ LR A ψ us.toList vs.toList := by
  have conv : ∀ {xs ys : Array Value}, xs.size = ys.size → (∀ i, VR A ψ (xs.getD i poi) (ys.getD i undef)) → LR A ψ xs.toList ys.toList := fun hs h =>
    ⟨by simp [hs], fun i => by simpa [Array.getD_eq_getD_getElem?, List.getD_eq_getElem?_getD] using h i⟩
  cases h with
  | atom _ ha =>
    cases fn <;> simp [Vm.atom] at ha
    obtain ⟨rfl, rfl⟩ := ha
    exact ⟨#[], #[], rfl, ⟨rfl, fun i => by simp; exact .poison _⟩, ⟨rfl, fun i => by simp; exact .poison _⟩⟩
  | func _ _ ys _ vs hs ht h k => exact ⟨ys, vs, rfl, conv hs h, conv ht k⟩

theorem LR.append {l m l' m' : List Value} (h : LR A ψ l l') (k : LR A ψ m m') : LR A ψ (l ++ m) (l' ++ m') :=
  ⟨by simp [h.len, k.len], get_append h.len h.at_ k.at_⟩

theorem LR.args {args : List Operand} (h : ∀ x ∈ args, VR A ψ (ev env x) (a.eval x)) : LR A ψ (args.map (ev env)) (args.map a.eval) := by
  refine ⟨by simp, fun i => ?_⟩
  by_cases hi : i < args.length
  · have e1 : (args.map (ev env)).getD i poi = ev env args[i] := by simp [List.getD_eq_getElem?_getD, hi]
    have e2 : (args.map a.eval).getD i undef = a.eval args[i] := by simp [List.getD_eq_getElem?_getD, hi]
    rw [e1, e2]; exact h _ (List.getElem_mem _)
  · have e1 : (args.map (ev env)).getD i poi = poi := by simp [List.getD_eq_getElem?_getD, hi]
    rw [e1]; exact .poison _

theorem evStep_ok {call : CallF} (hc : CallOK P call) {nid : Nat} {out : Out} (h : evStep P call env H nid o = some out) : StepOK P o env H out := by
  unfold evStep at h
  split at h
  · rename_i f args ts ho
    split at h
    · rename_i g first cap hf
      split at h
      · rename_i hcall
        intro F A ψ env1 H1 a w hr he hD hn K Q hK
        have h1 := opd hr he (x := f) (by simp [ho, Op.operands, Call.operands])
        rw [hf] at h1
        obtain ⟨ys, vs, e1, l1, l2⟩ := h1.func_inv
        have l3 : LR A ψ (args.toList.map (ev env)) (args.toList.map a.eval) := LR.args fun x hx => opd hr he (by simp [ho, Op.operands, Call.operands]; exact .inr (by simpa using hx))
        have hcalls := hc g _ H nid out h F A ψ H1 w _ hr.heap ((l1.append l3).append l2) hD hn
        unfold callable at hcall
        split at hcall
        · rename_i fn hfn
          simp only [Bool.and_eq_true, bne_iff_ne, ne_eq] at hcall
          have hrun : (execOp a.eval o).run P w = .ok (.enter g (ys ++ args.map a.eval ++ vs)) w := by
            have hb : fn.body ≠ none := by intro hh; simp [hh] at hcall
            simp [execOp, ho, resolve, Deferred.ofValue, e1, invoke, callFunc, hfn, hb, hcall.1]
          unfold Oper.wp
          rw [hrun]
          simp only [Oper.upon]
          have harr : (ys.toList ++ args.toList.map a.eval ++ vs.toList).toArray = ys ++ args.map a.eval ++ vs := by
            apply Array.ext'; simp
          rw [harr] at hcalls
          refine hcalls.mono ?_
          rintro e w' ⟨v', ψ1, rfl, hh, hag, hv⟩
          exact hK ψ1 _ _ (put_rel ⟨fun t => (hr.slot t).mono fun id ha => ⟨.inl ha, hag id ha⟩, hr.len, hr.defers, hh⟩ hv o.dst)
        · cases hcall
      · cases h
    · cases h
  · exact evOp_ok h

/-! ### A region, in the order of the text -/
def wantedA (ops : Array Oper) (env : List Value) (o : Oper) : Option Bool :=
  match o.guard with
  | none => some true
  | some (j, want) =>
    match (ops[j]?).bind (·.dst) with
    | none => some false
    | some t =>
      match gt env t with
      | .bool b => some (b == want)
      | .tuple l => if l.toList.isEmpty then some false else none
      | _ => none

theorem VR.undef_inv {v' : Value} (h : VR A ψ (.tuple #[]) v') : v' = .tuple #[] := by
  obtain ⟨ys, rfl, hs, _⟩ := h.tuple_inv rfl
  congr 1
  apply Array.eq_empty_of_size_eq_zero; simpa using hs.symm

theorem wanted_ok {ops : Array Oper} (hr : Rel F A ψ env H a w) {b : Bool} (h : wantedA ops env o = some b) : Region.wanted o (yielded ops a.tmps) = b := by
  unfold wantedA at h
  unfold Region.wanted
  split at h
  · rename_i hg; cases h; simp [hg]
  · rename_i j want hg
    simp only [hg]
    split at h
    · rename_i hd
      cases h
      simp [yielded, hd]
    · rename_i t hd
      have hs := hr.slot t
      rw [← gt_eq] at hs
      split at h
      · rename_i b' hb
        cases h
        rw [hb] at hs
        have := hs.of_atom rfl
        have h1 : a.tmps[t]? = some (.bool b') := by
          rw [Array.getD_eq_getD_getElem?] at this
          cases h2 : a.tmps[t]? with
          | none => simp [h2, undef] at this
          | some v => simpa [h2] using this
        simp [yielded, hd, h1]
      · rename_i l hl
        split at h
        · rename_i hemp
          cases h
          have hl' : l = #[] := by simpa using hemp
          subst hl'
          rw [hl] at hs
          have := hs.undef_inv
          rw [Array.getD_eq_getD_getElem?] at this
          have h1 : yielded ops a.tmps j = none := by
            unfold yielded
            rw [hd]
            cases h2 : a.tmps[t]? with
            | none => simp [h2]
            | some v => simp [h2] at this; subst this; simp [h2]
          simp [h1]
        · cases h
      · cases h

def freshOK (H : Heap) (out : Out) : Bool := out.nu.all fun id => decide (H.length ≤ id) && decide (id < (ap H out.δ).length)

/-- Values laid out. -/
def fNat {α : Type} (n : Nat) (k : Nat → α) : α := Nat.rec (motive := fun _ => α) (k 0) (fun m _ => k (m + 1)) n
def fInt {α : Type} (n : Int) (k : Int → α) : α := Int.rec (motive := fun _ => α) (fun m => fNat m fun m => k (.ofNat m)) (fun m => fNat m fun m => k (.negSucc m)) n
def fBool {α : Type} (b : Bool) (k : Bool → α) : α := Bool.rec (motive := fun _ => α) (k false) (k true) b
def fList {α : Type} (f : Value → (Value → α) → α) (l : List Value) : (List Value → α) → α :=
  List.rec (motive := fun _ => (List Value → α) → α) (fun k => k []) (fun v _ ih k => f v fun v => ih fun r => k (v :: r)) l
def fVal {α : Type} : Nat → Value → (Value → α) → α
  | 0, v, k => k v
  | d + 1, v, k =>
    match v with
    | .bool b => fBool b fun b => k (.bool b)
    | .int q n => fInt n fun n => k (.int q n)
    | .float q n => fNat n fun n => k (.float q n)
    | .pointer (some ⟨id, off, none⟩) => fNat id fun id => fNat off fun off => k (.pointer (some ⟨id, off, none⟩))
    | .slice (some ⟨id, off, none⟩) len cap => fNat id fun id => fNat off fun off => fNat len fun len => fNat cap fun cap => k (.slice (some ⟨id, off, none⟩) len cap)
    | .map (some id) => fNat id fun id => k (.map (some id))
    | .agg xs => fList (fVal d) xs.toList fun l => k (.agg l.toArray)
    | .tuple xs => fList (fVal d) xs.toList fun l => k (.tuple l.toArray)
    | v => k v

theorem fNat_eq {α : Type} (n : Nat) (k : Nat → α) : fNat n k = k n := by cases n <;> rfl
theorem fInt_eq {α : Type} (n : Int) (k : Int → α) : fInt n k = k n := by
  cases n with
  | ofNat m => exact fNat_eq m (fun m => k (.ofNat m))
  | negSucc m => exact fNat_eq m (fun m => k (.negSucc m))
theorem fBool_eq {α : Type} (b : Bool) (k : Bool → α) : fBool b k = k b := by cases b <;> rfl
theorem fList_eq {α : Type} {f : Value → (Value → α) → α} (hf : ∀ v k, f v k = k v) : ∀ (l : List Value) (k : List Value → α), fList f l k = k l
  | [], _ => rfl
  | v :: r, k => by show f v _ = _; rw [hf]; exact fList_eq hf r _
theorem fVal_eq {α : Type} : ∀ (d : Nat) (v : Value) (k : Value → α), fVal d v k = k v
  | 0, _, _ => rfl
  | d + 1, v, k => by
    unfold fVal
    split <;> simp only [fBool_eq, fInt_eq, fNat_eq, fList_eq (fVal_eq d)]

def evOps (P : Program) (call : CallF) (fd : Nat) (ops : Array Oper) : List Oper → List Value → Heap → Option (List Value × Heap)
  | [], env, H => some (env, H)
  | o :: rest, env, H =>
    match wantedA ops env o with
    | some true =>
      match evStep P call env H H.length o with
      | some out => if freshOK H out then fVal fd out.v fun v => evOps P call fd ops rest (put env o.dst v) (ap H out.δ) else none
      | none => none
    | some false => evOps P call fd ops rest (put env o.dst undef) H
    | none => none

theorem len_ap : ∀ (δ : Delta) (H : Heap), H.length ≤ (ap H δ).length
  | [], _ => Nat.le_refl _
  | (i, o) :: r, H => Nat.le_trans (len_wr H i o).1 (len_ap r _)

theorem fresh_spec {out : Out} (h : freshOK H out = true) (hb : ∀ id, A id → id < H.length) : (∀ id ∈ out.nu, ¬ A id) ∧ ∀ id, (A id ∨ id ∈ out.nu) → id < (ap H out.δ).length := by
  simp only [freshOK, List.all_eq_true, Bool.and_eq_true, decide_eq_true_eq] at h
  refine ⟨fun id hi ha => ?_, fun id hi => ?_⟩
  · have := (h id hi).1; have := hb id ha; omega
  · rcases hi with hi | hi
    · exact Nat.lt_of_lt_of_le (hb id hi) (len_ap _ _)
    · exact (h id hi).2

theorem skip_rel (hr : Rel F A ψ env H a w) (dst : Option Tmp) : Rel F A ψ (put env dst undef) H (a.put dst undef) w := put_rel hr .refl_undef dst

theorem evOps_plain {call : CallF} (hc : CallOK P call) {fd : Nat} {ops : Array Oper} : ∀ (l : List Oper) (env : List Value) (H : Heap) (r : List Value × Heap), evOps P call fd ops l env H = some r →
    ∀ (F : Fr P) A ψ a w (Q : Exit → Act → World → Prop), Rel F A ψ env H a w → (∀ id, A id → id < H.length) → (∀ A' ψ' a' w', Rel F A' ψ' r.1 r.2 a' w' → (∀ id, A' id → id < r.2.length) → Q .normal a' w') → wpList P ops Q l a w := by
  intro l
  induction l with
  | nil =>
    intro env H r h F A ψ a w Q hr hb hQ
    simp only [evOps, Option.some.injEq] at h
    subst h
    exact hQ _ _ _ _ hr hb
  | cons o rest ih =>
    intro env H r h F A ψ a w Q hr hb hQ
    simp only [evOps, fVal_eq] at h
    simp only [wpList]
    split at h
    · rename_i hw
      rw [wanted_ok hr hw]
      simp only [if_true]
      split at h
      · rename_i out hs
        split at h
        · rename_i hf
          obtain ⟨h1, h2⟩ := fresh_spec hf hb
          refine .inl (evStep_ok hc hs F A ψ env H a w hr (fun _ _ => rfl) (fun _ _ => rfl) h1 _ _ fun ψ1 a1 w1 hr1 => ?_)
          exact ih _ _ _ h _ _ _ _ _ _ hr1 h2 hQ
        · cases h
      · cases h
    · rename_i hw
      rw [wanted_ok hr hw]
      simp only [Bool.false_eq_true, if_false]
      exact ih _ _ _ h _ _ _ _ _ _ (skip_rel hr o.dst) hb hQ
    · cases h

end
end
end Go.Vm
