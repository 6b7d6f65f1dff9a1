/- Parts of the proof: VmI, VmJ, VmK, VmL, VmM, VmN, VmO. -/
import Derived.Test.YtbamclejfkddmaaZA
import Derived.Tactics
import Derived.LoopN
import Derived.RangeFuncLeaves
import Derived.RangeFuncSeq
import Derived.OrdersIn
import Derived.TacticsIn
import Derived.LoopNIn
section
/- Calls of Go functions as operations; a region, in the order of the text and in any order. -/
namespace Go.Vm
noncomputable section

/-! ### Calls -/
structure LR (A : Nat → Prop) (ψ : Nat → Gh) (l l' : List Value) : Prop where
  len : l'.length = l.length
  at_ : ∀ i, VR A ψ (l.getD i poi) (l'.getD i undef)

def CallRes (P : Program) (f : FuncId) (args : List Value) (H : Heap) (out : Out) : Prop :=
  ∀ (F : Fr P) A ψ H1 w args', HRel F A ψ H1 w → LR A ψ args args' → (∀ id ∈ out.D, rd H1 id = rd H id) → (∀ id ∈ out.nu, ¬ A id) →
    Calls P f args'.toArray w (fun e w' => ∃ v' ψ1, e = .returned v' ∧ HRel F (fun id => A id ∨ id ∈ out.nu) ψ1 (ap H1 out.δ) w' ∧ (∀ id, A id → ψ1 id = ψ id) ∧ VR (fun id => A id ∨ id ∈ out.nu) ψ1 out.v v')

abbrev CallF := FuncId → List Value → Heap → Nat → Option Out

def CallOK (P : Program) (call : CallF) : Prop := ∀ f args H nid out, call f args H nid = some out → CallRes P f args H out

def callable (P : Program) (f : FuncId) : Bool :=
  match P.funcs[f]? with
  | some fn => fn.name != "runtime.NumGoroutine" && fn.body.isSome
  | none => false

def evStep (P : Program) (call : CallF) (env : List Value) (H : Heap) (nid : Nat) (o : Oper) : Option Out :=
  match o.op with
  | .call ⟨.value f, args, _⟩ =>
    match ev env f with
    | .func (.func g) first cap => if callable P g then call g (first.toList ++ args.toList.map (ev env) ++ cap.toList) H nid else none
    | _ => none
  | _ => evOp P env H nid o

section
variable {P : Program} {o : Oper} {env env1 : List Value} {H H1 : Heap} {F : Fr P} {A : Nat → Prop} {ψ : Nat → Gh} {a : Act} {w : World}

theorem VR.func_inv {fn : Fn} {xs us : Array Value} {v' : Value} (h : VR A ψ (.func fn xs us) v') :
    ∃ ys vs, v' = .func fn ys vs ∧ LR A ψ xs.toList ys.toList ∧ LR A ψ us.toList vs.toList := by
  have conv : ∀ {xs ys : Array Value}, xs.size = ys.size → (∀ i, VR A ψ (xs.getD i poi) (ys.getD i undef)) → LR A ψ xs.toList ys.toList := fun hs h =>
    ⟨by simp [hs], fun i => by simpa [Array.getD_eq_getD_getElem?, List.getD_eq_getElem?_getD] using h i⟩
  cases h with
  | atom _ ha =>
    cases fn <;> simp [Vm.atom] at ha
    obtain ⟨rfl, rfl⟩ := ha
    exact ⟨#[], #[], rfl, ⟨rfl, fun i => by simp; exact .poison _⟩, ⟨rfl, fun i => by simp; exact .poison _⟩⟩
  | func _ _ ys _ vs hs ht h k => exact ⟨ys, vs, rfl, conv hs h, conv ht k⟩

theorem LR.append {l m l' m' : List Value} (h : LR A ψ l l') (k : LR A ψ m m') : LR A ψ (l ++ m) (l' ++ m') :=
  ⟨by simp [h.len, k.len], get_append h.len h.at_ k.at_⟩

theorem LR.args {args : List Operand} (h : ∀ x ∈ args, VR A ψ (ev env x) (a.eval x)) : LR A ψ (args.map (ev env)) (args.map a.eval) := by
  refine ⟨by simp, fun i => ?_⟩
  by_cases hi : i < args.length
  · have e1 : (args.map (ev env)).getD i poi = ev env args[i] := by simp [List.getD_eq_getElem?_getD, hi]
    have e2 : (args.map a.eval).getD i undef = a.eval args[i] := by simp [List.getD_eq_getElem?_getD, hi]
    rw [e1, e2]; exact h _ (List.getElem_mem _)
  · have e1 : (args.map (ev env)).getD i poi = poi := by simp [List.getD_eq_getElem?_getD, hi]
    rw [e1]; exact .poison _

theorem evStep_ok {call : CallF} (hc : CallOK P call) {nid : Nat} {out : Out} (h : evStep P call env H nid o = some out) : StepOK P o env H out := by
  unfold evStep at h
  split at h
  · rename_i f args ts ho
    split at h
    · rename_i g first cap hf
      split at h
      · rename_i hcall
        intro F A ψ env1 H1 a w hr he hD hn K Q hK
        have h1 := opd hr he (x := f) (by simp [ho, Op.operands, Call.operands])
        rw [hf] at h1
        obtain ⟨ys, vs, e1, l1, l2⟩ := h1.func_inv
        have l3 : LR A ψ (args.toList.map (ev env)) (args.toList.map a.eval) := LR.args fun x hx => opd hr he (by simp [ho, Op.operands, Call.operands]; exact .inr (by simpa using hx))
        have hcalls := hc g _ H nid out h F A ψ H1 w _ hr.heap ((l1.append l3).append l2) hD hn
        unfold callable at hcall
        split at hcall
        · rename_i fn hfn
          simp only [Bool.and_eq_true, bne_iff_ne, ne_eq] at hcall
          have hrun : (execOp a.eval o).run P w = .ok (.enter g (ys ++ args.map a.eval ++ vs)) w := by
            have hb : fn.body ≠ none := by intro hh; simp [hh] at hcall
            simp [execOp, ho, resolve, Deferred.ofValue, e1, invoke, callFunc, hfn, hb, hcall.1]
          unfold Oper.wp
          rw [hrun]
          simp only [Oper.upon]
          have harr : (ys.toList ++ args.toList.map a.eval ++ vs.toList).toArray = ys ++ args.map a.eval ++ vs := by
            apply Array.ext'; simp
          rw [harr] at hcalls
          refine hcalls.mono ?_
          rintro e w' ⟨v', ψ1, rfl, hh, hag, hv⟩
          exact hK ψ1 _ _ (put_rel ⟨fun t => (hr.slot t).mono fun id ha => ⟨.inl ha, hag id ha⟩, hr.len, hr.defers, hh⟩ hv o.dst)
        · cases hcall
      · cases h
    · cases h
  · exact evOp_ok h

/-! ### A region, in the order of the text -/
def wantedA (ops : Array Oper) (env : List Value) (o : Oper) : Option Bool :=
  match o.guard with
  | none => some true
  | some (j, want) =>
    match (ops[j]?).bind (·.dst) with
    | none => some false
    | some t =>
      match gt env t with
      | .bool b => some (b == want)
      | .tuple l => if l.toList.isEmpty then some false else none
      | _ => none

theorem VR.undef_inv {v' : Value} (h : VR A ψ (.tuple #[]) v') : v' = .tuple #[] := by
  obtain ⟨ys, rfl, hs, _⟩ := h.tuple_inv rfl
  congr 1
  apply Array.eq_empty_of_size_eq_zero; simpa using hs.symm

theorem wanted_ok {ops : Array Oper} (hr : Rel F A ψ env H a w) {b : Bool} (h : wantedA ops env o = some b) : Region.wanted o (yielded ops a.tmps) = b := by
  unfold wantedA at h
  unfold Region.wanted
  split at h
  · rename_i hg; cases h; simp [hg]
  · rename_i j want hg
    simp only [hg]
    split at h
    · rename_i hd
      cases h
      simp [yielded, hd]
    · rename_i t hd
      have hs := hr.slot t
      rw [← gt_eq] at hs
      split at h
      · rename_i b' hb
        cases h
        rw [hb] at hs
        have := hs.of_atom rfl
        have h1 : a.tmps[t]? = some (.bool b') := by
          rw [Array.getD_eq_getD_getElem?] at this
          cases h2 : a.tmps[t]? with
          | none => simp [h2, undef] at this
          | some v => simpa [h2] using this
        simp [yielded, hd, h1]
      · rename_i l hl
        split at h
        · rename_i hemp
          cases h
          have hl' : l = #[] := by simpa using hemp
          subst hl'
          rw [hl] at hs
          have := hs.undef_inv
          rw [Array.getD_eq_getD_getElem?] at this
          have h1 : yielded ops a.tmps j = none := by
            unfold yielded
            rw [hd]
            cases h2 : a.tmps[t]? with
            | none => simp [h2]
            | some v => simp [h2] at this; subst this; simp [h2]
          simp [h1]
        · cases h
      · cases h

def freshOK (H : Heap) (out : Out) : Bool := out.nu.all fun id => decide (H.length ≤ id) && decide (id < (ap H out.δ).length)

/-- Values laid out. -/
def fNat {α : Type} (n : Nat) (k : Nat → α) : α := Nat.rec (motive := fun _ => α) (k 0) (fun m _ => k (m + 1)) n
def fInt {α : Type} (n : Int) (k : Int → α) : α := Int.rec (motive := fun _ => α) (fun m => fNat m fun m => k (.ofNat m)) (fun m => fNat m fun m => k (.negSucc m)) n
def fBool {α : Type} (b : Bool) (k : Bool → α) : α := Bool.rec (motive := fun _ => α) (k false) (k true) b
def fList {α : Type} (f : Value → (Value → α) → α) (l : List Value) : (List Value → α) → α :=
  List.rec (motive := fun _ => (List Value → α) → α) (fun k => k []) (fun v _ ih k => f v fun v => ih fun r => k (v :: r)) l
def fVal {α : Type} : Nat → Value → (Value → α) → α
  | 0, v, k => k v
  | d + 1, v, k =>
    match v with
    | .bool b => fBool b fun b => k (.bool b)
    | .int q n => fInt n fun n => k (.int q n)
    | .float q n => fNat n fun n => k (.float q n)
    | .pointer (some ⟨id, off, none⟩) => fNat id fun id => fNat off fun off => k (.pointer (some ⟨id, off, none⟩))
    | .slice (some ⟨id, off, none⟩) len cap => fNat id fun id => fNat off fun off => fNat len fun len => fNat cap fun cap => k (.slice (some ⟨id, off, none⟩) len cap)
    | .map (some id) => fNat id fun id => k (.map (some id))
    | .agg xs => fList (fVal d) xs.toList fun l => k (.agg l.toArray)
    | .tuple xs => fList (fVal d) xs.toList fun l => k (.tuple l.toArray)
    | v => k v

theorem fNat_eq {α : Type} (n : Nat) (k : Nat → α) : fNat n k = k n := by cases n <;> rfl
theorem fInt_eq {α : Type} (n : Int) (k : Int → α) : fInt n k = k n := by
  cases n with
  | ofNat m => exact fNat_eq m (fun m => k (.ofNat m))
  | negSucc m => exact fNat_eq m (fun m => k (.negSucc m))
theorem fBool_eq {α : Type} (b : Bool) (k : Bool → α) : fBool b k = k b := by cases b <;> rfl
theorem fList_eq {α : Type} {f : Value → (Value → α) → α} (hf : ∀ v k, f v k = k v) : ∀ (l : List Value) (k : List Value → α), fList f l k = k l
  | [], _ => rfl
  | v :: r, k => by show f v _ = _; rw [hf]; exact fList_eq hf r _
theorem fVal_eq {α : Type} : ∀ (d : Nat) (v : Value) (k : Value → α), fVal d v k = k v
  | 0, _, _ => rfl
  | d + 1, v, k => by
    unfold fVal
    split <;> simp only [fBool_eq, fInt_eq, fNat_eq, fList_eq (fVal_eq d)]

def evOps (P : Program) (call : CallF) (fd : Nat) (ops : Array Oper) : List Oper → List Value → Heap → Option (List Value × Heap)
  | [], env, H => some (env, H)
  | o :: rest, env, H =>
    match wantedA ops env o with
    | some true =>
      match evStep P call env H H.length o with
      | some out => if freshOK H out then fVal fd out.v fun v => evOps P call fd ops rest (put env o.dst v) (ap H out.δ) else none
      | none => none
    | some false => evOps P call fd ops rest (put env o.dst undef) H
    | none => none

theorem len_ap : ∀ (δ : Delta) (H : Heap), H.length ≤ (ap H δ).length
  | [], _ => Nat.le_refl _
  | (i, o) :: r, H => Nat.le_trans (len_wr H i o).1 (len_ap r _)

theorem fresh_spec {out : Out} (h : freshOK H out = true) (hb : ∀ id, A id → id < H.length) : (∀ id ∈ out.nu, ¬ A id) ∧ ∀ id, (A id ∨ id ∈ out.nu) → id < (ap H out.δ).length := by
  simp only [freshOK, List.all_eq_true, Bool.and_eq_true, decide_eq_true_eq] at h
  refine ⟨fun id hi ha => ?_, fun id hi => ?_⟩
  · have := (h id hi).1; have := hb id ha; omega
  · rcases hi with hi | hi
    · exact Nat.lt_of_lt_of_le (hb id hi) (len_ap _ _)
    · exact (h id hi).2

theorem skip_rel (hr : Rel F A ψ env H a w) (dst : Option Tmp) : Rel F A ψ (put env dst undef) H (a.put dst undef) w := put_rel hr .refl_undef dst

theorem evOps_plain {call : CallF} (hc : CallOK P call) {fd : Nat} {ops : Array Oper} : ∀ (l : List Oper) (env : List Value) (H : Heap) (r : List Value × Heap), evOps P call fd ops l env H = some r →
    ∀ (F : Fr P) A ψ a w (Q : Exit → Act → World → Prop), Rel F A ψ env H a w → (∀ id, A id → id < H.length) → (∀ A' ψ' a' w', Rel F A' ψ' r.1 r.2 a' w' → (∀ id, A' id → id < r.2.length) → Q .normal a' w') → wpList P ops Q l a w := by
  intro l
  induction l with
  | nil =>
    intro env H r h F A ψ a w Q hr hb hQ
    simp only [evOps, Option.some.injEq] at h
    subst h
    exact hQ _ _ _ _ hr hb
  | cons o rest ih =>
    intro env H r h F A ψ a w Q hr hb hQ
    simp only [evOps, fVal_eq] at h
    simp only [wpList]
    split at h
    · rename_i hw
      rw [wanted_ok hr hw]
      simp only [if_true]
      split at h
      · rename_i out hs
        split at h
        · rename_i hf
          obtain ⟨h1, h2⟩ := fresh_spec hf hb
          refine .inl (evStep_ok hc hs F A ψ env H a w hr (fun _ _ => rfl) (fun _ _ => rfl) h1 _ _ fun ψ1 a1 w1 hr1 => ?_)
          exact ih _ _ _ h _ _ _ _ _ _ hr1 h2 hQ
        · cases h
      · cases h
    · rename_i hw
      rw [wanted_ok hr hw]
      simp only [Bool.false_eq_true, if_false]
      exact ih _ _ _ h _ _ _ _ _ _ (skip_rel hr o.dst) hb hQ
    · cases h

end
end
end Go.Vm
end
section
/- A region that draws its order: one evaluation in the order of the text serves every order. -/
namespace Go.Vm
noncomputable section

structure Ent where
  env : List Value
  H : Heap
  wanted : Bool
  out : Out

abbrev Tri := Nat × Oper × Ent

def noOut : Out := ⟨undef, [], [], []⟩

def evDraw (P : Program) (call : CallF) (fd : Nat) (ops : Array Oper) : Nat → List Oper → List Value → Heap → Option (List Value × Heap × List Tri)
  | _, [], env, H => some (env, H, [])
  | k, o :: rest, env, H =>
    match wantedA ops env o with
    | some true =>
      match evStep P call env H H.length o with
      | some out =>
        if freshOK H out then
          fVal fd out.v fun v =>
            match evDraw P call fd ops (k + 1) rest (put env o.dst v) (ap H out.δ) with
            | some (env', H', L) => some (env', H', (k, o, ⟨env, H, true, out⟩) :: L)
            | none => none
        else none
      | none => none
    | some false =>
      match evDraw P call fd ops (k + 1) rest (put env o.dst undef) H with
      | some (env', H', L) => some (env', H', (k, o, ⟨env, H, false, noOut⟩) :: L)
      | none => none
    | none => none

/-- What the evaluation shows. -/
def Trace (P : Program) (ops : Array Oper) : List Tri → List Value → Heap → List Value → Heap → Prop
  | [], env, H, env', H' => env' = env ∧ H' = H
  | (_, o, e) :: r, env, H, env', H' => e.env = env ∧ e.H = H ∧ wantedA ops env o = some e.wanted ∧
      (e.wanted = true → StepOK P o env H e.out ∧ freshOK H e.out = true) ∧ (e.wanted = false → e.out = noOut) ∧
      Trace P ops r (put env o.dst e.out.v) (ap H e.out.δ) env' H'

theorem evDraw_trace {P : Program} {call : CallF} (hc : CallOK P call) {fd : Nat} {ops : Array Oper} : ∀ (l : List Oper) (k : Nat) (env : List Value) (H : Heap) (env' : List Value) (H' : Heap) (L : List Tri),
    evDraw P call fd ops k l env H = some (env', H', L) → Trace P ops L env H env' H' ∧ L.map (·.2.1) = l ∧ L.map (·.1) = List.range' k l.length
  | [], k, env, H, env', H', L, h => by simp [evDraw] at h; obtain ⟨rfl, rfl, rfl⟩ := h; exact ⟨⟨rfl, rfl⟩, rfl, rfl⟩
  | o :: rest, k, env, H, env', H', L, h => by
    simp only [evDraw, fVal_eq] at h
    split at h
    · rename_i hw
      split at h
      · rename_i out hs
        split at h
        · rename_i hf
          split at h
          · rename_i e1 h1 L1 hrec
            cases h
            obtain ⟨t1, t2, t3⟩ := evDraw_trace hc rest (k + 1) _ _ _ _ _ hrec
            exact ⟨⟨rfl, rfl, hw, fun _ => ⟨evStep_ok hc hs, hf⟩, (fun hh => by cases hh), t1⟩, by simp [t2], by simp [t3, List.range'_succ]⟩
          · cases h
        · cases h
      · cases h
    · rename_i hw
      split at h
      · rename_i e1 h1 L1 hrec
        cases h
        obtain ⟨t1, t2, t3⟩ := evDraw_trace hc rest (k + 1) _ _ _ _ _ hrec
        exact ⟨⟨rfl, rfl, hw, (fun hh => by cases hh), fun _ => rfl, t1⟩, by simp [t2], by simp [t3, List.range'_succ]⟩
      · cases h
    · cases h

/-! ### What is ordered, and what is apart -/
def mask (o : Oper) (acc : List Nat) : Nat := o.after.toList.foldl (fun s e => if Region.binds .any e then s ||| 2 ^ e.on ||| acc.getD e.on 0 else s) 0

def masks : List Oper → List Nat → List Nat
  | [], acc => acc
  | o :: r, acc => masks r (acc ++ [mask o acc])

/-- Slots apart: this is of the text alone. -/
def statPairs (ops : Array Oper) (ms : List Nat) : List (Nat × Oper) → Bool
  | [] => true
  | x :: r => r.all (fun y => (ms.getD y.1 0).testBit x.1 || x.2.apart ops y.2) && statPairs ops ms r

def edgesOK : Nat → List Oper → Bool
  | _, [] => true
  | k, o :: r => o.after.toList.all (fun e => !Region.binds .any e || decide (e.on < k)) && edgesOK (k + 1) r

def index : Nat → List Oper → List (Nat × Oper)
  | _, [] => []
  | k, o :: r => (k, o) :: index (k + 1) r

def statOK (ops : Array Oper) : Bool := Region.noSelect ops && edgesOK 0 ops.toList && statPairs ops (masks ops.toList []) (index 0 ops.toList)

def memApart (x y : Tri) : Bool :=
  x.2.2.out.δ.all (fun p => !(y.2.2.out.D.contains p.1) && !((y.2.2.out.δ.map (·.1)).contains p.1)) && y.2.2.out.δ.all (fun p => !(x.2.2.out.D.contains p.1))

def memPairs (ms : List Nat) : List Tri → Bool
  | [] => true
  | x :: r => r.all (fun y => (x.2.2.out.δ.isEmpty && y.2.2.out.δ.isEmpty) || (ms.getD y.1 0).testBit x.1 || memApart x y) && memPairs ms r

def drawOK (ops : Array Oper) (L : List Tri) : Bool := statOK ops && memPairs (masks ops.toList []) L

def apartE (ops : Array Oper) (x y : Tri) : Bool := x.2.1.apart ops y.2.1 && memApart x y

def pairsOK (ops : Array Oper) (ms : List Nat) : List Tri → Bool
  | [] => true
  | x :: r => r.all (fun y => (ms.getD y.1 0).testBit x.1 || apartE ops x y) && pairsOK ops ms r

theorem memApart_nil {x y : Tri} (h1 : x.2.2.out.δ.isEmpty = true) (h2 : y.2.2.out.δ.isEmpty = true) : memApart x y = true := by
  simp only [List.isEmpty_iff] at h1 h2
  simp [memApart, h1, h2]

theorem pairs_join {ops : Array Oper} {ms : List Nat} : ∀ {L : List Tri}, statPairs ops ms (L.map fun x => (x.1, x.2.1)) = true → memPairs ms L = true → pairsOK ops ms L = true
  | [], _, _ => rfl
  | x :: r, h1, h2 => by
    simp only [List.map_cons, statPairs, Bool.and_eq_true, List.all_eq_true, List.mem_map] at h1
    simp only [memPairs, Bool.and_eq_true, List.all_eq_true] at h2
    simp only [pairsOK, Bool.and_eq_true, List.all_eq_true]
    refine ⟨fun y hy => ?_, pairs_join h1.2 h2.2⟩
    have a1 := h1.1 (y.1, y.2.1) ⟨y, hy, rfl⟩
    have a2 := h2.1 y hy
    simp only [Bool.or_eq_true, Bool.and_eq_true] at a1 a2 ⊢
    rcases a1 with a1 | a1
    · exact .inl a1
    · rcases a2 with (a2 | a2) | a2
      · refine .inr ?_
        simp only [apartE, Bool.and_eq_true]
        exact ⟨a1, memApart_nil a2.1 a2.2⟩
      · exact .inl a2
      · refine .inr ?_
        simp only [apartE, Bool.and_eq_true]
        exact ⟨a1, a2⟩

theorem index_eq : ∀ {L : List Tri} {k : Nat} {l : List Oper}, L.map (·.2.1) = l → L.map (·.1) = List.range' k l.length → L.map (fun x => (x.1, x.2.1)) = index k l
  | [], k, l, h, _ => by simp at h; subst h; rfl
  | x :: r, k, l, h, h2 => by
    cases l with
    | nil => simp at h
    | cons o l =>
      simp only [List.map_cons, List.cons.injEq] at h
      simp only [List.map_cons, List.length_cons, List.range'_succ, List.cons.injEq] at h2
      simp only [List.map_cons, index, h.1, h2.1]
      rw [index_eq h.2 h2.2]

theorem mask_bit {o : Oper} {acc : List Nat} {i : Nat} (h : (mask o acc).testBit i = true) : ∃ e ∈ o.after, Region.binds .any e = true ∧ (e.on = i ∨ (acc.getD e.on 0).testBit i = true) := by
  unfold mask at h
  have : ∀ (l : List Edge) (s : Nat), (l.foldl (fun s e => if Region.binds .any e then s ||| 2 ^ e.on ||| acc.getD e.on 0 else s) s).testBit i = true → s.testBit i = true ∨ ∃ e ∈ l, Region.binds .any e = true ∧ (e.on = i ∨ (acc.getD e.on 0).testBit i = true) := by
    intro l
    induction l with
    | nil => intro s h; exact .inl h
    | cons e r ih =>
      intro s h
      rw [List.foldl_cons] at h
      rcases ih _ h with h1 | ⟨e', he', h1⟩
      · split at h1
        · rename_i hb
          simp only [Nat.testBit_or, Bool.or_eq_true, Nat.testBit_two_pow] at h1
          rcases h1 with (h1 | h1) | h1
          · exact .inl h1
          · exact .inr ⟨e, by simp, hb, .inl (by simpa using h1)⟩
          · exact .inr ⟨e, by simp, hb, .inr h1⟩
        · exact .inl h1
      · exact .inr ⟨e', by simp [he'], h1⟩
  rcases this _ 0 h with h | ⟨e, he, h1⟩
  · simp at h
  · exact ⟨e, by simpa using he, h1⟩

/-- S: what has been done; whatever an operation of S waits for is in S. -/
def Closed (ops : List Oper) (k : Nat) (S : Nat → Prop) : Prop := ∀ j o, ops[j]? = some o → S (k + j) → ∀ e ∈ o.after, Region.binds .any e = true → S e.on

theorem masks_spec {S : Nat → Prop} : ∀ (l : List Oper) (acc : List Nat), Closed l acc.length S → (∀ j, S j → ∀ i, (acc.getD j 0).testBit i = true → S i) →
    (∀ j, S j → ∀ i, ((masks l acc).getD j 0).testBit i = true → S i) ∧
    (∀ j o, l[j]? = some o → (∀ e ∈ o.after, Region.binds .any e = true → S e.on) → ∀ i, ((masks l acc).getD (acc.length + j) 0).testBit i = true → S i) ∧ (∀ j, j < acc.length → (masks l acc).getD j 0 = acc.getD j 0)
  | [], acc, _, h => ⟨h, fun j o h => by simp at h, fun _ _ => rfl⟩
  | o :: r, acc, hc, h => by
    have step : (∀ e ∈ o.after, Region.binds .any e = true → S e.on) → ∀ i, (mask o acc).testBit i = true → S i := fun he i hi => by
      obtain ⟨e, h1, h2, h3⟩ := mask_bit hi
      have hS := he e h1 h2
      rcases h3 with rfl | h3
      · exact hS
      · exact h _ hS i h3
    have h' : ∀ j, S j → ∀ i, ((acc ++ [mask o acc]).getD j 0).testBit i = true → S i := fun j hj i hi => by
      simp only [List.getD_eq_getElem?_getD] at hi h
      by_cases hlt : j < acc.length
      · rw [List.getElem?_append_left hlt] at hi; exact h j hj i hi
      · rw [List.getElem?_append_right (by omega)] at hi
        by_cases h0 : j - acc.length = 0
        · rw [h0] at hi
          have : j = acc.length + 0 := by omega
          refine step (hc 0 o rfl (by rw [← this]; exact hj)) i (by simpa using hi)
        · rw [List.getElem?_eq_none (by simp; omega)] at hi; simp at hi
    have hc' : Closed r (acc ++ [mask o acc]).length S := fun j o' ho hS => hc (j + 1) o' (by simpa using ho) (by rw [show acc.length + (j + 1) = (acc ++ [mask o acc]).length + j by simp; omega]; exact hS)
    obtain ⟨i1, i2, i3⟩ := masks_spec r (acc ++ [mask o acc]) hc' h'
    refine ⟨i1, fun j o' ho he i hi => ?_, fun j hj => ?_⟩
    · cases j with
      | zero =>
        simp at ho; subst ho
        refine step he i ?_
        have := i3 acc.length (by simp)
        rw [masks, Nat.add_zero, this] at hi
        simpa [List.getD_eq_getElem?_getD] using hi
      | succ j =>
        refine i2 j o' (by simpa using ho) he i ?_
        rw [show (acc ++ [mask o acc]).length + j = acc.length + (j + 1) by simp; omega]
        exact hi
    · have := i3 j (by simp; omega)
      rw [masks, this]
      simp [List.getD_eq_getElem?_getD, List.getElem?_append_left hj]

/-! ### What some of the operations leave -/
def envS (S : Nat → Bool) : List Tri → List Value → List Value
  | [], env => env
  | (i, o, e) :: r, env => envS S r (if S i then put env o.dst e.out.v else env)

def hS (S : Nat → Bool) : List Tri → Heap → Heap
  | [], H => H
  | (i, _, e) :: r, H => hS S r (if S i then ap H e.out.δ else H)

theorem put_len (env : List Value) (d : Option Tmp) (v : Value) : (put env d v).length = env.length := by cases d <;> first | rfl | simp [put_some]

theorem put_get_ne {env : List Value} {d : Option Tmp} {v : Value} {t : Nat} (h : d ≠ some t) : (put env d v).getD t poi = env.getD t poi := by
  cases d with
  | none => rfl
  | some d =>
    have : d ≠ t := fun e => h (by rw [e])
    simp [put_some, List.getD_eq_getElem?_getD, List.getElem?_set_ne this]

theorem put_get_congr {env env' : List Value} (hl : env.length = env'.length) {d : Option Tmp} {v : Value} {t : Nat} (h : env.getD t poi = env'.getD t poi) : (put env d v).getD t poi = (put env' d v).getD t poi := by
  cases d with
  | none => exact h
  | some d =>
    by_cases e : d = t
    · subst e
      by_cases hd : d < env.length
      · simp [put_some, List.getD_eq_getElem?_getD, hd, hl ▸ hd]
      · simp [put_some, List.getD_eq_getElem?_getD, hd, hl ▸ hd]
    · rw [put_get_ne (by simpa using e), put_get_ne (by simpa using e)]; exact h

theorem envS_append (S : Nat → Bool) : ∀ (L M : List Tri) (env : List Value), envS S (L ++ M) env = envS S M (envS S L env)
  | [], _, _ => rfl
  | (i, o, e) :: r, M, env => by simp only [List.cons_append, envS]; exact envS_append S r M _

theorem hS_append (S : Nat → Bool) : ∀ (L M : List Tri) (H : Heap), hS S (L ++ M) H = hS S M (hS S L H)
  | [], _, _ => rfl
  | (i, o, e) :: r, M, H => by simp only [List.cons_append, hS]; exact hS_append S r M _

theorem envS_len (S : Nat → Bool) : ∀ (L : List Tri) (env : List Value), (envS S L env).length = env.length
  | [], _ => rfl
  | (i, o, e) :: r, env => by
    simp only [envS]
    rw [envS_len S r]
    split
    · exact put_len _ _ _
    · rfl

/-- A slot that the two choices write alike. -/
theorem envS_congr {S S' : Nat → Bool} {t : Nat} : ∀ (L : List Tri) (env env' : List Value), env.length = env'.length → env.getD t poi = env'.getD t poi → (∀ x ∈ L, x.2.1.dst = some t → S x.1 = S' x.1) →
    (envS S L env).getD t poi = (envS S' L env').getD t poi
  | [], _, _, _, h, _ => h
  | (i, o, e) :: r, env, env', hl, h, hx => by
    simp only [envS]
    refine envS_congr r _ _ ?_ ?_ (fun x hx' => hx x (by simp [hx']))
    · split <;> split <;> simp [put_len, hl]
    · by_cases hd : o.dst = some t
      · have := hx (i, o, e) (by simp) hd
        simp only at this
        rw [this]
        split
        · exact put_get_congr hl h
        · exact h
      · split <;> split <;> (try rw [put_get_ne hd]) <;> (try rw [put_get_ne hd]) <;> exact h

theorem rd_ap_out : ∀ (δ : Delta) (H : Heap) (id : Nat), id ∉ δ.map (·.1) → rd (ap H δ) id = rd H id
  | [], _, _, _ => rfl
  | (i, o) :: r, H, id, h => by
    simp only [List.map_cons, List.mem_cons, not_or] at h
    simp only [ap]
    rw [rd_ap_out r _ id h.2, rd_wr, if_neg h.1]

theorem rd_ap_congr : ∀ (δ : Delta) (H H' : Heap) (id : Nat), (id ∉ δ.map (·.1) → rd H id = rd H' id) → rd (ap H δ) id = rd (ap H' δ) id
  | [], H, H', id, h => h (by simp)
  | (i, o) :: r, H, H', id, h => by
    simp only [ap]
    refine rd_ap_congr r _ _ id fun hn => ?_
    rw [rd_wr, rd_wr]
    split
    · rfl
    · rename_i hne; exact h (by simp only [List.map_cons, List.mem_cons, not_or]; exact ⟨hne, hn⟩)

theorem hS_congr {S S' : Nat → Bool} {id : Nat} : ∀ (L : List Tri) (H H' : Heap), rd H id = rd H' id → (∀ x ∈ L, id ∈ x.2.2.out.δ.map (·.1) → S x.1 = S' x.1) → rd (hS S L H) id = rd (hS S' L H') id
  | [], _, _, h, _ => h
  | (i, o, e) :: r, H, H', h, hx => by
    simp only [hS]
    refine hS_congr r _ _ ?_ (fun x hx' => hx x (by simp [hx']))
    by_cases hd : id ∈ e.out.δ.map (·.1)
    · have := hx (i, o, e) (by simp) hd
      simp only at this
      rw [this]
      split
      · exact rd_ap_congr _ _ _ _ fun _ => h
      · exact h
    · split <;> split <;> (try rw [rd_ap_out _ _ _ hd]) <;> (try rw [rd_ap_out _ _ _ hd]) <;> exact h

section
variable {P : Program} {call : CallF} {ops : Array Oper}

theorem Trace.append : ∀ {L M : List Tri} {env : List Value} {H : Heap} {env' : List Value} {H' : Heap}, Trace P ops (L ++ M) env H env' H' → ∃ e h, Trace P ops L env H e h ∧ Trace P ops M e h env' H'
  | [], M, env, H, env', H', h => ⟨env, H, ⟨rfl, rfl⟩, h⟩
  | (i, o, e) :: r, M, env, H, env', H', h => by
    obtain ⟨h1, h2, h3, h4, h5, h6⟩ := h
    obtain ⟨e', h', t1, t2⟩ := Trace.append h6
    exact ⟨e', h', ⟨h1, h2, h3, h4, h5, t1⟩, t2⟩

theorem Trace.all : ∀ {L : List Tri} {env : List Value} {H : Heap} {env' : List Value} {H' : Heap}, Trace P ops L env H env' H' → ∀ {S : Nat → Bool}, (∀ x ∈ L, S x.1 = true) → env' = envS S L env ∧ H' = hS S L H
  | [], _, _, _, _, h, _, _ => h
  | (i, o, e) :: r, env, H, env', H', h, S, hS' => by
    obtain ⟨h1, h2, h3, h4, h5, h6⟩ := h
    have := Trace.all h6 (S := S) (fun x hx => hS' x (by simp [hx]))
    simp only [envS, hS, hS' (i, o, e) (by simp), if_true]
    exact this

theorem Trace.mono : ∀ {L : List Tri} {env : List Value} {H : Heap} {env' : List Value} {H' : Heap}, Trace P ops L env H env' H' → H.length ≤ H'.length
  | [], _, _, _, _, h => by rw [h.2]; exact Nat.le_refl _
  | (i, o, e) :: r, env, H, env', H', h => by
    obtain ⟨_, _, _, _, _, h6⟩ := h
    exact Nat.le_trans (len_ap _ _) h6.mono

theorem Trace.nu : ∀ {L : List Tri} {env : List Value} {H : Heap} {env' : List Value} {H' : Heap}, Trace P ops L env H env' H' → ∀ x ∈ L, ∀ id ∈ x.2.2.out.nu, H.length ≤ id ∧ id < H'.length
  | [], _, _, _, _, _, x, hx => by cases hx
  | (i, o, e) :: r, env, H, env', H', h, x, hx => by
    obtain ⟨_, _, _, h4, h5, h6⟩ := h
    intro id hid
    rcases List.mem_cons.1 hx with rfl | hx
    · cases hw : e.wanted with
      | true =>
        obtain ⟨_, hf⟩ := h4 hw
        simp only [freshOK, List.all_eq_true, Bool.and_eq_true, decide_eq_true_eq] at hf
        have := hf id hid
        exact ⟨this.1, Nat.lt_of_lt_of_le this.2 h6.mono⟩
      | false => rw [h5 hw] at hid; simp [noOut] at hid
    · have := h6.nu x hx id hid
      exact ⟨Nat.le_trans (len_ap _ _) this.1, this.2⟩
end

theorem Rel.congr {P : Program} {F : Fr P} {A A' : Nat → Prop} {ψ : Nat → Gh} {env env' : List Value} {H H' : Heap} {a : Act} {w : World} (h : Rel F A ψ env H a w) (hA : ∀ id, A' id ↔ A id) (he : ∀ t, env'.getD t poi = env.getD t poi) (hl : env'.length = env.length)
    (hh : ∀ id, rd H' id = rd H id) : Rel F A' ψ env' H' a w := by
  have : A' = A := funext fun id => propext (hA id)
  subst this
  refine ⟨fun t => by rw [he]; exact h.slot t, by rw [hl]; exact h.len, h.defers, ⟨fun id o hr => h.heap.live id o (by rw [← hh]; exact hr), fun i j oi oj hi hj => h.heap.inj i j oi oj (by rw [← hh]; exact hi) (by rw [← hh]; exact hj), h.heap.fr, fun id o hr => h.heap.own id o (by rw [← hh]; exact hr), h.heap.old⟩⟩

end
end Go.Vm
end
section
/- The theorem on drawn regions. -/
namespace Go.Vm
noncomputable section

section
variable {P : Program} {ops : Array Oper} {env0 env' : List Value} {H0 H' : Heap} {L : List Tri}

theorem pairs_before {ms : List Nat} : ∀ {L M : List Tri} {x : Tri}, pairsOK ops ms (L ++ x :: M) = true → (∀ y ∈ L, ((ms.getD x.1 0).testBit y.1 || apartE ops y x) = true) ∧ (∀ y ∈ M, ((ms.getD y.1 0).testBit x.1 || apartE ops x y) = true)
  | [], M, x, h => by
    simp only [List.nil_append, pairsOK, Bool.and_eq_true, List.all_eq_true] at h
    exact ⟨by simp, h.1⟩
  | z :: L, M, x, h => by
    simp only [List.cons_append, pairsOK, Bool.and_eq_true, List.all_eq_true] at h
    obtain ⟨h1, h2⟩ := pairs_before h.2
    refine ⟨fun y hy => ?_, h2⟩
    rcases List.mem_cons.1 hy with rfl | hy
    · exact h.1 x (by simp)
    · exact h1 y hy

structure Apart (x y : Tri) : Prop where
  slots : (∀ d, x.2.1.dst = some d → d ∉ y.2.1.looksAt ops) ∧ (∀ d, x.2.1.dst = some d → y.2.1.dst ≠ some d) ∧ (∀ d, y.2.1.dst = some d → d ∉ x.2.1.looksAt ops)
  xw : ∀ id, id ∈ x.2.2.out.δ.map (·.1) → id ∉ y.2.2.out.D ∧ id ∉ y.2.2.out.δ.map (·.1)
  yw : ∀ id, id ∈ y.2.2.out.δ.map (·.1) → id ∉ x.2.2.out.D

theorem apartE_spec {x y : Tri} (h : apartE ops x y = true) : Apart (ops := ops) x y := by
  simp only [apartE, memApart, Bool.and_eq_true, List.all_eq_true] at h
  obtain ⟨h1, h2, h3⟩ := h
  refine ⟨Oper.apart_spec h1, fun id hid => ?_, fun id hid => ?_⟩
  · obtain ⟨p, hp, rfl⟩ := List.mem_map.1 hid
    have := h2 p hp
    constructor
    · intro hc; simp [hc] at this
    · intro hc
      obtain ⟨q, hq, e⟩ := List.mem_map.1 hc
      have h4 := this.2
      simp only [Bool.not_eq_eq_eq_not, Bool.not_true] at h4
      have : (y.2.2.out.δ.map (·.1)).contains p.1 = true := by rw [List.contains_iff_mem]; exact hc
      rw [this] at h4; cases h4
  · obtain ⟨p, hp, rfl⟩ := List.mem_map.1 hid
    have := h3 p hp
    intro hc
    have h5 : x.2.2.out.D.contains p.1 = true := by rw [List.contains_iff_mem]; exact hc
    rw [h5] at this; cases this

theorem set_get {listed : Array Bool} {i j : Nat} (hi : i < listed.size) : (listed.setIfInBounds i true).getD j false = if j = i then true else listed.getD j false := by
  simp only [Array.getD_eq_getD_getElem?]
  by_cases e : j = i
  · subst e; simp [hi]
  · rw [if_neg e, Array.getElem?_setIfInBounds_ne (Ne.symm e)]

theorem filter_lt {p q : Nat → Bool} : ∀ (l : List Nat), (∀ x ∈ l, q x = true → p x = true) → ∀ i ∈ l, p i = true → q i = false → (l.filter q).length < (l.filter p).length
  | [], _, i, hi, _, _ => by cases hi
  | x :: l, h, i, hi, hp, hq => by
    have hle : (l.filter q).length ≤ (l.filter p).length := by
      clear hi
      have h' : ∀ x ∈ l, q x = true → p x = true := fun y hy => h y (by simp [hy])
      clear h
      induction l with
      | nil => simp
      | cons y l ih =>
        have h1 := h' y (by simp)
        have h2 := ih (fun z hz => h' z (by simp [hz]))
        simp only [List.filter_cons]
        cases hqy : q y with
        | true => simp [h1 hqy]; exact h2
        | false => cases hpy : p y <;> simp <;> omega
    rcases List.mem_cons.1 hi with rfl | hi
    · simp only [List.filter_cons, hp, hq]; simp; omega
    · have := filter_lt l (fun y hy => h y (by simp [hy])) i hi hp hq
      have hx := h x (by simp)
      simp only [List.filter_cons]
      cases hqx : q x with
      | true => simp [hx hqx]; exact this
      | false => cases hpx : p x <;> simp <;> omega

/-- Is an index listed? -/
def inS (listed : Array Bool) : Nat → Bool := fun i => listed.getD i false

theorem edges_at : ∀ (l : List Oper) (k : Nat), edgesOK k l = true → ∀ j o, l[j]? = some o → ∀ e ∈ o.after, Region.binds .any e = true → e.on < k + j
  | [], _, _, j, o, h, _, _, _ => by simp at h
  | x :: l, k, h, j, o, hj, e, he, hb => by
    simp only [edgesOK, Bool.and_eq_true, List.all_eq_true] at h
    cases j with
    | zero =>
      simp at hj; subst hj
      have := h.1 e (by simpa using he)
      simpa [hb] using this
    | succ j =>
      have := edges_at l (k + 1) h.2 j o (by simpa using hj) e he hb
      omega

/-- All is listed, or something is ready. -/
theorem ready_nil {listed : Array Bool} (hsz : listed.size = ops.size) (he : edgesOK 0 ops.toList = true) (h : Region.ready .any ops listed = []) : ∀ i, i < ops.size → inS listed i = true := by
  intro i
  induction i using Nat.strongRecOn with
  | _ i ih =>
    intro hi
    cases hl : inS listed i with
    | true => rfl
    | false =>
      exfalso
      have hm : i ∈ Region.ready .any ops listed := by
        simp only [Region.ready, List.mem_filter, List.mem_range]
        refine ⟨hi, ?_⟩
        have hl' : listed.getD i true = false := by
          have h1 : i < listed.size := by omega
          simp only [inS, Array.getD, h1, dif_pos] at hl ⊢
          exact hl
        rw [hl']
        simp only [Bool.not_false, Bool.true_and, hi, Array.getElem?_eq_getElem, Option.map_some, Option.getD_some]
        rw [Array.all_eq_true_iff_forall_mem]
        intro e hem
        cases hb : Region.binds .any e with
        | false => simp
        | true =>
          have hlt := edges_at ops.toList 0 he i ops[i] (by simp [hi]) e hem hb
          have := ih e.on (by omega) (by omega)
          simp only [inS] at this
          simp [this]
      rw [h] at hm; cases hm

theorem mem_ready {listed : Array Bool} {i : Nat} (h : i ∈ Region.ready .any ops listed) : i < ops.size ∧ listed.getD i true = false ∧ ∃ o, ops[i]? = some o ∧ ∀ e ∈ o.after, Region.binds .any e = true → inS listed e.on = true := by
  simp only [Region.ready, List.mem_filter, List.mem_range, Bool.and_eq_true] at h
  obtain ⟨h1, h2, h3⟩ := h
  refine ⟨h1, by simpa using h2, ops[i], by simp [h1], fun e he hb => ?_⟩
  simp only [h1, Array.getElem?_eq_getElem, Option.map_some, Option.getD_some] at h3
  rw [Array.all_eq_true_iff_forall_mem] at h3
  have := h3 e he
  simpa [hb, inS] using this

/-- The tools of the invariant. -/
structure Inv (P : Program) (call : CallF) (ops : Array Oper) (L : List Tri) (env0 : List Value) (H0 : Heap) (A0 : Nat → Prop) (listed : Array Bool) : Prop where
  size : listed.size = ops.size
  closed : Closed ops.toList 0 (fun i => inS listed i = true)

def AS (A0 : Nat → Prop) (L : List Tri) (S : Nat → Bool) : Nat → Prop := fun id => A0 id ∨ ∃ x ∈ L, S x.1 = true ∧ id ∈ x.2.2.out.nu

theorem any_ok (htr : Trace P ops L env0 H0 env' H') (hops : L.map (·.2.1) = ops.toList) (hix : L.map (·.1) = List.range' 0 ops.size) (hok : drawOK ops L = true)
    {A0 : Nat → Prop} (hA0 : ∀ id, A0 id → id < H0.length) {F : Fr P} {Q : Exit → Act → World → Prop}
    (hQ : ∀ A' ψ' a' w', Rel F A' ψ' env' H' a' w' → (∀ id, A' id → id < H'.length) → Q .normal a' w') :
    ∀ (fuel : Nat) (listed : Array Bool) (ψ : Nat → Gh) (a : Act) (w : World), listed.size = ops.size → Closed ops.toList 0 (fun i => inS listed i = true) →
      ((List.range ops.size).filter (fun i => !inS listed i)).length ≤ fuel → Rel F (AS A0 L (inS listed)) ψ (envS (inS listed) L env0) (hS (inS listed) L H0) a w → wpAny P .any ops Q fuel listed a w := by
  simp only [drawOK, statOK, Bool.and_eq_true] at hok
  obtain ⟨⟨⟨hsel, hedge⟩, hstat⟩, hmem⟩ := hok
  have hpairs := pairs_join (L := L) (by rw [index_eq (k := 0) hops (by rw [hix]; simp)]; exact hstat) hmem
  have hixl : ∀ x ∈ L, x.1 < ops.size := fun x hx => by
    have : x.1 ∈ L.map (·.1) := List.mem_map.2 ⟨x, hx, rfl⟩
    rw [hix] at this
    simpa using this
  have fin : ∀ (listed : Array Bool) (ψ : Nat → Gh) (a : Act) (w : World), (∀ i, i < ops.size → inS listed i = true) → Rel F (AS A0 L (inS listed)) ψ (envS (inS listed) L env0) (hS (inS listed) L H0) a w → Q .normal a w := by
    intro listed ψ a w hall hr
    obtain ⟨e1, e2⟩ := htr.all (S := inS listed) (fun x hx => hall _ (hixl x hx))
    rw [← e1, ← e2] at hr
    refine hQ _ _ _ _ hr fun id hid => ?_
    rcases hid with h | ⟨x, hx, _, hid⟩
    · exact Nat.lt_of_lt_of_le (hA0 id h) htr.mono
    · exact (htr.nu x hx id hid).2
  intro fuel
  induction fuel with
  | zero =>
    intro listed ψ a w hsz hcl hcnt hr
    have hall : ∀ i, i < ops.size → inS listed i = true := fun i hi => by
      cases hl : inS listed i with
      | true => rfl
      | false =>
        have : i ∈ (List.range ops.size).filter (fun i => !inS listed i) := by simp [hi, hl]
        have := List.length_pos_of_mem this
        omega
    refine ⟨?_, fin listed ψ a w hall hr⟩
    apply List.eq_nil_iff_forall_not_mem.2
    intro i hi
    obtain ⟨h1, h2, _⟩ := mem_ready hi
    have h3 := hall i h1
    have h4 : i < listed.size := by omega
    simp only [inS, Array.getD, h4, dif_pos] at h2 h3
    rw [h2] at h3; cases h3
  | succ fuel ih =>
    intro listed ψ a w hsz hcl hcnt hr
    refine ⟨fun hnil => fin listed ψ a w (ready_nil hsz hedge hnil) hr, fun j hj => ?_⟩
    obtain ⟨hjlt, hjun, o, ho, hedges⟩ := mem_ready hj
    have hjl : j < listed.size := by omega
    have hSj : inS listed j = false := by
      simp only [inS, Array.getD, hjl, dif_pos] at hjun ⊢; exact hjun
    -- the entry of j
    have hLlen : L.length = ops.size := by have := congrArg List.length hops; simpa using this
    have hjL : j < L.length := by omega
    obtain ⟨L1, x, L2, hsplit, hl1⟩ : ∃ L1 x L2, L = L1 ++ x :: L2 ∧ L1.length = j :=
      ⟨L.take j, L[j], L.drop (j + 1), by rw [List.getElem_cons_drop, List.take_append_drop], by simp; omega⟩
    have hxj : x.1 = j ∧ x.2.1 = o := by
      have h1 : (L.map (·.1))[j]? = some x.1 := by rw [hsplit]; simp [← hl1]
      have h2 : (L.map (·.2.1))[j]? = some x.2.1 := by rw [hsplit]; simp [← hl1]
      rw [hix] at h1
      rw [hops] at h2
      simp [hjlt] at h1
      have ho' : ops.toList[j]? = some o := by simpa using ho
      rw [ho'] at h2
      exact ⟨h1.symm, by cases h2; rfl⟩
    obtain ⟨hx1, hx2⟩ := hxj
    have hidx1 : ∀ y ∈ L1, y.1 < j := fun y hy => by
      obtain ⟨k, hk, e⟩ := List.mem_iff_getElem.1 hy
      have h1 : (L.map (·.1))[k]? = some y.1 := by
        rw [hsplit, List.map_append, List.getElem?_append_left (by simpa using hk), List.getElem?_map, List.getElem?_eq_getElem hk, e]; rfl
      rw [hix, List.getElem?_range' (by omega)] at h1
      simp at h1
      omega
    have hidx2 : ∀ y ∈ L2, j < y.1 := fun y hy => by
      obtain ⟨k, hk, e⟩ := List.mem_iff_getElem.1 hy
      have h0 : L.length = L1.length + (L2.length + 1) := by rw [hsplit]; simp
      have h1 : (L.map (·.1))[L1.length + (k + 1)]? = some y.1 := by
        rw [hsplit, List.map_append, List.getElem?_append_right (by simp)]
        simp only [List.length_map, Nat.add_sub_cancel_left, List.map_cons, List.getElem?_cons_succ, List.getElem?_map, List.getElem?_eq_getElem hk, e]; rfl
      rw [hix, List.getElem?_range' (by omega)] at h1
      simp at h1
      omega
    rw [hsplit] at htr hpairs
    obtain ⟨ej, hj', tr1, tr2⟩ := htr.append
    obtain ⟨i, ox, ent⟩ := x
    simp only at hx1 hx2
    subst hx1 hx2
    obtain ⟨k1, k2, k3, k4, k5, k6⟩ := tr2
    obtain ⟨pb, pa⟩ := pairs_before hpairs
    -- the closure
    have hm := masks_spec (S := fun i => inS listed i = true) ops.toList [] (by simpa using hcl) (fun j _ i hi => by simp at hi)
    have hoL : ops.toList[i]? = some ox := by simpa using ho
    have bef : ∀ y ∈ L1, inS listed y.1 = true ∨ Apart (ops := ops) y (i, ox, ent) := fun y hy => by
      have := pb y hy
      simp only [Bool.or_eq_true] at this
      rcases this with h | h
      · exact .inl (hm.2.1 i ox hoL (fun e he hb => hedges e he hb) y.1 (by simpa using h))
      · exact .inr (apartE_spec h)
    have aft : ∀ y ∈ L2, inS listed y.1 = false ∨ Apart (ops := ops) (i, ox, ent) y := fun y hy => by
      have := pa y hy
      simp only [Bool.or_eq_true] at this
      rcases this with h | h
      · left
        cases hS' : inS listed y.1 with
        | false => rfl
        | true =>
          have := hm.1 y.1 hS' i (by simpa using h)
          rw [hSj] at this; cases this
      · exact .inr (apartE_spec h)
    have e1 : ej = envS (fun _ => true) L1 env0 ∧ hj' = hS (fun _ => true) L1 H0 := tr1.all (fun _ _ => rfl)
    -- what i looks at
    have hslot : ∀ t, t ∈ ox.looksAt ops → (envS (inS listed) L env0).getD t poi = ej.getD t poi := by
      intro t ht
      rw [hsplit, envS_append, e1.1]
      have h2 : (envS (inS listed) ((i, ox, ent) :: L2) (envS (inS listed) L1 env0)).getD t poi = (envS (inS listed) L1 env0).getD t poi := by
        have := envS_congr (S := inS listed) (S' := fun _ => false) (t := t) ((i, ox, ent) :: L2) (envS (inS listed) L1 env0) (envS (inS listed) L1 env0) rfl rfl (fun y hy hd => by
          rcases List.mem_cons.1 hy with rfl | hy
          · exact hSj
          · rcases aft y hy with h | h
            · exact h
            · exact absurd ht (h.slots.2.2 t hd))
        rw [this]
        have none_ : ∀ (M : List Tri) (e : List Value), envS (fun _ => false) M e = e := by
          intro M; induction M with
          | nil => intro e; rfl
          | cons z M ih => intro e; obtain ⟨_, _, _⟩ := z; simp only [envS]; exact ih _
        rw [none_]
      rw [h2]
      exact envS_congr L1 env0 env0 rfl rfl fun y hy hd => by
        rcases bef y hy with h | h
        · simpa using h
        · exact absurd ht (h.slots.1 t hd)
    have hread : ∀ id, id ∈ ent.out.D → rd (hS (inS listed) L H0) id = rd hj' id := by
      intro id hid
      rw [hsplit, hS_append, e1.2]
      have h2 : rd (hS (inS listed) ((i, ox, ent) :: L2) (hS (inS listed) L1 H0)) id = rd (hS (inS listed) L1 H0) id := by
        have := hS_congr (S := inS listed) (S' := fun _ => false) (id := id) ((i, ox, ent) :: L2) (hS (inS listed) L1 H0) (hS (inS listed) L1 H0) rfl (fun y hy hd => by
          rcases List.mem_cons.1 hy with rfl | hy
          · exact hSj
          · rcases aft y hy with h | h
            · exact h
            · exact absurd hid (h.yw id hd))
        rw [this]
        have none_ : ∀ (M : List Tri) (e : Heap), hS (fun _ => false) M e = e := by
          intro M; induction M with
          | nil => intro e; rfl
          | cons z M ih => intro e; obtain ⟨_, _, _⟩ := z; simp only [hS]; exact ih _
        rw [none_]
      rw [h2]
      exact hS_congr L1 H0 H0 rfl fun y hy hd => by
        rcases bef y hy with h | h
        · simpa using h
        · exact absurd hid (h.xw id hd).1
    have hlooks : ∀ t, Operand.tmp t ∈ ox.op.operands → t ∈ ox.looksAt ops := fun t ht => by
      simp only [Oper.looksAt, List.mem_append, List.mem_filterMap]
      exact .inl ⟨.tmp t, by simpa using ht, rfl⟩
    have hev : ∀ y ∈ ox.op.operands, ev (envS (inS listed) L env0) y = ev ej y := fun y hy => by
      cases y with
      | tmp t => show gt _ t = gt _ t; rw [gt_eq, gt_eq]; exact hslot t (hlooks t hy)
      | _ => rfl
    have hwant : wantedA ops (envS (inS listed) L env0) ox = some ent.wanted := by
      rw [← k3]
      unfold wantedA
      split
      · rfl
      · rename_i g want hg
        split
        · rfl
        · rename_i t hd
          have : t ∈ ox.looksAt ops := by
            simp only [Oper.looksAt, List.mem_append]
            right
            simp [hg, hd]
          rw [gt_eq, gt_eq, hslot t this]
    have hnew : ∀ id ∈ ent.out.nu, ¬ AS A0 L (inS listed) id := fun id hid hA => by
      have hb : hj'.length ≤ id ∧ id < (ap hj' ent.out.δ).length := by
        cases hw : ent.wanted with
        | true =>
          obtain ⟨_, hf⟩ := k4 hw
          simp only [freshOK, List.all_eq_true, Bool.and_eq_true, decide_eq_true_eq] at hf
          exact hf id hid
        | false => rw [k5 hw] at hid; simp [noOut] at hid
      rcases hA with hA | ⟨y, hy, hS', hid'⟩
      · have := hA0 id hA; have := tr1.mono; omega
      · rw [hsplit] at hy
        rcases List.mem_append.1 hy with hy | hy
        · have := (tr1.nu y hy id hid').2; omega
        · rcases List.mem_cons.1 hy with rfl | hy
          · rw [hSj] at hS'; cases hS'
          · have := (k6.nu y hy id hid').1; omega
    -- what stands behind it
    have hset : ∀ k, inS (listed.setIfInBounds i true) k = if k = i then true else inS listed k := fun k => set_get hjl
    have hrest : ∀ (ψ1 : Nat → Gh) (a1 : Act) (w1 : World), Rel F (fun id => AS A0 L (inS listed) id ∨ id ∈ ent.out.nu) ψ1 (put (envS (inS listed) L env0) ox.dst ent.out.v) (ap (hS (inS listed) L H0) ent.out.δ) a1 w1 →
        wpAny P .any ops Q fuel (listed.setIfInBounds i true) a1 w1 := by
      intro ψ1 a1 w1 hr1
      refine ih _ ψ1 a1 w1 (by simpa using hsz) (fun k o' ho' hk e he hb => ?_) ?_ (hr1.congr (fun id => ?_) (fun t => ?_) ?_ (fun id => ?_))
      · show inS (listed.setIfInBounds i true) e.on = true
        have hk' : inS (listed.setIfInBounds i true) (0 + k) = true := hk
        rw [hset] at hk' ⊢
        split
        · rfl
        · split at hk'
          · rename_i _ hki
            have : k = i := by omega
            subst this
            rw [hoL] at ho'; cases ho'
            exact hedges e he hb
          · exact hcl k o' ho' hk' e he hb
      · have : ((List.range ops.size).filter (fun k => !inS (listed.setIfInBounds i true) k)).length < ((List.range ops.size).filter (fun k => !inS listed k)).length := by
          refine filter_lt (p := fun k => !inS listed k) (q := fun k => !inS (listed.setIfInBounds i true) k) _ (fun k _ hk => ?_) i (by simpa using hjlt) (by simp [hSj]) (by simp [hset])
          simp only [hset] at hk
          split at hk
          · simp at hk
          · exact hk
        omega
      · constructor
        · rintro (h | ⟨y, hy, hS', hid⟩)
          · exact .inl (.inl h)
          · rw [hset] at hS'
            by_cases hyi : y.1 = i
            · have hyx : y = (i, ox, ent) := by
                rw [hsplit] at hy
                rcases List.mem_append.1 hy with hy | hy
                · have := hidx1 y hy; omega
                · rcases List.mem_cons.1 hy with rfl | hy
                  · rfl
                  · have := hidx2 y hy; omega
              rw [hyx] at hid
              exact .inr hid
            · rw [if_neg hyi] at hS'
              exact .inl (.inr ⟨y, hy, hS', hid⟩)
        · rintro ((h | ⟨y, hy, hS', hid⟩) | h)
          · exact .inl h
          · exact .inr ⟨y, hy, by rw [hset]; split; rfl; exact hS', hid⟩
          · exact .inr ⟨(i, ox, ent), by rw [hsplit]; simp, by rw [hset]; simp, h⟩
      · rw [hsplit, envS_append, envS_append]
        simp only [envS, hset, hSj, if_true]
        have hL1 : ∀ y ∈ L1, inS (listed.setIfInBounds i true) y.1 = inS listed y.1 := fun y hy => by rw [hset, if_neg (by have := hidx1 y hy; omega)]
        have hL2 : ∀ y ∈ L2, inS (listed.setIfInBounds i true) y.1 = inS listed y.1 := fun y hy => by rw [hset, if_neg (by have := hidx2 y hy; omega)]
        have b1 : ∀ s, (envS (inS (listed.setIfInBounds i true)) L1 env0).getD s poi = (envS (inS listed) L1 env0).getD s poi := fun s => envS_congr L1 env0 env0 rfl rfl (fun y hy _ => hL1 y hy)
        have bl : (envS (inS (listed.setIfInBounds i true)) L1 env0).length = (envS (inS listed) L1 env0).length := by rw [envS_len, envS_len]
        simp only [Bool.false_eq_true, if_false]
        by_cases hd : ox.dst = some t
        · -- nothing behind writes it
          have hno : ∀ (e e' : List Value), e.length = e'.length → e.getD t poi = e'.getD t poi → (envS (inS listed) L2 e).getD t poi = e'.getD t poi := fun e e' hl he => by
            have := envS_congr (S := inS listed) (S' := fun _ => false) (t := t) L2 e e' hl he (fun y hy hdy => by
              rcases aft y hy with h | h
              · exact h
              · exact absurd hdy (h.slots.2.1 t hd))
            rw [this]
            have none_ : ∀ (M : List Tri) (e : List Value), envS (fun _ => false) M e = e := by
              intro M; induction M with
              | nil => intro e; rfl
              | cons z M ih => intro e; obtain ⟨_, _, _⟩ := z; simp only [envS]; exact ih _
            rw [none_]
          rw [envS_congr (S := inS (listed.setIfInBounds i true)) (S' := inS listed) L2 _ _ rfl rfl (fun y hy _ => hL2 y hy)]
          rw [hno _ (put (envS (inS listed) L1 env0) ox.dst ent.out.v) (by rw [put_len, put_len, bl]) (put_get_congr bl (b1 t))]
          exact (put_get_congr (by rw [envS_len]) (hno _ _ rfl rfl)).symm
        · rw [put_get_ne hd]
          exact envS_congr L2 _ _ (by rw [put_len, bl]) (by rw [put_get_ne hd]; exact b1 t) (fun y hy _ => hL2 y hy)
      · rw [put_len, envS_len, envS_len]
      · rw [hsplit, hS_append, hS_append]
        simp only [hS, hset, hSj, if_true]
        have hL1 : ∀ y ∈ L1, inS (listed.setIfInBounds i true) y.1 = inS listed y.1 := fun y hy => by rw [hset, if_neg (by have := hidx1 y hy; omega)]
        have hL2 : ∀ y ∈ L2, inS (listed.setIfInBounds i true) y.1 = inS listed y.1 := fun y hy => by rw [hset, if_neg (by have := hidx2 y hy; omega)]
        have b1 : rd (hS (inS (listed.setIfInBounds i true)) L1 H0) id = rd (hS (inS listed) L1 H0) id := hS_congr L1 H0 H0 rfl (fun y hy _ => hL1 y hy)
        simp only [Bool.false_eq_true, if_false]
        by_cases hd : id ∈ ent.out.δ.map (·.1)
        · have hno : ∀ (e e' : Heap), rd e id = rd e' id → rd (hS (inS listed) L2 e) id = rd e' id := fun e e' he => by
            have := hS_congr (S := inS listed) (S' := fun _ => false) (id := id) L2 e e' he (fun y hy hdy => by
              rcases aft y hy with h | h
              · exact h
              · exact absurd hdy (h.xw id hd).2)
            rw [this]
            have none_ : ∀ (M : List Tri) (e : Heap), hS (fun _ => false) M e = e := by
              intro M; induction M with
              | nil => intro e; rfl
              | cons z M ih => intro e; obtain ⟨_, _, _⟩ := z; simp only [hS]; exact ih _
            rw [none_]
          rw [hS_congr (S := inS (listed.setIfInBounds i true)) (S' := inS listed) L2 _ _ rfl (fun y hy _ => hL2 y hy)]
          rw [hno _ (ap (hS (inS listed) L1 H0) ent.out.δ) (rd_ap_congr _ _ _ _ fun _ => b1)]
          exact rd_ap_congr _ _ _ _ fun hn => absurd hd hn
        · rw [rd_ap_out _ _ _ hd]
          exact hS_congr L2 _ _ (by rw [rd_ap_out _ _ _ hd]; exact b1) (fun y hy _ => hL2 y hy)
    -- the operation
    unfold wpOp
    simp only [ho]
    rw [wanted_ok hr hwant]
    cases hw : ent.wanted with
    | true =>
      obtain ⟨hs, hf⟩ := k4 hw
      simp only [if_true]
      exact .inl (hs F _ ψ _ _ a w hr hev hread hnew _ _ hrest)
    | false =>
      simp only [Bool.false_eq_true, if_false]
      have hno := k5 hw
      refine hrest ψ _ _ ?_
      rw [hno]
      exact (skip_rel hr ox.dst).congr (fun id => by simp [noOut]) (fun _ => rfl) rfl (fun _ => rfl)

end
end
end Go.Vm
end
section
/- Renaming of ids: into a small heap for a call, and back; collecting what is not reached. -/
namespace Go.Vm
noncomputable section

/-- A value under other ids; an id without a new name becomes unknown. -/
def renV (ρ : Nat → Option Nat) : Nat → Value → Value
  | 0, _ => poi
  | d + 1, v =>
    if atom v then v
    else match v with
      | .pointer (some ⟨id, off, none⟩) => match ρ id with | some j => .pointer (some ⟨j, off, none⟩) | none => poi
      | .map (some id) => match ρ id with | some j => .map (some j) | none => poi
      | .slice (some ⟨id, off, none⟩) len cap => match ρ id with | some j => .slice (some ⟨j, off, none⟩) len cap | none => poi
      | .slice none 0 1 => v
      | .agg xs => .agg (xs.toList.map (renV ρ d)).toArray
      | .tuple xs => if noPoi xs.toList then .tuple (xs.toList.map (renV ρ d)).toArray else poi
      | .func fn xs us => .func fn (xs.toList.map (renV ρ d)).toArray (us.toList.map (renV ρ d)).toArray
      | _ => poi

def renO (ρ : Nat → Option Nat) : AObj → AObj
  | .row cells es more rw flat => .row (if flat then cells else cells.map (renV ρ 4)) es more rw flat
  | o => o

theorem renO_vd (ρ : Nat → Option Nat) (o : AObj) : (renO ρ o).vd = o.vd := by
  cases o with
  | row cells es more rw flat => cases cells <;> cases flat <;> rfl
  | _ => rfl

theorem renO_es (ρ : Nat → Option Nat) {g : Gh} {o : AObj} (h : EsOK g o) : EsOK g (renO ρ o) := by cases o <;> exact h

theorem renO_rw (ρ : Nat → Option Nat) (o : AObj) : (renO ρ o).rw = o.rw := by cases o <;> rfl

section
variable {A A' : Nat → Prop} {ψ ψ' : Nat → Gh} {ρ : Nat → Option Nat}

theorem map_getD {f : Value → Value} {l : List Value} {l' : List Value} (h : ∀ i, i < l.length → VR A' ψ' (f (l.getD i poi)) (l'.getD i undef)) (i : Nat) :
    VR A' ψ' ((l.map f).getD i poi) (l'.getD i undef) := by
  by_cases hi : i < l.length
  · have := h i hi
    simpa [List.getD_eq_getElem?_getD, hi] using this
  · have e1 : (l.map f).getD i poi = poi := by simp [List.getD_eq_getElem?_getD, hi]
    rw [e1]; exact .poison _

theorem arr_map {f : Value → Value} {xs ys : Array Value} (_hs : xs.size = ys.size) (h : ∀ i, VR A' ψ' (f (xs.getD i poi)) (ys.getD i undef)) (i : Nat) :
    VR A' ψ' ((xs.toList.map f).toArray.getD i poi) (ys.getD i undef) := by
  have := map_getD (A' := A') (ψ' := ψ') (f := f) (l := xs.toList) (l' := ys.toList) (fun i _ => by simpa [Array.getD_eq_getD_getElem?, List.getD_eq_getElem?_getD] using h i) i
  simpa [Array.getD_eq_getD_getElem?, List.getD_eq_getElem?_getD] using this

theorem renV_rel (hρ : ∀ id j, A id → ρ id = some j → A' j ∧ ψ' j = ψ id) : ∀ (d : Nat) {v v' : Value}, VR A ψ v v' → VR A' ψ' (renV ρ d v) v'
  | 0, _, _, _ => .poison _
  | d + 1, v, v', h => by
    unfold renV
    split
    · rename_i ha
      rw [h.of_atom ha]; exact .atom _ ha
    · rename_i hna
      cases h with
      | poison => simp [poi, noPoi]; exact .poison _
      | atom _ ha => exact absurd ha hna
      | ptr id off hA =>
        simp only
        split
        · rename_i j hj
          obtain ⟨h1, h2⟩ := hρ id j hA hj
          rw [← h2]; exact .ptr _ _ h1
        · exact .poison _
      | map id hA =>
        simp only
        split
        · rename_i j hj
          obtain ⟨h1, h2⟩ := hρ id j hA hj
          rw [← h2]; exact .map _ h1
        · exact .poison _
      | slice id off len cap cap' hA hc =>
        simp only
        split
        · rename_i j hj
          obtain ⟨h1, h2⟩ := hρ id j hA hj
          rw [← h2] at hc ⊢; exact .slice _ _ _ _ _ h1 hc
        · exact .poison _
      | void id off a hA =>
        simp only
        split
        · rename_i j hj
          exact .void _ _ _ (hρ id j hA hj).1
        · exact .poison _
      | view id off len c a hA hl ha =>
        simp only
        split
        · rename_i j hj
          obtain ⟨h1, h2⟩ := hρ id j hA hj
          exact .view _ _ _ _ _ h1 hl (by rw [h2]; exact ha)
        · exact .poison _
      | empty a c => exact .empty a c
      | agg xs ys hs h1 h => exact .agg _ _ (by simp [hs]) h1 (arr_map hs fun i => renV_rel hρ d (h i))
      | tuple xs ys hs h =>
        simp only
        split
        · exact .tuple _ _ (by simp [hs]) (arr_map hs fun i => renV_rel hρ d (h i))
        · exact .poison _
      | func fn xs ys us vs hs ht h k => exact .func _ _ _ _ _ (by simp [hs]) (by simp [ht]) (arr_map hs fun i => renV_rel hρ d (h i)) (arr_map ht fun i => renV_rel hρ d (k i))

theorem renO_rel (hρ : ∀ id j, A id → ρ id = some j → A' j ∧ ψ' j = ψ id) {g : Gh} {w : World} {o : AObj} (h : ORel A ψ g w o) : ORel A' ψ' g w (renO ρ o) := by
  cases o with
  | iter s pos => exact h
  | smap es => exact h
  | row cells es more rw flat =>
    obtain ⟨arr, el, fz, h1, h2, h3, h4, h5⟩ := h
    cases flat with
    | true =>
      refine ⟨arr, el, fz, h1, h2, fun i hi => ?_, h4, h5⟩
      simp only [if_true] at hi ⊢
      obtain ⟨v', e1, e2, e3⟩ := h3 i hi
      have ha : atom (cells.getD i poi) = true := by
        have : cells.getD i poi ∈ cells := by simp [List.getD_eq_getElem?_getD, hi]
        exact h5 rfl _ this
      refine ⟨v', e1, e2, ?_⟩
      rw [e3.of_atom ha]; exact .atom _ ha
    | false =>
      refine ⟨arr, el, fz, h1, h2, fun i hi => ?_, fun hrw => ?_, fun hf => by cases hf⟩
      · simp only [Bool.false_eq_true, if_false, List.length_map] at hi ⊢
        obtain ⟨v', e1, e2, e3⟩ := h3 i hi
        refine ⟨v', e1, e2, ?_⟩
        have e4 : (cells.map (renV ρ 4)).getD i poi = renV ρ 4 (cells.getD i poi) := by simp [List.getD_eq_getElem?_getD, hi]
        rw [e4]; exact renV_rel hρ 4 e3
      · obtain ⟨q1, q2, q3, q4⟩ := h4 hrw
        exact ⟨q1, q2, q3, fun hm => by simpa using q4 hm⟩

theorem LR.ren (hρ : ∀ id j, A id → ρ id = some j → A' j ∧ ψ' j = ψ id) {l l' : List Value} (h : LR A ψ l l') : LR A' ψ' (l.map (renV ρ 4)) l' :=
  ⟨by simp [h.len], map_getD fun i _ => renV_rel hρ 4 (h.at_ i)⟩
end

/-- The place of an id in a list. -/
def pos : List Nat → Nat → Option Nat
  | [], _ => none
  | x :: r, id => if x == id then some 0 else (pos r id).map (· + 1)

def nodupB : List Nat → Bool
  | [] => true
  | x :: r => !(r.contains x) && nodupB r

theorem pos_spec : ∀ {l : List Nat} {id j : Nat}, pos l id = some j → l[j]? = some id
  | [], _, _, h => by simp [pos] at h
  | x :: r, id, j, h => by
    simp only [pos] at h
    split at h
    · rename_i he; cases h; simp at he; simp [he]
    · obtain ⟨k, hk, rfl⟩ := Option.map_eq_some_iff.1 h
      simpa using pos_spec hk

theorem nodup_inj : ∀ {l : List Nat}, nodupB l = true → ∀ {i j x : Nat}, l[i]? = some x → l[j]? = some x → i = j
  | [], _, _, _, _, h, _ => by simp at h
  | y :: r, hn, i, j, x, hi, hj => by
    simp only [nodupB, Bool.and_eq_true, Bool.not_eq_true'] at hn
    cases i with
    | zero =>
      cases j with
      | zero => rfl
      | succ j =>
        simp at hi hj; subst hi
        have : y ∈ r := List.mem_of_getElem? hj
        have h2 := hn.1
        rw [← List.contains_iff_mem] at this
        rw [this] at h2; cases h2
    | succ i =>
      cases j with
      | zero =>
        simp at hi hj; subst hj
        have : y ∈ r := List.mem_of_getElem? hi
        have h2 := hn.1
        rw [← List.contains_iff_mem] at this
        rw [this] at h2; cases h2
      | succ j => simp at hi hj; rw [nodup_inj hn.2 hi hj]

/-- The part of a heap with these ids, which are numbered anew. -/
def resH (H : Heap) (ids : List Nat) : Heap := ids.map fun id => (rd H id).map (renO (pos ids))

theorem rd_map {f : Nat → Option AObj} : ∀ (ids : List Nat) (j : Nat), rd (ids.map f) j = (ids[j]?).bind f
  | [], _ => rfl
  | _ :: _, 0 => rfl
  | _ :: r, j + 1 => by rw [List.map_cons, rd_cons, rd_map r j]; simp

theorem res_rel {P : Program} {F : Fr P} {A : Nat → Prop} {ψ : Nat → Gh} {H : Heap} {w : World} {ids : List Nat} (h : HRel F A ψ H w) (hn : nodupB ids = true) {F' : Fr P} (hF : F'.ok w)
    (hown : ∀ (j id : Nat) (o : AObj), ids[j]? = some id → rd H id = some o → o.rw = true → o.vd = false → F'.w0.heap.size ≤ (ψ id).blk ∨ F'.S (ψ id).blk)
    (hold : ∀ (j : Nat), F'.A0 j → ∃ id : Nat, ids[j]? = some id ∧ A id ∧ ψ id = F'.ψ0 j) :
    HRel F' (fun j => ∃ id : Nat, ids[j]? = some id ∧ A id) (fun j => ψ (ids.getD j 0)) (resH H ids) w := by
  have hg : ∀ {j id : Nat}, ids[j]? = some id → ids.getD j 0 = id := fun h => by simp [List.getD_eq_getElem?_getD, h]
  have hρ : ∀ id j, A id → pos ids id = some j → (∃ id : Nat, ids[j]? = some id ∧ A id) ∧ ψ (ids.getD j 0) = ψ id := fun id j ha hj => by
    have := pos_spec hj
    exact ⟨⟨id, this, ha⟩, by rw [hg this]⟩
  have look : ∀ {j : Nat} {o : AObj}, rd (resH H ids) j = some o → ∃ (id : Nat) (o' : AObj), ids[j]? = some id ∧ rd H id = some o' ∧ o = renO (pos ids) o' := fun {j o} hj => by
    rw [resH, rd_map] at hj
    cases hi : ids[j]? with
    | none => simp [hi] at hj
    | some id =>
      simp only [hi, Option.bind_some] at hj
      obtain ⟨o', h1, h2⟩ := Option.map_eq_some_iff.1 hj
      exact ⟨id, o', rfl, h1, h2.symm⟩
  refine ⟨fun j o hj => ?_, fun i j oi oj hi hj hij hrw hvi hvj => ?_, hF, fun j o hj hrw hv => ?_, fun j hj => ?_⟩
  · obtain ⟨id, o', h1, h2, rfl⟩ := look hj
    obtain ⟨l1, l2, l3⟩ := h.live id o' h2
    simp only [hg h1]
    exact ⟨⟨id, h1, l1⟩, renO_es _ l2, fun hv => by rw [renO_vd] at hv; exact ⟨(l3 hv).1, renO_rel hρ (l3 hv).2⟩⟩
  · obtain ⟨a, oa, a1, a2, rfl⟩ := look hi
    obtain ⟨b, ob, b1, b2, rfl⟩ := look hj
    simp only [hg a1, hg b1]
    rw [renO_rw] at hrw
    rw [renO_vd] at hvi hvj
    exact h.inj a b oa ob a2 b2 (fun e => hij (nodup_inj hn a1 (by rw [e]; exact b1))) hrw hvi hvj
  · obtain ⟨id, o', h1, h2, rfl⟩ := look hj
    simp only [hg h1]
    rw [renO_rw] at hrw
    rw [renO_vd] at hv
    exact hown j id o' h1 h2 hrw hv
  · obtain ⟨id, h1, h2, h3⟩ := hold j hj
    simp only [hg h1]
    exact ⟨⟨id, h1, h2⟩, h3⟩

/-- Small: a function's run from a heap of its own, ids from 0 on. -/
def SmallRes (P : Program) (f : FuncId) (args : List Value) (H : Heap) (ret : Value) (H' : Heap) : Prop :=
  ∀ (F : Fr P) A ψ w args', HRel F A ψ H w → (∀ id, A id → id < H.length) → F.A0 = A → F.ψ0 = ψ → LR A ψ args args' →
    Calls P f args'.toArray w (fun e w' => ∃ v' A' ψ', e = .returned v' ∧ HRel F A' ψ' H' w' ∧ (∀ id, A' id → id < H'.length) ∧ VR A' ψ' ret v')

/-- Names for what comes back. -/
def backρ (ids new : List Nat) (nid : Nat) (j : Nat) : Option Nat := if j < ids.length then ids[j]? else (pos new j).map (nid + ·)

def back (H : Heap) (ids new : List Nat) (nid : Nat) (ret : Value) (H' : Heap) : Out :=
  ⟨renV (backρ ids new nid) 4 ret,
   (ids.zipIdx.filterMap fun (id, j) => match rd H id with
      | some o => if o.rw then some (id, (rd H' j).map (renO (backρ ids new nid))) else none
      | none => none) ++ (new.zipIdx.map fun (j, k) => (nid + k, (rd H' j).map (renO (backρ ids new nid)))),
   ids, (List.range new.length).map (nid + ·)⟩

end
end Go.Vm
end
section
/- From a function's own small heap to its caller's. -/
namespace Go.Vm
noncomputable section

theorem rd_ap_mem : ∀ (δ : Delta) (H : Heap) (i : Nat) (o : Option AObj), (∀ p ∈ δ, p.1 = i → p.2 = o) → (∃ p ∈ δ, p.1 = i) → rd (ap H δ) i = o
  | [], _, _, _, _, h => by obtain ⟨_, h, _⟩ := h; cases h
  | (k, x) :: r, H, i, o, h, hex => by
    simp only [ap]
    by_cases hr : ∃ p ∈ r, p.1 = i
    · exact rd_ap_mem r _ i o (fun p hp => h p (by simp [hp])) hr
    · obtain ⟨p, hp, e⟩ := hex
      rcases List.mem_cons.1 hp with rfl | hp
      · simp only at e; subst e
        rw [rd_ap_out r _ k (fun hm => hr (by obtain ⟨q, hq, e⟩ := List.mem_map.1 hm; exact ⟨q, hq, e⟩)), rd_wr, if_pos rfl]
        exact h (k, x) (by simp) rfl
      · exact absurd ⟨p, hp, e⟩ hr

/-- The checks on what comes back. -/
def backOK (H : Heap) (ids new : List Nat) (H' : Heap) : Bool :=
  nodupB ids && ids.all (fun id => (rd H id).isSome) && nodupB new && new.all (fun j => decide (ids.length ≤ j) && (match rd H' j with | some o => o.rw | none => true)) &&
    (ids.zipIdx.all fun (id, j) => match rd H id with
      | some o => !o.rw || (match rd H' j with | some o' => o'.rw | none => true)
      | none => true)

theorem call_lift {P : Program} {f : FuncId} {args : List Value} {H : Heap} {ids new : List Nat} {ret : Value} {H' : Heap} {nid : Nat}
    (hs : SmallRes P f (args.map (renV (pos ids) 4)) (resH H ids) ret H') (hok : backOK H ids new H' = true) : CallRes P f args H (back H ids new nid ret H') := by
  simp only [backOK, Bool.and_eq_true, List.all_eq_true, decide_eq_true_eq] at hok
  obtain ⟨⟨⟨⟨hn, hlive⟩, hnn⟩, hnew⟩, hids⟩ := hok
  intro F A ψ H1 w args' hh hl hD hnu
  have hD' : ∀ id ∈ ids, rd H1 id = rd H id := hD
  have hres : resH H ids = resH H1 ids := List.map_congr_left fun id hid => by rw [hD' id hid]
  rw [hres] at hs
  have hobj : ∀ id ∈ ids, ∃ o, rd H1 id = some o := fun id hid => by
    have := hlive id hid
    rw [← hD' id hid] at this
    exact Option.isSome_iff_exists.1 this
  have hAids : ∀ (j id : Nat), ids[j]? = some id → A id := fun j id h => by
    obtain ⟨o, ho⟩ := hobj id (List.mem_of_getElem? h)
    exact (hh.live id o ho).1
  have hgd : ∀ {j id : Nat}, ids[j]? = some id → ids.getD j 0 = id := fun h => by simp [List.getD_eq_getElem?_getD, h]
  let S' : Nat → Prop := fun b => ∃ id o, id ∈ ids ∧ rd H1 id = some o ∧ o.rw = true ∧ o.vd = false ∧ (ψ id).blk = b
  let F' : Fr P := ⟨w, S', fun j => ∃ id : Nat, ids[j]? = some id ∧ A id, fun j => ψ (ids.getD j 0), []⟩
  have hF' : F'.ok w := ⟨rfl, rfl, rfl, Nat.le_refl _, fun _ _ _ => rfl, fun w' h1 h2 => hh.fr.lay w' (fun k hk hs => by
    refine (h1 k (Nat.lt_of_lt_of_le hk hh.fr.size) fun hS' => ?_).trans (hh.fr.block k hk hs)
    obtain ⟨id, o, _, k2, k3, k5, k4⟩ := hS'
    rcases hh.own id o k2 k3 k5 with h | h
    · rw [k4] at h; omega
    · rw [k4] at h; exact hs h) (Nat.le_trans hh.fr.size h2)⟩
  have hr0 := res_rel (F' := F') hh hn hF' (fun j id o h1 h2 h3 h4 => .inr ⟨id, o, List.mem_of_getElem? h1, h2, h3, h4, rfl⟩) (fun j hj => by
    obtain ⟨id, h1, h2⟩ := hj
    exact ⟨id, h1, h2, by show ψ id = ψ (ids.getD j 0); rw [hgd h1]⟩)
  have hl0 : LR (fun j => ∃ id : Nat, ids[j]? = some id ∧ A id) (fun j => ψ (ids.getD j 0)) (args.map (renV (pos ids) 4)) args' := hl.ren fun id j ha hj => by
    have := pos_spec hj
    exact ⟨⟨id, this, ha⟩, by rw [hgd this]⟩
  refine (hs F' _ _ w args' hr0 (fun j hj => ?_) rfl rfl hl0).mono ?_
  · obtain ⟨id, h1, _⟩ := hj
    have := (List.getElem?_eq_some_iff.1 h1).1
    simpa [resH] using this
  rintro e w' ⟨v', A', ψ', rfl, hh', hb', hv'⟩
  -- the names
  have hmemnu : ∀ id, id ∈ (List.range new.length).map (nid + ·) ↔ ∃ m, m < new.length ∧ id = nid + m := fun id => by
    simp only [List.mem_map, List.mem_range]
    exact ⟨fun ⟨m, h1, h2⟩ => ⟨m, h1, h2.symm⟩, fun ⟨m, h1, h2⟩ => ⟨m, h1, h2.symm⟩⟩
  let ψ2 : Nat → Gh := fun id => if nid ≤ id ∧ id - nid < new.length then ψ' (new.getD (id - nid) 0) else ψ id
  have hψA : ∀ id, A id → ψ2 id = ψ id := fun id ha => by
    have : ¬ (nid ≤ id ∧ id - nid < new.length) := fun hc => hnu id ((hmemnu id).2 ⟨id - nid, hc.2, by omega⟩) ha
    simp only [ψ2, if_neg this]
  have hψn : ∀ (m j : Nat), new[m]? = some j → ψ2 (nid + m) = ψ' j := fun m j hm => by
    have hlt := (List.getElem?_eq_some_iff.1 hm).1
    have : nid ≤ nid + m ∧ nid + m - nid < new.length := ⟨by omega, by omega⟩
    simp only [ψ2, if_pos this]
    rw [show nid + m - nid = m by omega]
    congr 1
    simp [List.getD_eq_getElem?_getD, hm]
  have hold : ∀ (j id : Nat), ids[j]? = some id → A' j ∧ ψ' j = ψ id := fun j id h => by
    have := hh'.old j ⟨id, h, hAids j id h⟩
    exact ⟨this.1, by rw [this.2]; show ψ (ids.getD j 0) = ψ id; rw [hgd h]⟩
  have hρ : ∀ j k, A' j → backρ ids new nid j = some k → (A k ∨ k ∈ (List.range new.length).map (nid + ·)) ∧ ψ2 k = ψ' j := fun j k ha hk => by
    simp only [backρ] at hk
    split at hk
    · have hA := hAids j k hk
      exact ⟨.inl hA, by rw [hψA k hA, (hold j k hk).2]⟩
    · obtain ⟨m, hm, rfl⟩ := Option.map_eq_some_iff.1 hk
      have := pos_spec hm
      exact ⟨.inr ((hmemnu _).2 ⟨m, (List.getElem?_eq_some_iff.1 this).1, rfl⟩), hψn m j this⟩
  refine ⟨v', ψ2, rfl, ?_, hψA, renV_rel hρ 4 hv'⟩
  -- the heap
  have hkeys1 : ∀ p ∈ (back H ids new nid ret H').δ, (∃ (j : Nat) (o : AObj), ids[j]? = some p.1 ∧ rd H1 p.1 = some o ∧ o.rw = true ∧ p.2 = (rd H' j).map (renO (backρ ids new nid))) ∨
      ∃ m j : Nat, new[m]? = some j ∧ p.1 = nid + m ∧ p.2 = (rd H' j).map (renO (backρ ids new nid)) := fun p hp => by
    simp only [back, List.mem_append, List.mem_filterMap, List.mem_map] at hp
    rcases hp with ⟨⟨id, j⟩, hm, h1⟩ | ⟨⟨j, k⟩, hm, h1⟩
    · have hj : ids[j]? = some id := List.mem_zipIdx_iff_getElem?.1 hm
      have hid : id ∈ ids := List.mem_of_getElem? hj
      simp only at h1
      split at h1
      · rename_i o ho
        split at h1
        · rename_i hrw
          cases h1
          exact .inl ⟨j, o, hj, by rw [hD' id hid]; exact ho, hrw, rfl⟩
        · cases h1
      · cases h1
    · have hj : new[k]? = some j := List.mem_zipIdx_iff_getElem?.1 hm
      cases h1
      exact .inr ⟨k, j, hj, rfl, rfl⟩
  have hnotnu : ∀ {j id m : Nat}, ids[j]? = some id → m < new.length → id ≠ nid + m := fun {j id m} h hm e => hnu id ((hmemnu id).2 ⟨m, hm, e⟩) (hAids j id h)
  have hnew_at : ∀ (m j : Nat), new[m]? = some j → rd (ap H1 (back H ids new nid ret H').δ) (nid + m) = (rd H' j).map (renO (backρ ids new nid)) := fun m j hm => by
    refine rd_ap_mem _ _ _ _ (fun p hp he => ?_) ⟨(nid + m, (rd H' j).map (renO (backρ ids new nid))), ?_, rfl⟩
    · rcases hkeys1 p hp with ⟨j', o, h1, _, _, _⟩ | ⟨m', j', h1, h2, h3⟩
      · exact absurd he (hnotnu h1 (List.getElem?_eq_some_iff.1 hm).1)
      · have : m' = m := by omega
        subst this
        rw [hm] at h1; cases h1; exact h3
    · simp only [back, List.mem_append, List.mem_map]
      exact .inr ⟨(j, m), List.mem_zipIdx_iff_getElem?.2 hm, rfl⟩
  have hids_at : ∀ (j id : Nat) (o : AObj), ids[j]? = some id → rd H1 id = some o → o.rw = true → rd (ap H1 (back H ids new nid ret H').δ) id = (rd H' j).map (renO (backρ ids new nid)) := fun j id o h1 h2 h3 => by
    refine rd_ap_mem _ _ _ _ (fun p hp he => ?_) ⟨(id, (rd H' j).map (renO (backρ ids new nid))), ?_, rfl⟩
    · rcases hkeys1 p hp with ⟨j', o', k1, _, _, k4⟩ | ⟨m', j', k1, k2, _⟩
      · rw [he] at k1
        have := nodup_inj hn h1 k1
        subst this; exact k4
      · exact absurd (he.symm.trans k2) (hnotnu h1 (List.getElem?_eq_some_iff.1 k1).1)
    · simp only [back, List.mem_append, List.mem_filterMap]
      refine .inl ⟨(id, j), List.mem_zipIdx_iff_getElem?.2 h1, ?_⟩
      rw [hD' id (List.mem_of_getElem? h1)] at h2
      simp [h2, h3]
  have hrest : ∀ id, (∀ m, m < new.length → id ≠ nid + m) → (∀ (j : Nat) (o : AObj), ids[j]? = some id → rd H1 id = some o → o.rw = false) → rd (ap H1 (back H ids new nid ret H').δ) id = rd H1 id := fun id h1 h2 => by
    refine rd_ap_out _ _ _ fun hm => ?_
    obtain ⟨p, hp, rfl⟩ := List.mem_map.1 hm
    rcases hkeys1 p hp with ⟨j', o, k1, k2, k3, _⟩ | ⟨m', j', k1, k2, _⟩
    · have := h2 j' o k1 k2; rw [k3] at this; cases this
    · exact h1 m' (List.getElem?_eq_some_iff.1 k1).1 k2
  have look : ∀ {id : Nat} {o : AObj}, rd (ap H1 (back H ids new nid ret H').δ) id = some o →
      (∃ (j : Nat) (o' : AObj), rd H' j = some o' ∧ o = renO (backρ ids new nid) o' ∧ ψ2 id = ψ' j ∧ (A id ∨ id ∈ (List.range new.length).map (nid + ·)) ∧ o.rw = true ∧ ((∃ m, new[m]? = some j ∧ id = nid + m) ∨ ids[j]? = some id)) ∨
      (rd H1 id = some o ∧ (∀ (j : Nat), ids[j]? = some id → o.rw = false)) := fun {id o} ho => by
    by_cases hc1 : ∃ m, m < new.length ∧ id = nid + m
    · obtain ⟨m, hm, rfl⟩ := hc1
      have hj : new[m]? = some new[m] := List.getElem?_eq_getElem hm
      rw [hnew_at m _ hj] at ho
      obtain ⟨o', h1, h2⟩ := Option.map_eq_some_iff.1 ho
      refine .inl ⟨_, o', h1, h2.symm, hψn m _ hj, .inr ((hmemnu _).2 ⟨m, hm, rfl⟩), ?_, .inl ⟨m, hj, rfl⟩⟩
      have := (hnew _ (List.getElem_mem hm)).2
      rw [h1] at this
      rw [← h2, renO_rw]; exact this
    · by_cases hc2 : ∃ (j : Nat) (o0 : AObj), ids[j]? = some id ∧ rd H1 id = some o0 ∧ o0.rw = true
      · obtain ⟨j, o0, k1, k2, k3⟩ := hc2
        rw [hids_at j id o0 k1 k2 k3] at ho
        obtain ⟨o', h1, h2⟩ := Option.map_eq_some_iff.1 ho
        have hA := hAids j id k1
        refine .inl ⟨j, o', h1, h2.symm, by rw [hψA id hA, (hold j id k1).2], .inl hA, ?_, .inr k1⟩
        have := hids (id, j) (List.mem_zipIdx_iff_getElem?.2 k1)
        rw [hD' id (List.mem_of_getElem? k1)] at k2
        simp only [k2, k3, Bool.not_true, Bool.false_or, h1] at this
        rw [← h2, renO_rw]; exact this
      · have hno : ∀ (j : Nat) (o : AObj), ids[j]? = some id → rd H1 id = some o → o.rw = false := fun j o h1 h2 => by
          cases hr : o.rw with
          | false => rfl
          | true => exact absurd ⟨j, o, h1, h2, hr⟩ hc2
        rw [hrest id (fun m hm e => hc1 ⟨m, hm, e⟩) hno] at ho
        exact .inr ⟨ho, fun j hj => hno j o hj ho⟩
  have hS'blk : ∀ {id : Nat} {o : AObj}, rd H1 id = some o → o.vd = false → (∀ (j : Nat), ids[j]? = some id → o.rw = false) → ¬ S' (ψ id).blk := fun {id o} h1 hv h2 hS => by
    obtain ⟨id2, o2, k1, k2, k3, k5, k4⟩ := hS
    by_cases e : id2 = id
    · subst e
      rw [h1] at k2; cases k2
      obtain ⟨j, hj, e⟩ := List.mem_iff_getElem.1 k1
      have := h2 j (by rw [← e]; exact List.getElem?_eq_getElem hj)
      rw [k3] at this; cases this
    · exact hh.inj id2 id o2 o k2 h1 e k3 k5 hv k4
  have hnear : ∀ {id : Nat} {o : AObj} {b : Nat}, rd H1 id = some o → o.vd = false → (∀ (j : Nat), ids[j]? = some id → o.rw = false) → (w.heap.size ≤ b ∨ S' b) → b ≠ (ψ id).blk := fun {id o b} h1 hv h2 hb e => by
    subst e
    rcases hb with hb | hb
    · have := ((hh.live id o h1).2.2 hv).1; omega
    · exact hS'blk h1 hv h2 hb
  have hown' : ∀ b, (w.heap.size ≤ b ∨ S' b) → F.w0.heap.size ≤ b ∨ F.S b := fun b hb => by
    rcases hb with hb | ⟨id2, o2, k1, k2, k3, k5, k4⟩
    · exact .inl (Nat.le_trans hh.fr.size hb)
    · rw [← k4]; exact hh.own id2 o2 k2 k3 k5
  have hψ1 : ∀ {id : Nat} {o : AObj}, rd H1 id = some o → ψ2 id = ψ id := fun {id o} h => hψA id (hh.live id o h).1
  refine ⟨fun id o ho => ?_, fun i j oi oj hi hj hij hrw hvi hvj => ?_, ?_, fun id o ho hrw hv => ?_, fun id ha => ?_⟩
  · rcases look ho with ⟨j, o', h1, rfl, h3, h4, _, _⟩ | ⟨h1, h2⟩
    · obtain ⟨l1, l2, l3⟩ := hh'.live j o' h1
      rw [h3]
      exact ⟨h4, renO_es _ l2, fun hv => by rw [renO_vd] at hv; exact ⟨(l3 hv).1, renO_rel hρ (l3 hv).2⟩⟩
    · obtain ⟨l1, l2, l3⟩ := hh.live id o h1
      rw [hψ1 h1]
      refine ⟨.inl l1, l2, fun hv => ⟨Nat.lt_of_lt_of_le (l3 hv).1 hh'.fr.size, (l3 hv).2.mono (fun k hk => ⟨.inl hk, hψA k hk⟩) ?_⟩⟩
      exact hh'.fr.block _ (l3 hv).1 (hS'blk h1 hv h2)
  · rcases look hi with ⟨ji, o1, a1, rfl, a3, a4, a5, a6⟩ | ⟨a1, a2⟩ <;> rcases look hj with ⟨jj, o2, b1, rfl, b3, b4, b5, b6⟩ | ⟨b1, b2⟩
    · rw [a3, b3]
      rw [renO_rw] at hrw
      rw [renO_vd] at hvi hvj
      refine hh'.inj ji jj o1 o2 a1 b1 (fun e => hij ?_) hrw hvi hvj
      subst e
      rcases a6 with ⟨m, m1, rfl⟩ | a6 <;> rcases b6 with ⟨m', m2, rfl⟩ | b6
      · rw [nodup_inj hnn m1 m2]
      · have := (hnew _ (List.mem_of_getElem? m1)).1
        have := (List.getElem?_eq_some_iff.1 b6).1
        omega
      · have := (hnew _ (List.mem_of_getElem? m2)).1
        have := (List.getElem?_eq_some_iff.1 a6).1
        omega
      · rw [a6] at b6; cases b6; rfl
    · rw [a3, hψ1 b1]
      rw [renO_rw] at hrw
      rw [renO_vd] at hvi
      exact hnear b1 hvj b2 (hh'.own ji o1 a1 hrw hvi)
    · rw [b3, hψ1 a1]
      rw [renO_rw] at b5
      rw [renO_vd] at hvj
      exact fun e => hnear a1 hvi a2 (hh'.own jj o2 b1 b5 hvj) e.symm
    · rw [hψ1 a1, hψ1 b1]
      exact hh.inj i j oi oj a1 b1 hij hrw hvi hvj
  · have k := hh'.fr
    exact ⟨k.os.trans hh.fr.os, k.tape.trans hh.fr.tape, k.output.trans hh.fr.output, Nat.le_trans hh.fr.size k.size, fun b hb hS => by
      rw [k.block b (Nat.lt_of_lt_of_le hb hh.fr.size) (fun hS2 => by rcases hown' b (.inr hS2) with h | h; omega; exact hS h)]
      exact hh.fr.block b hb hS, hh.fr.lay⟩
  · rcases look ho with ⟨j, o', h1, rfl, h3, h4, _, _⟩ | ⟨h1, h2⟩
    · rw [h3]
      rw [renO_rw] at hrw
      rw [renO_vd] at hv
      exact hown' _ (hh'.own j o' h1 hrw hv)
    · rw [hψ1 h1]; exact hh.own id o h1 hrw hv
  · obtain ⟨h1, h2⟩ := hh.old id ha
    exact ⟨.inl h1, (hψA id h1).trans h2⟩

end
end Go.Vm
end
section
/- Code, functions, and the whole evaluator. -/
namespace Go.Vm
noncomputable section

/-! ### What is reached -/
def idsV : Nat → Value → List Nat
  | 0, _ => []
  | d + 1, v =>
    match v with
    | .pointer (some ⟨id, _, none⟩) => [id]
    | .slice (some ⟨id, _, none⟩) _ _ => [id]
    | .map (some id) => [id]
    | .agg xs => xs.toList.flatMap (idsV d)
    | .tuple xs => xs.toList.flatMap (idsV d)
    | .func _ xs us => xs.toList.flatMap (idsV d) ++ us.toList.flatMap (idsV d)
    | _ => []

def idsO : AObj → List Nat
  | .row cells _ _ _ flat => if flat then [] else cells.flatMap (idsV 4)
  | .iter _ _ => []
  | .smap _ => []

def reach (H : Heap) : Nat → List Nat → List Nat → List Nat
  | 0, _, acc => acc.reverse
  | _ + 1, [], acc => acc.reverse
  | n + 1, id :: q, acc =>
    if acc.contains id then reach H n q acc
    else match rd H id with
      | none => reach H n q acc
      | some o => reach H n (idsO o ++ q) (id :: acc)

/-! ### Slots that are let go -/
def clr : List Bool → List Value → List Value
  | true :: m, _ :: e => poi :: clr m e
  | false :: m, v :: e => v :: clr m e
  | _, e => e

theorem clr_len : ∀ (m : List Bool) (e : List Value), (clr m e).length = e.length
  | [], e => by cases e <;> rfl
  | true :: m, [] => rfl
  | false :: m, [] => rfl
  | true :: m, _ :: e => by simp [clr, clr_len m e]
  | false :: m, _ :: e => by simp [clr, clr_len m e]

theorem clr_get : ∀ (m : List Bool) (e : List Value) (t : Nat), (clr m e).getD t poi = poi ∨ (clr m e).getD t poi = e.getD t poi
  | [], e, t => by cases e <;> exact .inr rfl
  | true :: m, [], t => .inr rfl
  | false :: m, [], t => .inr rfl
  | true :: m, _ :: e, 0 => .inl rfl
  | false :: m, _ :: e, 0 => .inr rfl
  | true :: m, _ :: e, t + 1 => by simpa [clr] using clr_get m e t
  | false :: m, _ :: e, t + 1 => by simpa [clr] using clr_get m e t

/-- Let go what is not reached, and number the rest. -/
def gc (base : Nat) (env : List Value) (H : Heap) : Option (List Value × Heap) :=
  let ids := List.range base ++ (reach H 1000 (List.range base ++ env.flatMap (idsV 4)) []).filter (fun id => decide (base ≤ id))
  if nodupB ids && decide (base ≤ H.length) then some (env.map (renV (pos ids) 4), resH H ids) else none

inductive Ex where
  | normal
  | exit (id : Nat)
  | ret

def Ex.to : Ex → Exit
  | .normal => .normal
  | .exit id => .exit id
  | .ret => .ret

def evLoop (cl : List Bool) (lim base : Nat) (step : List Value → Heap → Option (Ex × List Value × Heap)) : Nat → List Value → Heap → Option (Ex × List Value × Heap)
  | 0, _, _ => none
  | n + 1, env, H =>
    match (if H.length < lim then some (env, H) else gc base (clr cl env) H) with
    | some (env1, H1) =>
      match step env1 H1 with
      | some (.normal, e, h) => evLoop cl lim base step n e h
      | r => r
    | none => none

def evCode (P : Program) (call : CallF) (cl : List Bool) (fd lim base N : Nat) : Code → List Value → Heap → Option (Ex × List Value × Heap)
  | .skip, env, H => some (.normal, env, H)
  | .label _, env, H => some (.normal, env, H)
  | .region _ ops draw, env, H =>
    match draw with
    | true =>
      match evDraw P call fd ops 0 ops.toList env H with
      | some (e, h, L) => if drawOK ops L then some (.normal, e, h) else none
      | none => none
    | false =>
      match evOps P call fd ops ops.toList env H with
      | some (e, h) => some (.normal, e, h)
      | none => none
  | .seq x y, env, H =>
    match evCode P call cl fd lim base N x env H with
    | some (.normal, e, h) => evCode P call cl fd lim base N y e h
    | r => r
  | .cond c x y, env, H =>
    match ev env c with
    | .bool true => evCode P call cl fd lim base N x env H
    | .bool false => evCode P call cl fd lim base N y env H
    | _ => none
  | .block id c, env, H =>
    match evCode P call cl fd lim base N c env H with
    | some (.exit i, e, h) => if i = id then some (.normal, e, h) else some (.exit i, e, h)
    | r => r
  | .loop c, env, H => evLoop cl lim base (evCode P call cl fd lim base N c) N env H
  | .scope c, env, H => evCode P call cl fd lim base N c env H
  | .exit id, env, H => some (.exit id, env, H)
  | .ret, env, H => some (.ret, env, H)
  | _, _, _ => none

section
variable {P : Program} {F : Fr P} {A : Nat → Prop} {ψ : Nat → Gh} {env : List Value} {H : Heap} {a : Act} {w : World}

theorem clr_rel (hr : Rel F A ψ env H a w) (cl : List Bool) : Rel F A ψ (clr cl env) H a w := by
  refine ⟨fun t => ?_, by rw [clr_len]; exact hr.len, hr.defers, hr.heap⟩
  rcases clr_get cl env t with h | h
  · rw [h]; exact .poison _
  · rw [h]; exact hr.slot t

theorem gc_rel {base : Nat} {r : List Value × Heap} (h : gc base env H = some r) (hr : Rel F A ψ env H a w) (hb : ∀ id, F.A0 id → id < base) :
    ∃ A' ψ', Rel F A' ψ' r.1 r.2 a w ∧ ∀ id, A' id → id < r.2.length := by
  simp only [gc] at h
  split at h
  · rename_i hn
    simp only [Bool.and_eq_true, decide_eq_true_eq] at hn
    obtain ⟨hn, _⟩ := hn
    cases h
    generalize hids : List.range base ++ (reach H 1000 (List.range base ++ env.flatMap (idsV 4)) []).filter (fun id => decide (base ≤ id)) = ids at *
    have hpin : ∀ j, j < base → ids[j]? = some j := fun j hj => by
      rw [← hids, List.getElem?_append_left (by simpa using hj)]
      simp [hj]
    have hg : ∀ {j id : Nat}, ids[j]? = some id → ids.getD j 0 = id := fun h => by simp [List.getD_eq_getElem?_getD, h]
    refine ⟨_, _, ⟨fun t => ?_, by simpa using hr.len, hr.defers, res_rel hr.heap hn hr.heap.fr (fun j id o _ h2 h3 h4 => hr.heap.own id o h2 h3 h4) (fun j hj => ?_)⟩, fun j hj => ?_⟩
    · have hρ : ∀ id j, A id → pos ids id = some j → (∃ id : Nat, ids[j]? = some id ∧ A id) ∧ ψ (ids.getD j 0) = ψ id := fun id j ha hj => by
        have := pos_spec hj
        exact ⟨⟨id, this, ha⟩, by rw [hg this]⟩
      by_cases ht : t < env.length
      · have e1 : (env.map (renV (pos ids) 4)).getD t poi = renV (pos ids) 4 (env.getD t poi) := by simp [List.getD_eq_getElem?_getD, ht]
        rw [e1]; exact renV_rel hρ 4 (hr.slot t)
      · have e1 : (env.map (renV (pos ids) 4)).getD t poi = poi := by simp [List.getD_eq_getElem?_getD, ht]
        rw [e1]; exact .poison _
    · have h1 := hpin j (hb j hj)
      have h2 := hr.heap.old j hj
      exact ⟨j, h1, h2.1, h2.2⟩
    · obtain ⟨id, h1, _⟩ := hj
      have := (List.getElem?_eq_some_iff.1 h1).1
      simpa [resH] using this
  · cases h

def Goes (P : Program) (base : Nat) (c : Code) (env : List Value) (H : Heap) (x : Ex) (e : List Value) (h : Heap) : Prop :=
  ∀ (F : Fr P) A ψ a w (Q : Exit → Act → World → Prop), Rel F A ψ env H a w → (∀ id, A id → id < H.length) → (∀ id, F.A0 id → id < base) →
    (∀ A' ψ' a' w', Rel F A' ψ' e h a' w' → (∀ id, A' id → id < h.length) → Q x.to a' w') → c.wp P Q a w

theorem evCode_ok {call : CallF} (hm : P.follows .mixedOrders = true) (hc : CallOK P call) {cl : List Bool} {fd lim base N : Nat} : ∀ (c : Code) (env : List Value) (H : Heap) (x : Ex) (e : List Value) (h : Heap),
    evCode P call cl fd lim base N c env H = some (x, e, h) → Goes P base c env H x e h := by
  intro c
  induction c with
  | skip => intro env H x e h hev F A ψ a w Q hr hb hF hQ; cases hev; exact wp_skip (hQ _ _ _ _ hr hb)
  | label l => intro env H x e h hev F A ψ a w Q hr hb hF hQ; cases hev; exact wp_label (hQ _ _ _ _ hr hb)
  | exit id => intro env H x e h hev F A ψ a w Q hr hb hF hQ; cases hev; exact wp_exit (hQ _ _ _ _ hr hb)
  | ret => intro env H x e h hev F A ψ a w Q hr hb hF hQ; cases hev; exact wp_ret (hQ _ _ _ _ hr hb)
  | region id ops draw =>
    intro env H x e h hev F A ψ a w Q hr hb hF hQ
    simp only [evCode] at hev
    cases draw with
    | true =>
      simp only at hev
      split at hev
      · rename_i e1 h1 L hd
        split at hev
        · rename_i hok
          cases hev
          obtain ⟨t1, t2, t3⟩ := evDraw_trace hc _ _ _ _ _ _ _ hd
          refine wp_region_any hm ?_
          have hsz : ops.toList.length = ops.size := by simp
          rw [hsz] at t3
          have hSS : inS (Array.replicate ops.size false) = fun _ => false := by
            funext i
            simp only [inS, Array.getD_eq_getD_getElem?, Array.getElem?_replicate]
            split <;> rfl
          have hrel : Rel F (AS A L (inS (Array.replicate ops.size false))) ψ (envS (inS (Array.replicate ops.size false)) L env) (hS (inS (Array.replicate ops.size false)) L H) a { w with drawn := w.drawn + 1 } := by
            rw [hSS]
            have n1 : ∀ (M : List Tri) (e : List Value), envS (fun _ => false) M e = e := by
              intro M; induction M with
              | nil => intro e; rfl
              | cons z M ih => intro e; obtain ⟨_, _, _⟩ := z; simp only [envS]; exact ih _
            have n2 : ∀ (M : List Tri) (e : Heap), hS (fun _ => false) M e = e := by
              intro M; induction M with
              | nil => intro e; rfl
              | cons z M ih => intro e; obtain ⟨_, _, _⟩ := z; simp only [hS]; exact ih _
            rw [n1, n2]
            have : AS A L (fun _ => false) = A := by
              funext id; simp [AS]
            rw [this]
            exact ⟨hr.slot, hr.len, hr.defers, hr.heap.alike rfl rfl rfl rfl⟩
          refine any_ok t1 t2 t3 hok hb (F := F) (Q := Q) (fun A' ψ' a' w' h1 h2 => hQ A' ψ' a' w' h1 h2) ops.size _ ψ a _ (by simp) (fun j o _ hj => ?_) ?_ hrel
          · rw [hSS] at hj; cases hj
          · exact Nat.le_trans (List.length_filter_le _ _) (by simp)
        · cases hev
      · cases hev
    | false =>
      simp only at hev
      split at hev
      · rename_i e1 h1 hd
        cases hev
        exact wp_region_list (evOps_plain hc _ _ _ _ hd F A ψ a w Q hr hb (fun A' ψ' a' w' h1 h2 => hQ A' ψ' a' w' h1 h2))
      · cases hev
  | seq x y ihx ihy =>
    intro env H r e h hev F A ψ a w Q hr hb hF hQ
    simp only [evCode] at hev
    split at hev
    · rename_i e1 h1 hx
      refine wp_seq (ihx _ _ _ _ _ hx F A ψ a w _ hr hb hF fun A' ψ' a' w' k1 k2 => ?_)
      exact ihy _ _ _ _ _ hev F A' ψ' a' w' Q k1 k2 hF hQ
    · rename_i hne
      refine wp_seq (ihx _ _ _ _ _ hev F A ψ a w _ hr hb hF fun A' ψ' a' w' k1 k2 => ?_)
      cases r with
      | normal => exact absurd hev (hne _ _)
      | exit id => exact hQ _ _ _ _ k1 k2
      | ret => exact hQ _ _ _ _ k1 k2
  | cond c x y ihx ihy =>
    intro env H r e h hev F A ψ a w Q hr hb hF hQ
    simp only [evCode] at hev
    have hcv := hr.ev c
    split at hev
    · rename_i hv
      rw [hv] at hcv
      exact wp_cond_true (hcv.of_atom rfl) (ihx _ _ _ _ _ hev F A ψ a w Q hr hb hF hQ)
    · rename_i hv
      rw [hv] at hcv
      exact wp_cond_false (hcv.of_atom rfl) (ihy _ _ _ _ _ hev F A ψ a w Q hr hb hF hQ)
    · cases hev
  | block id c ih =>
    intro env H r e h hev F A ψ a w Q hr hb hF hQ
    simp only [evCode] at hev
    split at hev
    · rename_i i e1 h1 hx
      refine wp_block (ih _ _ _ _ _ hx F A ψ a w _ hr hb hF fun A' ψ' a' w' k1 k2 => ?_)
      simp only [Ex.to, Exit.inBlock]
      split at hev
      · rename_i hi
        rw [if_pos hi]
        cases hev; exact hQ _ _ _ _ k1 k2
      · rename_i hi
        rw [if_neg hi]
        cases hev; exact hQ _ _ _ _ k1 k2
    · rename_i hne
      refine wp_block (ih _ _ _ _ _ hev F A ψ a w _ hr hb hF fun A' ψ' a' w' k1 k2 => ?_)
      cases r with
      | normal => exact hQ _ _ _ _ k1 k2
      | exit id => exact absurd hev (hne _ _ _)
      | ret => exact hQ _ _ _ _ k1 k2
  | loop c ih =>
    intro env H r e h hev F A ψ a w Q hr hb hF hQ
    simp only [evCode] at hev
    have key : ∀ (n : Nat) (env : List Value) (H : Heap) (A : Nat → Prop) (ψ : Nat → Gh) (a : Act) (w : World), evLoop cl lim base (evCode P call cl fd lim base N c) n env H = some (r, e, h) → Rel F A ψ env H a w → (∀ id, A id → id < H.length) → Code.rounds P c Q n a w := by
      intro n
      induction n with
      | zero => intro env H A ψ a w h1 _ _; simp [evLoop] at h1
      | succ n ihn =>
        intro env H A ψ a w h1 hr hb
        simp only [evLoop] at h1
        split at h1
        · rename_i env1 H1 hgc
          obtain ⟨A', ψ', g1, g2⟩ : ∃ A' ψ', Rel F A' ψ' env1 H1 a w ∧ ∀ id, A' id → id < H1.length := by
            split at hgc
            · cases hgc; exact ⟨A, ψ, hr, hb⟩
            · exact gc_rel hgc (clr_rel hr cl) hF
          rw [rounds_succ]
          split at h1
          · rename_i e2 h2 hstep
            exact ih _ _ _ _ _ hstep F A' ψ' a w _ g1 g2 hF fun A2 ψ2 a2 w2 k1 k2 => ihn _ _ _ _ _ _ h1 k1 k2
          · rename_i hne
            refine ih _ _ _ _ _ h1 F A' ψ' a w _ g1 g2 hF fun A2 ψ2 a2 w2 k1 k2 => ?_
            cases r with
            | normal => exact absurd h1 (hne _ _)
            | exit id => exact hQ _ _ _ _ k1 k2
            | ret => exact hQ _ _ _ _ k1 k2
        · cases h1
    exact wp_loop_rounds N (key N env H A ψ a w hev hr hb)
  | scope c ih =>
    intro env H r e h hev F A ψ a w Q hr hb hF hQ
    simp only [evCode] at hev
    refine wp_scope_straight (ih _ _ _ _ _ hev F A ψ a w _ hr hb hF fun A' ψ' a' w' k1 k2 => ?_)
    cases r <;> exact hQ _ _ _ _ k1 k2
  | _ => intro env H x e h hev; simp [evCode] at hev

/-- A variable, read whole. -/
theorem loadVar_rel {t : TypeId} {v v' : Value} {out : Out} (h : evLoad P H t v = some out) (hh : HRel F A ψ H w) (hv : VR A ψ v v') :
    ∃ ad u, v' = .pointer (some ad) ∧ (loadVar t ad).run P w = .ok u w ∧ VR A ψ out.v u := by
  unfold evLoad at h
  split at h
  · rename_i id off
    split at h
    · rename_i cells es more rw flat hrd
      obtain ⟨v1, hp, rfl⟩ := Option.map_eq_some_iff.1 h
      obtain ⟨_, rfl⟩ := hv.ptr_inv
      refine ⟨⟨(ψ id).blk, (ψ id).off + off, none⟩, ?_⟩
      unfold evPart at hp
      split at hp
      · rename_i d i hu hi
        split at hp
        · rename_i hrow
          split at hp
          · rename_i hle
            cases hp
            obtain ⟨vs, k1, k2, k3, k4⟩ := row_range hh hrd off i.size hle
            exact ⟨.agg vs.toArray, rfl, run_loadVar_mid w (ψ id).blk ((ψ id).off + off) t vs d k3 hu hrow (by simp [hi, k1]),
              .agg _ _ (by simp [k1]; omega) (by simpa using k2) fun j => by simpa [Array.getD_eq_getD_getElem?, List.getD_eq_getElem?_getD] using k4 j⟩
          · cases hp
        · rename_i hrow
          have hlt := (List.getElem?_eq_some_iff.1 hp).1
          obtain ⟨v2, k1, k2, k3⟩ := row_cells hh hrd off hlt
          have hrow' : d.isRow = false := by simpa using hrow
          have hg : cells.getD off poi = v1 := by simp [List.getD_eq_getElem?_getD, hp]
          rw [hg] at k3
          exact ⟨v2, rfl, by simp [loadVar, run_isAgg' hu, hrow', k1], k3⟩
      · cases hp
    · cases h
  · cases h

/-! ### Functions -/
def evResult (P : Program) (env : List Value) (H : Heap) : ResultVar → Option Value
  | .tmp t => some (gt env t)
  | .cell t ty => (evLoad P H ty (gt env t)).map (·.v)

def evResultL (P : Program) (env : List Value) (H : Heap) : List ResultVar → Option (List Value)
  | [] => some []
  | r :: l => match evResult P env H r, evResultL P env H l with
    | some v, some vs => some (v :: vs)
    | _, _ => none

def one (vs : List Value) : Value :=
  match vs with
  | [v] => v
  | vs => .tuple vs.toArray

def runFn (P : Program) (call : CallF) (K : FuncId → List Bool) (fd lim N : Nat) (f : FuncId) (args : List Value) (H : Heap) : Option (Value × Heap) :=
  match P.funcs[f]? with
  | some fn =>
    match fn.body with
    | some c =>
      match evCode P call (K f) fd lim H.length N c (args ++ List.replicate (fn.ntmps - args.length) undef) H with
      | some (.normal, e, h) => (evResultL P e h fn.results.toList).map fun vs => (one vs, h)
      | some (.ret, e, h) => (evResultL P e h fn.results.toList).map fun vs => (one vs, h)
      | _ => none
    | none => none
  | none => none

theorem results_rel : ∀ (l : List ResultVar) (vs : List Value), evResultL P env H l = some vs → Rel F A ψ env H a w →
    ∃ us, (∀ g : ResultVar → Sem Value, (∀ t, g (.tmp t) = pure (a.tmps.getD t undef)) → (∀ x t, g (.cell x t) = (do loadVar t (← asAddr (a.tmps.getD x undef)))) → (l.mapM g).run P w = .ok us w) ∧ LR A ψ vs us
  | [], vs, h, hr => by simp [evResultL] at h; subst h; exact ⟨[], fun _ _ _ => rfl, rfl, fun i => by simp; exact .poison _⟩
  | r :: l, vs, h, hr => by
    simp only [evResultL] at h
    split at h
    · rename_i v vs' h1 h2
      cases h
      obtain ⟨us, k1, k2⟩ := results_rel l vs' h2 hr
      have : ∃ u, (∀ g : ResultVar → Sem Value, (∀ t, g (.tmp t) = pure (a.tmps.getD t undef)) → (∀ x t, g (.cell x t) = (do loadVar t (← asAddr (a.tmps.getD x undef)))) → (g r).run P w = .ok u w) ∧ VR A ψ v u := by
        cases r with
        | tmp t => simp only [evResult, Option.some.injEq, gt_eq] at h1; subst h1; exact ⟨_, fun g g1 _ => by rw [g1]; rfl, hr.slot t⟩
        | cell x t =>
          simp only [evResult, gt_eq] at h1
          obtain ⟨out, h3, rfl⟩ := Option.map_eq_some_iff.1 h1
          obtain ⟨ad, u, e1, e2, e3⟩ := loadVar_rel h3 hr.heap (hr.slot x)
          exact ⟨u, fun g _ g2 => by rw [g2]; simp [e1, asAddr, e2], e3⟩
      obtain ⟨u, q1, q2⟩ := this
      refine ⟨u :: us, fun g g1 g2 => ?_, by simp [k2.len], fun i => ?_⟩
      · rw [List.mapM_cons, Sem.run_bind, q1 g g1 g2, Result.andThen_ok, Sem.run_bind, k1 g g1 g2]; rfl
      · cases i with
        | zero => simpa using q2
        | succ i => simpa using k2.at_ i
    · cases h

theorem LR.one_rel {vs us : List Value} (h : LR A ψ vs us) : VR A ψ (one vs) (if h : us.toArray.size = 1 then us.toArray[0] else .tuple us.toArray) := by
  cases vs with
  | nil =>
    have : us = [] := List.eq_nil_of_length_eq_zero (by simpa using h.len)
    subst this
    exact .refl_undef
  | cons v r =>
    cases r with
    | nil =>
      have hl := h.len
      obtain ⟨u, rfl⟩ : ∃ u, us = [u] := List.length_eq_one_iff.1 (by simpa using hl)
      have := h.at_ 0
      simpa [one] using this
    | cons v2 r =>
      have hl := h.len
      have : ¬ us.toArray.size = 1 := by simp at hl ⊢; omega
      rw [dif_neg this]
      refine .tuple _ _ (by simpa using hl.symm) fun i => ?_
      simpa [Array.getD_eq_getD_getElem?, List.getD_eq_getElem?_getD] using h.at_ i

theorem runFn_ok {call : CallF} (hm : P.follows .mixedOrders = true) (hc : CallOK P call) {K : FuncId → List Bool} {fd lim N : Nat} {f : FuncId} {args : List Value} {ret : Value} {H' : Heap}
    (h : runFn P call K fd lim N f args H = some (ret, H')) : SmallRes P f args H ret H' := by
  unfold runFn at h
  split at h
  · rename_i fn hfn
    split at h
    · rename_i c hbody
      have main : ∀ (x : Ex) (e : List Value) (hp : Heap), (x = .normal ∨ x = .ret) → evCode P call (K f) fd lim H.length N c (args ++ List.replicate (fn.ntmps - args.length) undef) H = some (x, e, hp) →
          (evResultL P e hp fn.results.toList).map (fun vs => (one vs, hp)) = some (ret, H') → SmallRes P f args H ret H' := by
        intro x e hp hx hev hres F A ψ w args' hh hb hA hψ hl
        obtain ⟨vs, hvs, he⟩ := Option.map_eq_some_iff.1 hres
        cases he
        have hlen : args'.toArray.size = args.length := by simpa using hl.len
        refine calls_of_wp hfn hbody ?_
        refine evCode_ok hm hc c _ _ _ _ _ hev { F with ds := [] } A ψ _ w _ ⟨fun t => ?_, ?_, rfl, hh.ds []⟩ hb (fun id hid => hb id (by rw [← hA]; exact hid)) fun A' ψ' a' w' k1 k2 => ?_
        · have hrep : LR A ψ (List.replicate (fn.ntmps - args.length) undef) (List.replicate (fn.ntmps - args.length) undef) := ⟨rfl, fun i => by
            by_cases hi : i < fn.ntmps - args.length
            · simp only [List.getD_eq_getElem?_getD, List.getElem?_replicate, hi, if_true, Option.getD_some]; exact .refl_undef
            · simp only [List.getD_eq_getElem?_getD, List.getElem?_replicate, hi, if_false, Option.getD_none]; exact .poison _⟩
          have := (hl.append hrep).at_ t
          rw [hlen]
          have e2 : (args'.toArray ++ Array.replicate (fn.ntmps - args.length) undef).getD t undef = (args' ++ List.replicate (fn.ntmps - args.length) undef).getD t undef := by
            simp [Array.getD_eq_getD_getElem?, List.getD_eq_getElem?_getD, ← List.toArray_replicate]
          rw [e2]; exact this
        · have := hl.len; simp; omega
        · obtain ⟨us, r1, r2⟩ := results_rel _ _ hvs k1
          have hres' : (results fn a'.tmps).run P w' = .ok (if h : us.toArray.size = 1 then us.toArray[0] else .tuple us.toArray) w' := by
            unfold results
            rw [Array.mapM_eq_mapM_toList]
            simp only [Sem.run_bind, Sem.run_map]
            rw [r1 _ (fun _ => rfl) (fun _ _ => rfl)]
            rfl
          rcases hx with rfl | rfl
          · exact ⟨k1.defers, _, hres', _, A', ψ', rfl, k1.heap.of_ds, k2, r2.one_rel⟩
          · exact ⟨k1.defers, _, hres', _, A', ψ', rfl, k1.heap.of_ds, k2, r2.one_rel⟩
      split at h
      · rename_i e hp hev; exact main _ _ _ (.inl rfl) hev h
      · rename_i e hp hev; exact main _ _ _ (.inr rfl) hev h
      · cases h
    · cases h
  · cases h

/-- What comes back, and no more. -/
def tidy (n : Nat) (ret : Value) (H' : Heap) : Option (Value × Heap) :=
  match gc n [ret] H' with
  | some ([v], h) => some (v, h)
  | _ => none

theorem tidy_ok {f : FuncId} {args : List Value} {ret v : Value} {H' h : Heap} (hs : SmallRes P f args H ret H') (ht : tidy H.length ret H' = some (v, h)) : SmallRes P f args H v h := by
  unfold tidy at ht
  split at ht
  · rename_i v1 h1 hg
    cases ht
    intro F A ψ w args' hh hb hA hψ hl
    refine (hs F A ψ w args' hh hb hA hψ hl).mono ?_
    rintro e w' ⟨v', A', ψ', rfl, k1, k2, k3⟩
    have hrel : Rel F A' ψ' [ret] H' ⟨#[v'], F.ds⟩ w' := ⟨fun t => by
      cases t with
      | zero => simpa [Array.getD] using k3
      | succ t => simp [Array.getD]; exact .poison _, by simp, rfl, k1⟩
    obtain ⟨A2, ψ2, r1, r2⟩ := gc_rel hg hrel (fun id hid => hb id (by rw [← hA]; exact hid))
    refine ⟨v', A2, ψ2, rfl, r1.heap, r2, ?_⟩
    have := r1.slot 0
    simpa [Array.getD] using this
  · cases ht

abbrev Orc := List Value → Heap → Option (Value × Heap)

def OrcOK (P : Program) (O : FuncId → Option Orc) : Prop := ∀ f orc, O f = some orc → ∀ args H ret H', orc args H = some (ret, H') → SmallRes P f args H ret H'

/-- What comes back is numbered. -/
def newIds (H' : Heap) (k : Nat) (ret : Value) : List Nat := (reach H' 1000 (List.range k ++ idsV 4 ret) []).filter (fun id => decide (k ≤ id))

def wrapC (run : Orc) : List Value → Heap → Nat → Option Out := fun args H nid =>
  let ids := reach H 1000 (args.flatMap (idsV 4)) []
  match run (args.map (renV (pos ids) 4)) (resH H ids) with
  | some (ret, H') => if backOK H ids (newIds H' ids.length ret) H' then some (back H ids (newIds H' ids.length ret) nid ret H') else none
  | none => none

def evF (P : Program) (O : FuncId → Option Orc) (K : FuncId → List Bool) (fd lim N : Nat) : Nat → CallF
  | 0 => fun _ _ _ _ => none
  | n + 1 => fun f => match O f with
    | some orc => wrapC orc
    | none => wrapC (runFn P (evF P O K fd lim N n) K fd lim N f)

theorem evF_ok {O : FuncId → Option Orc} (hm : P.follows .mixedOrders = true) (hO : OrcOK P O) {K : FuncId → List Bool} {fd lim N : Nat} : ∀ n, CallOK P (evF P O K fd lim N n) := by
  have wrap : ∀ (run : Orc) (f : FuncId) (args : List Value) (H : Heap) (nid : Nat) (out : Out), (∀ args H ret H', run args H = some (ret, H') → SmallRes P f args H ret H') → wrapC run args H nid = some out → CallRes P f args H out := by
    intro run f args H nid out hrun h
    simp only [wrapC] at h
    split at h
    · rename_i ret H' hr
      split at h
      · rename_i hb
        cases h
        exact call_lift (hrun _ _ _ _ hr) hb
      · cases h
    · cases h
  intro n
  induction n with
  | zero => intro f args H nid out h; simp [evF] at h
  | succ n ih =>
    intro f args H nid out h
    simp only [evF] at h
    cases ho : O f with
    | some orc =>
      rw [ho] at h
      exact wrap orc f args H nid out (fun args H ret H' hr => hO f orc ho args H ret H' hr) h
    | none =>
      rw [ho] at h
      exact wrap _ f args H nid out (fun args H ret H' hr => runFn_ok hm ih hr) h

end
end
end Go.Vm
end
section
/- Fences; frames taken anew; iterators; the range over a function. -/
namespace Go.Vm
open Go.RowKit
noncomputable section

/-! ### The fence: every function; a frame of a function, or of a round -/
def fen (ro : Option Nat) : Fence := { fn := fun _ => True, depth := none, alive := false, round := ro }

theorem fen_room {ro : Option Nat} (n : Nat) : (fen ro).room n := fun _ h => by simp [fen] at h
theorem fen_depth {ro : Option Nat} {p : Prop} (h : (fen ro).depth.isSome = true) : p := by simp [fen] at h

section
variable {P : Program} {ro : Option Nat} {n : Nat}

theorem callsIn_fen {f : FuncId} {args : Array Value} {w : World} {R : Ending → World → Prop} : CallsIn (fen ro) n P f args w R ↔ Calls P f args w R :=
  (Iff.rfl : CallsIn (fen ro) n P f args w R ↔ CallsIn Fence.wide n P f args w R).trans callsIn_wide

theorem callsIn_any {ro' : Option Nat} {m : Nat} {f : FuncId} {args : Array Value} {w : World} {R : Ending → World → Prop} (h : CallsIn (fen ro) n P f args w R) : CallsIn (fen ro') m P f args w R :=
  callsIn_fen.2 (callsIn_fen.1 h)

theorem rowsIn_fen {row : String} {args : Array Value} {w : World} {R : Value → World → Prop} (h : Rows P row args w R) : RowsIn (fen ro) n P row args w R :=
  fun c cs _ => let ⟨v, w', r, s⟩ := h c cs; ⟨v, w', r, (stepsIn_wide (P := P)).2 s⟩

/-- Nothing but what goes on. -/
def onlyN (Q : Exit → Act → World → Prop) : Exit → Act → World → Prop
  | .normal, a, w => Q .normal a w
  | _, _, _ => False

theorem upon_in {o : Oper} {a : Act} {K : Act → World → Prop} {Q : Exit → Act → World → Prop} : ∀ {r : Result Next}, o.upon P a K Q r → o.uponIn (fen ro) n P a K Q r := by
  intro r h
  cases r with
  | ok x w' =>
    cases x <;> simp only [Oper.upon, Oper.uponIn] at h ⊢ <;>
      first
        | exact h
        | exact ⟨fun h => fen_depth h, callsIn_fen.2 (Calls.mono h fun e w'' he => by cases e <;> exact he)⟩
        | exact ⟨fun h => fen_depth h, rowsIn_fen h⟩
  | halt x w' => cases x <;> simp only [Oper.upon, Oper.uponIn] at h ⊢ <;> exact h

theorem oper_in {o : Oper} {a : Act} {w : World} {K : Act → World → Prop} {Q : Exit → Act → World → Prop} (hd : ro = none ∨ ∀ c, o.op ≠ .defer c) (h : o.wp P a w K Q) : o.wpIn (fen ro) n P a w K Q :=
  ⟨fun _ _ => trivial, by
    have : o.semAt (fen ro).round a.eval = execOp a.eval o := by
      rcases hd with rfl | hd
      · rfl
      · exact Oper.semAt_eq _ _ _ hd
    rw [this]; exact upon_in h⟩

theorem not_out {Q : Exit → Act → World → Prop} : ¬ LetsOut (onlyN Q) := fun ⟨_, _, h⟩ => h

def noDef (ops : List Oper) : Bool := ops.all fun o => match o.op with | .defer _ => false | _ => true

theorem noDef_spec {ops : List Oper} (h : noDef ops = true) : ∀ o ∈ ops, ∀ c, o.op ≠ .defer c := by
  intro o ho c hc
  have := List.all_eq_true.1 h o ho
  rw [hc] at this; cases this

theorem wpOp_in {ops : Array Oper} (hd : ro = none ∨ noDef ops.toList = true) {Q : Exit → Act → World → Prop} {i : Nat} {K K' : Act → World → Prop} {a : Act} {w : World} (hK : ∀ a w, K a w → K' a w)
    (h : wpOp P ops (onlyN Q) i K a w) : wpOpIn (fen ro) n P ops (onlyN Q) i K' a w := by
  unfold wpOp at h
  unfold wpOpIn
  cases ho : ops[i]? with
  | none => rw [ho] at h; exact hK _ _ h
  | some o =>
    rw [ho] at h
    simp only at h ⊢
    split
    · rename_i hw
      rw [if_pos hw] at h
      rcases h with h | ⟨_, h⟩
      · refine Oper.wpIn_mono hK (oper_in ?_ h)
        rcases hd with hd | hd
        · exact .inl hd
        · exact .inr (noDef_spec hd o (by
            have := Array.mem_of_getElem? ho
            simpa using this))
      · exact absurd h not_out
    · rename_i hw
      rw [if_neg hw] at h
      exact ⟨fun _ _ => trivial, hK _ _ h⟩

theorem wpAny_in {md : Region.Mode} {ops : Array Oper} (hd : ro = none ∨ noDef ops.toList = true) {Q : Exit → Act → World → Prop} : ∀ (fuel : Nat) (listed : Array Bool) (a : Act) (w : World),
    wpAny P md ops (onlyN Q) fuel listed a w → wpAnyIn (fen ro) n P md ops (onlyN Q) fuel listed a w
  | 0, _, _, _, h => h
  | fuel + 1, _listed, _a, _w, h => ⟨h.1, fun i hi => wpOp_in hd (fun a w => wpAny_in hd fuel _ a w) (h.2 i hi)⟩

theorem wpList_in {ops : Array Oper} {Q : Exit → Act → World → Prop} : ∀ (l : List Oper) (_ : ro = none ∨ noDef l = true) (a : Act) (w : World),
    wpList P ops (onlyN Q) l a w → wpListIn (fen ro) n P ops (onlyN Q) l a w
  | [], _, _, _, h => h
  | o :: r, hd, a, w, h => by
    have hr : ro = none ∨ noDef r = true := hd.imp id fun h => by simp only [noDef, List.all_cons, Bool.and_eq_true] at h; exact h.2
    simp only [wpList, wpListIn] at h ⊢
    split
    · rename_i hw
      rw [if_pos hw] at h
      rcases h with h | ⟨_, h⟩
      · exact Oper.wpIn_mono (fun a w => wpList_in r hr a w) (oper_in (hd.imp id fun h => noDef_spec h o (by simp)) h)
      · exact absurd h not_out
    · rename_i hw
      rw [if_neg hw] at h
      exact ⟨fun _ _ => trivial, wpList_in r hr _ _ h⟩

theorem onlyN_mono {c : Code} {Q : Exit → Act → World → Prop} {a : Act} {w : World} (h : c.wpIn (fen ro) n P (onlyN Q) a w) : c.wpIn (fen ro) n P Q a w :=
  wpIn_mono h fun e _ _ h => by cases e <;> first | exact h | exact h.elim
end

/-! ### Frames, taken anew -/
section
variable {P : Program} {F F' F'' : Fr P} {A A' : Nat → Prop} {ψ ψ' : Nat → Gh} {H H' : Heap} {w w' : World}

/-- The blocks that are its own. -/
def rwB (ψ : Nat → Gh) (H : Heap) : Nat → Prop := fun b => ∃ id o, rd H id = some o ∧ o.rw = true ∧ o.vd = false ∧ (ψ id).blk = b

def rebase (P : Program) (w : World) (ψ : Nat → Gh) (H : Heap) (A0 : Nat → Prop) (ψ0 : Nat → Gh) (ds : List Deferred) : Fr P := ⟨w, rwB ψ H, A0, ψ0, ds⟩

theorem rwB_own (h : HRel F A ψ H w) {b : Nat} (hb : rwB ψ H b) : F.w0.heap.size ≤ b ∨ F.S b := by
  obtain ⟨id, o, h1, h2, h3, rfl⟩ := hb
  exact h.own id o h1 h2 h3

theorem HRel.rebase (h : HRel F A ψ H w) {A0 : Nat → Prop} {ψ0 : Nat → Gh} {ds : List Deferred} (hA : ∀ id, A0 id → A id ∧ ψ id = ψ0 id) : HRel (rebase P w ψ H A0 ψ0 ds) A ψ H w where
  live := h.live
  inj := h.inj
  fr := ⟨rfl, rfl, rfl, Nat.le_refl _, fun _ _ _ => rfl, fun w' h1 h2 => h.fr.lay w' (fun k hk hS => by
    refine (h1 k (Nat.lt_of_lt_of_le hk h.fr.size) fun hb => ?_).trans (h.fr.block k hk hS)
    rcases rwB_own h hb with h | h
    · omega
    · exact hS h) (Nat.le_trans h.fr.size h2)⟩
  own id o h1 h2 h3 := .inr ⟨id, o, h1, h2, h3, rfl⟩
  old := hA

theorem HRel.unbase (h : HRel F A ψ H w) {A0 : Nat → Prop} {ψ0 : Nat → Gh} {ds : List Deferred} (h' : HRel (Vm.rebase P w ψ H A0 ψ0 ds) A' ψ' H' w') (hA : ∀ id, F.A0 id → A0 id ∧ ψ0 id = F.ψ0 id) : HRel F A' ψ' H' w' where
  live := h'.live
  inj := h'.inj
  fr := ⟨h'.fr.os.trans h.fr.os, h'.fr.tape.trans h.fr.tape, h'.fr.output.trans h.fr.output, Nat.le_trans h.fr.size h'.fr.size, fun k hk hS => by
    refine (h'.fr.block k (Nat.lt_of_lt_of_le hk h.fr.size) fun hb => ?_).trans (h.fr.block k hk hS)
    rcases rwB_own h hb with h | h
    · omega
    · exact hS h, h.fr.lay⟩
  own id o h1 h2 h0 := by
    rcases h'.own id o h1 h2 h0 with h3 | h3
    · exact .inl (Nat.le_trans h.fr.size h3)
    · exact rwB_own h h3
  old id hid := by
    obtain ⟨h1, h2⟩ := hA id hid
    obtain ⟨h3, h4⟩ := h'.old id h1
    exact ⟨h3, h4.trans h2⟩

/-- What is no cells and no walk's object is no object's block. -/
theorem HRel.not_block (h : HRel F A ψ H w) {l : Nat} {x : Obj} (hl : w.heap[l]? = some x) (h1 : x.isWalk = false) (h2 : ∀ c e f, x ≠ .cells c e f) {id : Nat} {o : AObj} (ho : rd H id = some o) (hv : o.vd = false) : (ψ id).blk ≠ l := by
  intro e
  obtain ⟨_, h3⟩ := (h.live id o ho).2.2 hv
  cases o with
  | row cells es more rw flat =>
    obtain ⟨arr, el, fz, h4, _⟩ := h3
    rw [e, hl] at h4; cases h4; exact h2 _ _ _ rfl
  | iter s pos =>
    obtain ⟨_, h4⟩ := h3
    rw [e, hl] at h4; cases h4; cases h1
  | smap es =>
    obtain ⟨_, arr, c, h4, _⟩ := h3
    rw [e, hl] at h4; cases h4; cases h1

theorem HRel.putObj (h : HRel F A ψ H w) {l : Nat} {x : Obj} (hl : w.heap[l]? = some x) (h1 : x.isWalk = false) (h2 : ∀ c e f, x ≠ .cells c e f) (hn : F.w0.heap.size ≤ l) (y : Obj) : HRel F A ψ H (w.putObj l y) where
  live id o ho := by
    obtain ⟨a, b, c⟩ := h.live id o ho
    exact ⟨a, b, fun hv => ⟨by simpa using (c hv).1, (c hv).2.mono (fun _ ha => ⟨ha, rfl⟩) (World.putObj_heap_other (h.not_block hl h1 h2 ho hv))⟩⟩
  inj := h.inj
  fr := ⟨h.fr.os, h.fr.tape, h.fr.output, by simpa using h.fr.size, fun k hk hS => (World.putObj_heap_other (by omega)).trans (h.fr.block k hk hS), h.fr.lay⟩
  own := h.own
  old := h.old

theorem HRel.below' (h : HRel F A ψ H w) (hb : Below w.heap.size w w') : HRel F A ψ H w' where
  live id o ho := by
    obtain ⟨h1, h2, h3⟩ := h.live id o ho
    exact ⟨h1, h2, fun hv => ⟨Nat.lt_of_lt_of_le (h3 hv).1 hb.size, (h3 hv).2.mono (fun _ ha => ⟨ha, rfl⟩) (hb.block _ (h3 hv).1)⟩⟩
  inj := h.inj
  fr := ⟨hb.os.trans h.fr.os, hb.tape.trans h.fr.tape, hb.output.trans h.fr.output, Nat.le_trans h.fr.size hb.size, fun k hk hs => (hb.block k (Nat.lt_of_lt_of_le hk h.fr.size)).trans (h.fr.block k hk hs), h.fr.lay⟩
  own := h.own
  old := h.old

/-- A block for deferred calls that nobody turns. -/
def Mk (F : Fr P) (D : Nat) : Prop := F.w0.heap[D]? = some (.deferred (some [])) ∧ ¬ F.S D
def mark (D : Nat) : Deferred := { target := .collected D, args := #[] }

/-- A frame that is another one's continuation. -/
structure Ext (F F' : Fr P) : Prop where
  back : ∀ {A ψ H w}, HRel F' A ψ H w → HRel F A ψ H w
  A0 : F'.A0 = F.A0
  size : F.w0.heap.size ≤ F'.w0.heap.size
  mks : ∀ D, Mk F D → Mk F' D
  ds : ∃ l : List Nat, F'.ds = l.map mark ++ F.ds ∧ l.Nodup ∧ ∀ D ∈ l, F.w0.heap.size ≤ D ∧ D < F'.w0.heap.size ∧ Mk F' D

theorem Ext.refl (F : Fr P) : Ext F F := ⟨id, rfl, Nat.le_refl _, fun _ h => h, [], by simp⟩

theorem Ext.trans (h : Ext F F') (k : Ext F' F'') : Ext F F'' := by
  refine ⟨fun x => h.back (k.back x), k.A0.trans h.A0, Nat.le_trans h.size k.size, fun D x => k.mks D (h.mks D x), ?_⟩
  obtain ⟨l, h1, h2, h3⟩ := h.ds
  obtain ⟨m, k1, k2, k3⟩ := k.ds
  refine ⟨m ++ l, by rw [k1, h1]; simp, ?_, fun D hD => ?_⟩
  · rw [List.nodup_append]
    exact ⟨k2, h2, fun x hx y hy e => by have := (k3 x hx).1; have := (h3 y hy).2.1; omega⟩
  · rcases List.mem_append.1 hD with hD | hD
    · obtain ⟨a, b, c⟩ := k3 D hD
      exact ⟨Nat.le_trans h.size a, b, c⟩
    · obtain ⟨a, b, c⟩ := h3 D hD
      exact ⟨a, Nat.lt_of_lt_of_le b k.size, k.mks D c⟩

/-- The same, and the very same where nothing marks it. -/
structure ExtP (pl : Bool) (F F' : Fr P) : Prop where
  x : Ext F F'
  e : pl = true → F' = F

theorem ExtP.refl (pl : Bool) (F : Fr P) : ExtP pl F F := ⟨Ext.refl F, fun _ => rfl⟩
theorem ExtP.trans {pl : Bool} (h : ExtP pl F F') (k : ExtP pl F' F'') : ExtP pl F F'' := ⟨h.x.trans k.x, fun e => (k.e e).trans (h.e e)⟩
theorem ExtP.weak {pl pl' : Bool} (hp : pl = true → pl' = true) (h : ExtP pl' F F') : ExtP pl F F' := ⟨h.x, fun e => h.e (hp e)⟩

/-- No deferred calls, no ranges over functions, no labels: what a round may hold. -/
def plainC : Code → Bool
  | .region _ ops _ => noDef ops.toList
  | .seq x y => plainC x && plainC y
  | .cond _ x y => plainC x && plainC y
  | .block _ c => plainC c
  | .loop c => plainC c
  | .skip => true
  | .label _ => true
  | .exit _ => true
  | .ret => true
  | _ => false

def GoesIn (ro : Option Nat) (P : Program) (base : Nat) (c : Code) (env : List Value) (H : Heap) (Q : Ex → List Value → Heap → Prop) : Prop :=
  ∀ (n : Nat) (F : Fr P) A ψ a w (R : Exit → Act → World → Prop), Rel F A ψ env H a w → (∀ id, A id → id < H.length) → (∀ id, F.A0 id → id < base) →
    (∀ x e h F' A' ψ' a' w', ExtP (plainC c) F F' → Q x e h → Rel F' A' ψ' e h a' w' → (∀ id, A' id → id < h.length) → R x.to a' w') → c.wpIn (fen ro) n P R a w

/-! ### Iterators -/
/-- What a round of another one's body leaves as it was. -/
structure KeepF (F : Fr P) (W W' : World) : Prop where
  os : W'.os = W.os
  tape : W'.tape = W.tape
  output : W'.output = W.output
  size : W.heap.size ≤ W'.heap.size
  block : ∀ b, b < F.w0.heap.size → ¬ F.S b → W'.heap[b]? = W.heap[b]?

theorem KeepF.refl (F : Fr P) (W : World) : KeepF F W W := ⟨rfl, rfl, rfl, Nat.le_refl _, fun _ _ _ => rfl⟩
theorem KeepF.trans {W1 W2 W3 : World} (h : KeepF F W1 W2) (k : KeepF F W2 W3) : KeepF F W1 W3 :=
  ⟨k.os.trans h.os, k.tape.trans h.tape, k.output.trans h.output, Nat.le_trans h.size k.size, fun b h1 h2 => (k.block b h1 h2).trans (h.block b h1 h2)⟩

def Abide (J : Nat → World → Prop) : Prop := ∀ i W W', J i W → Below W.heap.size W W' → J i W'

/-- An iterator: it visits N elements, the i-th of them el i. -/
def IterRes (P : Program) (gf : FuncId) (cap : List Value) (H : Heap) (N : Nat) (el : Nat → List Value) : Prop :=
  ∀ (F : Fr P) A ψ w cap', HRel F A ψ H w → F.w0 = w → (∀ id o, rd H id = some o → o.rw = false ∧ (o.vd = false → ¬ F.S (ψ id).blk)) → (∀ id, A id → id < H.length) → LR A ψ cap cap' →
    ∀ (n l : Nat) (J Jx : Nat → World → Prop) (W : World), KeepF F w W → Abide J → Abide Jx →
      (∀ i W1, J i W1 → KeepF F w W1 → i < N → YieldAt (fen none) n P l (el i).toArray W1 fun e W' =>
        (e = .returned (.bool true) ∧ J (i + 1) W' ∧ KeepF F W1 W') ∨ (e = .returned (.bool false) ∧ Jx i W' ∧ KeepF F W1 W')) →
      J 0 W → CallsIn (fen none) n P gf (.func (.yield l) #[] #[] :: cap').toArray W fun e W' =>
        (∃ v, e = .returned v) ∧ (J N W' ∨ ∃ i, i < N ∧ Jx i W')

structure It (P : Program) where
  gf : FuncId
  fn : List Value → Heap → Option (Nat × (Nat → List Value) × Prop)
  ok : ∀ {cap H N el vc}, fn cap H = some (N, el, vc) → vc → IterRes P gf cap H N el

def AObj.shut : AObj → AObj
  | .row cells es more _ flat => .row cells es more false flat
  | o => o

def sealH (l : List Nat) (H : Heap) : Heap := (List.range H.length).map fun id => if l.contains id then (rd H id).map AObj.shut else rd H id

theorem rd_len : ∀ (H : Heap) (i : Nat), H.length ≤ i → rd H i = none
  | [], _, _ => rfl
  | _ :: t, 0, h => by simp at h
  | _ :: t, n + 1, h => by rw [rd_cons]; exact rd_len t n (by simpa using h)

theorem seal_look {l : List Nat} {id : Nat} {o : AObj} (h : rd (sealH l H) id = some o) : ∃ o', rd H id = some o' ∧ (o = o' ∨ o = o'.shut) := by
  rw [sealH, rd_map] at h
  by_cases hi : id < H.length
  · rw [List.getElem?_eq_getElem (by simpa using hi)] at h
    simp only [List.getElem_range, Option.bind_some] at h
    split at h
    · obtain ⟨o', h1, h2⟩ := Option.map_eq_some_iff.1 h
      exact ⟨o', h1, .inr h2.symm⟩
    · exact ⟨o, h, .inl rfl⟩
  · rw [List.getElem?_eq_none (by simpa using hi)] at h
    cases h

theorem shut_vd (o : AObj) : o.shut.vd = o.vd := by
  cases o with
  | row cells es more rw flat => cases cells <;> rfl
  | _ => rfl

theorem seal_rw {o : AObj} (h : o.shut.rw = true) : o.rw = true := by cases o <;> first | rfl | (simp [AObj.shut, AObj.rw] at h)

theorem HRel.shut (h : HRel F A ψ H w) (l : List Nat) : HRel F A ψ (sealH l H) w := by
  have hrw : ∀ {o o' : AObj}, (o = o' ∨ o = o'.shut) → o.rw = true → o'.rw = true := fun h k => by
    rcases h with rfl | rfl
    · exact k
    · exact seal_rw k
  have hvd : ∀ {o o' : AObj}, (o = o' ∨ o = o'.shut) → o.vd = false → o'.vd = false := fun h k => by
    rcases h with rfl | rfl
    · exact k
    · rw [shut_vd] at k; exact k
  refine ⟨fun id o ho => ?_, fun i j oi oj hi hj hij hr hvi hvj => ?_, h.fr, fun id o ho hr hv => ?_, h.old⟩
  · obtain ⟨o', h1, h2⟩ := seal_look ho
    obtain ⟨k1, k2, k0⟩ := h.live id o' h1
    refine ⟨k1, by rcases h2 with rfl | rfl; exact k2; (cases o' <;> exact k2), fun hv => ⟨(k0 (hvd h2 hv)).1, ?_⟩⟩
    have k3 := (k0 (hvd h2 hv)).2
    rcases h2 with rfl | rfl
    · exact k3
    · cases o' with
      | row cells es more rw flat =>
        obtain ⟨arr, el, fz, a, b, c, d, e⟩ := k3
        exact ⟨arr, el, fz, a, b, c, (fun h => by cases h), e⟩
      | iter => exact k3
      | smap => exact k3
  · obtain ⟨oi', a1, a2⟩ := seal_look hi
    obtain ⟨oj', b1, b2⟩ := seal_look hj
    exact h.inj i j oi' oj' a1 b1 hij (hrw a2 hr) (hvd a2 hvi) (hvd b2 hvj)
  · obtain ⟨o', h1, h2⟩ := seal_look ho
    exact h.own id o' h1 (hrw h2 hr) (hvd h2 hv)

theorem seal_len (l : List Nat) (H : Heap) : (sealH l H).length = H.length := by simp [sealH]

def allSealed (H : Heap) : Bool := H.all fun o => match o with | some o => !o.rw | none => true

theorem rd_mem : ∀ {H : Heap} {id : Nat} {o : AObj}, rd H id = some o → some o ∈ H
  | [], _, _, h => by simp [rd_nil] at h
  | x :: t, 0, o, h => by rw [rd_cons0] at h; subst h; simp
  | x :: t, n + 1, o, h => by rw [rd_cons] at h; exact List.mem_cons_of_mem _ (rd_mem h)

theorem allSealed_spec (h : allSealed H = true) {id : Nat} {o : AObj} (ho : rd H id = some o) : o.rw = false := by
  have := List.all_eq_true.1 h _ (rd_mem ho)
  simpa using this

/-- The values of a round's parameters. -/
def setAll : List Tmp → List Value → List Value → List Value
  | p :: ps, v :: vs, E => setAll ps vs (st E p v)
  | _, _, E => E

def lowρ (k : Nat) (id : Nat) : Option Nat := if id < k then some id else none

end
end
end Go.Vm
end
