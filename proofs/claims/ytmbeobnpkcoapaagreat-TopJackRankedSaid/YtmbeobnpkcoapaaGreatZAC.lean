/- Parts of the proof: VmP, VmQ, VmS, VmR, VmT, VmAA, VmAC, VmBD, VmY, VmV, VmAX, VmZ, VmAO, VmAY, VmAI, VmAK, VmAW, VmBL, VmBP, VmBF, VmAP. -/
import Derived.Test.YtmbeobnpkcoapaaGreatZAB
import Derived.Laws.StructEq
import Derived.ChangeKeysEq
import Derived.ProofKit
import Derived.Carry
import Derived.Lib.SmallJoins
import Derived.OpenShut
import Derived.Laws.Cover3
import Derived.Laws.FloatArith
import Derived.Laws.NewFold
import Derived.Laws.Concat
import Derived.Laws.Strings2
import Derived.Laws.Slices
section
/- The evaluator with values that are not known: what it says is a proposition, with conditions to be shown. -/
namespace Go.Vm
noncomputable section

/-- No heap. -/
abbrev noH : Heap := []

/-- A condition, to be shown. -/
structure Is (p : Prop) : Prop where
  out : p

/-- A choice between two propositions. -/
def br (b : Bool) (T F : Prop) : Prop := Bool.rec (motive := fun _ => Prop) F T b

@[simp] theorem br_t {T F : Prop} : br true T F = T := rfl
@[simp] theorem br_f {T F : Prop} : br false T F = F := rfl
theorem br_iff {b : Bool} {T F : Prop} : br b T F ↔ (b = true → T) ∧ (b = false → F) := by cases b <;> simp [br]
theorem br_of {b : Bool} {T F : Prop} (h1 : b = true → T) (h2 : b = false → F) : br b T F := br_iff.2 ⟨h1, h2⟩
theorem br_only {b : Bool} {T : Prop} (h : br b T False) : b = true ∧ T := by cases b <;> simp [br] at h ⊢; exact h

/-- What an operation gives under a condition. -/
structure Hint (P : Program) where
  fn : Oper → List Value → Heap → Option (Out × Prop)
  ok : ∀ {o env H out vc}, fn o env H = some (out, vc) → vc → StepOK P o env H out

/-- A loop (or a meeting point): its states, how they lie, and what goes down. -/
structure Lp where
  σ : Type
  E : σ → List Value
  Hp : σ → Heap
  I : σ → Prop
  m : σ → Nat

/-- A loop whose state has one of finitely many shapes: how many, which one it is, and the states of each. -/
structure Lf where
  G : Nat
  sh : List Value → Nat
  L : Nat → Lp

/-- A range over a function: the iterator, the slots, what is between two rounds, what is when a round has left. -/
structure Rf (P : Program) where
  it : It P
  k : Nat
  E : List Value
  Hp : Nat → Heap
  I : Nat → Prop := fun _ => True
  σ : Type := Empty
  Hx : σ → Heap := fun _ => []
  Ix : σ → Prop := fun _ => False
  conc : Bool := false

/-- A range over a function that has variables of its own: they are let go for the rounds. -/
structure Rg (P : Program) where
  it : ItO P
  k : Nat
  own : List Nat
  H0 : Heap
  E : List Value
  Hp : Nat → Heap
  I : Nat → Prop := fun _ => True
  σ : Type := Empty
  Hx : σ → Heap := fun _ => []
  Ix : σ → Prop := fun _ => False

/-- A range over a function that lends a row of its own. -/
structure Rl (P : Program) where
  it : ItL P
  k : Nat
  E : List Value
  Hp : Nat → Heap
  I : Nat → Prop := fun _ => True
  σ : Type := Empty
  Hx : σ → Heap := fun _ => []
  Ix : σ → Prop := fun _ => False
  conc : Bool := false

/-- Rows that nobody turns are the ones of the beginning. -/
def roC (k : Nat) (H0 : Heap) : Nat → Heap → Prop
  | _, [] => True
  | id, none :: t => roC k H0 (id + 1) t
  | id, some o :: t => br o.rw (roC k H0 (id + 1) t) (Nat.blt id k = true ∧ rd H0 id = some o ∧ roC k H0 (id + 1) t)

theorem roC_spec {k : Nat} {H0 : Heap} : ∀ {H : Heap} {j : Nat}, roC k H0 j H → ∀ id o, rd H id = some o → o.rw = false → id + j < k ∧ rd H0 (id + j) = some o
  | [], _, _, _, _, h, _ => by cases h
  | none :: t, j, h, 0, o, ho, _ => by cases ho
  | none :: t, j, h, id + 1, o, ho, hr => by
    have := roC_spec (H := t) (j := j + 1) h id o ho hr
    rw [show id + (j + 1) = id + 1 + j by omega] at this
    exact this
  | some o' :: t, j, h, 0, o, ho, hr => by
    cases ho
    obtain ⟨h1, h2, _⟩ := (br_iff.1 h).2 hr
    rw [Nat.zero_add]
    exact ⟨by simpa using h1, h2⟩
  | some o' :: t, j, h, id + 1, o, ho, hr => by
    have ht : roC k H0 (j + 1) t := by
      cases hw : o'.rw with
      | true => exact (br_iff.1 h).1 hw
      | false => exact ((br_iff.1 h).2 hw).2.2
    have := roC_spec (H := t) (j := j + 1) ht id o ho hr
    rw [show id + (j + 1) = id + 1 + j by omega] at this
    exact this

theorem roC_same {k : Nat} {H0 H : Heap} (h : roC k H0 0 H) : sameRO k H0 H := fun id o ho hr => roC_spec h id o ho hr

/-- For the first n numbers, one by one. -/
def allN : Nat → (Nat → Prop) → Prop
  | 0, _ => True
  | n + 1, f => allN n f ∧ f n

theorem allN_spec : ∀ {n : Nat} {f : Nat → Prop}, allN n f → ∀ i, i < n → f i
  | 0, _, _, _, h => by omega
  | n + 1, f, ⟨h1, h2⟩, i, h => by
    rcases Nat.lt_succ_iff_lt_or_eq.1 h with h | rfl
    · exact allN_spec h1 i h
    · exact h2

/-- Each round. -/
def eachRound (conc : Bool) (N : Nat) (I : Nat → Prop) (f : Nat → Prop) : Prop :=
  match conc with
  | false => ∀ i, Is (I i) → Is (i < N) → f i
  | true => allN N fun i => Is (I i) → f i

theorem eachRound_spec {conc : Bool} {N : Nat} {I f : Nat → Prop} (h : eachRound conc N I f) : ∀ i, Is (I i) → Is (i < N) → f i := by
  cases conc with
  | false => exact h
  | true => exact fun i h1 h2 => allN_spec h i h2.out h1

/-- What an operation gives, in two cases. -/
structure HintB (P : Program) where
  fn : Oper → List Value → Heap → Option (Bool × Out × Out)
  ok : ∀ {o env H b o1 o2}, fn o env H = some (b, o1, o2) → (b = true → StepOK P o env H o1) ∧ (b = false → StepOK P o env H o2)

/-- The next letter of a text, or its end. -/
def fNx (o : Oper) (env : List Value) (H : Heap) : Option (Bool × Out × Out) :=
  match o.op with
  | .next x true =>
    match ev env x with
    | .pointer (some ⟨id, 0, none⟩) =>
      match rd H id with
      | some (.iter s pos) => some (decide (pos < s.size), ⟨.tuple #[.bool true, goInt pos, .int .i32 (Utf8.decode s pos).1], [(id, some (.iter s (pos + (Utf8.decode s pos).2)))], [id], []⟩, ⟨.tuple #[.bool false], [], [id], []⟩)
      | _ => none
    | _ => none
  | _ => none

def hNx (P : Program) : HintB P where
  fn := fNx
  ok := by
    intro o env H b o1 o2 h
    unfold fNx at h
    split at h
    · rename_i x ho
      split at h
      · rename_i id hx
        split at h
        · rename_i s pos hrd
          cases h
          refine ⟨fun hb => next_ok ho ?_, fun hb => next_ok ho ?_⟩
          · have hb := of_decide_eq_true hb
            simp only [evNext, hx, hrd, if_pos hb]
          · have hb := of_decide_eq_false hb
            simp only [evNext, hx, hrd, if_neg hb]
        · cases h
      · cases h
    · cases h

def autoB (P : Program) (o : Oper) : Option (HintB P) :=
  match o.op with
  | .next _ true => some (hNx P)
  | _ => none

/-- What an operation gives, in some cases, and else under a condition. -/
structure HintL (P : Program) where
  fn : Oper → List Value → Heap → Option (List (Bool × Out) × Out × Prop)
  ok : ∀ {o env H l out c}, fn o env H = some (l, out, c) → (∀ x ∈ l, x.1 = true → StepOK P o env H x.2) ∧ (c → StepOK P o env H out)

/-- An operation whose answer is one of several. -/
def StepN (P : Program) (o : Oper) (env : List Value) {α : Type} (f : α → Value) (c : α → Prop) : Prop :=
  ∀ (F : Fr P) A ψ env1 H1 a w, Rel F A ψ env1 H1 a w → (∀ x ∈ o.op.operands, ev env1 x = ev env x) →
    ∃ v' w', (execOp a.eval o).run P w = .ok (.value v') w' ∧ HRel F A ψ H1 w' ∧ ∃ x, c x ∧ VR A ψ (f x) v'

structure HintN (P : Program) where
  α : Type
  fn : Oper → List Value → Option ((α → Value) × (α → Prop))
  ok : ∀ {o env f c}, fn o env = some (f, c) → StepN P o env f c

structure Hs (P : Program) where
  op : Nat → Option (Hint P) := fun _ => none
  bo : Oper → Option (HintB P) := autoB P
  bl : Oper → Option (HintL P) := fun _ => none
  rf : Nat → Option (Rf P) := fun _ => none
  rg : Nat → Option (Rg P) := fun _ => none
  rl : Nat → Option (Rl P) := fun _ => none
  lp : Nat → Option Lp := fun _ => none
  lq : Nat → Option ((π : Type) × (π → Lp)) := fun _ => none
  cut : Nat → Option Lp := fun _ => none
  cq : Nat → Option ((π : Type) × (π → Lp)) := fun _ => none
  cl : Nat → List Bool := fun _ => []
  nl : Nat → List Nl := fun _ => []
  rn : List Nl := []
  au : Oper → Option (Hint P) := fun _ => none
  lx : Nat → List Value → Option ((π : Type) × (π → Lp)) := fun _ _ => none
  cx : Nat → List Value → Option ((π : Type) × (π → Lp)) := fun _ _ => none
  lf : Nat → Option Lf := fun _ => none
  sm : Bool := false
  nd : Nat → Option (HintN P) := fun _ => none
  cs : Nat → List Int := fun _ => []

def Hs.pick {P : Program} (hs : Hs P) (k : Nat) (o : Oper) : Option (Hint P) :=
  match hs.op k with
  | some h => some h
  | none => hs.au o

section
variable (P : Program) (call : CallF) (hs : Hs P)

def gP (ops : Array Oper) (env : List Value) (o : Oper) (T F : List Value → Prop) : Prop :=
  match o.guard with
  | none => T env
  | some (j, want) =>
    match (ops[j]?).bind (·.dst) with
    | none => F env
    | some t =>
      match gt env t with
      | .bool b => br b (br want (T (st env t (.bool true))) (F (st env t (.bool true)))) (br want (F (st env t (.bool false))) (T (st env t (.bool false))))
      | .tuple l => if l.toList.isEmpty then F env else False
      | _ => False

/-- A slot that is known from here on. -/
def known (env : List Value) (c : Operand) (b : Bool) : List Value :=
  match c with
  | .tmp t => st env t (.bool b)
  | _ => env

def step1P (hint : Option (Hint P)) (env : List Value) (H : Heap) (o : Oper) (k : Out → Prop) : Prop :=
  match hint with
  | some h =>
    match h.fn o env H with
    | some (out, vc) => Is vc ∧ br (freshOK H out) (k out) False
    | none =>
      match evStep P call env H H.length o with
      | some out => br (freshOK H out) (k out) False
      | none => False
  | none =>
    match evStep P call env H H.length o with
    | some out => br (freshOK H out) (k out) False
    | none => False

def casesP (H : Heap) (k : Out → Prop) (c : Prop) (out : Out) : List (Bool × Out) → Prop
  | [] => Is c ∧ br (freshOK H out) (k out) False
  | (b, o1) :: r => br b (br (freshOK H o1) (k o1) False) (casesP H k c out r)

def stepP (key : Nat) (env : List Value) (H : Heap) (o : Oper) (k : Out → Prop) : Prop :=
  match hs.bl o with
  | some hl =>
    match hl.fn o env H with
    | some (l, out, c) => casesP H k c out l
    | none => False
  | none =>
    match hs.bo o with
    | some hb =>
      match hb.fn o env H with
      | some (b, o1, o2) => br b (br (freshOK H o1) (k o1) False) (br (freshOK H o2) (k o2) False)
      | none => False
    | none => step1P P call (hs.pick key o) env H o k

/-- Both answers. -/
def ndP (hn : HintN P) (env : List Value) (o : Oper) (k : Value → Prop) : Prop :=
  match hn.fn o env with
  | some (f, c) => ∀ x, Is (c x) → k (f x)
  | none => False

/-- A number that is one of a few: each of them by itself. -/
def csL (kd : IntKind) (x : Int) (k : Value → Prop) : List Int → Prop
  | [] => False
  | c :: r => match r with
    | [] => Is (x = c) ∧ k (.int kd c)
    | _ :: _ => br (x == c) (k (.int kd c)) (csL kd x k r)

def csP (L : List Int) (v : Value) (k : Value → Prop) : Prop :=
  match L with
  | [] => k v
  | c :: r => match v with
    | .int kd x => csL kd x k (c :: r)
    | _ => k v

theorem csL_spec {kd : IntKind} {x : Int} {k : Value → Prop} : ∀ {L : List Int}, csL kd x k L → k (.int kd x)
  | [], h => h.elim
  | c :: r, h => by
    unfold csL at h
    split at h
    · obtain ⟨h1, h2⟩ := h
      rw [h1.out]; exact h2
    · obtain ⟨h1, h2⟩ := br_iff.1 h
      cases hb : x == c with
      | true => rw [beq_iff_eq.1 hb]; exact h1 hb
      | false => exact csL_spec (h2 hb)

theorem csP_spec {L : List Int} {v : Value} {k : Value → Prop} (h : csP L v k) : k v := by
  unfold csP at h
  split at h
  · exact h
  · split at h
    · exact csL_spec h
    · exact h

def opsP (ops : Array Oper) : Nat → List Oper → List Value → Heap → (List Value → Heap → Prop) → Prop
  | _, [], env, H, K => K env H
  | k, o :: r, env, H, K =>
    gP ops env o
      (fun env => match hs.nd k with
        | some hn => ndP P hn env o fun v => opsP ops (k + 1) r (put env o.dst v) H K
        | none => stepP P call hs k env H o fun out => csP (hs.cs k) out.v fun v => opsP ops (k + 1) r (put env o.dst v) (ap H out.δ) K)
      (fun env => opsP ops (k + 1) r (put env o.dst undef) H K)

def drawP (ops : Array Oper) (base : Nat) : Nat → List Oper → List Value → Heap → (List Value → Heap → List Tri → Prop) → Prop
  | _, [], env, H, K => K env H []
  | k, o :: r, env, H, K =>
    gP ops env o
      (fun env => stepP P call hs (base + k) env H o fun out => drawP ops base (k + 1) r (put env o.dst out.v) (ap H out.δ) fun e h L => K e h ((k, o, ⟨env, H, true, out⟩) :: L))
      (fun env => drawP ops base (k + 1) r (put env o.dst undef) H fun e h L => K e h ((k, o, ⟨env, H, false, noOut⟩) :: L))

def firstRid : Code → Nat
  | .region id _ _ => id
  | .seq x _ => firstRid x
  | .block _ c => firstRid c
  | .loop c => firstRid c
  | .scope c => firstRid c
  | .cond _ x _ => firstRid x
  | _ => 0

/-- To a state of a loop. -/
def gcP (base : Nat) (cl : List Bool) (nl : List Nl) (env : List Value) (H : Heap) (K : List Value → Heap → Prop) : Prop :=
  match isStay nl with
  | true => K (clr cl env) H
  | false =>
  match gc base (clr cl env) H with
  | some (e, h) =>
    match nl with
    | [] => K e h
    | x :: r => match gc base (lst (x :: r) e h).1 (lst (x :: r) e h).2 with
      | some (e, h) => K e h
      | none => False
  | none => False

/-- To a state of a loop; lists that were nil come last. -/
def gcP0 (base : Nat) (cl : List Bool) (nl : List Nl) (env : List Value) (H : Heap) (K : List Value → Heap → Prop) : Prop :=
  match gc base (clr cl env) H with
  | some (e, h) => K (lst nl e h).1 (lst nl e h).2
  | none => False

/-- A loop without an invariant, some rounds of it. -/
def iterP (base : Nat) (cl : List Bool) (nl : List Nl) (step : List Value → Heap → (Ex → List Value → Heap → Prop) → Prop) (Q : Ex → List Value → Heap → Prop) : Nat → List Value → Heap → Prop
  | 0, _, _ => False
  | n + 1, env, H => gcP base cl nl env H fun e h => step e h fun x e' h' =>
    match x with
    | .normal => iterP base cl nl step Q n e' h'
    | x => Q x e' h'

/-- Not a value to speak of. -/
def isPoi : Value → Bool
  | .tuple l => match l.toList with
    | [.tuple m] => m.toList.isEmpty
    | _ => false
  | _ => false

/-- Slots, one by one; those that are not known on both sides are left out. -/
def sameE : List Value → List Value → Prop
  | [], [] => True
  | x :: r, y :: t => match isPoi x && isPoi y with
    | true => sameE r t
    | false => x = y ∧ sameE r t
  | _, _ => False

/-- Two lists of slots: at once, or one by one. -/
def stE (sm : Bool) (e e' : List Value) : Prop :=
  match sm with
  | true => sameE e e'
  | false => e = e'

def loopP (sm : Bool) (L : Lp) (base : Nat) (cl : List Bool) (nl : List Nl) (step : List Value → Heap → (Ex → List Value → Heap → Prop) → Prop) (Q : Ex → List Value → Heap → Prop) (env : List Value) (H : Heap) : Prop :=
  (gcP base cl nl env H fun e h => ∃ s, Is (L.I s) ∧ stE sm e (L.E s) ∧ h = L.Hp s) ∧
  ∀ s, Is (L.I s) → step (L.E s) (L.Hp s) fun x e' h' =>
    match x with
    | .normal => gcP base cl nl e' h' fun e h => ∃ s', Is (L.I s') ∧ Is (L.m s' < L.m s) ∧ stE sm e (L.E s') ∧ h = L.Hp s'
    | x => Q x e' h'

def loopFP (sm : Bool) (q : Lf) (base : Nat) (cl : List Bool) (nl : List Nl) (step : List Value → Heap → (Ex → List Value → Heap → Prop) → Prop) (Q : Ex → List Value → Heap → Prop) (env : List Value) (H : Heap) : Prop :=
  (gcP base cl nl env H fun e h => br (Nat.blt (q.sh e) q.G) (∃ s, Is ((q.L (q.sh e)).I s) ∧ stE sm e ((q.L (q.sh e)).E s) ∧ h = (q.L (q.sh e)).Hp s) False) ∧
  allN q.G fun g => ∀ s, Is ((q.L g).I s) → step ((q.L g).E s) ((q.L g).Hp s) fun x e' h' =>
    match x with
    | .normal => gcP base cl nl e' h' fun e h => br (Nat.blt (q.sh e) q.G) (∃ s', Is ((q.L (q.sh e)).I s') ∧ Is ((q.L (q.sh e)).m s' < (q.L g).m s) ∧ stE sm e ((q.L (q.sh e)).E s') ∧ h = (q.L (q.sh e)).Hp s') False
    | x => Q x e' h'

def codeP : Nat → Code → List Value → Heap → (Ex → List Value → Heap → Prop) → Prop
  | _, .skip, env, H, Q => Q .normal env H
  | _, .label _, env, H, Q => Q .normal env H
  | _, .region id ops draw, env, H, Q =>
    match draw with
    | true => drawP P call hs ops (id * 100) 0 ops.toList env H fun e h L => br (drawOK ops L) (Q .normal e h) False
    | false => opsP P call hs ops (id * 100) ops.toList env H fun e h => Q .normal e h
  | base, .seq x y, env, H, Q =>
    match hs.cut (firstRid y) with
    | none =>
      match hs.cq (firstRid y) with
      | none =>
        match hs.cx (firstRid y) env with
        | none => codeP base x env H fun ex e h =>
          match ex with
          | .normal => codeP base y e h Q
          | ex => Q ex e h
        | some q => ∃ p,
          (codeP base x env H fun ex e h =>
            match ex with
            | .normal => gcP base (hs.cl (firstRid y)) (hs.nl (firstRid y)) e h fun e h => ∃ s, Is ((q.2 p).I s) ∧ stE hs.sm e ((q.2 p).E s) ∧ h = (q.2 p).Hp s
            | ex => Q ex e h) ∧
          ∀ s, Is ((q.2 p).I s) → codeP base y ((q.2 p).E s) ((q.2 p).Hp s) Q
      | some q => ∃ p,
        (codeP base x env H fun ex e h =>
          match ex with
          | .normal => gcP base (hs.cl (firstRid y)) (hs.nl (firstRid y)) e h fun e h => ∃ s, Is ((q.2 p).I s) ∧ stE hs.sm e ((q.2 p).E s) ∧ h = (q.2 p).Hp s
          | ex => Q ex e h) ∧
        ∀ s, Is ((q.2 p).I s) → codeP base y ((q.2 p).E s) ((q.2 p).Hp s) Q
    | some L =>
      (codeP base x env H fun ex e h =>
        match ex with
        | .normal => gcP base (hs.cl (firstRid y)) (hs.nl (firstRid y)) e h fun e h => ∃ s, Is (L.I s) ∧ stE hs.sm e (L.E s) ∧ h = L.Hp s
        | ex => Q ex e h) ∧
      ∀ s, Is (L.I s) → codeP base y (L.E s) (L.Hp s) Q
  | base, .cond c x y, env, H, Q =>
    match ev env c with
    | .bool b => br b (codeP base x (known env c true) H Q) (codeP base y (known env c false) H Q)
    | _ => False
  | base, .block id c, env, H, Q => codeP base c env H fun ex e h =>
    match ex with
    | .exit i => if i = id then Q .normal e h else Q (.exit i) e h
    | ex => Q ex e h
  | base, .loop c, env, H, Q =>
    match hs.lp (firstRid c) with
    | some L => loopP hs.sm L base (hs.cl (firstRid c)) (hs.nl (firstRid c)) (codeP base c) Q env H
    | none =>
      match hs.lq (firstRid c) with
      | some q => ∃ p, loopP hs.sm (q.2 p) base (hs.cl (firstRid c)) (hs.nl (firstRid c)) (codeP base c) Q env H
      | none =>
        match hs.lx (firstRid c) env with
        | some q => ∃ p, loopP hs.sm (q.2 p) base (hs.cl (firstRid c)) (hs.nl (firstRid c)) (codeP base c) Q env H
        | none =>
          match hs.lf (firstRid c) with
          | some q => loopFP hs.sm q base (hs.cl (firstRid c)) (hs.nl (firstRid c)) (codeP base c) Q env H
          | none => iterP base (hs.cl (firstRid c)) (hs.nl (firstRid c)) (codeP base c) Q 64 env H
  | base, .scope c, env, H, Q => codeP base c env H Q
  | _, .exit id, env, H, Q => Q (.exit id) env H
  | _, .ret, env, H, Q => Q .ret env H
  | base, .rangeFunc g ps assign body, env, H, Q =>
    match hs.rg (firstRid body) with
    | some R =>
      gcP0 base (hs.cl (firstRid body)) (hs.nl (firstRid body)) env H fun e h =>
        e = R.E ∧ h = R.H0 ∧ R.Hp 0 = killL R.own R.H0 ∧
        match ev R.E g with
        | .func (.func gf) xs cap =>
          br (decide (gf = R.it.gf) && xs.toList.isEmpty && callable P gf && plainC assign && plainC body && decide (base ≤ R.k))
            (R.E.map (renV (lowρ R.k) 4) = R.E ∧
              match R.it.fn (cap.toList.map (renV (pos (reach R.H0 1000 (cap.toList.flatMap (idsV 4)) [])) 4)) (resH R.H0 (reach R.H0 1000 (cap.toList.flatMap (idsV 4)) [])) with
              | some (N, el, vc) =>
                Is vc ∧ Is (R.I 0) ∧
                br (nodupB (reach R.H0 1000 (cap.toList.flatMap (idsV 4)) []) && capW R.own (reach R.H0 1000 (cap.toList.flatMap (idsV 4)) []) R.H0)
                  ((∀ i, Is (R.I i) → Is (i < N) → br (Nat.beq (el i).length ps.size && (el i).all ground && allRW (R.Hp i))
                      (codeP R.k assign (setAll ps.toList (el i) R.E) (R.Hp i) (thenN fun e h => codeP R.k body e h (rfPost R.k R.Hp (fun i => Is (R.I i)) R.Hx (fun s => Is (R.Ix s)) i))) False) ∧
                    (Is (R.I N) → br (allRW (R.Hp N)) (Q .normal R.E (R.Hp N)) False) ∧ ∀ s, Is (R.Ix s) → br (allRW (R.Hx s)) (Q .ret R.E (R.Hx s)) False) False
              | none => False) False
        | _ => False
    | none =>
      match hs.rf (firstRid body) with
      | some R =>
        gcP0 base (hs.cl (firstRid body)) (hs.nl (firstRid body)) env H fun e h =>
          e = R.E ∧ sealH (reach h 1000 (idsV 4 (ev e g)) []) h = R.Hp 0 ∧
          match ev R.E g with
          | .func (.func gf) xs cap =>
            br (decide (gf = R.it.gf) && xs.toList.isEmpty && callable P gf && plainC assign && plainC body && decide (base ≤ R.k))
              (R.E.map (renV (lowρ R.k) 4) = R.E ∧
                match R.it.fn (cap.toList.map (renV (pos (reach (R.Hp 0) 1000 (cap.toList.flatMap (idsV 4)) [])) 4)) (resH (R.Hp 0) (reach (R.Hp 0) 1000 (cap.toList.flatMap (idsV 4)) [])) with
                | some (N, el, vc) =>
                  Is vc ∧ Is (R.I 0) ∧
                  br (nodupB (reach (R.Hp 0) 1000 (cap.toList.flatMap (idsV 4)) []) && allSealed (resH (R.Hp 0) (reach (R.Hp 0) 1000 (cap.toList.flatMap (idsV 4)) [])))
                    ((eachRound R.conc N R.I fun i => br (Nat.beq (el i).length ps.size && (el i).all ground)
                        (codeP R.k assign (setAll ps.toList (el i) R.E) (R.Hp i) (thenN fun e h => codeP R.k body e h (rfPost R.k R.Hp (fun i => Is (R.I i)) R.Hx (fun s => Is (R.Ix s)) i))) False) ∧
                      (Is (R.I N) → Q .normal R.E (R.Hp N)) ∧ ∀ s, Is (R.Ix s) → Q .ret R.E (R.Hx s)) False
                | none => False) False
          | _ => False
      | none =>
        match hs.rl (firstRid body) with
        | some R =>
          gcP0 base (hs.cl (firstRid body)) (hs.nl (firstRid body)) env H fun e h =>
            e = R.E ∧ sealH (reach h 1000 (idsV 4 (ev e g)) []) h = R.Hp 0 ∧
            match ev R.E g with
            | .func (.func gf) xs cap =>
              match ps.toList with
              | [p] =>
                br (decide (gf = R.it.gf) && xs.toList.isEmpty && callable P gf && plainC assign && plainC body && decide (base ≤ R.k))
                  (R.E.map (renV (lowρ R.k) 4) = R.E ∧
                    match R.it.fn (cap.toList.map (renV (pos (reach (R.Hp 0) 1000 (cap.toList.flatMap (idsV 4)) [])) 4)) (resH (R.Hp 0) (reach (R.Hp 0) 1000 (cap.toList.flatMap (idsV 4)) [])) with
                    | some (N, len, pl, vc) =>
                      Is vc ∧ Is (R.I 0) ∧
                      br (nodupB (reach (R.Hp 0) 1000 (cap.toList.flatMap (idsV 4)) []) && allSealed (resH (R.Hp 0) (reach (R.Hp 0) 1000 (cap.toList.flatMap (idsV 4)) [])))
                        ((eachRound R.conc N R.I fun i => roC R.k (R.Hp 0) 0 (R.Hp i) ∧
                            codeP R.k assign (setAll [p] [.slice (some ⟨(R.Hp i).length, 0, none⟩) len big] R.E) (R.Hp i ++ [some (.row (pl i) 1 false false true)]) (thenN fun e h => codeP R.k body e h (rfPost R.k R.Hp (fun i => Is (R.I i)) R.Hx (fun s => Is (R.Ix s)) i))) ∧
                          (Is (R.I N) → roC R.k (R.Hp 0) 0 (R.Hp N) ∧ Q .normal R.E (R.Hp N)) ∧ ∀ s, Is (R.Ix s) → roC R.k (R.Hp 0) 0 (R.Hx s) ∧ Q .ret R.E (R.Hx s)) False
                    | none => False) False
              | _ => False
            | _ => False
        | none => False
  | _, _, _, _, _ => False

def finP (rn : List Nl) (n : Nat) (rs : List ResultVar) (K : Value → Heap → Prop) (e : List Value) (h : Heap) : Prop :=
  match evResultL P e h rs with
  | some vs =>
    match isStay rn with
    | true => K (one vs) h
    | false =>
    match tidy n (one (lst rn vs h).1) (lst rn vs h).2 with
    | some (v, h') => K v h'
    | none => False
  | none => False

def fnP (f : FuncId) (args : List Value) (H : Heap) (K : Value → Heap → Prop) : Prop :=
  match P.funcs[f]? with
  | some fn =>
    match fn.body with
    | some c => codeP P call hs H.length c (args ++ List.replicate (fn.ntmps - args.length) undef) H fun x e h =>
      match x with
      | .normal => finP P hs.rn H.length fn.results.toList K e h
      | .ret => finP P hs.rn H.length fn.results.toList K e h
      | _ => False
    | none => False
  | none => False
end

section
variable {P : Program} {call : CallF} {hs : Hs P} {F : Fr P} {A : Nat → Prop} {ψ : Nat → Gh} {a : Act} {w : World}

theorem isPoi_eq {v : Value} (h : isPoi v = true) : v = poi := by
  unfold isPoi at h
  split at h
  · rename_i l
    split at h
    · rename_i m hl
      have h1 : l = #[.tuple m] := by rw [← Array.toArray_toList (xs := l), hl]
      have h2 : m = #[] := by simpa using h
      rw [h1, h2]; rfl
    · cases h
  · cases h

theorem sameE_eq : ∀ {e e' : List Value}, sameE e e' → e = e'
  | [], [], _ => rfl
  | [], _ :: _, h => h.elim
  | _ :: _, [], h => h.elim
  | x :: r, y :: t, h => by
    unfold sameE at h
    split at h
    · rename_i hb
      rw [Bool.and_eq_true] at hb
      rw [isPoi_eq hb.1, isPoi_eq hb.2, sameE_eq h]
    · rw [h.1, sameE_eq h.2]

theorem stE_eq {sm : Bool} {e e' : List Value} (h : stE sm e e') : e = e' := by
  cases sm with
  | true => exact sameE_eq h
  | false => exact h

theorem st_same {env : List Value} {t : Nat} {b : Bool} (h : gt env t = .bool b) : st env t (.bool b) = env := by
  rw [st_eq]
  rw [gt_eq] at h
  by_cases ht : t < env.length
  · have : env[t] = .bool b := by simpa [List.getD_eq_getElem?_getD, ht] using h
    rw [← this]; exact List.set_getElem_self ht
  · rw [List.set_eq_of_length_le (by omega)]

theorem known_same {env : List Value} {c : Operand} {b : Bool} (h : ev env c = .bool b) : known env c b = env := by
  unfold known
  split
  · exact st_same h
  · rfl

theorem gP_spec {ops : Array Oper} {env : List Value} {o : Oper} {T G : List Value → Prop} (h : gP ops env o T G) : (wantedA ops env o = some true ∧ T env) ∨ (wantedA ops env o = some false ∧ G env) := by
  unfold gP at h
  unfold wantedA
  split at h
  · rename_i hg; rw [hg]; exact .inl ⟨rfl, h⟩
  · rename_i j want hg
    rw [hg]
    simp only
    split at h
    · rename_i hd; rw [hd]; exact .inr ⟨rfl, h⟩
    · rename_i t hd
      rw [hd]
      simp only
      split at h
      · rename_i b hb
        rw [hb]
        simp only
        cases b with
        | true =>
          simp only [st_same hb] at h
          cases want
          · exact .inr ⟨rfl, h⟩
          · exact .inl ⟨rfl, h⟩
        | false =>
          simp only [st_same hb] at h
          cases want
          · exact .inl ⟨rfl, h⟩
          · exact .inr ⟨rfl, h⟩
      · rename_i l hl
        rw [hl]
        simp only
        split at h
        · rename_i he; rw [if_pos he]; exact .inr ⟨rfl, h⟩
        · exact h.elim
      · exact h.elim

theorem step1P_spec (hc : CallOK P call) {hint : Option (Hint P)} {env : List Value} {H : Heap} {o : Oper} {k : Out → Prop} (h : step1P P call hint env H o k) :
    ∃ out, StepOK P o env H out ∧ freshOK H out = true ∧ k out := by
  unfold step1P at h
  split at h
  · rename_i hh
    split at h
    · rename_i out vc hf
      obtain ⟨h1, h2⟩ := h
      have := br_only h2
      exact ⟨out, hh.ok hf h1.out, this.1, this.2⟩
    · split at h
      · rename_i out hev
        have := br_only h
        exact ⟨out, evStep_ok hc hev, this.1, this.2⟩
      · exact h.elim
  · split at h
    · rename_i out hev
      have := br_only h
      exact ⟨out, evStep_ok hc hev, this.1, this.2⟩
    · exact h.elim

theorem stepP_spec (hc : CallOK P call) {key : Nat} {env : List Value} {H : Heap} {o : Oper} {k : Out → Prop} (h : stepP P call hs key env H o k) :
    ∃ out, StepOK P o env H out ∧ freshOK H out = true ∧ k out := by
  unfold stepP at h
  split at h
  · rename_i hl _
    split at h
    · rename_i l out c hf
      obtain ⟨k1, k2⟩ := hl.ok hf
      clear hf
      induction l with
      | nil =>
        obtain ⟨h1, h2⟩ := h
        have := br_only h2
        exact ⟨out, k2 h1.out, this.1, this.2⟩
      | cons x r ih =>
        obtain ⟨b, o1⟩ := x
        obtain ⟨h1, h2⟩ := br_iff.1 h
        cases b with
        | true => have := br_only (h1 rfl); exact ⟨o1, k1 _ (List.mem_cons_self ..) rfl, this.1, this.2⟩
        | false => exact ih (h2 rfl) fun y hy => k1 y (List.mem_cons_of_mem _ hy)
    · exact h.elim
  split at h
  · rename_i hb _
    split at h
    · rename_i b o1 o2 hf
      obtain ⟨h1, h2⟩ := br_iff.1 h
      obtain ⟨k1, k2⟩ := hb.ok hf
      cases b with
      | true => have := br_only (h1 rfl); exact ⟨o1, k1 rfl, this.1, this.2⟩
      | false => have := br_only (h2 rfl); exact ⟨o2, k2 rfl, this.1, this.2⟩
    · exact h.elim
  · exact step1P_spec hc h

theorem opsP_ok (hc : CallOK P call) {ops : Array Oper} : ∀ (l : List Oper) (k : Nat) (env : List Value) (H : Heap) (K : List Value → Heap → Prop), opsP P call hs ops k l env H K →
    ∀ (F : Fr P) A ψ a w (Q : Exit → Act → World → Prop), Rel F A ψ env H a w → (∀ id, A id → id < H.length) →
      (∀ e h A' ψ' a' w', K e h → Rel F A' ψ' e h a' w' → (∀ id, A' id → id < h.length) → Q .normal a' w') → wpList P ops Q l a w := by
  intro l
  induction l with
  | nil => intro k env H K h F A ψ a w Q hr hb hQ; exact hQ _ _ _ _ _ _ h hr hb
  | cons o r ih =>
    intro k env H K h F A ψ a w Q hr hb hQ
    simp only [opsP] at h
    simp only [wpList]
    rcases gP_spec h with ⟨hw, h⟩ | ⟨hw, h⟩
    · rw [wanted_ok hr hw]
      simp only [if_true]
      split at h
      · rename_i hn _
        unfold ndP at h
        split at h
        · rename_i f c hf
          obtain ⟨v', w', e1, e2, x, e3, e4⟩ := hn.ok hf F A ψ env H a w hr (fun _ _ => rfl)
          refine .inl ?_
          unfold Oper.wp
          rw [e1]
          have hr2 : Rel F A ψ env H a w' := ⟨hr.slot, hr.len, hr.defers, e2⟩
          exact ih _ _ _ _ (h x ⟨e3⟩) _ _ _ _ _ _ (put_rel hr2 e4 o.dst) hb hQ
        · exact h.elim
      · obtain ⟨out, s1, s2, s3⟩ := stepP_spec hc h
        obtain ⟨h1, h2⟩ := fresh_spec s2 hb
        have s3 := csP_spec s3
        refine .inl (s1 F A ψ env H a w hr (fun _ _ => rfl) (fun _ _ => rfl) h1 _ _ fun ψ1 a1 w1 hr1 => ?_)
        exact ih _ _ _ _ s3 _ _ _ _ _ _ hr1 h2 hQ
    · rw [wanted_ok hr hw]
      simp only [Bool.false_eq_true, if_false]
      exact ih _ _ _ _ h _ _ _ _ _ _ (skip_rel hr o.dst) hb hQ

theorem drawP_ok (hc : CallOK P call) {ops : Array Oper} {base : Nat} : ∀ (l : List Oper) (k : Nat) (env : List Value) (H : Heap) (K : List Value → Heap → List Tri → Prop), drawP P call hs ops base k l env H K →
    ∃ e h L, Trace P ops L env H e h ∧ L.map (·.2.1) = l ∧ L.map (·.1) = List.range' k l.length ∧ K e h L := by
  intro l
  induction l with
  | nil => intro k env H K h; exact ⟨env, H, [], ⟨rfl, rfl⟩, rfl, rfl, h⟩
  | cons o r ih =>
    intro k env H K h
    simp only [drawP] at h
    rcases gP_spec h with ⟨hw, h⟩ | ⟨hw, h⟩
    · obtain ⟨out, s1, s2, s3⟩ := stepP_spec hc h
      obtain ⟨e, h', L, t1, t2, t3, t4⟩ := ih _ _ _ _ s3
      exact ⟨e, h', (k, o, ⟨env, H, true, out⟩) :: L, ⟨rfl, rfl, hw, fun _ => ⟨s1, s2⟩, (fun hh => by cases hh), t1⟩, by simp [t2], by simp [t3, List.range'_succ], t4⟩
    · obtain ⟨e, h', L, t1, t2, t3, t4⟩ := ih _ _ _ _ h
      exact ⟨e, h', (k, o, ⟨env, H, false, noOut⟩) :: L, ⟨rfl, rfl, hw, (fun hh => by cases hh), fun _ => rfl, t1⟩, by simp [t2], by simp [t3, List.range'_succ], t4⟩

theorem gcP_spec {base : Nat} {cl : List Bool} {nl : List Nl} {env : List Value} {H : Heap} {K : List Value → Heap → Prop} (h : gcP base cl nl env H K) (hr : Rel F A ψ env H a w) (hF : ∀ id, F.A0 id → id < base) (hb : ∀ id, A id → id < H.length) :
    ∃ e h A' ψ', Rel F A' ψ' e h a w ∧ (∀ id, A' id → id < h.length) ∧ K e h := by
  unfold gcP at h
  split at h
  · exact ⟨_, _, A, ψ, clr_rel hr cl, hb, h⟩
  split at h
  · rename_i e h' hg
    obtain ⟨A', ψ', g1, g2⟩ := gc_rel hg (clr_rel hr cl) hF
    split at h
    · exact ⟨e, h', A', ψ', g1, g2, h⟩
    · rename_i x r _
      split at h
      · rename_i e2 h2 hg2
        obtain ⟨A2, ψ2, k1, _⟩ := lst_rel (x :: r) g1 g2
        obtain ⟨A3, ψ3, k3, k4⟩ := gc_rel hg2 k1 hF
        exact ⟨e2, h2, A3, ψ3, k3, k4, h⟩
      · exact h.elim
  · exact h.elim

theorem gcP0_spec {base : Nat} {cl : List Bool} {nl : List Nl} {env : List Value} {H : Heap} {K : List Value → Heap → Prop} (h : gcP0 base cl nl env H K) (hr : Rel F A ψ env H a w) (hF : ∀ id, F.A0 id → id < base) :
    ∃ e h A' ψ', Rel F A' ψ' e h a w ∧ (∀ id, A' id → id < h.length) ∧ K e h := by
  unfold gcP0 at h
  split at h
  · rename_i e h' hg
    obtain ⟨A', ψ', g1, g2⟩ := gc_rel hg (clr_rel hr cl) hF
    obtain ⟨A2, ψ2, k1, k2⟩ := lst_rel nl g1 g2
    exact ⟨_, _, A2, ψ2, k1, k2, h⟩
  · exact h.elim

theorem codeP_okIn (hm : P.follows .mixedOrders = true) (hc : CallOK P call) : ∀ (c : Code) (base : Nat) (ro : Option Nat) (env : List Value) (H : Heap) (Q : Ex → List Value → Heap → Prop), (ro = none ∨ plainC c = true) →
    codeP P call hs base c env H Q → GoesIn ro P base c env H Q := by
  intro c
  induction c with
  | skip => intro base ro env H Q _ hev n F A ψ a w R hr hb hF hQ; exact wpIn_skip (hQ _ _ _ _ _ _ _ _ (ExtP.refl _ F) hev hr hb)
  | label l => intro base ro env H Q _ hev n F A ψ a w R hr hb hF hQ; exact wpIn_label (hQ _ _ _ _ _ _ _ _ (ExtP.refl _ F) hev hr hb)
  | exit id => intro base ro env H Q _ hev n F A ψ a w R hr hb hF hQ; exact wpIn_exit (hQ (.exit id) _ _ _ _ _ _ _ (ExtP.refl _ F) hev hr hb)
  | ret => intro base ro env H Q _ hev n F A ψ a w R hr hb hF hQ; exact wpIn_ret (hQ .ret _ _ _ _ _ _ _ (ExtP.refl _ F) hev hr hb)
  | region id ops draw =>
    intro base ro env H Q hpl hev n F A ψ a w R hr hb hF hQ
    have hd : ro = none ∨ noDef ops.toList = true := hpl
    simp only [codeP] at hev
    cases draw with
    | true =>
      simp only at hev
      obtain ⟨e, h, L, t1, t2, t3, t4⟩ := drawP_ok hc _ _ _ _ _ hev
      obtain ⟨hok, t5⟩ := br_only t4
      refine onlyN_mono (wpIn_region_any hm (wpAny_in hd _ _ _ _ ?_))
      have hsz : ops.toList.length = ops.size := by simp
      rw [hsz] at t3
      have hSS : inS (Array.replicate ops.size false) = fun _ => false := by
        funext i
        simp only [inS, Array.getD_eq_getD_getElem?, Array.getElem?_replicate]
        split <;> rfl
      have hrel : Rel F (AS A L (inS (Array.replicate ops.size false))) ψ (envS (inS (Array.replicate ops.size false)) L env) (hS (inS (Array.replicate ops.size false)) L H) a { w with drawn := w.drawn + 1 } := by
        rw [hSS]
        have n1 : ∀ (M : List Tri) (e : List Value), envS (fun _ => false) M e = e := by
          intro M; induction M with
          | nil => intro e; rfl
          | cons z M ih => intro e; obtain ⟨_, _, _⟩ := z; simp only [envS]; exact ih _
        have n2 : ∀ (M : List Tri) (e : Heap), hS (fun _ => false) M e = e := by
          intro M; induction M with
          | nil => intro e; rfl
          | cons z M ih => intro e; obtain ⟨_, _, _⟩ := z; simp only [hS]; exact ih _
        rw [n1, n2]
        have : AS A L (fun _ => false) = A := by
          funext id; simp [AS]
        rw [this]
        exact ⟨hr.slot, hr.len, hr.defers, hr.heap.alike rfl rfl rfl rfl⟩
      refine any_ok t1 t2 t3 hok hb (F := F) (Q := onlyN R) (fun A' ψ' a' w' h1 h2 => hQ .normal e h F A' ψ' a' w' (ExtP.refl _ F) t5 h1 h2) ops.size _ ψ a _ (by simp) (fun j o _ hj => ?_) ?_ hrel
      · rw [hSS] at hj; cases hj
      · exact Nat.le_trans (List.length_filter_le _ _) (by simp)
    | false =>
      simp only at hev
      exact onlyN_mono (wpIn_region_list (wpList_in _ hd _ _ (opsP_ok hc _ _ _ _ _ hev F A ψ a w (onlyN R) hr hb (fun e h A' ψ' a' w' h0 h1 h2 => hQ .normal e h F A' ψ' a' w' (ExtP.refl _ F) h0 h1 h2))))
  | seq x y ihx ihy =>
    intro base ro env H Q hpl hev n F A ψ a w R hr hb hF hQ
    have wx : plainC (.seq x y) = true → plainC x = true := fun h => by simp only [plainC, Bool.and_eq_true] at h; exact h.1
    have wy : plainC (.seq x y) = true → plainC y = true := fun h => by simp only [plainC, Bool.and_eq_true] at h; exact h.2
    have hpx : ro = none ∨ plainC x = true := hpl.imp id wx
    have hpy : ro = none ∨ plainC y = true := hpl.imp id wy
    simp only [codeP] at hev
    split at hev
    · split at hev
      · split at hev
        · refine wpIn_seq (ihx _ _ _ _ _ hpx hev n F A ψ a w _ hr hb hF fun ex e h F' A' ψ' a' w' k00 k0 k1 k2 => ?_)
          cases ex with
          | normal => exact ihy _ _ _ _ _ hpy k0 n F' A' ψ' a' w' R k1 k2 (by rw [k00.x.A0]; exact hF) fun x e h F2 A2 ψ2 a2 w2 q0 => hQ x e h F2 A2 ψ2 a2 w2 ((k00.weak wx).trans (q0.weak wy))
          | exit id => exact hQ (.exit id) _ _ _ _ _ _ _ (k00.weak wx) k0 k1 k2
          | ret => exact hQ .ret _ _ _ _ _ _ _ (k00.weak wx) k0 k1 k2
        · obtain ⟨p, hev⟩ := hev
          refine wpIn_seq (ihx _ _ _ _ _ hpx hev.1 n F A ψ a w _ hr hb hF fun ex e h F' A' ψ' a' w' k00 k0 k1 k2 => ?_)
          cases ex with
          | normal =>
            have hF' : ∀ id, F'.A0 id → id < base := by rw [k00.x.A0]; exact hF
            obtain ⟨e2, h2, A2, ψ2, g1, g2, s, g3, ge, rfl⟩ := gcP_spec k0 k1 hF' k2
            cases stE_eq ge
            exact ihy _ _ _ _ _ hpy (hev.2 s g3) n F' A2 ψ2 a' w' R g1 g2 hF' fun x e h F2 A2 ψ2 a2 w2 q0 => hQ x e h F2 A2 ψ2 a2 w2 ((k00.weak wx).trans (q0.weak wy))
          | exit id => exact hQ (.exit id) _ _ _ _ _ _ _ (k00.weak wx) k0 k1 k2
          | ret => exact hQ .ret _ _ _ _ _ _ _ (k00.weak wx) k0 k1 k2
      · obtain ⟨p, hev⟩ := hev
        refine wpIn_seq (ihx _ _ _ _ _ hpx hev.1 n F A ψ a w _ hr hb hF fun ex e h F' A' ψ' a' w' k00 k0 k1 k2 => ?_)
        cases ex with
        | normal =>
          have hF' : ∀ id, F'.A0 id → id < base := by rw [k00.x.A0]; exact hF
          obtain ⟨e2, h2, A2, ψ2, g1, g2, s, g3, ge, rfl⟩ := gcP_spec k0 k1 hF' k2
          cases stE_eq ge
          exact ihy _ _ _ _ _ hpy (hev.2 s g3) n F' A2 ψ2 a' w' R g1 g2 hF' fun x e h F2 A2 ψ2 a2 w2 q0 => hQ x e h F2 A2 ψ2 a2 w2 ((k00.weak wx).trans (q0.weak wy))
        | exit id => exact hQ (.exit id) _ _ _ _ _ _ _ (k00.weak wx) k0 k1 k2
        | ret => exact hQ .ret _ _ _ _ _ _ _ (k00.weak wx) k0 k1 k2
    · rename_i L _
      refine wpIn_seq (ihx _ _ _ _ _ hpx hev.1 n F A ψ a w _ hr hb hF fun ex e h F' A' ψ' a' w' k00 k0 k1 k2 => ?_)
      cases ex with
      | normal =>
        have hF' : ∀ id, F'.A0 id → id < base := by rw [k00.x.A0]; exact hF
        obtain ⟨e2, h2, A2, ψ2, g1, g2, s, g3, ge, rfl⟩ := gcP_spec k0 k1 hF' k2
        cases stE_eq ge
        exact ihy _ _ _ _ _ hpy (hev.2 s g3) n F' A2 ψ2 a' w' R g1 g2 hF' fun x e h F2 A2 ψ2 a2 w2 q0 => hQ x e h F2 A2 ψ2 a2 w2 ((k00.weak wx).trans (q0.weak wy))
      | exit id => exact hQ (.exit id) _ _ _ _ _ _ _ (k00.weak wx) k0 k1 k2
      | ret => exact hQ .ret _ _ _ _ _ _ _ (k00.weak wx) k0 k1 k2
  | cond c x y ihx ihy =>
    intro base ro env H Q hpl hev n F A ψ a w R hr hb hF hQ
    have wx : plainC (.cond c x y) = true → plainC x = true := fun h => by simp only [plainC, Bool.and_eq_true] at h; exact h.1
    have wy : plainC (.cond c x y) = true → plainC y = true := fun h => by simp only [plainC, Bool.and_eq_true] at h; exact h.2
    have hpx : ro = none ∨ plainC x = true := hpl.imp id wx
    have hpy : ro = none ∨ plainC y = true := hpl.imp id wy
    simp only [codeP] at hev
    have hcv := hr.ev c
    split at hev
    · rename_i b hv
      rw [hv] at hcv
      have hce := hcv.of_atom rfl
      obtain ⟨h1, h2⟩ := br_iff.1 hev
      cases b with
      | true => have h1 := h1 rfl; rw [known_same hv] at h1; exact wpIn_cond_true hce (ihx _ _ _ _ _ hpx h1 n F A ψ a w R hr hb hF fun x e h F2 A2 ψ2 a2 w2 q0 => hQ x e h F2 A2 ψ2 a2 w2 (q0.weak wx))
      | false => have h2 := h2 rfl; rw [known_same hv] at h2; exact wpIn_cond_false hce (ihy _ _ _ _ _ hpy h2 n F A ψ a w R hr hb hF fun x e h F2 A2 ψ2 a2 w2 q0 => hQ x e h F2 A2 ψ2 a2 w2 (q0.weak wy))
    · exact hev.elim
  | block id c ih =>
    intro base ro env H Q hpl hev n F A ψ a w R hr hb hF hQ
    simp only [codeP] at hev
    refine wpIn_block (ih _ _ _ _ _ hpl hev n F A ψ a w _ hr hb hF fun ex e h F' A' ψ' a' w' k00 k0 k1 k2 => ?_)
    cases ex with
    | normal => exact hQ .normal _ _ _ _ _ _ _ k00 k0 k1 k2
    | ret => exact hQ .ret _ _ _ _ _ _ _ k00 k0 k1 k2
    | exit i =>
      simp only at k0
      simp only [Ex.to, Exit.inBlock]
      split at k0
      · rename_i hi
        rw [if_pos hi]
        exact hQ .normal _ _ _ _ _ _ _ k00 k0 k1 k2
      · rename_i hi
        rw [if_neg hi]
        exact hQ (.exit i) _ _ _ _ _ _ _ k00 k0 k1 k2
  | loop c ih =>
    intro base ro env H Q hpl hev n F A ψ a w R hr hb hF hQ
    have hpl : ro = none ∨ plainC c = true := hpl
    simp only [codeP] at hev
    have lo : ∀ L : Lp, loopP hs.sm L base (hs.cl (firstRid c)) (hs.nl (firstRid c)) (codeP P call hs base c) Q env H → Code.wpIn (fen ro) n P (.loop c) R a w := by
      intro L hev
      obtain ⟨h0, h1⟩ := hev
      obtain ⟨e2, h2, A2, ψ2, g1, g2, s, g3, ge, rfl⟩ := gcP_spec h0 hr hF hb
      cases stE_eq ge
      have key : ∀ (m : Nat) (s : L.σ) (Fc : Fr P) (A : Nat → Prop) (ψ : Nat → Gh) (a : Act) (w : World), ExtP (plainC c) F Fc → Is (L.I s) → L.m s < m → Rel Fc A ψ (L.E s) (L.Hp s) a w → (∀ id, A id → id < (L.Hp s).length) → Code.roundsIn (fen ro) n P c R m a w := by
        intro m
        induction m with
        | zero => intro s Fc A ψ a w _ _ hlt _ _; omega
        | succ m ihn =>
          intro s Fc A ψ a w hx hI hlt hr hb
          have hFc : ∀ id, Fc.A0 id → id < base := by rw [hx.x.A0]; exact hF
          rw [roundsIn_succ]
          refine ih _ _ _ _ _ hpl (h1 s hI) n Fc A ψ a w _ hr hb hFc fun x e h F' A' ψ' a' w' k00 k0 k1 k2 => ?_
          have hF' : ∀ id, F'.A0 id → id < base := by rw [k00.x.A0]; exact hFc
          cases x with
          | normal =>
            obtain ⟨e3, h3, A3, ψ3, q1, q2, s', q3, q4, qe, rfl⟩ := gcP_spec k0 k1 hF' k2
            cases stE_eq qe
            exact ihn s' F' A3 ψ3 a' w' (hx.trans k00) q3 (by have := q4.out; omega) q1 q2
          | exit id => exact hQ (.exit id) _ _ _ _ _ _ _ (hx.trans k00) k0 k1 k2
          | ret => exact hQ .ret _ _ _ _ _ _ _ (hx.trans k00) k0 k1 k2
      exact wpIn_loop_rounds _ (key _ s F A2 ψ2 a w (ExtP.refl _ F) g3 (Nat.lt_succ_self _) g1 g2)
    have lf : ∀ q : Lf, loopFP hs.sm q base (hs.cl (firstRid c)) (hs.nl (firstRid c)) (codeP P call hs base c) Q env H → Code.wpIn (fen ro) n P (.loop c) R a w := by
      intro q hev
      obtain ⟨h0, h1⟩ := hev
      obtain ⟨e2, h2, A2, ψ2, g1, g2, gb⟩ := gcP_spec h0 hr hF hb
      obtain ⟨g, hg⟩ : ∃ g, q.sh e2 = g := ⟨_, rfl⟩
      rw [hg] at gb
      obtain ⟨gl, s, g3, ge, rfl⟩ := br_only gb
      have gl : g < q.G := Nat.le_of_ble_eq_true gl
      cases stE_eq ge
      have key : ∀ (m g : Nat) (s : (q.L g).σ) (Fc : Fr P) (A : Nat → Prop) (ψ : Nat → Gh) (a : Act) (w : World), g < q.G → ExtP (plainC c) F Fc → Is ((q.L g).I s) → (q.L g).m s < m → Rel Fc A ψ ((q.L g).E s) ((q.L g).Hp s) a w → (∀ id, A id → id < ((q.L g).Hp s).length) → Code.roundsIn (fen ro) n P c R m a w := by
        intro m
        induction m with
        | zero => intro g s Fc A ψ a w _ _ _ hlt _ _; omega
        | succ m ihn =>
          intro g s Fc A ψ a w hg hx hI hlt hr hb
          have hFc : ∀ id, Fc.A0 id → id < base := by rw [hx.x.A0]; exact hF
          rw [roundsIn_succ]
          refine ih _ _ _ _ _ hpl (allN_spec h1 g hg s hI) n Fc A ψ a w _ hr hb hFc fun x e h F' A' ψ' a' w' k00 k0 k1 k2 => ?_
          have hF' : ∀ id, F'.A0 id → id < base := by rw [k00.x.A0]; exact hFc
          cases x with
          | normal =>
            obtain ⟨e3, h3, A3, ψ3, q1, q2, qb⟩ := gcP_spec k0 k1 hF' k2
            obtain ⟨g', hg'⟩ : ∃ g', q.sh e3 = g' := ⟨_, rfl⟩
            rw [hg'] at qb
            obtain ⟨ql, s', q3, q4, qe, rfl⟩ := br_only qb
            have ql : g' < q.G := Nat.le_of_ble_eq_true ql
            cases stE_eq qe
            exact ihn g' s' F' A3 ψ3 a' w' ql (hx.trans k00) q3 (by have := q4.out; omega) q1 q2
          | exit id => exact hQ (.exit id) _ _ _ _ _ _ _ (hx.trans k00) k0 k1 k2
          | ret => exact hQ .ret _ _ _ _ _ _ _ (hx.trans k00) k0 k1 k2
      exact wpIn_loop_rounds _ (key _ g s F A2 ψ2 a w gl (ExtP.refl _ F) g3 (Nat.lt_succ_self _) g1 g2)
    split at hev
    · exact lo _ hev
    split at hev
    · exact hev.elim fun p hp => lo _ hp
    split at hev
    · exact hev.elim fun p hp => lo _ hp
    split at hev
    · exact lf _ hev
    · generalize 64 = m at hev
      have key : ∀ (m : Nat) (env : List Value) (H : Heap) (Fc : Fr P) (A : Nat → Prop) (ψ : Nat → Gh) (a : Act) (w : World), ExtP (plainC c) F Fc → iterP base (hs.cl (firstRid c)) (hs.nl (firstRid c)) (codeP P call hs base c) Q m env H → Rel Fc A ψ env H a w → (∀ id, A id → id < H.length) → Code.roundsIn (fen ro) n P c R m a w := by
        intro m
        induction m with
        | zero => intro env H Fc A ψ a w _ h1 _ _; exact h1.elim
        | succ m ihn =>
          intro env H Fc A ψ a w hx h1 hr hb
          have hFc : ∀ id, Fc.A0 id → id < base := by rw [hx.x.A0]; exact hF
          simp only [iterP] at h1
          obtain ⟨e2, h2, A2, ψ2, g1, g2, g3⟩ := gcP_spec h1 hr hFc hb
          rw [roundsIn_succ]
          refine ih _ _ _ _ _ hpl g3 n Fc A2 ψ2 a w _ g1 g2 hFc fun x e h F' A' ψ' a' w' k00 k0 k1 k2 => ?_
          cases x with
          | normal => exact ihn _ _ _ _ _ _ _ (hx.trans k00) k0 k1 k2
          | exit id => exact hQ (.exit id) _ _ _ _ _ _ _ (hx.trans k00) k0 k1 k2
          | ret => exact hQ .ret _ _ _ _ _ _ _ (hx.trans k00) k0 k1 k2
      exact wpIn_loop_rounds m (key m env H F A ψ a w (ExtP.refl _ F) hev hr hb)
  | scope c ih =>
    intro base ro env H Q hpl hev n F A ψ a w R hr hb hF hQ
    have hro : ro = none := by rcases hpl with h | h; exact h; cases h
    subst hro
    simp only [codeP] at hev
    refine (wpIn_wide (n := n)).2 (wp_scope_straight ((wpIn_wide (n := n)).1 (ih _ none _ _ _ (.inl rfl) hev n F A ψ a w _ hr hb hF fun x e h F' A' ψ' a' w' k00 k0 k1 k2 => ?_)))
    cases x with
    | normal => exact hQ .normal _ _ _ _ _ _ _ (k00.weak fun h => by cases h) k0 k1 k2
    | exit id => exact hQ (.exit id) _ _ _ _ _ _ _ (k00.weak fun h => by cases h) k0 k1 k2
    | ret => exact hQ .ret _ _ _ _ _ _ _ (k00.weak fun h => by cases h) k0 k1 k2
  | rangeFunc g ps assign body iha ihb =>
    intro base ro env H Q hpl hev n F A ψ a w R hr hb hF hQ
    have hro : ro = none := by rcases hpl with h | h; exact h; cases h
    subst hro
    simp only [codeP] at hev
    split at hev
    · rename_i X _
      obtain ⟨e, h, A2, ψ2, g1, g2, rfl, g3, g5, g4⟩ := gcP0_spec hev hr hF
      split at g4
      · rename_i gf xs cap hg
        obtain ⟨c1, c2, c3⟩ := br_only g4
        simp only [Bool.and_eq_true, decide_eq_true_eq] at c1
        obtain ⟨⟨⟨⟨⟨d1, d2⟩, d3⟩, d4⟩, d5⟩, d6⟩ := c1
        have hxs : xs = #[] := by simpa using d2
        subst hxs
        split at c3
        · rename_i N el vc hit
          obtain ⟨e1, e2, e3⟩ := c3
          obtain ⟨f1, f2, f3, f4⟩ := br_only e3
          simp only [Bool.and_eq_true] at f1
          have hr2 : Rel F A2 ψ2 X.E X.H0 a w := by rw [← g3]; exact g1
          refine rangeOwn_ok (own := X.own) (H0 := X.H0) (base := base) (k := X.k) (Hp := X.Hp) (I := fun i => Is (X.I i)) (Hx := X.Hx) (Ix := fun s => Is (X.Ix s)) (N := N) (el := el) hr2 (fun id hid => by rw [← g3]; exact g2 id hid) g5 hF d6 c2 hg d3
            f1.1 f1.2 (fun i hi hI => ?_) (fun s hs => (br_only (f4 s hs)).1) (by rw [d1]; exact X.it.ok hit e1.out) (fun i hi hlt => ?_) e2
            (cA := fun env H Q => codeP P call hs X.k assign env H Q) (cB := fun env H Q => codeP P call hs X.k body env H Q)
            (fun l env H Q hh => iha _ _ _ _ _ (.inr d4) hh) (fun l env H Q hh => ihb _ _ _ _ _ (.inr d5) hh) (fun i hi hlt => ?_)
            (fun hi F' A' ψ' a' w' k0 k1 k2 => hQ .normal _ _ _ _ _ _ _ ⟨k0, fun h => by cases h⟩ (br_only (f3 hi)).2 k1 k2) (fun s hs F' A' ψ' a' w' k0 k1 k2 => hQ .ret _ _ _ _ _ _ _ ⟨k0, fun h => by cases h⟩ (br_only (f4 s hs)).2 k1 k2)
          · rcases Nat.lt_or_ge i N with hlt | hge
            · have := (br_only (f2 i hI ⟨hlt⟩)).1
              simp only [Bool.and_eq_true] at this
              exact this.2
            · have hiN : i = N := by omega
              rw [hiN] at hI ⊢
              exact (br_only (f3 hI)).1
          · have := (br_only (f2 i hi ⟨hlt⟩)).1
            simp only [Bool.and_eq_true] at this
            exact ⟨Nat.eq_of_beq_eq_true this.1.1, this.1.2⟩
          · exact (br_only (f2 i hi ⟨hlt⟩)).2
        · exact c3.elim
      · exact g4.elim
    split at hev
    · rename_i X _
      obtain ⟨e, h, A2, ψ2, g1, g2, rfl, g3, g4⟩ := gcP0_spec hev hr hF
      split at g4
      · rename_i gf xs cap hg
        obtain ⟨c1, c2, c3⟩ := br_only g4
        simp only [Bool.and_eq_true, decide_eq_true_eq] at c1
        obtain ⟨⟨⟨⟨⟨d1, d2⟩, d3⟩, d4⟩, d5⟩, d6⟩ := c1
        have hxs : xs = #[] := by simpa using d2
        subst hxs
        split at c3
        · rename_i N el vc hit
          obtain ⟨e1, e2, e3⟩ := c3
          obtain ⟨f1, f2, f3, f4⟩ := br_only e3
          simp only [Bool.and_eq_true] at f1
          have hr2 : Rel F A2 ψ2 X.E (X.Hp 0) a w := ⟨g1.slot, g1.len, g1.defers, by rw [← g3]; exact g1.heap.shut _⟩
          refine rangeFunc_ok (base := base) (k := X.k) (Hp := X.Hp) (I := fun i => Is (X.I i)) (Hx := X.Hx) (Ix := fun s => Is (X.Ix s)) (N := N) (el := el) hr2 (fun id hid => by rw [← g3, seal_len]; exact g2 id hid) hF d6 c2 hg d3
            f1.1 f1.2 (by rw [d1]; exact X.it.ok hit e1.out) (fun i hi hlt => ?_) e2
            (cA := fun env H Q => codeP P call hs X.k assign env H Q) (cB := fun env H Q => codeP P call hs X.k body env H Q)
            (fun l env H Q hh => iha _ _ _ _ _ (.inr d4) hh) (fun l env H Q hh => ihb _ _ _ _ _ (.inr d5) hh) (fun i hi hlt => ?_)
            (fun hi F' A' ψ' a' w' k0 k1 k2 => hQ .normal _ _ _ _ _ _ _ ⟨k0, fun h => by cases h⟩ (f3 hi) k1 k2) (fun s hs F' A' ψ' a' w' k0 k1 k2 => hQ .ret _ _ _ _ _ _ _ ⟨k0, fun h => by cases h⟩ (f4 s hs) k1 k2)
          · have := (br_only (eachRound_spec f2 i hi ⟨hlt⟩)).1
            simp only [Bool.and_eq_true] at this
            exact ⟨Nat.eq_of_beq_eq_true this.1, this.2⟩
          · exact (br_only (eachRound_spec f2 i hi ⟨hlt⟩)).2
        · exact c3.elim
      · exact g4.elim
    split at hev
    · rename_i X _
      obtain ⟨e, h, A2, ψ2, g1, g2, rfl, g3, g4⟩ := gcP0_spec hev hr hF
      split at g4
      · rename_i gf xs cap hg
        split at g4
        · rename_i p hps
          obtain ⟨c1, c2, c3⟩ := br_only g4
          simp only [Bool.and_eq_true, decide_eq_true_eq] at c1
          obtain ⟨⟨⟨⟨⟨d1, d2⟩, d3⟩, d4⟩, d5⟩, d6⟩ := c1
          have hxs : xs = #[] := by simpa using d2
          subst hxs
          have hps : ps = #[p] := by rw [← Array.toArray_toList (xs := ps), hps]
          subst hps
          split at c3
          · rename_i N len pl vc hit
            obtain ⟨e1, e2, e3⟩ := c3
            obtain ⟨f1, f2, f3, f4⟩ := br_only e3
            simp only [Bool.and_eq_true] at f1
            have hr2 : Rel F A2 ψ2 X.E (X.Hp 0) a w := ⟨g1.slot, g1.len, g1.defers, by rw [← g3]; exact g1.heap.shut _⟩
            refine rangeLent_ok (base := base) (k := X.k) (Hp := X.Hp) (I := fun i => Is (X.I i)) (Hx := X.Hx) (Ix := fun s => Is (X.Ix s)) (N := N) (len := len) (pl := pl) hr2 (fun id hid => by rw [← g3, seal_len]; exact g2 id hid) hF d6 c2 hg d3
              f1.1 f1.2 (fun i hi hI => ?_) (fun s hs => roC_same (f4 s hs).1) (by rw [d1]; exact X.it.ok hit e1.out) e2
              (cA := fun env H Q => codeP P call hs X.k assign env H Q) (cB := fun env H Q => codeP P call hs X.k body env H Q)
              (fun l env H Q hh => iha _ _ _ _ _ (.inr d4) hh) (fun l env H Q hh => ihb _ _ _ _ _ (.inr d5) hh) (fun i hi hlt => (eachRound_spec f2 i hi ⟨hlt⟩).2)
              (fun hi F' A' ψ' a' w' k0 k1 k2 => hQ .normal _ _ _ _ _ _ _ ⟨k0, fun h => by cases h⟩ (f3 hi).2 k1 k2) (fun s hs F' A' ψ' a' w' k0 k1 k2 => hQ .ret _ _ _ _ _ _ _ ⟨k0, fun h => by cases h⟩ (f4 s hs).2 k1 k2)
            rcases Nat.lt_or_ge i N with hlt | hge
            · exact roC_same (eachRound_spec f2 i hI ⟨hlt⟩).1
            · have hiN : i = N := by omega
              rw [hiN] at hI ⊢
              exact roC_same (f3 hI).1
          · exact c3.elim
        · exact g4.elim
      · exact g4.elim
    · exact hev.elim
  | _ => intro base ro env H Q _ hev; simp [codeP] at hev

/-- What a call gives, when it is not said by one value. -/
def SmallK (P : Program) (f : FuncId) (args : List Value) (H : Heap) (K : Value → Heap → Prop) : Prop :=
  ∀ (F : Fr P) A ψ w args', HRel F A ψ H w → (∀ id, A id → id < H.length) → F.A0 = A → F.ψ0 = ψ → LR A ψ args args' →
    Calls P f args'.toArray w (fun e w' => ∃ v h v' A' ψ', K v h ∧ e = .returned v' ∧ HRel F A' ψ' h w' ∧ (∀ id, A' id → id < h.length) ∧ VR A' ψ' v v')

theorem tidy_step {n : Nat} {ret v v' : Value} {H' h : Heap} (ht : tidy n ret H' = some (v, h)) (hh : HRel F A ψ H' w) (hv : VR A ψ ret v') (hb : ∀ id, F.A0 id → id < n) :
    ∃ A2 ψ2, HRel F A2 ψ2 h w ∧ (∀ id, A2 id → id < h.length) ∧ VR A2 ψ2 v v' := by
  unfold tidy at ht
  split at ht
  · rename_i v1 h1 hg
    cases ht
    have hrel : Rel F A ψ [ret] H' ⟨#[v'], F.ds⟩ w := ⟨fun t => by
      cases t with
      | zero => simpa [Array.getD] using hv
      | succ t => simp [Array.getD]; exact .poison _, by simp, rfl, hh⟩
    obtain ⟨A2, ψ2, r1, r2⟩ := gc_rel hg hrel hb
    refine ⟨A2, ψ2, r1.heap, r2, ?_⟩
    have := r1.slot 0
    simpa [Array.getD] using this
  · cases ht

theorem finP_ok {rn : List Nl} {n : Nat} {rs : List ResultVar} {K : Value → Heap → Prop} {env : List Value} {H : Heap} (h : finP P rn n rs K env H) : ∃ vs v h', evResultL P env H rs = some vs ∧ (tidy n (one (lst rn vs H).1) (lst rn vs H).2 = some (v, h') ∨ (v = one vs ∧ h' = H)) ∧ K v h' := by
  unfold finP at h
  split at h
  · rename_i vs h1
    split at h
    · exact ⟨vs, _, _, h1, .inr ⟨rfl, rfl⟩, h⟩
    split at h
    · rename_i v h' h2; exact ⟨vs, v, h', h1, .inl h2, h⟩
    · exact h.elim
  · exact h.elim

/-- Marks are taken off, one by one. -/
theorem leaves_marks {fn : Func} {tmps : Array Value} {R : Ending → World → Prop} {n : Nat} : ∀ (l : List Nat) (w : World), l.Nodup → (∀ D ∈ l, w.heap[D]? = some (.deferred (some []))) →
    (∀ w', (∀ {F : Fr P} {A ψ H}, (∀ D ∈ l, F.w0.heap.size ≤ D) → HRel F A ψ H w → HRel F A ψ H w') → LeavesInM (fen none) n P fn tmps R [] .returning w') → LeavesInM (fen none) n P fn tmps R (l.map mark) .returning w
  | [], w, _, _, hfin => hfin w fun _ h => h
  | D :: l, w, hn, hk, hfin => by
    have h1 := hk D (by simp)
    rw [List.nodup_cons] at hn
    refine ⟨by simp, .inl ⟨D, _, rfl, run_takeDeferred h1, ?_⟩⟩
    refine leaves_marks l _ hn.2 (fun D' hD' => (World.putObj_heap_other (fun e => hn.1 (by rw [← e]; exact hD'))).trans (hk D' (by simp [hD']))) fun w' hw => hfin w' fun hs h => ?_
    exact hw (fun D' hD' => hs D' (by simp [hD'])) (h.putObj h1 rfl (fun _ _ _ e => by cases e) (hs D (by simp)) _)

theorem fnP_ok (hm : P.follows .mixedOrders = true) (hc : CallOK P call) {f : FuncId} {args : List Value} {H : Heap} {K : Value → Heap → Prop} (h : fnP P call hs f args H K) : SmallK P f args H K := by
  unfold fnP at h
  split at h
  · rename_i fn hfn
    split at h
    · rename_i c hbody
      intro F A ψ w args' hh hb hA hψ hl
      have hlen : args'.toArray.size = args.length := by simpa using hl.len
      refine callsIn_fen.1 (callsIn_of_wp_marks (F := fen none) (n := 0) hfn hbody trivial ?_)
      refine codeP_okIn hm hc c _ none _ _ _ (.inl rfl) h 0 { F with ds := [] } A ψ _ w _ ⟨fun t => ?_, ?_, rfl, hh.ds []⟩ hb (fun id hid => hb id (by rw [← hA]; exact hid)) fun x e h' F' A' ψ' a' w' k00 k0 k1 k2 => ?_
      · have hrep : LR A ψ (List.replicate (fn.ntmps - args.length) undef) (List.replicate (fn.ntmps - args.length) undef) := ⟨rfl, fun i => by
          by_cases hi : i < fn.ntmps - args.length
          · simp only [List.getD_eq_getElem?_getD, List.getElem?_replicate, hi, if_true, Option.getD_some]; exact .refl_undef
          · simp only [List.getD_eq_getElem?_getD, List.getElem?_replicate, hi, if_false, Option.getD_none]; exact .poison _⟩
        have := (hl.append hrep).at_ t
        rw [hlen]
        have e2 : (args'.toArray ++ Array.replicate (fn.ntmps - args.length) undef).getD t undef = (args' ++ List.replicate (fn.ntmps - args.length) undef).getD t undef := by
          simp [Array.getD_eq_getD_getElem?, List.getD_eq_getElem?_getD, ← List.toArray_replicate]
        rw [e2]; exact this
      · have := hl.len; simp; omega
      · obtain ⟨l, m1, m2, m3⟩ := k00.x.ds
        have hds : a'.defers = l.map mark := by rw [k1.defers, m1]; simp
        have fin : finP P hs.rn H.length fn.results.toList K e h' → LeavesInM (fen none) 0 P fn a'.tmps (fun e w' => ∃ v h v' A' ψ', K v h ∧ e = .returned v' ∧ HRel F A' ψ' h w' ∧ (∀ id, A' id → id < h.length) ∧ VR A' ψ' v v') a'.defers .returning w' := by
          intro hfin
          obtain ⟨vs, v, h2, f1, f2, f3⟩ := finP_ok hfin
          rw [hds]
          refine leaves_marks l w' m2 (fun D hD => ?_) fun w2 hw2 => ?_
          · obtain ⟨q1, q2, q3⟩ := m3 D hD
            exact (k1.heap.fr.block D q2 q3.2).trans q3.1
          · have h3 : HRel { F with ds := [] } A' ψ' h' w2 := hw2 (fun D hD => (m3 D hD).1) (k00.x.back k1.heap)
            have k3 : Rel { F with ds := [] } A' ψ' e h' { a' with defers := [] } w2 := ⟨k1.slot, k1.len, rfl, h3⟩
            obtain ⟨us, r1, r2⟩ := results_rel _ _ f1 k3
            have hres' : (results fn a'.tmps).run P w2 = .ok (if h : us.toArray.size = 1 then us.toArray[0] else .tuple us.toArray) w2 := by
              unfold results
              rw [Array.mapM_eq_mapM_toList]
              simp only [Sem.run_bind, Sem.run_map]
              rw [r1 _ (fun _ => rfl) (fun _ _ => rfl)]
              rfl
            have k4 : Rel { F with ds := [] } A' ψ' vs h' ⟨us.toArray, []⟩ w2 := ⟨fun t => by simpa [Array.getD_eq_getD_getElem?, List.getD_eq_getElem?_getD] using r2.at_ t, by simp [r2.len], rfl, h3⟩
            obtain ⟨A4, ψ4, k5, _⟩ := lst_rel hs.rn k4 k2
            have r3 : LR A4 ψ4 (lst hs.rn vs h').1 us := ⟨by rw [lst_len, r2.len], fun t => by simpa [Array.getD_eq_getD_getElem?, List.getD_eq_getElem?_getD] using k5.slot t⟩
            rcases f2 with f2 | ⟨rfl, rfl⟩
            · obtain ⟨A2, ψ2, q1, q2, q3⟩ := tidy_step f2 k5.heap r3.one_rel (fun id hid => hb id (by rw [← hA]; exact hid))
              exact ⟨_, hres', v, h2, _, A2, ψ2, f3, rfl, q1.of_ds, q2, q3⟩
            · have r4 : LR A' ψ' vs us := ⟨r2.len, fun t => r2.at_ t⟩
              exact ⟨_, hres', _, _, _, A', ψ', f3, rfl, h3.of_ds, k2, r4.one_rel⟩
        cases x with
        | normal => exact fin k0
        | ret => exact fin k0
        | exit id => exact k0.elim
    · exact h.elim
  · exact h.elim

theorem SmallK.res {f : FuncId} {args : List Value} {H : Heap} {ret : Value} {H' : Heap} (h : SmallK P f args H fun v h => v = ret ∧ h = H') : SmallRes P f args H ret H' := by
  intro F A ψ w args' hh hb hA hψ hl
  refine (h F A ψ w args' hh hb hA hψ hl).mono ?_
  rintro e w' ⟨v, h, v', A', ψ', ⟨rfl, rfl⟩, rfl, k1, k2, k3⟩
  exact ⟨v', A', ψ', rfl, k1, k2, k3⟩

/-- The road to an answer. -/
theorem fnP_res (hm : P.follows .mixedOrders = true) (hc : CallOK P call) {f : FuncId} {args : List Value} {H : Heap} {ret : Value} {H' : Heap} (h : fnP P call hs f args H fun v h => v = ret ∧ h = H') :
    SmallRes P f args H ret H' := (fnP_ok hm hc h).res

end
end
end Go.Vm
end
section
/- Operations on values that are not known, each with its condition. -/
namespace Go.Vm
noncomputable section

/-- An element's address. -/
def fIa (P : Program) (o : Oper) (env : List Value) (_ : Heap) : Option (Out × Prop) :=
  match o.op with
  | .indexAddr t x i =>
    match P.underlying t, ev env x, ev env i with
    | some (.array len elem), .pointer (some ⟨id, off, none⟩), .int _ n =>
      match P.info? elem with
      | some inf => some (⟨.pointer (some ⟨id, off + n.toNat * inf.size, none⟩), [], [], []⟩, 0 ≤ n ∧ n < len)
      | none => none
    | some (.slice elem), .slice (some ⟨id, off, none⟩) len _, .int _ n =>
      match P.info? elem with
      | some inf => some (⟨.pointer (some ⟨id, off + n.toNat * inf.size, none⟩), [], [], []⟩, 0 ≤ n ∧ n < len)
      | none => none
    | _, _, _ => none
  | _ => none

def hIa (P : Program) : Hint P where
  fn := fIa P
  ok := by
    intro o env H out vc h hv
    unfold fIa at h
    split at h
    · rename_i t x i ho
      refine indexAddr_ok ho ?_
      unfold evIndexAddr
      split at h
      · rename_i h1 h2 h3
        rw [h1, h2, h3]
        simp only
        split at h
        · rename_i inf hi
          rw [hi]; cases h
          simp only
          rw [if_pos hv]
        · cases h
      · rename_i h1 h2 h3
        rw [h1, h2, h3]
        simp only
        split at h
        · rename_i inf hi
          rw [hi]; cases h
          simp only
          rw [if_pos hv]
        · cases h
      · cases h
    · cases h

/-- A cell, or a row of cells, of a list that is not known. -/
def fLd (P : Program) (g : Nat → Value) (o : Oper) (env : List Value) (H : Heap) : Option (Out × Prop) :=
  match o.op with
  | .load t x =>
    match ev env x with
    | .pointer (some ⟨id, off, none⟩) =>
      match rd H id with
      | some (.row cells _ _ _ _) => some (⟨g off, [], [id], []⟩, evPart P t cells off = some (g off))
      | _ => none
    | _ => none
  | _ => none

def hLd (P : Program) (g : Nat → Value) : Hint P where
  fn := fLd P g
  ok := by
    intro o env H out vc h hv
    unfold fLd at h
    split at h
    · rename_i t x ho
      refine load_ok ho ?_
      unfold evLoad
      split at h
      · rename_i id off hx
        rw [hx]
        simp only
        split at h
        · rename_i hr
          rw [hr]; cases h
          simp only [hv, Option.map_some]
        · cases h
      · cases h
    · cases h

/-- A quotient or a remainder. -/
def fDv (o : Oper) (env : List Value) (_ : Heap) : Option (Out × Prop) :=
  match o.op with
  | .binOp .quo _ x y _ =>
    match ev env x, ev env y with
    | .int k a, .int k' b => if k = k' then some (⟨.int k (k.wrap (a.tdiv b)), [], [], []⟩, b ≠ 0) else none
    | _, _ => none
  | .binOp .rem _ x y _ =>
    match ev env x, ev env y with
    | .int k a, .int k' b => if k = k' then some (⟨.int k (a.tmod b), [], [], []⟩, b ≠ 0) else none
    | _, _ => none
  | _ => none

def hDv (P : Program) : Hint P where
  fn := fDv
  ok := by
    intro o env H out vc h hv
    unfold fDv at h
    split at h
    · rename_i t x y yt ho
      refine bin_ok ho ?_
      unfold evBin
      split at h
      · rename_i h1 h2
        rw [h1, h2]
        simp only
        split at h
        · rename_i hk; cases h
          rw [if_pos hk]
          simp [evInt, if_neg hv]
        · cases h
      · cases h
    · rename_i t x y yt ho
      refine bin_ok ho ?_
      unfold evBin
      split at h
      · rename_i h1 h2
        rw [h1, h2]
        simp only
        split at h
        · rename_i hk; cases h
          rw [if_pos hk]
          simp [evInt, if_neg hv]
        · cases h
      · cases h
    · cases h

abbrev OrcV := List Value → Heap → Option (Value × Heap × Prop)

/-- A call whose answer stands under a condition. -/
def fCa (P : Program) (g : FuncId) (R : OrcV) (o : Oper) (env : List Value) (H : Heap) : Option (Out × Prop) :=
  match o.op with
  | .call ⟨.value f, args, _⟩ =>
    match ev env f with
    | .func (.func g') first cap =>
      if g' = g then
        if callable P g = true then
          let ar := first.toList ++ args.toList.map (ev env) ++ cap.toList
          let ids := reach H 1000 (ar.flatMap (idsV 4)) []
          match R (ar.map (renV (pos ids) 4)) (resH H ids) with
          | some (ret, H', vc) => if backOK H ids (newIds H' ids.length ret) H' = true then some (back H ids (newIds H' ids.length ret) H.length ret H', vc) else none
          | none => none
        else none
      else none
    | _ => none
  | _ => none

def hCa (P : Program) (g : FuncId) (R : OrcV) (hR : ∀ args H ret H' vc, R args H = some (ret, H', vc) → vc → SmallRes P g args H ret H') : Hint P where
  fn := fCa P g R
  ok := by
    intro o env H out vc h hv
    unfold fCa at h
    split at h
    · rename_i f args ts ho
      split at h
      · rename_i g' first cap hf
        split at h
        · rename_i hg
          subst hg
          split at h
          · rename_i hcall
            simp only at h
            split at h
            · rename_i ret H' vc' hr
              split at h
              · rename_i hb
                cases h
                classical
                have hres := call_lift (nid := H.length) (hR _ _ _ _ _ hr hv) hb
                generalize back H (reach H 1000 (List.flatMap (idsV 4) (first.toList ++ List.map (ev env) args.toList ++ cap.toList)) []) _ H.length ret H' = out at *
                refine evStep_ok (call := fun g a h n => if g = g' ∧ a = first.toList ++ args.toList.map (ev env) ++ cap.toList ∧ h = H ∧ n = H.length then some out else none) ?_ (nid := H.length) ?_
                · intro g a h n out' hh
                  simp only at hh
                  split at hh
                  · rename_i hk
                    obtain ⟨rfl, rfl, rfl, rfl⟩ := hk
                    cases hh
                    exact hres
                  · cases hh
                · unfold evStep
                  simp only [ho, hf, hcall, if_true]
                  simp
              · cases h
            · cases h
          · cases h
        · cases h
      · cases h
    · cases h

/-- Quotients and remainders under their condition. -/
def auDv (P : Program) (o : Oper) : Option (Hint P) :=
  match o.op with
  | .binOp .quo _ _ _ _ | .binOp .rem _ _ _ _ => some (hDv P)
  | _ => none

end
end Go.Vm
end
section
/- Structs and arrays, compared value by value. -/
namespace Go.Vm
noncomputable section

def eqFs (P : Program) (rec : TypeId → Value → Value → Option Bool) (xs ys : List Value) : List Field → Option Bool
  | [] => some true
  | f :: r =>
    if f.name ≠ "_" then
      match evPart P f.type xs f.offset, evPart P f.type ys f.offset with
      | some a, some b =>
        match rec f.type a b, eqFs P rec xs ys r with
        | some p, some q => some (p && q)
        | _, _ => none
      | _, _ => none
    else eqFs P rec xs ys r

def eqIs (P : Program) (rec : TypeId → Value → Value → Option Bool) (e : TypeId) (n : Nat) (xs ys : List Value) : List Nat → Option Bool
  | [] => some true
  | j :: r =>
    match evPart P e xs (j * n), evPart P e ys (j * n) with
    | some a, some b =>
      match rec e a b, eqIs P rec e n xs ys r with
      | some p, some q => some (p && q)
      | _, _ => none
    | _, _ => none

def eqB (P : Program) : Nat → TypeId → Value → Value → Option Bool
  | 0, _, _, _ => none
  | d + 1, t, x, y =>
    match P.underlying t, x, y with
    | some .bool, .bool a, .bool b => some (a == b)
    | some (.int _), .int k a, .int k' b => if k = k' then some (a == b) else none
    | some .string, .string a, .string b => some (a == b)
    | some (.struct fields), .agg xs, .agg ys => if P.stoodInHeld t then none else eqFs P (eqB P d) xs.toList ys.toList fields.toList
    | some (.array n e), .agg xs, .agg ys => if P.info? e = none then none else eqIs P (eqB P d) e (P.cellsOf e) xs.toList ys.toList (List.range n)
    | _, _, _ => none

section
variable {P : Program}

theorem part_run {t : TypeId} {xs : Array Value} {off : Nat} {v : Value} (hp : evPart P t xs.toList off = some v) (w : World) : (part t xs off).run P w = .ok v w := by
  unfold evPart at hp
  split at hp
  · rename_i d i hu hi
    split at hp
    · rename_i hrow
      split at hp
      · rename_i hle
        cases hp
        have : xs.extract off (off + i.size) = ((xs.toList.drop off).take i.size).toArray := by
          apply Array.ext'
          simp
        simp [part, run_isAgg' hu, hrow, sizeOf, typeInfo, hi, this]
      · cases hp
    · rename_i hrow
      have hrow' : d.isRow = false := by simpa using hrow
      have : xs[off]? = some v := by simpa using hp
      simp [part, run_isAgg' hu, hrow', this]
  · cases hp

theorem eqFs_run {rec : TypeId → Value → Value → Option Bool} {d : Nat} (hrec : ∀ t x y b w, rec t x y = some b → (Op.equalIn d t x y).run P w = .ok b w) {xs ys : Array Value} :
    ∀ (fs : List Field) (b : Bool) (w : World), eqFs P rec xs.toList ys.toList fs = some b → (Op.eqFields d xs ys fs).run P w = .ok b w
  | [], b, w, h => by simp [eqFs] at h; subst h; rfl
  | f :: r, b, w, h => by
    simp only [eqFs] at h
    unfold Op.eqFields
    split at h
    · rename_i hf
      rw [if_pos hf]
      split at h
      · rename_i x y hx hy
        split at h
        · rename_i p q hp hq
          cases h
          simp only [Sem.run_bind, part_run hx, part_run hy, Result.andThen_ok, hrec _ _ _ _ _ hp]
          cases p
          · simp
          · simpa using eqFs_run hrec r q w hq
        · cases h
      · cases h
    · rename_i hf
      rw [if_neg hf]
      exact eqFs_run hrec r b w h

theorem eqIs_run {rec : TypeId → Value → Value → Option Bool} {d : Nat} (hrec : ∀ t x y b w, rec t x y = some b → (Op.equalIn d t x y).run P w = .ok b w) {e : TypeId} {n : Nat} {xs ys : Array Value} :
    ∀ (is : List Nat) (b : Bool) (w : World), eqIs P rec e n xs.toList ys.toList is = some b → (Op.eqItems d e n xs ys is).run P w = .ok b w
  | [], b, w, h => by simp [eqIs] at h; subst h; rfl
  | j :: r, b, w, h => by
    simp only [eqIs] at h
    unfold Op.eqItems
    split at h
    · rename_i x y hx hy
      split at h
      · rename_i p q hp hq
        cases h
        simp only [Sem.run_bind, part_run hx, part_run hy, Result.andThen_ok, hrec _ _ _ _ _ hp]
        cases p
        · simp
        · simpa using eqIs_run hrec r q w hq
      · cases h
    · cases h

theorem eqB_run (m : Nat) : ∀ (d : Nat) (t : TypeId) (x y : Value) (b : Bool) (w : World), eqB P d t x y = some b → (Op.equalIn (d + m) t x y).run P w = .ok b w
  | 0, t, x, y, b, w, h => by simp [eqB] at h
  | d + 1, t, x, y, b, w, h => by
    have e : d + 1 + m = (d + m) + 1 := by omega
    rw [e]
    simp only [eqB] at h
    split at h
    · rename_i hu; cases h; exact run_equalIn_bool' w _ t _ _ hu
    · rename_i k0 k x k' y hu
      split at h
      · rename_i hk; subst hk; cases h; exact run_equalIn_int w _ t _ _ _ _ hu
      · cases h
    · rename_i x y hu; cases h; rw [run_equalIn_string w _ t _ _ hu, beq_toListBytes]
    · rename_i fields xs ys hu
      split at h
      · cases h
      · rename_i hs
        have hf : P.fieldsOf t = fields := by simp [Program.fieldsOf, hu]
        rw [run_equalIn_struct w _ t xs ys (by rw [hf]; exact hu) (by simpa using hs), hf]
        exact eqFs_run (fun t x y b w h => eqB_run m d t x y b w h) _ _ _ h
    · rename_i n e xs ys hu
      split at h
      · cases h
      · rename_i hs
        obtain ⟨i, hi⟩ := Option.ne_none_iff_exists'.1 hs
        rw [run_equalIn_array w _ xs ys hu hi]
        exact eqIs_run (fun t x y b w h => eqB_run m d t x y b w h) _ _ _ h
    · cases h

def fEq (P : Program) (o : Oper) (env : List Value) (_ : Heap) : Option (Out × Prop) :=
  match o.op with
  | .binOp op t x y _ =>
    match ev env x, ev env y with
    | .agg xs, .agg ys =>
      if ground (.agg xs) && ground (.agg ys) && !P.eqGuardType P.depth t then
        match op, eqB P 6 t (.agg xs) (.agg ys) with
        | .eql, some b => some (⟨.bool b, [], [], []⟩, True)
        | .neq, some b => some (⟨.bool (!b), [], [], []⟩, True)
        | _, _ => none
      else none
    | _, _ => none
  | _ => none

def hEq (P : Program) : Hint P where
  fn := fEq P
  ok := by
    intro o env H out vc h _
    unfold fEq at h
    split at h
    · rename_i op t x y yt ho
      split at h
      · rename_i xs ys hx hy
        split at h
        · rename_i hc
          simp only [Bool.and_eq_true, Bool.not_eq_true'] at hc
          obtain ⟨⟨g1, g2⟩, g3⟩ := hc
          have key : ∀ (b : Bool), eqB P 6 t (.agg xs) (.agg ys) = some b → ∀ w : World, (Op.equalIn 10000 t (.agg xs) (.agg ys)).run P w = .ok b w := fun b hb w => eqB_run 9994 6 t _ _ b w hb
          have fin : ∀ (op' : BinOp) (b : Bool), op = op' → (∀ w : World, (binOp op' t (.agg xs) (.agg ys)).run P w = .ok (.bool b) w) → StepOK P o env H ⟨.bool b, [], [], []⟩ := by
            intro op' b e hb
            subst e
            refine StepOK.value fun F A ψ env1 H1 ac w hr he _ => ⟨.bool b, ?_, .atom _ rfl⟩
            have h1 := opd hr he (x := x) (by simp [ho, Op.operands])
            have h2 := opd hr he (x := y) (by simp [ho, Op.operands])
            rw [hx] at h1; rw [hy] at h2
            have e1 := h1.of_ground g1
            have e2 := h2.of_ground g2
            simp only [execOp, ho, e1, e2]
            rw [Sem.run_bind, Sem.run_bind, run_eqGuard_agg w op t x y xs ys g3, Result.andThen_ok, hb w]
            rfl
          split at h
          · rename_i b hb
            cases h
            exact fin .eql b rfl fun w => by rw [run_eql_struct, key b hb w]; rfl
          · rename_i b hb
            cases h
            exact fin .neq (!b) rfl fun w => by rw [run_neq_struct, key b hb w]; rfl
          · cases h
        · cases h
      · cases h
    · cases h

end
end
end Go.Vm
end
section
/- Tables of contracts; slots by number; small facts about the machine's integers. -/
namespace Go.Vm
noncomputable section

def Ok (P : Program) (f : FuncId) (orc : Orc) : Prop := ∀ args H ret H', orc args H = some (ret, H') → SmallRes P f args H ret H'
def OkV (P : Program) (f : FuncId) (orc : OrcV) : Prop := ∀ args H ret H' vc, orc args H = some (ret, H', vc) → vc → SmallRes P f args H ret H'

def tab : List (Nat × Orc) → FuncId → Option Orc
  | [], _ => none
  | (g, o) :: r, f => match Nat.beq f g with
    | true => some o
    | false => tab r f

theorem tab_ok {P : Program} : ∀ {l : List (Nat × Orc)}, (∀ p ∈ l, Ok P p.1 p.2) → OrcOK P (tab l)
  | [], _ => fun f orc h => by simp [tab] at h
  | (g, o) :: r, hl => fun f orc h => by
    simp only [tab] at h
    split at h
    · rename_i hb
      cases h
      have : f = g := Nat.eq_of_beq_eq_true hb
      subst this
      exact hl (f, o) (by simp)
    · exact tab_ok (fun p hp => hl p (by simp [hp])) f orc h

theorem all_nil {P : Program} : ∀ p ∈ ([] : List (Nat × Orc)), Ok P p.1 p.2 := by simp
theorem all_cons {P : Program} {f : Nat} {o : Orc} {l : List (Nat × Orc)} (h : Ok P f o) (hl : ∀ p ∈ l, Ok P p.1 p.2) : ∀ p ∈ (f, o) :: l, Ok P p.1 p.2 := by
  intro p hp
  rcases List.mem_cons.1 hp with rfl | hp
  · exact h
  · exact hl p hp

/-- Quotients, and comparisons of structs. -/
def au0 (P : Program) (o : Oper) : Option (Hint P) :=
  match o.op with
  | .binOp .eql _ _ _ _ | .binOp .neq _ _ _ _ => some (hEq P)
  | _ => auDv P o

/-- Calls of listed functions, each by its hint. -/
def auCalls {P : Program} : List (Nat × Hint P) → Oper → Option (Hint P)
  | [], o => au0 P o
  | (g, h) :: r, o =>
    match o.op with
    | .call ⟨.value (.func f), _, _⟩ => match Nat.beq f g with
      | true => some h
      | false => auCalls r o
    | _ => au0 P o

def noK : FuncId → List Bool := fun _ => []

/-- The evaluator under a table. -/
def ctx (P : Program) (l : List (Nat × Orc)) : CallF := evF P (tab l) noK 0 100 1000 20

theorem ctx_ok {P : Program} (hm : P.follows .mixedOrders = true) {l : List (Nat × Orc)} (hl : ∀ p ∈ l, Ok P p.1 p.2) : CallOK P (ctx P l) := evF_ok hm (tab_ok hl) 20

/-- Let go of all slots but some. -/
def keep (n : Nat) (l : List Nat) : List Bool := (List.range n).map fun i => !l.contains i
def slots (n : Nat) (l : List (Nat × Value)) : List Value := (List.range n).map fun i => (l.lookup i).getD poi

theorem wrap_form (x : Int) : IntKind.wrap .i64 x = if x % 18446744073709551616 ≥ 9223372036854775808 then x % 18446744073709551616 - 18446744073709551616 else x % 18446744073709551616 := by
  have h : IntKind.wrap .i64 x = if (true && decide (x % 18446744073709551616 ≥ 9223372036854775808)) = true then x % 18446744073709551616 - 18446744073709551616 else x % 18446744073709551616 := rfl
  rw [h]
  simp only [Bool.true_and, decide_eq_true_eq]

theorem wrap_eq {x : Int} (h1 : -9223372036854775808 ≤ x) (h2 : x < 9223372036854775808) : IntKind.wrap .i64 x = x := by
  rw [wrap_form]
  split <;> omega

end
end Go.Vm
namespace Sp
open Go Go.Vm
noncomputable section
def wh (b : Bool) (e : Int) : Int := if b then e else 0
def wi (n lo hi : Int) : Int := if n < lo ∨ hi < n then 3 else 0
def intsOf : List Value → Option (List Int)
  | [] => some []
  | .int .i64 n :: r => (intsOf r).map (n :: ·)
  | _ => none
def ints (l : List Int) : List Value := l.map (.int .i64)
/-- The first of two that is not 0. -/
def sel (e d : Int) : Int := if e = 0 then d else e
abbrev W (x : Int) : Int := IntKind.wrap .i64 x
/-- The first that is not 0. -/
def fi : List Int → Int
  | [] => 0
  | e :: r => if e = 0 then fi r else e

theorem intsOf_eq : ∀ {cs : List Value} {l : List Int}, intsOf cs = some l → cs = ints l
  | [], l, h => by simp [intsOf] at h; subst h; rfl
  | v :: r, l, h => by
    cases v with
    | int k n =>
      cases k <;> simp only [intsOf] at h <;> first | (obtain ⟨l', h1, rfl⟩ := Option.map_eq_some_iff.1 h; rw [intsOf_eq h1]; rfl) | cases h
    | _ => simp [intsOf] at h

end
end Sp
end
section
/- From a contract to a statement: the call returns true, and what it was given reads as it did. -/
namespace Go.Vm
open Go.ChangeShapes Go.WideShapes Go.ChangeAt Go.RowKit

theorem trodAll_stays {H : Type} {enc : TypeId × Value → H} {P : Program} (hl : laidOutB P = true) {W W' : World} (hb : Below W.heap.size W W') :
    ∀ (ts : List TypeId) (vs : List Value) (ds : List (DataW H)) (ps : List MemPlace), (∀ t ∈ ts, P.readableRec t = true ∧ t < P.types.size) →
      DataW.TrodAll enc P W 0 (fun _ => true) true ts vs ds ps → (∀ x ∈ ps, x.block < W.heap.size) →
      DataW.TrodAll enc P W' 0 (fun b => decide (b < W.heap.size)) true ts vs ds ps
  | [], vs, ds, ps, _, h, _ => by
    obtain ⟨rfl, rfl, rfl⟩ := trodAll_nil h
    exact (by first | rfl | exact ⟨rfl, rfl⟩)
  | t :: ts, vs, ds, ps, ht, h, hlt => by
    obtain ⟨v, vs1, d, ds1, a, b, rfl, rfl, rfl, h1, h2⟩ := trodAll_cons h
    have ht1 := ht t (by simp)
    exact ⟨a, b, Below.trod hl ht1.1 ht1.2 h1 hb fun x hx => hlt x (by simp [hx]), trodAll_stays hl hb ts vs1 ds1 b (fun u hu => ht u (by simp [hu])) h2 (fun x hx => hlt x (by simp [hx])), rfl⟩

theorem post_true {H : Type} {enc : TypeId × Value → H} {P : Program} {f : Func} {s : ChangeSpec} {apart : Bool} {W W' : World} {args : Array Value} {ds : List (DataW H)} {before : List MemPlace} {tb : TypeId}
    (hW : DataW.Whole enc P f.params.toList s.vars apart W args.toList ds [] before) (hv : s.vars = []) (hl : laidOutB P = true) (hp : ∀ t ∈ f.params.toList, P.readableRec t = true ∧ t < P.types.size)
    (hr : f.resultTypes = #[tb]) (hb : P.underlying tb = some .bool) (hs : s.fn H (ds ++ []) = { results := [.lit (.bool true)], args := ds }) (hbel : Below W.heap.size W W') :
    s.post enc P f apart true false false W args (.bool true) W' := by
  have hW' := hW
  obtain ⟨p, q, hA, hV, rfl, hfz, hnd⟩ := hW
  rw [hv] at hV
  obtain ⟨_, rfl⟩ := trodVars_none hV
  have hlt : ∀ x ∈ p, x.block < W.heap.size := fun x hx => hW'.lt x (by simp [hx])
  refine ⟨ds, [], p ++ [], [], p, [], hW', ?_, ?_, ?_, hbel.frame _, fun h => by cases h⟩
  · rw [hs, hr]
    exact trodAll_mk1 (shut_bool hb true)
  · rw [hs]
    exact trodAll_stays hl hbel _ _ _ _ hp hA hlt
  · rw [hs, hv]
    rfl

theorem below_of {P : Program} {F : Fr P} {A : Nat → Prop} {ψ : Nat → Gh} {H : Heap} {w : World} (h : HRel F A ψ H w) (hS : ∀ k, ¬ F.S k) : Below F.w0.heap.size F.w0 w :=
  ⟨h.fr.os, h.fr.tape, h.fr.output, h.fr.size, fun k hk => h.fr.block k hk (hS k)⟩

/-- A world as it stands: nothing may turn. -/
def still (P : Program) (W : World) (A : Nat → Prop) (ψ : Nat → Gh) : Fr P := ⟨W, fun _ => False, A, ψ, []⟩

theorem TabIs_blocks {P : Program} {W w' : World} {name : String} {k : IntKind} {zs : List Int} (h : Lib.TabIs P W name k zs) (hb : ∀ j, j < W.heap.size → w'.heap[j]? = W.heap[j]?) : Lib.TabIs P w' name k zs := by
  unfold Lib.TabIs World.var? at *
  cases hg : P.globalNamed name with
  | none => simp [hg] at h
  | some g =>
    simp only [hg, Option.bind_some] at h ⊢
    have hlt : g < W.heap.size := by
      rcases Nat.lt_or_ge g W.heap.size with h' | h'
      · exact h'
      · rw [Array.getElem?_eq_none h'] at h; simp at h
    rw [hb g hlt]
    exact h

theorem still_ok {P : Program} {W : World} (hL : lays P W) (A : Nat → Prop) (ψ : Nat → Gh) : (still P W A ψ).ok W :=
  ⟨rfl, rfl, rfl, Nat.le_refl _, fun _ _ _ => rfl, fun _w' h1 _ hn => TabIs_blocks (hL hn) (fun j hj => h1 j hj (fun h => h))⟩

theorem calls_true {P : Program} {f : FuncId} {args : List Value} {H H' : Heap} (hs : SmallRes P f args H (.bool true) H') {W : World} {args' : List Value} {A : Nat → Prop} {ψ : Nat → Gh}
    (hh : HRel (still P W A ψ) A ψ H W) (hb : ∀ id, A id → id < H.length) (hl : LR A ψ args args') :
    Calls P f args'.toArray W fun e W' => e = .returned (.bool true) ∧ Below W.heap.size W W' := by
  refine (hs (still P W A ψ) A ψ W args' hh hb rfl rfl hl).mono ?_
  rintro e w' ⟨v', A', ψ', rfl, k1, k2, k3⟩
  have := k3.of_atom rfl
  subst this
  exact ⟨rfl, below_of k1 (fun k hk => hk)⟩

theorem LR.ground {A : Nat → Prop} {ψ : Nat → Gh} {l : List Value} (h : l.all ground = true) : LR A ψ l l := by
  refine ⟨rfl, fun i => ?_⟩
  by_cases hi : i < l.length
  · have e1 : l.getD i poi = l[i] := by simp [List.getD_eq_getElem?_getD, hi]
    have e2 : l.getD i undef = l[i] := by simp [List.getD_eq_getElem?_getD, hi]
    rw [e1, e2]
    exact .refl_ground (List.all_eq_true.1 h _ (List.getElem_mem _))
  · have e1 : l.getD i poi = poi := by simp [List.getD_eq_getElem?_getD, hi]
    rw [e1]; exact .poison _

/-- What was there is there still: the relation stands. -/
theorem HRel.below {P : Program} {F : Fr P} {A : Nat → Prop} {ψ : Nat → Gh} {H : Heap} {w w' : World} (h : HRel F A ψ H w) (hb : Below w.heap.size w w') : HRel F A ψ H w' where
  live id o ho := by
    obtain ⟨h1, h2, h3⟩ := h.live id o ho
    exact ⟨h1, h2, fun hv => ⟨Nat.lt_of_lt_of_le (h3 hv).1 hb.size, (h3 hv).2.mono (fun _ ha => ⟨ha, rfl⟩) (hb.block _ (h3 hv).1)⟩⟩
  inj := h.inj
  fr := ⟨hb.os.trans h.fr.os, hb.tape.trans h.fr.tape, hb.output.trans h.fr.output, Nat.le_trans h.fr.size hb.size, fun k hk hs => (hb.block k (Nat.lt_of_lt_of_le hk h.fr.size)).trans (h.fr.block k hk hs), h.fr.lay⟩
  own := h.own
  old := h.old

end Go.Vm
end
section
/- What a statement is given, taken as rows that are only read. -/
namespace Go.Vm
open Go.ChangeShapes Go.WideShapes Go.ChangeAt Go.RowKit

theorem add_add {b o i j : Nat} : ((⟨b, o, none⟩ : Addr).add i).add j = ⟨b, o + i + j, none⟩ := by
  unfold Addr.add
  split <;> split <;> simp_all

/-- A list that is given: nothing, or a part of a block. -/
theorem open_view {H : Type} {enc : TypeId × Value → H} {P : Program} {w : World} {base : Nat} {spare : Nat → Bool} {held : Bool} {fuel : Nat} {t e : TypeId} {cs : List Value} {x : DataW H × List MemPlace} {m : Nat}
    (ht : P.underlying t = some (.slice e)) (hm : P.cellsOf e = m) (h0 : 0 < m) (h : DataW.trod enc P w base spare held fuel t cs = some x) :
    ∃ (a : Option Addr) (len cap n : Nat), cs = [.slice a len cap] ∧ len ≤ cap ∧ cap ≤ 9223372036854775807 ∧
      (0 < len → ∃ blk off arr el fz, a = some ⟨blk, off, none⟩ ∧ blk < w.heap.size ∧ w.heap[blk]? = some (.cells arr el fz) ∧
        ∀ i, i < len → ∃ es y, es.length = m ∧ (∀ j, j < m → arr[off + i * m + j]? = es[j]?) ∧ DataW.trod enc P w base spare held n e es = some y) := by
  rcases DataW.trod_slice ht h with ⟨rfl, _⟩ | ⟨a, len, cap, elems, rest, n, _, rfl, _, _, h2, h3, h4, h5, _, _⟩
  · exact ⟨none, 0, 0, 0, rfl, Nat.le_refl _, by omega, fun h => by omega⟩
  · refine ⟨some a, len, cap, n, rfl, h2, h3, fun hl => ?_⟩
    rw [hm] at h5
    have get : ∀ i, i < len → ∃ es y, w.cells? base (a.add (i * m)) m = some es ∧ DataW.trod enc P w base spare held n e es = some y := by
      intro i hi
      have := h5 i hi
      rw [List.getElem?_eq_getElem (by omega)] at this
      obtain ⟨es, h6, h7⟩ := Option.bind_eq_some_iff.1 this
      exact ⟨es, _, h6, h7⟩
    obtain ⟨es, y, h6, _⟩ := get 0 hl
    obtain ⟨_, k1, k2⟩ := World.cells?_some h6
    have k3 := k2 0 h0
    rw [List.getElem?_eq_getElem (by omega)] at k3
    have e0 : (a.add (0 * m)).add 0 = a := by simp [Addr.add]
    rw [e0] at k3
    unfold World.cell? at k3
    split at k3
    · rename_i arr el fz hb
      split at k3
      · cases k3
      · rename_i hs
        obtain ⟨blk, off, spot⟩ := a
        have hs : spot = none := by cases spot with
          | none => rfl
          | some => simp at hs
        subst hs
        have hlt : blk < w.heap.size := by
          rcases Nat.lt_or_ge blk w.heap.size with h' | h'
          · exact h'
          · rw [Array.getElem?_eq_none h'] at hb; cases hb
        refine ⟨blk, off, arr, el, fz, rfl, hlt, hb, fun i hi => ?_⟩
        obtain ⟨es, y, h6, h7⟩ := get i hi
        obtain ⟨_, q1, q2⟩ := World.cells?_some h6
        refine ⟨es, y, q1, fun j hj => ?_, h7⟩
        have := q2 j hj
        rw [add_add] at this
        simpa [World.cell?, hb] using this
    · cases k3

theorem flat_len {α : Type} {f : α → List Value} {m : Nat} (hf : ∀ a, (f a).length = m) : ∀ l : List α, (l.flatMap f).length = l.length * m
  | [] => by simp
  | a :: r => by rw [List.flatMap_cons, List.length_append, flat_len hf r, hf, List.length_cons, Nat.add_mul]; omega

/-- Parts of one shape, one behind the other. -/
theorem collect {α : Type} {f : α → List Value} {m : Nat} (hf : ∀ a, (f a).length = m) (h0 : 0 < m) {R : Nat → Option Value} : ∀ {len : Nat}, (∀ i, i < len → ∃ a, ∀ j, j < m → R (i * m + j) = (f a)[j]?) →
    ∃ l : List α, l.length = len ∧ ∀ i, i < len * m → R i = (l.flatMap f)[i]?
  | 0, _ => ⟨[], rfl, fun i hi => by omega⟩
  | len + 1, h => by
    obtain ⟨l, h1, h2⟩ := collect hf h0 (len := len) fun i hi => h i (by omega)
    obtain ⟨a, ha⟩ := h len (by omega)
    refine ⟨l ++ [a], by simp [h1], fun i hi => ?_⟩
    rw [List.flatMap_append, List.flatMap_singleton]
    have hl := flat_len hf l
    rw [h1] at hl
    rcases Nat.lt_or_ge i (len * m) with h' | h'
    · rw [List.getElem?_append_left (by omega)]; exact h2 i h'
    · rw [List.getElem?_append_right (by omega), hl]
      have hi' : i < len * m + m := by rw [Nat.add_mul] at hi; omega
      have := ha (i - len * m) (by omega)
      rw [show len * m + (i - len * m) = i by omega] at this
      exact this

theorem rd_get : ∀ (H : Heap) (i : Nat), rd H i = (H[i]?).getD none
  | [], _ => rfl
  | _ :: _, 0 => rfl
  | _ :: t, i + 1 => by rw [rd_cons, rd_get t i]; rfl

/-- A list that is only read: where it lies, and its cells. -/
structure View where
  g : Gh
  cells : List Value

def View.obj (v : View) : Option AObj := some (.row v.cells v.g.es false false true)
def View.ok (w : World) (v : View) : Prop :=
  (v.cells ≠ [] → v.g.blk < w.heap.size ∧ ∃ arr el fz, w.heap[v.g.blk]? = some (.cells arr el fz) ∧ ∀ i, i < v.cells.length → arr[v.g.off + i]? = v.cells[i]?) ∧ ∀ c ∈ v.cells, atom c = true ∧ c.oneCell' = true
end Go.Vm
end
section
/- Arrays of integers that are given; arguments behind one that is not plain. -/
namespace Go.Vm
open Go.ChangeShapes Go.WideShapes Go.ChangeAt Go.RowKit

theorem LR.cons {A : Nat → Prop} {ψ : Nat → Gh} {v v' : Value} {l l' : List Value} (h : VR A ψ v v') (hl : LR A ψ l l') : LR A ψ (v :: l) (v' :: l') := by
  refine ⟨by simpa using hl.len, fun i => ?_⟩
  match i with
  | 0 => exact h
  | i + 1 => exact hl.at_ i
end Go.Vm
end
section
/- Lists that are given whose elements hold lists that are given. -/
namespace Go.Vm

/-- A list that is only read, as it lies and as it is told. -/
structure NView where
  g : Gh
  cells : List Value
  flat : Bool

def NView.obj (v : NView) : Option AObj := some (.row v.cells v.g.es false false v.flat)
def nviewA (l : List NView) (id : Nat) : Prop := id < l.length
def nviewG (l : List NView) (id : Nat) : Gh := (l.getD id ⟨⟨0, 0, 0, 0⟩, [], true⟩).g
def NView.ok (l : List NView) (w : World) (v : NView) : Prop :=
  (v.cells ≠ [] → v.g.blk < w.heap.size ∧ ∃ arr el fz, w.heap[v.g.blk]? = some (.cells arr el fz) ∧ ∀ i, i < v.cells.length → ∃ v', arr[v.g.off + i]? = some v' ∧ v'.oneCell' = true ∧ VR (nviewA l) (nviewG l) (v.cells.getD i poi) v') ∧ (v.flat = true → ∀ c ∈ v.cells, atom c = true)

theorem HRel.nviews {P : Program} {W : World} (hL : lays P W) {l : List NView} (h : ∀ v ∈ l, v.ok l W) : HRel (still P W (nviewA l) (nviewG l)) (nviewA l) (nviewG l) (l.map NView.obj) W where
  live id o ho := by
    obtain ⟨v, hv, rfl⟩ : ∃ v, l[id]? = some v ∧ AObj.row v.cells v.g.es false false v.flat = o := by
      rw [rd_get] at ho
      cases hl : l[id]? with
      | none => simp [List.getElem?_map, hl] at ho
      | some v => exact ⟨v, rfl, by simpa [List.getElem?_map, hl, NView.obj] using ho⟩
    have hlt : id < l.length := by
      rcases Nat.lt_or_ge id l.length with h' | h'
      · exact h'
      · rw [List.getElem?_eq_none h'] at hv; cases hv
    have hg : nviewG l id = v.g := by simp [nviewG, List.getD_eq_getElem?_getD, hv]
    obtain ⟨k1, k2⟩ := h v (List.mem_of_getElem? hv)
    refine ⟨hlt, by rw [hg]; rfl, fun hd => ?_⟩
    have hne : v.cells ≠ [] := by intro e; rw [e] at hd; cases hd
    obtain ⟨k3, arr, el, fz, k4, k5⟩ := k1 hne
    rw [hg]
    exact ⟨k3, arr, el, fz, k4, rfl, k5, fun e => (by cases e), k2⟩
  inj i j oi oj hi hj hne hrw := by
    exfalso
    rw [rd_get] at hi
    cases hl : l[i]? with
    | none => simp [List.getElem?_map, hl] at hi
    | some v =>
      have : AObj.row v.cells v.g.es false false v.flat = oi := by simpa [List.getElem?_map, hl, NView.obj] using hi
      rw [← this] at hrw; cases hrw
  fr := still_ok hL _ _
  own i oi hi hrw := by
    exfalso
    rw [rd_get] at hi
    cases hl : l[i]? with
    | none => simp [List.getElem?_map, hl] at hi
    | some v =>
      have : AObj.row v.cells v.g.es false false v.flat = oi := by simpa [List.getElem?_map, hl, NView.obj] using hi
      rw [← this] at hrw; cases hrw
  old id hid := ⟨hid, rfl⟩
end Go.Vm
end
section
/- Iterators: their code, with calls of yield, evaluated. -/
namespace Go.Vm
open Go.RowKit
noncomputable section

/-- A loop of an iterator: how many elements have been handed out, too. -/
structure Ly where
  σ : Type
  E : σ → List Value
  Hp : σ → Heap
  I : σ → Prop
  m : σ → Nat
  gi : σ → Nat

structure Ys (P : Program) extends Hs P where
  ys : List Nat
  ly : Nat → Option Ly := fun _ => none

section
variable (P : Program) (call : CallF) (hs : Ys P) (l : Nat) (Hc : Heap) (N : Nat) (el : Nat → List Value)

def yieldArgs (env : List Value) (o : Oper) : Option (Nat × List Value) :=
  match o.op with
  | .call ⟨.value f, args, _⟩ =>
    match ev env f with
    | .func (.yield m) xs us => match xs.toList, us.toList with
      | [], [] => some (m, args.toList.map (ev env))
      | _, _ => none
    | _ => none
  | _ => none

def hasY (ys : List Nat) : Code → Bool
  | .region id _ _ => ys.contains id
  | .seq x y => hasY ys x || hasY ys y
  | .cond _ x y => hasY ys x || hasY ys y
  | .block _ c => hasY ys c
  | .loop c => hasY ys c
  | _ => false

end

section
variable {P : Program} {call : CallF} {hs : Ys P} {Hc : Heap} {N : Nat} {el : Nat → List Value}

theorem roundIn_any {ro ro' : Option Nat} {n m l : Nat} {f : FuncId} {tmps : Array Value} {as bd : Code} {w : World} {R : Ending → World → Prop} (h : RoundIn (fen ro) n P l f tmps as bd w R) : RoundIn (fen ro') m P l f tmps as bd w R :=
  ⟨trivial, fun c cs _ => h.2 c cs (fen_room _)⟩

/-- What stands between two steps of an iterator. -/
structure GY (Fc : Fr P) (w : World) (ψc : Nat → Gh) (base : Nat) (J Jx : Nat → World → Prop) (i : Nat) (st : Bool) (F : Fr P) : Prop where
  S : F.S = fun _ => False
  ds : F.ds = []
  A0 : F.A0 = fun id => id < base
  ψ0 : F.ψ0 = ψc
  keep : KeepF Fc w F.w0
  J : st = false → J i F.w0
  Jx : st = true → Jx i F.w0

/-- The iterator's own: as it was when the call began. -/
structure Base (Fc : Fr P) (w : World) (ψc : Nat → Gh) (Hc : Heap) : Prop where
  h : HRel Fc (fun id => id < Hc.length) ψc Hc w
  w0 : Fc.w0 = w
  sealed : ∀ id o, rd Hc id = some o → o.rw = false ∧ (o.vd = false → ¬ Fc.S (ψc id).blk)

theorem Base.at_ {Fc : Fr P} {w W : World} {ψc : Nat → Gh} (b : Base Fc w ψc Hc) (hk : KeepF Fc w W) : HRel (P := P) ⟨W, fun _ => False, fun id => id < Hc.length, ψc, []⟩ (fun id => id < Hc.length) ψc Hc W := by
  have hw : ∀ {id o}, rd Hc id = some o → o.vd = false → W.heap[(ψc id).blk]? = w.heap[(ψc id).blk]? := fun {id o} ho hv => hk.block _ (by rw [b.w0]; exact ((b.h.live id o ho).2.2 hv).1) ((b.sealed id o ho).2 hv)
  refine ⟨fun id o ho => ?_, b.h.inj, ⟨rfl, rfl, rfl, Nat.le_refl _, fun _ _ _ => rfl, fun w' h1 h2 => ?_⟩, fun id o ho hr _ => ?_, fun id hid => ⟨hid, rfl⟩⟩
  · obtain ⟨h1, h2, h3⟩ := b.h.live id o ho
    exact ⟨h1, h2, fun hv => ⟨Nat.lt_of_lt_of_le (h3 hv).1 hk.size, (h3 hv).2.mono (fun _ ha => ⟨ha, rfl⟩) (hw ho hv)⟩⟩
  · refine b.h.fr.lay w' (fun k hkk hS => ?_) ?_
    · rw [b.w0] at hkk
      rw [h1 k (Nat.lt_of_lt_of_le hkk hk.size) (fun h => h), hk.block k (by rw [b.w0]; exact hkk) hS, b.w0]
    · rw [b.w0]; exact Nat.le_trans hk.size h2
  · rw [(b.sealed id o ho).1] at hr; cases hr

theorem GY.below {Fc F : Fr P} {wc w : World} {ψc : Nat → Gh} {base i : Nat} {st : Bool} {J Jx : Nat → World → Prop} {A : Nat → Prop} {ψ : Nat → Gh} {H : Heap} (h : GY Fc wc ψc base J Jx i st F) (hh : HRel F A ψ H w) : Below F.w0.heap.size F.w0 w :=
  ⟨hh.fr.os, hh.fr.tape, hh.fr.output, hh.fr.size, fun k hk => hh.fr.block k hk (by rw [h.S]; exact fun h => h)⟩

theorem KeepF.below {Fc : Fr P} {w W W' : World} (h : KeepF Fc w W) (hw : Fc.w0 = w) (hb : Below W.heap.size W W') : KeepF Fc w W' :=
  ⟨hb.os.trans h.os, hb.tape.trans h.tape, hb.output.trans h.output, Nat.le_trans h.size hb.size, fun b h1 h2 => (hb.block b (by rw [hw] at h1; exact Nat.lt_of_lt_of_le h1 h.size)).trans (h.block b h1 h2)⟩

/-- A call of yield. -/
theorem yield_step {o : Oper} {env : List Value} {m : Nat} {args : List Value} (ha : yieldArgs env o = some (m, args)) :
    ∃ f as ts, o.op = .call ⟨.value f, as, ts⟩ ∧ ev env f = .func (.yield m) #[] #[] ∧ args = as.toList.map (ev env) := by
  unfold yieldArgs at ha
  split at ha
  · rename_i f as ts ho
    split at ha
    · rename_i m' xs us hf
      split at ha
      · rename_i h1 h2
        cases ha
        have h1 : xs = #[] := by simpa using h1
        have h2 : us = #[] := by simpa using h2
        subst h1; subst h2
        exact ⟨f, as, ts, ho, hf, rfl⟩
      · cases ha
    · cases ha
  · cases ha

end
end
end Go.Vm
end
section
/- What a function only reads stays the caller's own. -/
namespace Go.Vm
noncomputable section

def regainH (l : List Nat) (H H' : Heap) : Heap := (List.range H'.length).map fun id => if l.contains id then rd H id else rd H' id

def regainOK (l : List Nat) (H H' : Heap) : Bool :=
  decide (H.length ≤ H'.length) && (List.range H'.length).all fun j =>
    match rd H' j with
    | none => true
    | some o => l.contains j || (o.rw && (decide (H.length ≤ j) || (rd H j).isSome))

theorem rd_regain {l : List Nat} {H H' : Heap} (hle : H.length ≤ H'.length) (j : Nat) : rd (regainH l H H') j = if l.contains j then rd H j else rd H' j := by
  rw [regainH, rd_map]
  by_cases hj : j < H'.length
  · rw [List.getElem?_eq_getElem (by simpa using hj)]
    simp
  · rw [List.getElem?_eq_none (by simpa using hj)]
    split
    · exact (rd_len H j (by omega)).symm
    · exact (rd_len H' j (by omega)).symm

theorem rd_seal {l : List Nat} {H : Heap} (j : Nat) : rd (sealH l H) j = if l.contains j then (rd H j).map AObj.shut else rd H j := by
  rw [sealH, rd_map]
  by_cases hj : j < H.length
  · rw [List.getElem?_eq_getElem (by simpa using hj)]
    simp
  · rw [List.getElem?_eq_none (by simpa using hj), rd_len H j (by omega)]
    split <;> rfl

def allRows (l : List Nat) (H : Heap) : Bool := l.all fun j => match rd H j with | some (.row _ _ _ _ _) => true | _ => false

theorem regain {P : Program} {f : FuncId} {args : List Value} {H H' : Heap} {ret : Value} (l : List Nat) (hs : SmallRes P f args (sealH l H) ret H') (hr : allRows l H = true) (hc : regainOK l H H' = true) :
    SmallRes P f args H ret (regainH l H H') := by
  simp only [regainOK, Bool.and_eq_true, decide_eq_true_eq, List.all_eq_true, List.mem_range] at hc
  obtain ⟨hle, hobj⟩ := hc
  intro F A ψ w args' hh hb hA hψ hl
  have h2 : HRel F A ψ (sealH l H) w := hh.shut l
  obtain ⟨F2, hF2⟩ : ∃ F2, F2 = Vm.rebase P w ψ (sealH l H) A ψ [] := ⟨_, rfl⟩
  have h3 : HRel F2 A ψ (sealH l H) w := by rw [hF2]; exact h2.rebase fun id h => ⟨h, rfl⟩
  have hlH : ∀ id o, l.contains id = true → rd H id = some o → (∃ cs es m rw fl, o = .row cs es m rw fl) := fun id o hid ho => by
    have := List.all_eq_true.1 hr id (by simpa using hid)
    rw [ho] at this
    cases o with
    | row cs es m rw fl => exact ⟨cs, es, m, rw, fl, rfl⟩
    | iter => cases this
    | smap => cases this
    | imap => cases this
  -- a sealed object's block is nobody's to turn
  have hns : ∀ id o, l.contains id = true → rd H id = some o → o.rw = true → o.vd = false → ¬ F2.S (ψ id).blk := fun id o hid ho hrw hv hS => by
    rw [hF2] at hS
    obtain ⟨j, oj, q1, q2, q6, q3⟩ := hS
    rw [rd_seal] at q1
    split at q1
    · obtain ⟨o', q4, q5⟩ := Option.map_eq_some_iff.1 q1
      rename_i hj
      obtain ⟨cs, es, m, rw, fl, rfl⟩ := hlH j o' hj q4
      rw [← q5] at q2
      cases q2
    · rename_i hj
      have hne : id ≠ j := fun e => hj (by rw [← e]; exact hid)
      exact hh.inj id j o oj ho q1 hne hrw hv q6 q3.symm
  refine (hs F2 A ψ w args' h3 (fun id h => by rw [seal_len]; exact hb id h) (by rw [hF2]; rfl) (by rw [hF2]; rfl) hl).mono ?_
  rintro e w' ⟨v', A', ψ', rfl, k1, k2, k3⟩
  have hold : ∀ id, A id → A' id ∧ ψ' id = ψ id := fun id hid => by
    have := k1.old id (by rw [hF2]; exact hid)
    rw [hF2] at this
    exact this
  have k4 : HRel F A' ψ' H' w' := h2.unbase (A0 := A) (ψ0 := ψ) (ds := []) (by rw [hF2] at k1; exact k1) fun id hid => by
    have := hh.old id hid
    exact this
  refine ⟨v', A', ψ', rfl, ⟨fun id o ho => ?_, fun i j oi oj hi hj hij hrw hvi hvj => ?_, k4.fr, fun id o ho hrw hv => ?_, k4.old⟩, fun id hid => by simpa [regainH] using k2 id hid, k3⟩
  · rw [rd_regain hle] at ho
    split at ho
    · rename_i hid
      obtain ⟨a1, a0, a4⟩ := hh.live id o ho
      obtain ⟨b1, b2⟩ := hold id a1
      have hsz : w.heap.size ≤ w'.heap.size := by have := k1.fr.size; rw [hF2] at this; exact this
      refine ⟨b1, by rw [b2]; exact a0, fun hv => ?_⟩
      obtain ⟨a2, a3⟩ := a4 hv
      refine ⟨by rw [b2]; omega, ?_⟩
      rw [b2]
      by_cases hrw : o.rw = true
      · exact a3.mono (fun id' h => hold id' h) ((k1.fr.block _ (by rw [hF2]; exact a2) (hns id o hid ho hrw hv)).trans (by rw [hF2]; rfl))
      · -- it was not its own
        have ho' : rd (sealH l H) id = some o := by
          rw [rd_seal, if_pos hid, ho]
          obtain ⟨cs, es, m, rw, fl, rfl⟩ := hlH id o hid ho
          cases rw with
          | true => exact absurd rfl hrw
          | false => rfl
        have hS : ¬ F2.S (ψ id).blk := fun hS => by
          rw [hF2] at hS
          obtain ⟨j, oj, q1, q2, q6, q3⟩ := hS
          by_cases e : j = id
          · subst e; rw [ho'] at q1; cases q1; exact hrw q2
          · exact h3.inj j id oj o q1 ho' e q2 q6 hv q3
        exact a3.mono (fun id' h => hold id' h) ((k1.fr.block _ (by rw [hF2]; exact a2) hS).trans (by rw [hF2]; rfl))
    · exact k4.live id o ho
  · rw [rd_regain hle] at hi hj
    have old : ∀ {i o}, rd H i = some o → ψ' i = ψ i := fun {i o} h => (hold i (hh.live i o h).1).2
    -- what lies outside
    have out : ∀ {i j oi oj}, l.contains i = true → rd H i = some oi → ¬ l.contains j = true → rd H' j = some oj → i ≠ j → (oi.rw = true ∨ oj.rw = true) → oi.vd = false → oj.vd = false → (ψ' i).blk ≠ (ψ' j).blk := by
      intro i j oi oj hli hi hlj hj hij hrw hvi hvj
      rw [old hi]
      have hlt : j < H'.length := rd_lt _ _ _ hj
      have hob := hobj j hlt
      rw [hj] at hob
      have hlj' : l.contains j = false := by simpa using hlj
      simp only [hlj', Bool.false_or, Bool.and_eq_true] at hob
      have hrwj := hob.1
      intro e
      rcases k1.own j oj hj hrwj hvj with h | h
      · have := ((hh.live i oi hi).2.2 hvi).1
        rw [← e] at h
        rw [hF2] at h
        simp only [Vm.rebase] at h
        omega
      · rw [← e] at h
        by_cases hr : oi.rw = true
        · exact hns i oi hli hi hr hvi h
        · have ho' : rd (sealH l H) i = some oi := by
            rw [rd_seal, if_pos hli, hi]
            obtain ⟨cs, es, m, rw, fl, rfl⟩ := hlH i oi hli hi
            cases rw with
            | true => exact absurd rfl hr
            | false => rfl
          rw [hF2] at h
          obtain ⟨j2, oj2, q1, q2, q6, q3⟩ := h
          by_cases e2 : j2 = i
          · subst e2; rw [ho'] at q1; cases q1; exact hr q2
          · exact h3.inj j2 i oj2 oi q1 ho' e2 q2 q6 hvi q3
    split at hi <;> split at hj
    · rw [old hi, old hj]
      exact hh.inj i j oi oj hi hj hij hrw hvi hvj
    · rename_i hli hlj
      exact out hli hi hlj hj hij (.inl hrw) hvi hvj
    · rename_i hli hlj
      exact fun e => out hlj hj hli hi (Ne.symm hij) (.inr hrw) hvj hvi e.symm
    · exact k4.inj i j oi oj hi hj hij hrw hvi hvj
  · rw [rd_regain hle] at ho
    split at ho
    · rw [(hold id (hh.live id o ho).1).2]; exact hh.own id o ho hrw hv
    · exact k4.own id o ho hrw hv

end
end Go.Vm
end
section
/- A call whose argument's ids are given, not told from the heap: what is asked of them stands as a condition. -/
namespace Go.Vm
noncomputable section

/-- A small run that writes nothing and makes nothing, at given ids. -/
structure CiOK (H : Heap) (ar : List Value) (ids : List Nat) (a0 : List Value) (H0 : Heap) (ret : Value) : Prop where
  args : ar.map (renV (pos ids) 4) = a0
  heap : resH H ids = H0
  ok : backOK H ids [] H0 = true
  out : back H ids [] H.length ret H0 = ⟨ret, [], ids, []⟩

abbrev Sel := List Value → Option (List Nat × List Value × Heap × Value × Prop)

def fCi (P : Program) (g : FuncId) (sel : Sel) (o : Oper) (env : List Value) (H : Heap) : Option (Out × Prop) :=
  match o.op with
  | .call ⟨.value f, args, _⟩ =>
    match ev env f with
    | .func (.func g') first cap =>
      if g' = g then
        if callable P g = true then
          match sel (first.toList ++ args.toList.map (ev env) ++ cap.toList) with
          | some (ids, a0, H0, ret, vc) => some (⟨ret, [], ids, []⟩, CiOK H (first.toList ++ args.toList.map (ev env) ++ cap.toList) ids a0 H0 ret ∧ vc)
          | none => none
        else none
      else none
    | _ => none
  | _ => none

def hCi (P : Program) (g : FuncId) (sel : Sel) (hR : ∀ ar ids a0 H0 ret vc, sel ar = some (ids, a0, H0, ret, vc) → vc → SmallRes P g a0 H0 ret H0) : Hint P where
  fn := fCi P g sel
  ok := by
    intro o env H out vc h hv
    unfold fCi at h
    split at h
    · rename_i f args ts ho
      split at h
      · rename_i g' first cap hf
        split at h
        · rename_i hg
          subst hg
          split at h
          · rename_i hcall
            split at h
            · rename_i ids a0 H0 ret vc' hr
              cases h
              obtain ⟨⟨c1, c2, c3, c4⟩, c5⟩ := hv
              have hs := hR _ _ _ _ _ _ hr c5
              rw [← c1, ← c2] at hs
              rw [← c2] at c3 c4
              have hres := call_lift (nid := H.length) hs c3
              rw [c4] at hres
              classical
              refine evStep_ok (call := fun g a h n => if g = g' ∧ a = first.toList ++ args.toList.map (ev env) ++ cap.toList ∧ h = H ∧ n = H.length then some ⟨ret, [], ids, []⟩ else none) ?_ (nid := H.length) ?_
              · intro g a h n out' hh
                simp only at hh
                split at hh
                · rename_i hk
                  obtain ⟨rfl, rfl, rfl, rfl⟩ := hk
                  cases hh
                  exact hres
                · cases hh
              · unfold evStep
                simp only [ho, hf, hcall, if_true]
                simp
            · cases h
          · cases h
        · cases h
      · cases h
    · cases h

theorem renV_atom {ρ : Nat → Option Nat} {d : Nat} {v : Value} (h : atom v = true) : renV ρ (d + 1) v = v := by unfold renV; rw [if_pos h]

/-- Two rows that are only read. -/
theorem ci_two {H : Heap} {j k : Nat} {e1 e2 : List Value} {s1 s2 : Nat} {m1 m2 : Bool} (hj : rd H j = some (.row e1 s1 m1 false true)) (hk : rd H k = some (.row e2 s2 m2 false true)) (hne : j ≠ k) {ar a0 : List Value} {ret : Value}
    (hr : atom ret = true) (ha : ar.map (renV (pos [j, k]) 4) = a0) : CiOK H ar [j, k] a0 [some (.row e1 s1 m1 false true), some (.row e2 s2 m2 false true)] ret := by

  refine ⟨ha, ?_, ?_, ?_⟩
  · simp [resH, hj, hk, renO]
  · simp [backOK, nodupB, hj, hk, hne, AObj.rw, rd_cons0, rd_cons]
  · rw [back, renV_atom hr]
    simp [hj, hk, AObj.rw, List.zipIdx]

/-- A record of a text and two lists, and atoms behind it. -/
theorem ren_two {j k n m c d : Nat} {nm : ByteArray} (hne : j ≠ k) {r : List Value} (hr : ∀ v ∈ r, atom v = true) :
    (.agg #[.string nm, .slice (some ⟨j, 0, none⟩) n c, .slice (some ⟨k, 0, none⟩) m d] :: r).map (renV (pos [j, k]) 4) = .agg #[.string nm, .slice (some ⟨0, 0, none⟩) n c, .slice (some ⟨1, 0, none⟩) m d] :: r := by
  rw [List.map_cons]
  have h1 : r.map (renV (pos [j, k]) 4) = r := by
    conv => rhs; rw [← List.map_id r]
    exact List.map_congr_left fun v hv => renV_atom (hr v hv)
  have p1 : pos [j, k] j = some 0 := by simp [pos]
  have p2 : pos [j, k] k = some 1 := by simp [pos, hne]
  rw [h1]
  congr 1
  simp [renV, atom, p1, p2]
end
end Go.Vm
end
section
/- Operations on lists of any length. -/
namespace Go.Vm
noncomputable section

section
variable {P : Program} {o : Oper} {env : List Value} {H : Heap}

theorem blt_lt {a b : Nat} (h : Nat.blt a b = true) : a < b := Nat.le_of_ble_eq_true h

/-- More may be let go. -/
theorem StepOK.drop {v : Value} {id nid : Nat} {ob : AObj} {D D' : List Nat} (h : StepOK P o env H ⟨v, [(nid, some ob)], D, [nid]⟩) (hne : id ≠ nid) (hD : ∀ i ∈ D, i ∈ D') :
    StepOK P o env H ⟨v, [(id, none), (nid, some ob)], D', [nid]⟩ := by
  intro F A ψ env1 H1 a w hr he hd hn K Q hK
  refine h F A ψ env1 H1 a w hr he (fun i hi => hd i (hD i hi)) hn K Q fun ψ1 a1 w1 hr1 => hK ψ1 a1 w1 ?_
  refine ⟨hr1.slot, hr1.len, hr1.defers, (hr1.heap.kill id).same_rd fun k => ?_⟩
  show rd (wr (wr H1 id none) nid (some ob)) k = rd (wr (wr H1 nid (some ob)) id none) k
  exact wr_comm hne _ _ k

/-- Something is appended to a list. -/
def fAp (P : Program) (o : Oper) (env : List Value) (H : Heap) : Option (Out × Prop) :=
  match o.op with
  | .call ⟨.builtin .append, args, ts⟩ =>
    match args.toList, ts.toList with
    | [x, y], [t, tx] =>
      match P.underlying t with
      | some (.slice elem) =>
        match P.info? elem with
        | some ie =>
          match ie.zero, ev env x with
          | some z, .slice (some ⟨id, 0, none⟩) n 0 =>
            match rd H id, evSrc P H ie.size tx (ev env y) with
            | some (.row cells es true true true), some (m, news, D) =>
              if Nat.beq es ie.size && Nat.beq z.cells.size ie.size && Nat.blt 0 ie.size && Nat.blt 0 m && Nat.blt id H.length then
                some (⟨.slice (some ⟨H.length, 0, none⟩) (n + m) 0, [(id, none), (H.length, some (.row (cells ++ news) es true true (news.all atom)))], id :: D, [H.length]⟩,
                  cells.length = n * ie.size ∧ (n + m) * ie.bytes ≤ 140737488355328 ∧ n + m ≤ 9223372036854775807)
              else none
            | _, _ => none
          | _, _ => none
        | none => none
      | _ => none
    | _, _ => none
  | _ => none

def hAp (P : Program) : Hint P where
  fn := fAp P
  ok := by
    intro o env H out vc h hv
    unfold fAp at h
    split at h
    · rename_i args ts ho
      split at h
      · rename_i x y t tx hargs hts
        split at h
        · rename_i elem hu
          split at h
          · rename_i ie hie
            split at h
            · rename_i z id n hz hx
              split at h
              · rename_i cells es m news D hrd hsrc
                split at h
                · rename_i hc
                  simp only [Bool.and_eq_true] at hc
                  obtain ⟨⟨⟨⟨c1, c2⟩, c3⟩, c4⟩, c5⟩ := hc
                  have c1 := Nat.eq_of_beq_eq_true c1
                  have c2 := Nat.eq_of_beq_eq_true c2
                  have c3 : 0 < ie.size := blt_lt c3
                  have c4 : 0 < m := blt_lt c4
                  have c5 : id < H.length := blt_lt c5
                  cases h
                  obtain ⟨v1, v2, v3⟩ := hv
                  have ho' : o.op = .call ⟨.builtin .append, #[x, y], ts⟩ := by
                    rw [ho, args_list hargs]
                  have hflat : (true && news.all atom) = news.all atom := rfl
                  rcases Nat.eq_zero_or_pos n with h0 | h0
                  · subst h0
                    have hcells : cells = [] := List.eq_nil_of_length_eq_zero (by simpa using v1)
                    subst hcells
                    refine StepOK.drop (D := [] ++ D) ?_ (by omega) (fun i hi => List.mem_cons_of_mem _ hi)
                    refine append_ok (nid := H.length) ho' ?_
                    unfold evAppend
                    simp only [hts, hu, hie, hz, hsrc, hx]
                    rw [if_neg (by omega)]
                    simp only [evOld, if_pos]
                    have hcond : (0 + m) * ie.bytes ≤ 140737488355328 ∧ 0 + m ≤ 9223372036854775807 ∧ z.cells.size = ie.size ∧ 0 < ie.size ∧ capV (.slice (some ⟨id, 0, none⟩) 0 0) ≠ big := ⟨v2, v3, c2, c3, fun h => by simp [capV, big] at h⟩
                    have hc0 : capOf (.slice (some ⟨id, 0, none⟩) 0 0) = some 0 := by
                      simp only [capOf]
                      rw [if_neg (by omega)]
                    simp only [if_pos hcond, hc0]
                    rw [if_neg (by omega), c1]
                    rfl
                  · refine append_ok (nid := H.length) ho' ?_
                    have hol : evOld H ie.size (.slice (some ⟨id, 0, none⟩) n 0) = some (n, cells, [id]) := by
                      simp only [evOld, hrd]
                      rw [if_neg (by omega), if_pos (by omega)]
                      simp only [List.drop_zero]
                      rw [List.take_of_length_le (by omega)]
                    unfold evAppend
                    simp only [hts, hu, hie, hz, hsrc, hx, hol]
                    rw [if_neg (by omega)]
                    have hcond : (n + m) * ie.bytes ≤ 140737488355328 ∧ n + m ≤ 9223372036854775807 ∧ z.cells.size = ie.size ∧ 0 < ie.size ∧ capV (.slice (some ⟨id, 0, none⟩) n 0) ≠ big := ⟨v2, v3, c2, c3, fun h => by simp [capV, big] at h⟩
                    have hc0 : capOf (.slice (some ⟨id, 0, none⟩) n 0) = none := by
                      simp only [capOf]
                      rw [if_pos ⟨trivial, h0⟩]
                    simp only [if_pos hcond, hc0, hrd]
                    rw [if_pos ⟨c1, v1⟩, hflat]
                · cases h
              · cases h
            · cases h
          · cases h
        · cases h
      · cases h
    · cases h

/-- A list, appended to the empty one: a list of its own. -/
def fAe (P : Program) (whole : Bool) (o : Oper) (env : List Value) (H : Heap) : Option (Out × Prop) :=
  match o.op with
  | .call ⟨.builtin .append, args, ts⟩ =>
    match args.toList, ts.toList with
    | [x, y], [t, tx] =>
      match P.underlying t, P.underlying tx with
      | some (.slice elem), some (.slice _) =>
        match P.info? elem with
        | some ie =>
          match ie.zero, ev env y with
          | some z, .slice (some ⟨jd, off, none⟩) n _ =>
            match rd H jd with
            | some (.row src _ _ _ true) =>
              if emp (ev env x) && Nat.beq z.cells.size ie.size && Nat.blt 0 ie.size then
                match whole with
                | true => match off with
                  | 0 => some (⟨.slice (some ⟨H.length, 0, none⟩) n 0, [(H.length, some (.row src ie.size true true true))], [jd], [H.length]⟩,
                    src.length = n * ie.size ∧ (∀ v ∈ src, atom v = true) ∧ n * ie.bytes ≤ 140737488355328 ∧ n ≤ 9223372036854775807)
                  | _ => none
                | false => some (⟨.slice (some ⟨H.length, 0, none⟩) n 0, [(H.length, some (.row ((src.drop off).take (n * ie.size)) ie.size true true true))], [jd], [H.length]⟩,
                    off + n * ie.size ≤ src.length ∧ (∀ v ∈ src, atom v = true) ∧ n * ie.bytes ≤ 140737488355328 ∧ n ≤ 9223372036854775807)
              else none
            | _ => none
          | _, _ => none
        | none => none
      | _, _ => none
    | _, _ => none
  | _ => none

theorem appendE_ok {x y : Operand} {ts : Array TypeId} {t tx elem e2 : TypeId} {ie : TypeInfo} {z : Value} {jd off n c : Nat} {src : List Value} {es : Nat} {m rw fl : Bool} {nid : Nat} (ho : o.op = .call ⟨.builtin .append, #[x, y], ts⟩) (hts : ts.toList = [t, tx])
    (hu : P.underlying t = some (.slice elem)) (hux : P.underlying tx = some (.slice e2)) (hie : P.info? elem = some ie) (hz : ie.zero = some z) (hy : ev env y = .slice (some ⟨jd, off, none⟩) n c) (hrd : rd H jd = some (.row src es m rw fl)) (hx : emp (ev env x) = true)
    (c2 : z.cells.size = ie.size) (c3 : 0 < ie.size) (v1 : off + n * ie.size ≤ src.length) (v0 : ∀ v ∈ src, atom v = true) (v2 : n * ie.bytes ≤ 140737488355328) (v3 : n ≤ 9223372036854775807) :
    StepOK P o env H ⟨.slice (some ⟨nid, 0, none⟩) n 0, [(nid, some (.row ((src.drop off).take (n * ie.size)) ie.size true true true))], [jd], [nid]⟩ := by
  have hsrc : evSrc P H ie.size tx (ev env y) = some (n, (src.drop off).take (n * ie.size), [jd]) := by
    simp only [evSrc, hux, hy, hrd]
    rw [if_pos v1]
  rcases Nat.eq_zero_or_pos n with h0 | h0
  · subst h0
    simp only [Nat.zero_mul, List.take_zero]
    intro F A ψ env1 H1 a w hr he hD hn K Q hK
    have hnn : ¬ A nid := hn _ (List.mem_singleton_self _)
    have hxv := opd hr he (x := x) (by simp [ho, Op.operands, Call.operands])
    have hyv := opd hr he (x := y) (by simp [ho, Op.operands, Call.operands])
    obtain ⟨b, e1⟩ := emp_spec hx hxv
    obtain ⟨news', s1, s2, s3, _⟩ := src_ok (P := P) hr.heap hyv hsrc hD
    have hnil : news' = [] := by apply List.eq_nil_of_length_eq_zero; rw [s3, s2]; simp
    subst hnil
    have hts' : ts = #[t, tx] := by
      rw [← Array.toArray_toList (xs := ts), hts]
    have hexec : execOp a.eval o = (do let v ← Builtin.append_ #[t, tx] o.type #[a.eval x, a.eval y]; pure (.value v)) := by
      simp [execOp, ho, resolve, invoke, builtin, hts']
    unfold Oper.wp
    have := run_append_nothing (P := P) w t tx o.type elem ie hu hie b 0 0 (Nat.le_refl _) (a.eval y) s1
    rw [hexec, Sem.run_bind, e1, this]
    have hag := mono_new (ψ := ψ) (g := ⟨0, 0, 0, ie.size⟩) hnn
    have hA : (fun id => A id ∨ id ∈ [nid]) = (fun id => A id ∨ id = nid) := by funext id; simp
    refine hK (upd ψ nid ⟨0, 0, 0, ie.size⟩) _ _ ?_
    rw [hA]
    exact put_rel ⟨fun t => (hr.slot t).mono hag, hr.len, hr.defers, hr.heap.void hnn _ _ _ _⟩ (.void _ _ _ (.inr rfl)) o.dst
  · have hat : (((src.drop off).take (n * ie.size)).all atom) = true := List.all_eq_true.2 fun v hv => v0 v (List.mem_of_mem_drop (List.mem_of_mem_take hv))
    have key : ∀ D0 : List Nat, evOld H ie.size (ev env x) = some (0, [], D0) → capOf (ev env x) = some 0 → capV (ev env x) ≠ big → D0 = [] →
        evAppend P H nid ts.toList (ev env x) (ev env y) = some ⟨.slice (some ⟨nid, 0, none⟩) n 0, [(nid, some (.row ((src.drop off).take (n * ie.size)) ie.size true true true))], [jd], [nid]⟩ := by
      intro D0 k1 k2 k3 k4
      subst k4
      unfold evAppend
      simp only [hts, hu, hie, hz, hsrc, k1, k2]
      have hcond : (0 + n) * ie.bytes ≤ 140737488355328 ∧ 0 + n ≤ 9223372036854775807 ∧ z.cells.size = ie.size ∧ 0 < ie.size ∧ capV (ev env x) ≠ big := ⟨by simpa using v2, by simpa using v3, c2, c3, k3⟩
      rw [if_neg (by omega), if_pos hcond, if_neg (by omega)]
      simp only [List.nil_append, Nat.zero_add, hat]
    refine append_ok (nid := nid) ho ?_
    unfold emp at hx
    split at hx
    · rename_i e; rw [e] at key ⊢; exact key [] rfl rfl (by simp [capV, big]) rfl
    · rename_i e; rw [e] at key ⊢; exact key [] rfl (by simp [capOf]) (by simp [capV, big]) rfl
    · cases hx

def hAe (P : Program) (whole : Bool) : Hint P where
  fn := fAe P whole
  ok := by
    intro o env H out vc h hv
    unfold fAe at h
    split at h
    · rename_i args ts ho
      split at h
      · rename_i x y t tx hargs hts
        have ho' : o.op = .call ⟨.builtin .append, #[x, y], ts⟩ := by
          rw [ho, args_list hargs]
        split at h
        · rename_i elem e2 hu hux
          split at h
          · rename_i ie hie
            split at h
            · rename_i z jd off n c hz hy
              split at h
              · rename_i src es m rw hrd
                split at h
                · rename_i hc
                  simp only [Bool.and_eq_true] at hc
                  obtain ⟨⟨c1, c2⟩, c3⟩ := hc
                  have c2 := Nat.eq_of_beq_eq_true c2
                  have c3 : 0 < ie.size := blt_lt c3
                  split at h
                  · split at h
                    · cases h
                      obtain ⟨v1, v0, v2, v3⟩ := hv
                      have := appendE_ok (nid := H.length) ho' hts hu hux hie hz hy hrd c1 c2 c3 (by omega) v0 v2 v3
                      rw [List.drop_zero, List.take_of_length_le (by omega)] at this
                      exact this
                    · cases h
                  · cases h
                    obtain ⟨v1, v0, v2, v3⟩ := hv
                    exact appendE_ok ho' hts hu hux hie hz hy hrd c1 c2 c3 v1 v0 v2 v3
                · cases h
              · cases h
            · cases h
          · cases h
        · cases h
      · cases h
    · cases h

def bInt (env : List Value) (d : Nat) : Option Operand → Option Int
  | none => some (Int.ofNat d)
  | some y => match ev env y with
    | .int _ n => some n
    | _ => none

theorem bInt_spec {env : List Value} {d : Nat} {x : Option Operand} {n : Int} (h : bInt env d x = some n) (h0 : 0 ≤ n) : bval env d x = some n.toNat := by
  cases x with
  | none => simp only [bInt, Option.some.injEq] at h; subst h; rfl
  | some y =>
    simp only [bInt] at h
    split at h
    · rename_i k m hv
      cases h
      simp only [bval, hv, natOf, if_pos h0]
    · cases h

/-- A part of a list, to be looked at. -/
def fSl (P : Program) (o : Oper) (env : List Value) (_ : Heap) : Option (Out × Prop) :=
  match o.op with
  | .slice t x lo hi none =>
    match P.underlying t, ev env x with
    | some (.slice elem), .slice (some ⟨id, off, none⟩) len _ =>
      match P.info? elem, bInt env 0 lo, bInt env len hi with
      | some ie, some l, some h => some (⟨.slice (some ⟨id, off + l.toNat * ie.size, none⟩) (h.toNat - l.toNat) big, [], [], []⟩, 0 ≤ l ∧ l ≤ h ∧ h ≤ len)
      | _, _, _ => none
    | _, _ => none
  | _ => none

def hSl (P : Program) : Hint P where
  fn := fSl P
  ok := by
    intro o env H out vc h hv
    unfold fSl at h
    split at h
    · rename_i t x lo hi ho
      split at h
      · rename_i elem id off len c hu hx
        split at h
        · rename_i ie l hh hie hlo hhi
          cases h
          obtain ⟨v1, v2, v3⟩ := hv
          exact slice_view ho hu hx hie (bInt_spec hhi (by omega)) (bInt_spec hlo v1) (by omega) (by omega)
        · cases h
      · cases h
    · cases h

/-- A byte of a text, as a number. -/
def _root_.Sp.bt (s : ByteArray) (i : Nat) : Int := Int.ofNat (s.data.toList.getD i 0).toNat

def fSi (P : Program) (o : Oper) (env : List Value) (_ : Heap) : Option (Out × Prop) :=
  match o.op with
  | .index t x i =>
    match P.underlying t, ev env x, ev env i with
    | some .string, .string s, .int _ n => some (⟨.int .u8 (Sp.bt s n.toNat), [], [], []⟩, 0 ≤ n ∧ n < s.size)
    | _, _, _ => none
  | _ => none

def hSi (P : Program) : Hint P where
  fn := fSi P
  ok := by
    intro o env H out vc h hv
    unfold fSi at h
    split at h
    · rename_i t x i ho
      split at h
      · rename_i s k n hu hx hi
        cases h
        refine StepOK.value fun F A ψ env1 H1 a w hr he _ => ⟨.int .u8 (Sp.bt s n.toNat), ?_, .atom _ rfl⟩
        have h1 := opd hr he (x := x) (by simp [ho, Op.operands])
        have h2 := opd hr he (x := i) (by simp [ho, Op.operands])
        rw [hx] at h1; rw [hi] at h2
        have e1 := h1.of_atom rfl
        have e2 := h2.of_atom rfl
        have hlt : n.toNat < s.size := by omega
        have hb : (s[n.toNat]'hlt).toNat = (s.data.toList.getD n.toNat 0).toNat := by
          have : n.toNat < s.data.size := hlt
          simp only [List.getD_eq_getElem?_getD, Array.getElem?_toList, Array.getElem?_eq_getElem this, Option.getD_some]
          rfl
        simp [execOp, ho, e1, e2, run_index_string w t s k n hu, hv, Sp.bt, hb]
      · cases h
    · cases h

end
end
end Go.Vm
end
section
/- A load whose value is told from the cells. -/
namespace Sp
noncomputable section
/-- The integer in a cell. -/
def iAt (cells : List Go.Value) (off : Nat) : Int := match cells[off]? with
  | some (.int _ n) => n
  | _ => 0
end
end Sp
namespace Go.Vm
noncomputable section
def fLc (P : Program) (g : List Value → Nat → Value) (o : Oper) (env : List Value) (H : Heap) : Option (Out × Prop) :=
  match o.op with
  | .load t x =>
    match ev env x with
    | .pointer (some ⟨id, off, none⟩) =>
      match rd H id with
      | some (.row cells _ _ _ _) => some (⟨g cells off, [], [id], []⟩, evPart P t cells off = some (g cells off))
      | _ => none
    | _ => none
  | _ => none

def hLc (P : Program) (g : List Value → Nat → Value) : Hint P where
  fn := fLc P g
  ok := by
    intro o env H out vc h hv
    unfold fLc at h
    split at h
    · rename_i t x ho
      refine load_ok ho ?_
      unfold evLoad
      split at h
      · rename_i id off hx
        rw [hx]
        simp only
        split at h
        · rename_i hr
          rw [hr]; cases h
          simp only [hv, Option.map_some]
        · cases h
      · cases h
    · cases h
/-- The cells, with others from a place on. -/
def _root_.Sp.putL (cells : List Value) (off : Nat) (cs : List Value) : List Value := splice cells off cs
def fSp (P : Program) (o : Oper) (env : List Value) (H : Heap) : Option (Out × Prop) :=
  match o.op with
  | .store t x y =>
    match ev env x with
    | .pointer (some ⟨id, off, none⟩) =>
      match rd H id, P.info? t with
      | some (.row cells es more true flat), some i =>
        if (okv (ev env y) && Nat.beq (ev env y).cells.toList.length i.size && Nat.blt 0 (ev env y).cells.toList.length) = true then
          some (⟨undef, [(id, some (.row (Sp.putL cells off (ev env y).cells.toList) es more true (flat && (ev env y).cells.toList.all atom)))], [id], []⟩, off + (ev env y).cells.toList.length ≤ cells.length)
        else none
      | _, _ => none
    | _ => none
  | _ => none

def hSp (P : Program) : Hint P where
  fn := fSp P
  ok := by
    intro o env H out vc h hv
    unfold fSp at h
    split at h
    · rename_i t x y ho
      split at h
      · rename_i id off hx
        split at h
        · rename_i cells es more flat i hrd hi
          split at h
          · rename_i hc
            simp only [Bool.and_eq_true] at hc
            obtain ⟨⟨c1, c2⟩, c3⟩ := hc
            have c2 := Nat.eq_of_beq_eq_true c2
            have c3 : 0 < (ev env y).cells.toList.length := Nat.lt_of_lt_of_le (Nat.lt_succ_self 0) (Nat.le_of_ble_eq_true c3)
            cases h
            refine store_ok ho ?_
            unfold evStore
            rw [hx]
            simp only [hrd, hi]
            have hif : (okv (ev env y) && decide ((ev env y).cells.toList.length = i.size) && decide (off + (ev env y).cells.toList.length ≤ cells.length) && decide (0 < (ev env y).cells.toList.length)) = true := by
              rw [c1, decide_eq_true c2, decide_eq_true hv, decide_eq_true c3]; rfl
            rw [if_pos hif]
            rfl
          · cases h
        · cases h
      · cases h
    · cases h
end
end Go.Vm
end
section
/- A map of what is known: whether a text is among its keys. -/
namespace Sp
open Go
/-- Whether a text is a key. -/
def hasK (s : ByteArray) : List (ByteArray × Value) → Bool
  | [] => false
  | p :: r => s == p.1 || hasK s r
end Sp
namespace Go.Vm
noncomputable section
open Sp

def allT : List (ByteArray × Value) → Bool
  | [] => true
  | (_, .bool true) :: r => allT r
  | _ => false

theorem find_hasK (s : ByteArray) : ∀ es, allT es = true → findS s es = match hasK s es with
    | true => some (.bool true)
    | false => none
  | [], _ => rfl
  | (k, v) :: r, h => by
    unfold allT at h
    split at h
    · rename_i e; cases e
    · rename_i k' r' e
      cases e
      have ih := find_hasK s r h
      unfold findS hasK
      cases hb : s == k
      · simpa using ih
      · rfl
    · cases h

def fMl (P : Program) (o : Oper) (env : List Value) (H : Heap) : Option (Out × Prop) :=
  match o.op with
  | .lookup t x k false =>
    match P.underlying t, ev env x, ev env k with
    | some (.map key elem), .map (some id), .string s =>
      match P.underlying key, P.info? elem, rd H id with
      | some .string, some i, some (.smap es) =>
        match i.zero with
        | some (.bool false) => match allT es with
          | true => some (⟨.bool (hasK s es), [], [id], []⟩, True)
          | false => none
        | _ => none
      | _, _, _ => none
    | _, _, _ => none
  | _ => none

def hMl (P : Program) : Hint P where
  fn := fMl P
  ok := by
    intro o env H out vc h _
    unfold fMl at h
    split at h
    · rename_i t x k ho
      split at h
      · rename_i key elem id s h1 h2 h3
        split at h
        · rename_i i es h4 h5 h6
          split at h
          · rename_i h7
            split at h
            · rename_i h8
              cases h
              refine lookup_ok ho ?_
              unfold evLookup
              simp only [h1, h2, h3, h4, h5, h6, h7, find_hasK s es h8]
              cases hasK s es <;> rfl
            · cases h
          · cases h
        · cases h
      · cases h
    · cases h

def fMu (P : Program) (o : Oper) (env : List Value) (H : Heap) : Option (Out × Prop) :=
  match o.op with
  | .mapUpdate t x k v =>
    match P.underlying t, ev env x, ev env k, ev env v with
    | some (.map key _), .map (some id), .string s, .bool true =>
      match P.underlying key, rd H id with
      | some .string, some (.smap es) => match allT es with
        | true => some (⟨undef, [(id, some (.smap (es ++ [(s, .bool true)])))], [id], []⟩, hasK s es = false)
        | false => none
      | _, _ => none
    | _, _, _, _ => none
  | _ => none

def hMu (P : Program) : Hint P where
  fn := fMu P
  ok := by
    intro o env H out vc h hv
    unfold fMu at h
    split at h
    · rename_i t x k v ho
      split at h
      · rename_i key elem id s h1 h2 h3 h9
        split at h
        · rename_i es h4 h6
          split at h
          · rename_i h8
            cases h
            refine mapUpdate_ok ho ?_
            unfold evMapUpdate
            simp only [h1, h2, h3, h4, h6, h9, find_hasK s es h8, hv]
            rfl
          · cases h
        · cases h
      · cases h
    · cases h
end
end Go.Vm
end
section
/- Lists of any length: made, copied whole, held against nil. -/
namespace Go.Vm
noncomputable section
/-- So many zero elements have these cells. -/
def _root_.Sp.zeroCells (z : Value) (n : Nat) (l : List Value) : Prop := (zrow z.cells n).toList = l
/-- Each one is a cell without an address. -/
def _root_.Sp.atoms (l : List Value) : Prop := ∀ v ∈ l, atom v = true

section
variable {P : Program} {o : Oper} {env : List Value} {H : Heap}
end
end
end Go.Vm
end
section
/- Floats of 32 bits that are not known: operations with named results. -/
open Go
namespace Sp
noncomputable section
def fEq (x y : Nat) : Bool := FloatKind.f32.format.order x y == some .eq
def fInt (x : Nat) : Int := (floatToIntVal .f32 x .i64).getD 0
end
end Sp
namespace Go.Vm
noncomputable section
end
end Go.Vm
end
section
/- Calls of functions without a body: bits of numbers; shifts. -/
namespace Sp
open Go
noncomputable section
/-- What a shift leaves, and what two numbers have in common, bit by bit. -/
noncomputable def shr (k : IntKind) (a b : Int) : Int := a.fdiv (2 ^ min b.toNat k.bits)
noncomputable def land (k : IntKind) (a b : Int) : Int := k.wrap ((BitVec.ofInt k.bits a &&& BitVec.ofInt k.bits b).toNat : Nat)
end
end Sp
namespace Go.Vm
open Go.RowKit
noncomputable section
/-- A shift, and what two numbers have in common. -/
def fBs (o : Oper) (env : List Value) (_ : Heap) : Option (Out × Prop) :=
  match o.op with
  | .binOp .shr _ x y _ =>
    match ev env x, ev env y with
    | .int k a, .int _ b => some (⟨.int k (Sp.shr k a b), [], [], []⟩, 0 ≤ b)
    | _, _ => none
  | .binOp .and _ x y _ =>
    match ev env x, ev env y with
    | .int k a, .int k' b => if k = k' then some (⟨.int k (Sp.land k a b), [], [], []⟩, True) else none
    | _, _ => none
  | _ => none
def hBs (P : Program) : Hint P where
  fn := fBs
  ok := by
    intro o env H out vc h hv
    unfold fBs at h
    split at h
    · rename_i t x y yt ho
      split at h
      · rename_i k a k' b hx hy
        cases h
        refine StepOK.value fun F A ψ env1 H1 ac w hr he _ => ⟨.int k (Sp.shr k a b), ?_, .atom _ rfl⟩
        have h1 := opd hr he (x := x) (by simp [ho, Op.operands])
        have h2 := opd hr he (x := y) (by simp [ho, Op.operands])
        rw [hx] at h1; rw [hy] at h2
        have e1 := h1.of_atom rfl
        have e2 := h2.of_atom rfl
        simp [execOp, ho, e1, e2, eqGuard, binOp, Op.shift, show ¬ b < 0 by omega, Sp.shr]
      · cases h
    · rename_i t x y yt ho
      split at h
      · rename_i k a k' b hx hy
        split at h
        · rename_i hk
          subst hk
          cases h
          refine StepOK.value fun F A ψ env1 H1 ac w hr he _ => ⟨.int k (Sp.land k a b), ?_, .atom _ rfl⟩
          have h1 := opd hr he (x := x) (by simp [ho, Op.operands])
          have h2 := opd hr he (x := y) (by simp [ho, Op.operands])
          rw [hx] at h1; rw [hy] at h2
          have e1 := h1.of_atom rfl
          have e2 := h2.of_atom rfl
          simp [execOp, ho, e1, e2, eqGuard, binOp, Op.intBits, Sp.land]
        · cases h
      · cases h
    · cases h
/-- Structs of floats, too, held against each other. -/
def eqX (P : Program) : Nat → TypeId → Value → Value → Option Bool
  | 0, _, _, _ => none
  | d + 1, t, x, y =>
    match P.underlying t, x, y with
    | some .bool, .bool a, .bool b => some (a == b)
    | some (.int _), .int k a, .int k' b => if k = k' then some (a == b) else none
    | some .string, .string a, .string b => some (a == b)
    | some (.float _), .float .f32 a, .float .f32 b => some (Sp.fEq a b)
    | some (.struct fields), .agg xs, .agg ys => if P.stoodInHeld t then none else eqFs P (eqX P d) xs.toList ys.toList fields.toList
    | some (.array n e), .agg xs, .agg ys => if P.info? e = none then none else eqIs P (eqX P d) e (P.cellsOf e) xs.toList ys.toList (List.range n)
    | _, _, _ => none
section
variable {P : Program}
theorem eqX_run (m : Nat) : ∀ (d : Nat) (t : TypeId) (x y : Value) (b : Bool) (w : World), eqX P d t x y = some b → (Op.equalIn (d + m) t x y).run P w = .ok b w
  | 0, t, x, y, b, w, h => by simp [eqX] at h
  | d + 1, t, x, y, b, w, h => by
    have e : d + 1 + m = (d + m) + 1 := by omega
    rw [e]
    simp only [eqX] at h
    split at h
    · rename_i hu; cases h; exact run_equalIn_bool' w _ t _ _ hu
    · rename_i k0 k x k' y hu
      split at h
      · rename_i hk; subst hk; cases h; exact run_equalIn_int w _ t _ _ _ _ hu
      · cases h
    · rename_i x y hu; cases h; rw [run_equalIn_string w _ t _ _ hu, beq_toListBytes]
    · rename_i f a b' hu
      cases h
      unfold Op.equalIn
      rw [Sem.run_bind, run_underlying hu]
      rfl
    · rename_i fields xs ys hu
      split at h
      · cases h
      · rename_i hs
        have hf : P.fieldsOf t = fields := by simp [Program.fieldsOf, hu]
        rw [run_equalIn_struct w _ t xs ys (by rw [hf]; exact hu) (by simpa using hs), hf]
        exact eqFs_run (fun t x y b w h => eqX_run m d t x y b w h) _ _ _ h
    · rename_i n e xs ys hu
      split at h
      · cases h
      · rename_i hs
        obtain ⟨i, hi⟩ := Option.ne_none_iff_exists'.1 hs
        rw [run_equalIn_array w _ xs ys hu hi]
        exact eqIs_run (fun t x y b w h => eqX_run m d t x y b w h) _ _ _ h
    · cases h
end
def fEqX (P : Program) (o : Oper) (env : List Value) (_ : Heap) : Option (Out × Prop) :=
  match o.op with
  | .binOp op t x y _ =>
    match ev env x, ev env y with
    | .agg xs, .agg ys =>
      if ground (.agg xs) && ground (.agg ys) && !P.eqGuardType P.depth t then
        match op, eqX P 6 t (.agg xs) (.agg ys) with
        | .eql, some b => some (⟨.bool b, [], [], []⟩, True)
        | .neq, some b => some (⟨.bool (!b), [], [], []⟩, True)
        | _, _ => none
      else none
    | _, _ => none
  | _ => none

def hEqX (P : Program) : Hint P where
  fn := fEqX P
  ok := by
    intro o env H out vc h _
    unfold fEqX at h
    split at h
    · rename_i op t x y yt ho
      split at h
      · rename_i xs ys hx hy
        split at h
        · rename_i hc
          simp only [Bool.and_eq_true, Bool.not_eq_true'] at hc
          obtain ⟨⟨g1, g2⟩, g3⟩ := hc
          have key : ∀ (b : Bool), eqX P 6 t (.agg xs) (.agg ys) = some b → ∀ w : World, (Op.equalIn 10000 t (.agg xs) (.agg ys)).run P w = .ok b w := fun b hb w => eqX_run 9994 6 t _ _ b w hb
          have fin : ∀ (op' : BinOp) (b : Bool), op = op' → (∀ w : World, (binOp op' t (.agg xs) (.agg ys)).run P w = .ok (.bool b) w) → StepOK P o env H ⟨.bool b, [], [], []⟩ := by
            intro op' b e hb
            subst e
            refine StepOK.value fun F A ψ env1 H1 ac w hr he _ => ⟨.bool b, ?_, .atom _ rfl⟩
            have h1 := opd hr he (x := x) (by simp [ho, Op.operands])
            have h2 := opd hr he (x := y) (by simp [ho, Op.operands])
            rw [hx] at h1; rw [hy] at h2
            have e1 := h1.of_ground g1
            have e2 := h2.of_ground g2
            simp only [execOp, ho, e1, e2]
            rw [Sem.run_bind, Sem.run_bind, run_eqGuard_agg w op t x y xs ys g3, Result.andThen_ok, hb w]
            rfl
          split at h
          · rename_i b hb
            cases h
            exact fin .eql b rfl fun w => by rw [run_eql_struct, key b hb w]; rfl
          · rename_i b hb
            cases h
            exact fin .neq (!b) rfl fun w => by rw [run_neq_struct, key b hb w]; rfl
          · cases h
        · cases h
      · cases h
    · cases h

end
end Go.Vm
end
section
/- Iterators that lend a row of their own: their code, with calls of yield, evaluated. -/
namespace Go.Vm
open Go.RowKit
noncomputable section
section
variable (P : Program) (call : CallF) (hs : Ys P) (l : Nat) (Hc : Heap) (N len : Nat) (pl : Nat → List Value)

def opsL (ops : Array Oper) (rid : Nat) : Nat → List Oper → Nat → Bool → List Value → Heap → (Nat → Bool → List Value → Heap → Prop) → Prop
  | _, [], i, st, env, H, K => K i st env H
  | k, o :: r, i, st, env, H, K =>
    gP ops env o
      (fun env => match yieldArgs env o with
        | some (m, args) =>
          match st with
          | true => False
          | false => match args, rd H Hc.length with
            | [.slice (some ⟨id, 0, none⟩) ln _], some (.row cells 1 more true true) =>
              Is (i < N) ∧ m = l ∧ id = Hc.length ∧ ln = len ∧ cells = pl i ∧ Is (0 < len ∧ 0 < (pl i).length) ∧
                (opsL ops rid (k + 1) r (i + 1) false ((put env o.dst (.bool true)).map (renV (lowρ (Hc.length + 1)) 4)) (Hc ++ [some (.row (pl i) 1 more true true)]) K ∧
                 opsL ops rid (k + 1) r i true ((put env o.dst (.bool false)).map (renV (lowρ (Hc.length + 1)) 4)) (Hc ++ [some (.row (pl i) 1 more true true)]) K)
            | _, _ => False
        | none => stepP P call hs.toHs (rid * 100 + k) env H o fun out => opsL ops rid (k + 1) r i st (put env o.dst out.v) (ap H out.δ) K)
      (fun env => opsL ops rid (k + 1) r i st (put env o.dst undef) H K)

def codeL : Code → Nat → Bool → List Value → Heap → (Ex → Nat → Bool → List Value → Heap → Prop) → Prop
  | .skip, i, st, env, H, Q => Q .normal i st env H
  | .exit id, i, st, env, H, Q => Q (.exit id) i st env H
  | .ret, i, st, env, H, Q => Q .ret i st env H
  | .region id ops draw, i, st, env, H, Q =>
    match hs.ys.contains id with
    | true => match draw with
      | true => False
      | false => br (noDef ops.toList) (opsL P call hs l Hc N len pl ops id 0 ops.toList i st env H fun i st e h => Q .normal i st e h) False
    | false => br (plainC (.region id ops draw)) (codeP P call hs.toHs (Hc.length + 1) (.region id ops draw) env H fun ex e h => Q ex i st e h) False
  | .seq x y, i, st, env, H, Q =>
    match hasY hs.ys (.seq x y) with
    | true => codeL x i st env H fun ex i st e h =>
      match ex with
      | .normal => codeL y i st e h Q
      | ex => Q ex i st e h
    | false => br (plainC (.seq x y)) (codeP P call hs.toHs (Hc.length + 1) (.seq x y) env H fun ex e h => Q ex i st e h) False
  | .cond c x y, i, st, env, H, Q =>
    match ev env c with
    | .bool b => br b (codeL x i st (known env c true) H Q) (codeL y i st (known env c false) H Q)
    | _ => False
  | .block id c, i, st, env, H, Q => codeL c i st env H fun ex i st e h =>
    match ex with
    | .exit j => if j = id then Q .normal i st e h else Q (.exit j) i st e h
    | ex => Q ex i st e h
  | .loop c, i, st, env, H, Q =>
    match hasY hs.ys (.loop c) with
    | false => br (plainC (.loop c)) (codeP P call hs.toHs (Hc.length + 1) (.loop c) env H fun ex e h => Q ex i st e h) False
    | true =>
    match hs.ly (firstRid c) with
    | some L =>
      ((i = 0 ∧ st = false) ∧ gcP Hc.length (hs.cl (firstRid c)) (hs.nl (firstRid c)) env H fun e h => ∃ s, Is (L.I s) ∧ Is (i = L.gi s) ∧ e = L.E s ∧ h = L.Hp s) ∧
      ∀ s, Is (L.I s) → codeL c (L.gi s) false (L.E s) (L.Hp s) fun x i' st' e' h' =>
        match x with
        | .normal => gcP (Hc.length + 1) (hs.cl (firstRid c)) (hs.nl (firstRid c)) e' h' fun e h => st' = false ∧ ∃ s', Is (L.I s') ∧ Is (L.m s' < L.m s) ∧ Is (i' = L.gi s') ∧ e = L.E s' ∧ h = L.Hp s'
        | x => Q x i' st' e' h'
    | none => False
  | _, _, _, _, _, _ => False

def finL (rs : List ResultVar) (i : Nat) (st : Bool) (e : List Value) (h : Heap) : Prop :=
  match evResultL P e h rs with
  | some _ => match st with | true => Is True | false => Is (i = N ∧ 0 < N)
  | none => False

end

/-- An iterator's function; the hints know which yield it is. -/
def iterL (P : Program) (call : CallF) (hs : Nat → Ys P) (Hc : Heap) (N len : Nat) (pl : Nat → List Value) (f : FuncId) (cap : List Value) : Prop :=
  match P.funcs[f]? with
  | some fn =>
    match fn.body with
    | some c => ∀ l : Nat, codeL P call (hs l) l Hc N len pl c 0 false ((.func (.yield l) #[] #[] :: cap) ++ List.replicate (fn.ntmps - (cap.length + 1)) undef) Hc fun x i st e h =>
      match x with
      | .normal => finL P N fn.results.toList i st e h
      | .ret => finL P N fn.results.toList i st e h
      | _ => False
    | none => False
  | none => False

section
variable {P : Program} {call : CallF} {hs : Ys P} {Hc : Heap} {N len : Nat} {pl : Nat → List Value}

theorem VR.slice_at {A : Nat → Prop} {ψ : Nat → Gh} {id n cap : Nat} {v' : Value} (h : VR A ψ (.slice (some ⟨id, 0, none⟩) n cap) v') (hl : 0 < n) : A id ∧ ∃ c, n ≤ c ∧ v' = .slice (some ⟨(ψ id).blk, (ψ id).off + 0, none⟩) n c := by
  cases h with
  | atom _ ha => simp [Vm.atom] at ha
  | slice _ _ _ _ cap' h hc => exact ⟨h, cap', by rcases hc with ⟨rfl, h⟩ | ⟨_, _, h, _⟩ <;> exact h, rfl⟩
  | void => omega
  | view _ _ _ c a h hl' ha =>
    rcases ha with ha | rfl
    · omega
    · exact ⟨h, c, hl', rfl⟩

/-- What stands between two steps of an iterator: before it has lent, and after. -/
structure GL0 (Fc : Fr P) (w : World) (ψc : Nat → Gh) (base : Nat) (J0 : World → Prop) (F : Fr P) : Prop where
  S : F.S = fun _ => False
  ds : F.ds = []
  A0 : F.A0 = fun id => id < base
  ψ0 : F.ψ0 = ψc
  keep : KeepF Fc w F.w0
  J : J0 F.w0
structure GL1 (Fc : Fr P) (w : World) (ψc : Nat → Gh) (base : Nat) (J : Nat → Nat → World → Prop) (Jx : Nat → World → Prop) (b i : Nat) (st : Bool) (F : Fr P) : Prop where
  S : F.S = fun x => x = b
  ds : F.ds = []
  A0 : F.A0 = fun id => id < base + 1
  ψ0 : ∀ id, id < base → F.ψ0 id = ψc id
  blk : (F.ψ0 base).blk = b
  keep : KeepF Fc w F.w0
  hb : w.heap.size ≤ b
  J : st = false → J b i F.w0
  Jx : st = true → Jx b F.w0
def GL (Fc : Fr P) (w : World) (ψc : Nat → Gh) (base : Nat) (J0 : World → Prop) (J : Nat → Nat → World → Prop) (Jx : Nat → World → Prop) (i : Nat) (st : Bool) (F : Fr P) : Prop :=
  ((i = 0 ∧ st = false) ∧ GL0 Fc w ψc base J0 F) ∨ ((0 < i ∨ st = true) ∧ ∃ b, GL1 Fc w ψc base J Jx b i st F)

theorem GL.ds_ {Fc : Fr P} {w : World} {ψc : Nat → Gh} {base i : Nat} {st : Bool} {J0 : World → Prop} {J : Nat → Nat → World → Prop} {Jx : Nat → World → Prop} {F : Fr P} (h : GL Fc w ψc base J0 J Jx i st F) : F.ds = [] := by
  rcases h with ⟨_, h⟩ | ⟨_, b, h⟩
  · exact h.ds
  · exact h.ds
theorem GL.lo {Fc : Fr P} {w : World} {ψc : Nat → Gh} {base i : Nat} {st : Bool} {J0 : World → Prop} {J : Nat → Nat → World → Prop} {Jx : Nat → World → Prop} {F : Fr P} (h : GL Fc w ψc base J0 J Jx i st F) : ∀ id, F.A0 id → id < base + 1 := by
  rcases h with ⟨_, h⟩ | ⟨_, b, h⟩
  · intro id hid; rw [h.A0] at hid; exact Nat.lt_succ_of_lt hid
  · intro id hid; rw [h.A0] at hid; exact hid
theorem GL.old_ {Fc : Fr P} {w : World} {ψc : Nat → Gh} {base i : Nat} {st : Bool} {J0 : World → Prop} {J : Nat → Nat → World → Prop} {Jx : Nat → World → Prop} {F : Fr P} (h : GL Fc w ψc base J0 J Jx i st F) {A : Nat → Prop} {ψ : Nat → Gh} {H : Heap} {w' : World} (hh : HRel F A ψ H w') : ∀ id, id < base → ψ id = ψc id := by
  rcases h with ⟨_, h⟩ | ⟨_, b, h⟩
  · intro id hid
    rw [(hh.old id (by rw [h.A0]; exact hid)).2, h.ψ0]
  · intro id hid
    rw [(hh.old id (by rw [h.A0]; exact Nat.lt_succ_of_lt hid)).2, h.ψ0 id hid]
theorem GL0.below {Fc F : Fr P} {wc w : World} {ψc : Nat → Gh} {base : Nat} {J0 : World → Prop} {A : Nat → Prop} {ψ : Nat → Gh} {H : Heap} (h : GL0 Fc wc ψc base J0 F) (hh : HRel F A ψ H w) : Below F.w0.heap.size F.w0 w :=
  ⟨hh.fr.os, hh.fr.tape, hh.fr.output, hh.fr.size, fun k hk => hh.fr.block k hk (by rw [h.S]; exact fun h => h)⟩
theorem GL1.below {Fc F : Fr P} {wc w : World} {ψc : Nat → Gh} {base b i : Nat} {st : Bool} {J : Nat → Nat → World → Prop} {Jx : Nat → World → Prop} {A : Nat → Prop} {ψ : Nat → Gh} {H : Heap} (h : GL1 Fc wc ψc base J Jx b i st F) (hh : HRel F A ψ H w) : Ow.BelowB (fun x => x = b) F.w0.heap.size F.w0 w :=
  ⟨hh.fr.os, hh.fr.tape, hh.fr.output, hh.fr.size, fun k hk hb => hh.fr.block k hk (by rw [h.S]; exact hb)⟩
theorem GL.keep_ {Fc : Fr P} {w : World} {ψc : Nat → Gh} {base i : Nat} {st : Bool} {J0 : World → Prop} {J : Nat → Nat → World → Prop} {Jx : Nat → World → Prop} {F : Fr P} (h : GL Fc w ψc base J0 J Jx i st F) (hw : Fc.w0 = w) {A : Nat → Prop} {ψ : Nat → Gh} {H : Heap} {w' : World} (hh : HRel F A ψ H w') : KeepF Fc w w' := by
  rcases h with ⟨_, h⟩ | ⟨_, b, h⟩
  · exact h.keep.below hw (h.below hh)
  · have hb := h.below hh
    have hk := h.keep
    have hle := h.hb
    exact ⟨hb.os.trans hk.os, hb.tape.trans hk.tape, hb.output.trans hk.output, Nat.le_trans hk.size hb.size, fun x h1 h2 => by
      rw [hw] at h1
      rw [hb.block x (Nat.lt_of_lt_of_le h1 hk.size) (fun e => by omega)]
      exact hk.block x (by rw [hw]; exact h1) h2⟩

def YieldsL (P : Program) (Fc : Fr P) (wc : World) (N len : Nat) (pl : Nat → List Value) (n l : Nat) (J : Nat → Nat → World → Prop) (Jx : Nat → World → Prop) : Prop :=
  ∀ b i W1 c, J b i W1 → KeepF Fc wc W1 → i < N → Le.lent b (pl i) W1 → len ≤ c → YieldAt (fen none) n P l #[.slice (some ⟨b, 0, none⟩) len c] W1 fun e W' =>
    (e = .returned (.bool true) ∧ J b (i + 1) W' ∧ KeepF Fc W1 W' ∧ W'.heap[b]? = W1.heap[b]?) ∨ (e = .returned (.bool false) ∧ Jx b W' ∧ KeepF Fc W1 W' ∧ W'.heap[b]? = W1.heap[b]?)
structure StabL (J0 : World → Prop) (J : Nat → Nat → World → Prop) (Jx : Nat → World → Prop) : Prop where
  a : ∀ W W', J0 W → Below W.heap.size W W' → J0 W'
  s : ∀ W W' b, J0 W → Below W.heap.size W W' → W.heap.size ≤ b → J b 0 W'
  j : ∀ b i W W', J b i W → Ow.BelowB (fun x => x = b) W.heap.size W W' → J b i W'
  x : ∀ b W W', Jx b W → Ow.BelowB (fun x => x = b) W.heap.size W W' → Jx b W'

def GoesL (Hc : Heap) (P : Program) (c : Code) (i : Nat) (st : Bool) (env : List Value) (H : Heap) (l N len : Nat) (pl : Nat → List Value) (Q : Ex → Nat → Bool → List Value → Heap → Prop) : Prop :=
  ∀ (n : Nat) (Fc : Fr P) (wc : World) (ψc : Nat → Gh) (J0 : World → Prop) (J : Nat → Nat → World → Prop) (Jx : Nat → World → Prop), Base Fc wc ψc Hc → StabL J0 J Jx → YieldsL P Fc wc N len pl n l J Jx →
    ∀ (F : Fr P) A ψ a w (R : Exit → Act → World → Prop), GL Fc wc ψc Hc.length J0 J Jx i st F → Rel F A ψ env H a w → (∀ id, A id → id < H.length) →
    (∀ x i' st' e h F' A' ψ' a' w', GL Fc wc ψc Hc.length J0 J Jx i' st' F' → Q x i' st' e h → Rel F' A' ψ' e h a' w' → (∀ id, A' id → id < h.length) → R x.to a' w') → c.wpIn (fen none) n P R a w

/-- From a stretch without yield. -/
theorem goesL_of {c : Code} {i : Nat} {st : Bool} {env : List Value} {H : Heap} {l : Nat} {Q : Ex → Nat → Bool → List Value → Heap → Prop} (hp : plainC c = true)
    (h : GoesIn none P (Hc.length + 1) c env H fun ex e h => Q ex i st e h) : GoesL Hc P c i st env H l N len pl Q := by
  intro n Fc wc ψc J0 J Jx hbase hst hy F A ψ a w R hg hr hb hQ
  refine h n F A ψ a w R hr hb hg.lo fun x e h F' A' ψ' a' w' hx hq k1 k2 => ?_
  have := hx.e hp
  subst this
  exact hQ _ _ _ _ _ _ _ _ _ _ hg hq k1 k2

set_option maxHeartbeats 1000000 in
/-- Behind a round. -/
theorem next_lent {Fc : Fr P} {wc : World} {ψc : Nat → Gh} (hbase : Base Fc wc ψc Hc) {F : Fr P} {A : Nat → Prop} {ψ : Nat → Gh} {env : List Value} {H : Heap} {a : Act} {w : World} (hr : Rel F A ψ env H a w) (hds : F.ds = [])
    (hold : ∀ id, id < Hc.length → ψ id = ψc id) {cells : List Value} {more : Bool} (hrow : rd H Hc.length = some (.row cells 1 more true true)) (h0 : 0 < cells.length) (hle : wc.heap.size ≤ (ψ Hc.length).blk)
    (dst : Option Tmp) (b : Bool) {W2 : World} (hk2 : KeepF Fc wc W2) (hs2 : w.heap.size ≤ W2.heap.size) (hsame : W2.heap[(ψ Hc.length).blk]? = w.heap[(ψ Hc.length).blk]?) :
    Rel (P := P) ⟨W2, fun x => x = (ψ Hc.length).blk, fun id => id < Hc.length + 1, ψ, []⟩ (fun id => id < Hc.length + 1) ψ ((put env dst (.bool b)).map (renV (lowρ (Hc.length + 1)) 4)) (Hc ++ [some (.row cells 1 more true true)]) (a.put dst (.bool b)) W2 := by
  have h0' := put_rel hr (VR.atom (A := A) (ψ := ψ) (.bool b) rfl) dst
  refine ⟨fun t => ?_, by rw [List.length_map]; exact h0'.len, ?_, ?_⟩
  · have := map_getD (A' := fun id => id < Hc.length + 1) (ψ' := ψ) (f := renV (lowρ (Hc.length + 1)) 4) (l := put env dst (.bool b)) (l' := (a.put dst (.bool b)).tmps.toList) (fun i _ => renV_rel (A := A) (ψ := ψ) (fun id j _ hj => by
        unfold lowρ at hj
        split at hj
        · rename_i hlt
          cases hj
          exact ⟨hlt, rfl⟩
        · cases hj) 4 (by simpa [Array.getD_eq_getD_getElem?, List.getD_eq_getElem?_getD] using h0'.slot i)) t
    simpa [Array.getD_eq_getD_getElem?, List.getD_eq_getElem?_getD] using this
  · have := hr.defers
    rw [hds] at this
    cases hd : dst <;> simpa [Act.put, hd] using this
  · have hwl : ∀ {id o}, rd Hc id = some o → id < Hc.length := fun {id o} ho => (hbase.h.live id o ho).1
    have hblk : ∀ {id o}, rd Hc id = some o → o.vd = false → (ψ id).blk < wc.heap.size := fun {id o} ho hv => by
      rw [hold id (hwl ho)]
      exact ((hbase.h.live id o ho).2.2 hv).1
    obtain ⟨_, e2, e3⟩ := hr.heap.live _ _ hrow
    obtain ⟨e4, arr, el, fz, e5, e6, e7, e8, e9⟩ := e3 (vd_row h0)
    refine ⟨fun id o ho => ?_, fun i j oi oj hi hj hne r1 r2 r3 => ?_, ⟨rfl, rfl, rfl, Nat.le_refl _, fun _ _ _ => rfl, fun w' q1 q2 => ?_⟩, fun id o ho r1 r2 => ?_, fun id hid => ⟨hid, rfl⟩⟩
    · rw [rd_snoc] at ho
      by_cases e : id = Hc.length
      · rw [if_pos e] at ho
        cases ho
        subst e
        refine ⟨Nat.lt_succ_self _, e2, fun _ => ⟨Nat.lt_of_lt_of_le e4 hs2, arr, el, fz, hsame.trans e5, e6, fun i hi => ?_, e8, e9⟩⟩
        obtain ⟨v', z1, z2, z3⟩ := e7 i hi
        have ha : atom (cells.getD i poi) = true := e9 rfl _ (by rw [List.getD_eq_getElem?_getD, List.getElem?_eq_getElem hi]; exact List.getElem_mem hi)
        have := z3.of_atom ha
        exact ⟨v', z1, z2, by rw [this]; exact .atom _ ha⟩
      · rw [if_neg e] at ho
        obtain ⟨h1, h2, h3⟩ := hbase.h.live id o ho
        rw [hold id h1]
        refine ⟨Nat.lt_succ_of_lt h1, h2, fun hv => ⟨Nat.lt_of_lt_of_le (h3 hv).1 hk2.size, (h3 hv).2.mono (fun id ha => ⟨Nat.lt_succ_of_lt ha, hold id ha⟩) (hk2.block _ (by rw [hbase.w0]; exact (h3 hv).1) ((hbase.sealed id o ho).2 hv))⟩⟩
    · rw [rd_snoc] at hi hj
      by_cases ei : i = Hc.length
      · rw [if_neg (by omega)] at hj
        have := hblk hj r3
        rw [ei]
        omega
      · rw [if_neg ei] at hi
        rw [(hbase.sealed i oi hi).1] at r1; cases r1
    · refine hbase.h.fr.lay w' (fun k hkk hS => ?_) ?_
      · rw [hbase.w0] at hkk
        rw [q1 k (Nat.lt_of_lt_of_le hkk hk2.size) (fun e => by have : k = (ψ Hc.length).blk := e; omega), hk2.block k (by rw [hbase.w0]; exact hkk) hS, hbase.w0]
      · rw [hbase.w0]; exact Nat.le_trans hk2.size q2
    · rw [rd_snoc] at ho
      by_cases e : id = Hc.length
      · rw [e]; exact .inr rfl
      · rw [if_neg e] at ho
        rw [(hbase.sealed id o ho).1] at r1; cases r1

set_option maxHeartbeats 1000000 in
theorem opsL_ok (hc : CallOK P call) {ops : Array Oper} {rid l : Nat} : ∀ (lst : List Oper) (k i : Nat) (st : Bool) (env : List Value) (H : Heap) (K : Nat → Bool → List Value → Heap → Prop), opsL P call hs l Hc N len pl ops rid k lst i st env H K →
    ∀ (n : Nat) (Fc : Fr P) (wc : World) (ψc : Nat → Gh) (J0 : World → Prop) (J : Nat → Nat → World → Prop) (Jx : Nat → World → Prop), Base Fc wc ψc Hc → StabL J0 J Jx → YieldsL P Fc wc N len pl n l J Jx →
    ∀ (F : Fr P) A ψ a w (R : Exit → Act → World → Prop), GL Fc wc ψc Hc.length J0 J Jx i st F → Rel F A ψ env H a w → (∀ id, A id → id < H.length) →
    (∀ i' st' e h F' A' ψ' a' w', GL Fc wc ψc Hc.length J0 J Jx i' st' F' → K i' st' e h → Rel F' A' ψ' e h a' w' → (∀ id, A' id → id < h.length) → R .normal a' w') → wpListIn (fen none) n P ops R lst a w := by
  intro lst
  induction lst with
  | nil => intro k i st env H K h n Fc wc ψc J0 J Jx hbase hst hy F A ψ a w R hg hr hb hQ; exact hQ _ _ _ _ _ _ _ _ _ hg h hr hb
  | cons o r ih =>
    intro k i st env H K h n Fc wc ψc J0 J Jx hbase hst hy F A ψ a w R hg hr hb hQ
    simp only [opsL] at h
    simp only [wpListIn]
    rcases gP_spec h with ⟨hw, h⟩ | ⟨hw, h⟩
    · rw [wanted_ok hr hw]
      simp only [if_true]
      split at h
      · rename_i m args ha
        cases st with
        | true => exact h.elim
        | false =>
        simp only at h
        split at h
        · rename_i _ _ id ln cp cells more hrow
          obtain ⟨h1, hml, rfl, rfl, rfl, h2, h6, h7⟩ := h
          have hml := hml.symm
          subst hml
          obtain ⟨f, as, ts, ho, hf, hargs⟩ := yield_step ha
          have hfv := hr.ev f
          rw [hf] at hfv
          obtain ⟨ys, us, e1, l1, l2⟩ := hfv.func_inv
          have hys : ys = #[] := by apply Array.eq_empty_of_size_eq_zero; simpa using l1.len
          have hus : us = #[] := by apply Array.eq_empty_of_size_eq_zero; simpa using l2.len
          subst hys; subst hus
          have hlr : LR A ψ (as.toList.map (ev env)) (as.toList.map a.eval) := LR.args fun x _ => hr.ev x
          rw [← hargs] at hlr
          obtain ⟨v', hv'⟩ : ∃ v', as.toList.map a.eval = [v'] := by
            have := hlr.len
            match hm : as.toList.map a.eval with
            | [] => rw [hm] at this; simp at this
            | [v] => exact ⟨v, rfl⟩
            | _ :: _ :: _ => rw [hm] at this; simp at this
          have hvr : VR A ψ (.slice (some ⟨Hc.length, 0, none⟩) ln cp) v' := by
            have := hlr.at_ 0
            rw [hv'] at this
            exact this
          obtain ⟨hA, c, hlc, rfl⟩ := VR.slice_at hvr h2.out.1
          obtain ⟨_, e2, e3⟩ := hr.heap.live _ _ hrow
          obtain ⟨e4, arr, el, fz, e5, e6, e7, e8, e9⟩ := e3 (vd_row h2.out.2)
          have hoff := (e8 rfl).1
          rw [hoff] at hv'
          have hrealA : as.map a.eval = #[.slice (some ⟨(ψ Hc.length).blk, 0, none⟩) ln c] := by
            apply Array.ext'; simpa using hv'
          have hlent : Le.lent (ψ Hc.length).blk (pl i) w := by
            refine ⟨arr, el, fz, e5, fun j hj => ?_, fun v hv => ?_⟩
            · obtain ⟨v', z1, z2, z3⟩ := e7 j hj
              have hat : atom ((pl i).getD j poi) = true := e9 rfl _ (by rw [List.getD_eq_getElem?_getD, List.getElem?_eq_getElem hj]; exact List.getElem_mem hj)
              rw [hoff, Nat.zero_add, z3.of_atom hat] at z1
              exact z1
            · obtain ⟨j, hj, rfl⟩ := List.getElem_of_mem hv
              obtain ⟨v', z1, z2, z3⟩ := e7 j hj
              have hg' : (pl i).getD j poi = (pl i)[j] := by rw [List.getD_eq_getElem?_getD, List.getElem?_eq_getElem hj]; rfl
              have hat : atom (pl i)[j] = true := e9 rfl _ hv
              rw [hg'] at z3
              rw [z3.of_atom hat] at z2
              exact ⟨hat, z2⟩
          have hkw : KeepF Fc wc w := hg.keep_ hbase.w0 hr.heap
          have hold := hg.old_ hr.heap
          have hJ : wc.heap.size ≤ (ψ Hc.length).blk ∧ J (ψ Hc.length).blk i w := by
            rcases hg with ⟨⟨rfl, _⟩, g⟩ | ⟨_, b, g⟩
            · have hown := hr.heap.own _ _ hrow rfl (vd_row h2.out.2)
              rw [g.S] at hown
              have hown : F.w0.heap.size ≤ (ψ Hc.length).blk := by rcases hown with h | h; exact h; exact h.elim
              exact ⟨Nat.le_trans g.keep.size hown, hst.s _ _ _ g.J (g.below hr.heap) hown⟩
            · have hψ := (hr.heap.old Hc.length (by rw [g.A0]; exact Nat.lt_succ_self _)).2
              have e : (ψ Hc.length).blk = b := by rw [hψ, g.blk]
              rw [e]
              exact ⟨g.hb, hst.j _ _ _ _ (g.J rfl) (g.below hr.heap)⟩
          obtain ⟨fn, tmps, assign, body, hrun, hround⟩ := hy _ i w c hJ.2 hkw h1.out hlent hlc
          have hexec : (execOp a.eval o).run P w = .ok (.round l fn tmps assign body) w := by
            simp [execOp, ho, resolve, Deferred.ofValue, e1, invoke, hrealA, hrun]
          refine ⟨fun _ _ => trivial, ?_⟩
          show o.uponIn (fen none) n P a _ R ((execOp a.eval o).run P w)
          rw [hexec]
          refine ⟨fun h => fen_depth h, (roundIn_any hround).mono ?_⟩
          have next := fun (b : Bool) (W2 : World) (hk2 : KeepF Fc w W2) (hsame : W2.heap[(ψ Hc.length).blk]? = w.heap[(ψ Hc.length).blk]?) =>
            next_lent hbase hr hg.ds_ hold hrow h2.out.2 hJ.1 o.dst b (hkw.trans hk2) hk2.size hsame
          have hbd : ∀ id, (fun id => id < Hc.length + 1) id → id < (Hc ++ [some (AObj.row (pl i) 1 more true true)]).length := fun id hid => by
            rw [List.length_append, List.length_singleton]; exact hid
          rintro e W2 (⟨rfl, k1, k2, k3⟩ | ⟨rfl, k1, k2, k3⟩)
          · exact ih _ _ _ _ _ _ h6 n Fc wc ψc J0 J Jx hbase hst hy _ _ _ _ _ _ (.inr ⟨.inl (Nat.succ_pos _), _, ⟨rfl, rfl, rfl, hold, rfl, hkw.trans k2, hJ.1, fun _ => k1, (fun h => by cases h)⟩⟩) (next true W2 k2 k3) hbd hQ
          · exact ih _ _ _ _ _ _ h7 n Fc wc ψc J0 J Jx hbase hst hy _ _ _ _ _ _ (.inr ⟨.inr rfl, _, ⟨rfl, rfl, rfl, hold, rfl, hkw.trans k2, hJ.1, (fun h => by cases h), fun _ => k1⟩⟩) (next false W2 k2 k3) hbd hQ
        · exact h.elim
      · obtain ⟨out, s1, s2, s3⟩ := stepP_spec hc h
        obtain ⟨h1, h2⟩ := fresh_spec s2 hb
        refine oper_in (.inl rfl) (s1 F A ψ env H a w hr (fun _ _ => rfl) (fun _ _ => rfl) h1 _ _ fun ψ1 a1 w1 hr1 => ?_)
        exact ih _ _ _ _ _ _ s3 n Fc wc ψc J0 J Jx hbase hst hy F _ _ _ _ _ hg hr1 h2 hQ
    · rw [wanted_ok hr hw]
      simp only [Bool.false_eq_true, if_false]
      exact ⟨fun _ _ => trivial, ih _ _ _ _ _ _ h n Fc wc ψc J0 J Jx hbase hst hy F _ _ _ _ _ hg (skip_rel hr o.dst) hb hQ⟩

theorem codeL_ok (hm : P.follows .mixedOrders = true) (hc : CallOK P call) {l : Nat} : ∀ (c : Code) (i : Nat) (st : Bool) (env : List Value) (H : Heap) (Q : Ex → Nat → Bool → List Value → Heap → Prop),
    codeL P call hs l Hc N len pl c i st env H Q → GoesL Hc P c i st env H l N len pl Q := by
  intro c
  induction c with
  | skip => intro i st env H Q hev n Fc wc ψc J0 J Jx hbase hst hy F A ψ a w R hg hr hb hQ; exact wpIn_skip (hQ _ _ _ _ _ _ _ _ _ _ hg hev hr hb)
  | exit id => intro i st env H Q hev n Fc wc ψc J0 J Jx hbase hst hy F A ψ a w R hg hr hb hQ; exact wpIn_exit (hQ (.exit id) _ _ _ _ _ _ _ _ _ hg hev hr hb)
  | ret => intro i st env H Q hev n Fc wc ψc J0 J Jx hbase hst hy F A ψ a w R hg hr hb hQ; exact wpIn_ret (hQ .ret _ _ _ _ _ _ _ _ _ hg hev hr hb)
  | region id ops draw =>
    intro i st env H Q hev
    simp only [codeL] at hev
    split at hev
    · split at hev
      · exact hev.elim
      · intro n Fc wc ψc J0 J Jx hbase hst hy F A ψ a w R hg hr hb hQ
        exact wpIn_region_list (opsL_ok hc _ _ _ _ _ _ _ (br_only hev).2 n Fc wc ψc J0 J Jx hbase hst hy F A ψ a w R hg hr hb fun i' st' e h F' A' ψ' a' w' q0 q1 q2 q3 => hQ .normal _ _ _ _ _ _ _ _ _ q0 q1 q2 q3)
    · exact goesL_of (br_only hev).1 (codeP_okIn hm hc _ _ none _ _ _ (.inl rfl) (br_only hev).2)
  | seq x y ihx ihy =>
    intro i st env H Q hev
    simp only [codeL] at hev
    split at hev
    · intro n Fc wc ψc J0 J Jx hbase hst hy F A ψ a w R hg hr hb hQ
      refine wpIn_seq (ihx _ _ _ _ _ hev n Fc wc ψc J0 J Jx hbase hst hy F A ψ a w _ hg hr hb fun ex i' st' e h F' A' ψ' a' w' k00 k0 k1 k2 => ?_)
      cases ex with
      | normal => exact ihy _ _ _ _ _ k0 n Fc wc ψc J0 J Jx hbase hst hy F' A' ψ' a' w' R k00 k1 k2 hQ
      | exit id => exact hQ (.exit id) _ _ _ _ _ _ _ _ _ k00 k0 k1 k2
      | ret => exact hQ .ret _ _ _ _ _ _ _ _ _ k00 k0 k1 k2
    · exact goesL_of (br_only hev).1 (codeP_okIn hm hc _ _ none _ _ _ (.inl rfl) (br_only hev).2)
  | cond c x y ihx ihy =>
    intro i st env H Q hev n Fc wc ψc J0 J Jx hbase hst hy F A ψ a w R hg hr hb hQ
    simp only [codeL] at hev
    have hcv := hr.ev c
    split at hev
    · rename_i b hv
      rw [hv] at hcv
      have hce := hcv.of_atom rfl
      obtain ⟨h1, h2⟩ := br_iff.1 hev
      cases b with
      | true => have h1 := h1 rfl; rw [known_same hv] at h1; exact wpIn_cond_true hce (ihx _ _ _ _ _ h1 n Fc wc ψc J0 J Jx hbase hst hy F A ψ a w R hg hr hb hQ)
      | false => have h2 := h2 rfl; rw [known_same hv] at h2; exact wpIn_cond_false hce (ihy _ _ _ _ _ h2 n Fc wc ψc J0 J Jx hbase hst hy F A ψ a w R hg hr hb hQ)
    · exact hev.elim
  | block id c ih =>
    intro i st env H Q hev n Fc wc ψc J0 J Jx hbase hst hy F A ψ a w R hg hr hb hQ
    simp only [codeL] at hev
    refine wpIn_block (ih _ _ _ _ _ hev n Fc wc ψc J0 J Jx hbase hst hy F A ψ a w _ hg hr hb fun ex i' st' e h F' A' ψ' a' w' k00 k0 k1 k2 => ?_)
    cases ex with
    | normal => exact hQ .normal _ _ _ _ _ _ _ _ _ k00 k0 k1 k2
    | ret => exact hQ .ret _ _ _ _ _ _ _ _ _ k00 k0 k1 k2
    | exit j =>
      simp only at k0
      simp only [Ex.to, Exit.inBlock]
      split at k0
      · rename_i hi
        rw [if_pos hi]
        exact hQ .normal _ _ _ _ _ _ _ _ _ k00 k0 k1 k2
      · rename_i hi
        rw [if_neg hi]
        exact hQ (.exit j) _ _ _ _ _ _ _ _ _ k00 k0 k1 k2
  | loop c ih =>
    intro i st env H Q hev
    simp only [codeL] at hev
    split at hev
    · exact goesL_of (br_only hev).1 (codeP_okIn hm hc _ _ none _ _ _ (.inl rfl) (br_only hev).2)
    · split at hev
      · rename_i L _
        intro n Fc wc ψc J0 J Jx hbase hst hy F A ψ a w R hg hr hb hQ
        obtain ⟨⟨hz, h0⟩, h1⟩ := hev
        have hA0 : ∀ id, F.A0 id → id < Hc.length := by
          rcases hg with ⟨_, g⟩ | ⟨hph, b, g⟩
          · intro id hid; rw [g.A0] at hid; exact hid
          · exfalso
            rcases hph with hph | hph
            · omega
            · rw [hz.2] at hph; cases hph
        obtain ⟨e2, h2, A2, ψ2, g1, g2, s, g3, g4, rfl, rfl⟩ := gcP_spec h0 hr hA0 hb
        obtain ⟨rfl, rfl⟩ := hz
        have key : ∀ (m : Nat) (s : L.σ) (F : Fr P) (A : Nat → Prop) (ψ : Nat → Gh) (a : Act) (w : World), GL Fc wc ψc Hc.length J0 J Jx (L.gi s) false F → Is (L.I s) → L.m s < m → Rel F A ψ (L.E s) (L.Hp s) a w → (∀ id, A id → id < (L.Hp s).length) → Code.roundsIn (fen none) n P c R m a w := by
          intro m
          induction m with
          | zero => intro s F A ψ a w _ _ hlt _ _; omega
          | succ m ihn =>
            intro s F A ψ a w hg hI hlt hr hb
            rw [roundsIn_succ]
            refine ih _ _ _ _ _ (h1 s hI) n Fc wc ψc J0 J Jx hbase hst hy F A ψ a w _ hg hr hb fun x i' st' e h F' A' ψ' a' w' k00 k0 k1 k2 => ?_
            cases x with
            | normal =>
              obtain ⟨e3, h3, A3, ψ3, q1, q2, rfl, s', q3, q4, q5, rfl, rfl⟩ := gcP_spec k0 k1 k00.lo k2
              have := q5.out
              subst this
              exact ihn s' F' A3 ψ3 a' w' k00 q3 (by have := q4.out; omega) q1 q2
            | exit id => exact hQ (.exit id) _ _ _ _ _ _ _ _ _ k00 k0 k1 k2
            | ret => exact hQ .ret _ _ _ _ _ _ _ _ _ k00 k0 k1 k2
        have hgi := g4.out
        exact wpIn_loop_rounds _ (key _ s F A2 ψ2 a w (by rw [← hgi]; exact hg) g3 (Nat.lt_succ_self _) g1 g2)
      · exact hev.elim
  | _ => intro i st env H Q hev; simp [codeL] at hev


theorem iterL_ok (hm : P.follows .mixedOrders = true) (hc : CallOK P call) {hs : Nat → Ys P} {f : FuncId} {cap : List Value} (h : iterL P call hs Hc N len pl f cap) : Le.IterLent P f cap Hc N len pl := by
  unfold iterL at h
  split at h
  · rename_i fn hfn
    split at h
    · rename_i c hbody
      intro F A ψ w cap' hh hw hs hb hl n l J0 J Jx W hk sa ss sj sx hy hJ0
      have hst : StabL J0 J Jx := ⟨sa, ss, sj, sx⟩
      have hh' : HRel F (fun id => id < Hc.length) ψ Hc w := ⟨fun id o ho => by
        obtain ⟨a, b, c⟩ := hh.live id o ho
        exact ⟨hb id a, b, fun hv => ⟨(c hv).1, (c hv).2.mono (fun id ha => ⟨hb id ha, rfl⟩) rfl⟩⟩, hh.inj, hh.fr, hh.own, fun id hid => ⟨hb id (hh.old id hid).1, (hh.old id hid).2⟩⟩
      have hbase : Base F w ψ Hc := ⟨by
        refine ⟨hh'.live, hh'.inj, hh'.fr, hh'.own, hh'.old⟩, hw, hs⟩
      have hlen : ((.func (.yield l) #[] #[] :: cap') : List Value).toArray.size = cap.length + 1 := by simpa using hl.len
      refine callsIn_any (ro := none) (m := n) (callsIn_of_wp_marks (F := fen none) (n := n) hfn hbody trivial ?_)
      have hlr : LR (fun id => id < Hc.length) ψ (.func (.yield l) #[] #[] :: cap) (.func (.yield l) #[] #[] :: cap') := ⟨by simp [hl.len], fun i => by
        cases i with
        | zero => exact .func _ #[] #[] #[] #[] rfl rfl (fun i => by simp [Array.getD]; exact .poison _) (fun i => by simp [Array.getD]; exact .poison _)
        | succ i => exact (hl.at_ i).mono fun id ha => ⟨hb id ha, rfl⟩⟩
      refine codeL_ok hm hc c _ _ _ _ _ (h l) n F w ψ J0 J Jx hbase hst hy ⟨W, fun _ => False, fun id => id < Hc.length, ψ, []⟩ _ ψ _ W _ (.inl ⟨⟨rfl, rfl⟩, ⟨rfl, rfl, rfl, rfl, hk, hJ0⟩⟩) ⟨fun t => ?_, ?_, rfl, hbase.at_ hk⟩ (fun id h => h) fun x i st e h' F' A' ψ' a' w' k00 k0 k1 k2 => ?_
      · have hrep : LR (fun id => id < Hc.length) ψ (List.replicate (fn.ntmps - (cap.length + 1)) undef) (List.replicate (fn.ntmps - (cap.length + 1)) undef) := ⟨rfl, fun i => by
          by_cases hi : i < fn.ntmps - (cap.length + 1)
          · simp only [List.getD_eq_getElem?_getD, List.getElem?_replicate, hi, if_true, Option.getD_some]; exact .refl_undef
          · simp only [List.getD_eq_getElem?_getD, List.getElem?_replicate, hi, if_false, Option.getD_none]; exact .poison _⟩
        have := (hlr.append hrep).at_ t
        rw [hlen]
        have e2 : ((.func (.yield l) #[] #[] :: cap' : List Value).toArray ++ Array.replicate (fn.ntmps - (cap.length + 1)) undef).getD t undef = ((.func (.yield l) #[] #[] :: cap' : List Value) ++ List.replicate (fn.ntmps - (cap.length + 1)) undef).getD t undef := by
          simp [Array.getD_eq_getD_getElem?, List.getD_eq_getElem?_getD, ← List.toArray_replicate]
        rw [e2]; exact this
      · have := hl.len; simp; omega
      · have hd : a'.defers = [] := by rw [k1.defers, k00.ds_]
        have fin : finL P N fn.results.toList i st e h' → LeavesInM (fen none) n P fn a'.tmps (fun e W' => (∃ v, e = .returned v) ∧ ((∃ b, J b N W') ∨ ∃ b, Jx b W')) a'.defers .returning w' := by
          intro hfin
          rw [hd]
          unfold finL at hfin
          split at hfin
          · rename_i vs hvs
            obtain ⟨us, r1, r2⟩ := results_rel _ _ hvs k1
            have hres' : (results fn a'.tmps).run P w' = .ok (if h : us.toArray.size = 1 then us.toArray[0] else .tuple us.toArray) w' := by
              unfold results
              rw [Array.mapM_eq_mapM_toList]
              simp only [Sem.run_bind, Sem.run_map]
              rw [r1 _ (fun _ => rfl) (fun _ _ => rfl)]
              rfl
            refine ⟨_, hres', ⟨_, rfl⟩, ?_⟩
            cases st with
            | true =>
              rcases k00 with ⟨⟨_, hh⟩, _⟩ | ⟨_, b, g⟩
              · cases hh
              · exact .inr ⟨b, hst.x _ _ _ (g.Jx rfl) (g.below k1.heap)⟩
            | false =>
              obtain ⟨rfl, hpos⟩ := hfin.out
              rcases k00 with ⟨⟨hz, _⟩, _⟩ | ⟨_, b, g⟩
              · omega
              · exact .inl ⟨b, hst.j _ _ _ _ (g.J rfl) (g.below k1.heap)⟩
          · exact hfin.elim
        cases x with
        | normal => exact fin k0
        | ret => exact fin k0
        | exit id => exact k0.elim
    · exact h.elim
  · exact h.elim
end
end
end Go.Vm
end
section
/- Maps of texts whose entries are not known: what is asked of them stands as a condition. -/
namespace Go.Vm
noncomputable section
open Sp
def fMlT (P : Program) (o : Oper) (env : List Value) (H : Heap) : Option (Out × Prop) :=
  match o.op with
  | .lookup t x k false =>
    match P.underlying t, ev env x, ev env k with
    | some (.map key elem), .map (some id), .string s =>
      match P.underlying key, P.info? elem, rd H id with
      | some .string, some i, some (.smap es) =>
        match i.zero with
        | some (.bool false) => some (⟨.bool (hasK s es), [], [id], []⟩, allT es = true)
        | _ => none
      | _, _, _ => none
    | _, _, _ => none
  | _ => none
def hMlT (P : Program) : Hint P where
  fn := fMlT P
  ok := by
    intro o env H out vc h hv
    unfold fMlT at h
    split at h
    · rename_i t x k ho
      split at h
      · rename_i key elem id s h1 h2 h3
        split at h
        · rename_i i es h4 h5 h6
          split at h
          · rename_i h7
            cases h
            refine (hMl P).ok (o := o) (env := env) (H := H) (vc := True) ?_ trivial
            show fMl P o env H = some _
            unfold fMl
            simp only [ho, h1, h2, h3, h4, h5, h6, h7, hv]
          · cases h
        · cases h
      · cases h
    · cases h
def fMuT (P : Program) (o : Oper) (env : List Value) (H : Heap) : Option (Out × Prop) :=
  match o.op with
  | .mapUpdate t x k v =>
    match P.underlying t, ev env x, ev env k, ev env v with
    | some (.map key _), .map (some id), .string s, .bool true =>
      match P.underlying key, rd H id with
      | some .string, some (.smap es) => some (⟨undef, [(id, some (.smap (es ++ [(s, .bool true)])))], [id], []⟩, allT es = true ∧ hasK s es = false)
      | _, _ => none
    | _, _, _, _ => none
  | _ => none
def hMuT (P : Program) : Hint P where
  fn := fMuT P
  ok := by
    intro o env H out vc h hv
    unfold fMuT at h
    split at h
    · rename_i t x k v ho
      split at h
      · rename_i key elem id s h1 h2 h3 h9
        split at h
        · rename_i es h4 h6
          cases h
          refine (hMu P).ok (o := o) (env := env) (H := H) (vc := hasK s es = false) ?_ hv.2
          show fMu P o env H = some _
          unfold fMu
          simp only [ho, h1, h2, h3, h4, h6, h9, hv.1]
        · cases h
      · cases h
    · cases h
end
end Go.Vm
end
section
/- Maps with whole numbers for keys. -/
namespace Sp
open Go
/-- Whether a number is a key. -/
def hasI (n : Int) : List (Int × Value) → Bool
  | [] => false
  | p :: r => n == p.1 || hasI n r
/-- All that is kept is true. -/
def allI (es : List (Int × Value)) : Prop := ∀ p ∈ es, p.2 = .bool true
end Sp
namespace Go.Vm
noncomputable section
open Sp

section
variable {P : Program} {o : Oper} {env : List Value} {H : Heap}
def fMn (P : Program) (o : Oper) (_ : List Value) (H : Heap) : Option (Out × Prop) :=
  match o.op with
  | .makeMap t none =>
    match P.underlying t with
    | some (.map key _) => match P.underlying key with
      | some (.int .i64) => some (⟨.map (some H.length), [(H.length, some (.imap []))], [], [H.length]⟩, True)
      | _ => none
    | _ => none
  | _ => none

/-- A new map of numbers. -/
def hMn (P : Program) : Hint P where
  fn := fMn P
  ok := by
    intro o env H out vc h _
    unfold fMn at h
    split at h
    · rename_i t ho
      split at h
      · split at h
        · cases h
          intro F A ψ env1 H1 a w hr he hD hn K Q hK
          have hn' : ¬ A H.length := hn _ (List.mem_singleton_self _)
          unfold Oper.wp
          have hrun : (execOp a.eval o).run P w = .ok (.value (.map (some w.heap.size))) (w.alloc (.map #[] 0)) := by
            have hmk : (Instr.makeMap t none).run P w = .ok (.map (some w.heap.size)) (w.alloc (.map #[] 0)) := rfl
            simp [execOp, ho, hmk]
          rw [hrun]
          have hob : ORel (fun id => A id ∨ id = H.length) (upd ψ H.length ⟨w.heap.size, 0, 0, 0⟩) ⟨w.heap.size, 0, 0, 0⟩ (w.alloc (.map #[] 0)) (.imap []) := ⟨rfl, #[], 0, alloc_get _ _, rfl, by simp⟩
          have hv : VR (fun id => A id ∨ id = H.length) (upd ψ H.length ⟨w.heap.size, 0, 0, 0⟩) (.map (some H.length)) (.map (some w.heap.size)) := by
            have := VR.map (A := fun id => A id ∨ id = H.length) (ψ := upd ψ H.length ⟨w.heap.size, 0, 0, 0⟩) H.length (.inr rfl)
            simpa [upd] using this
          exact hK _ _ _ (hr.push (SameBut.alloc w _) (by simp) hn' rfl hob hv o.dst)
        · cases h
      · cases h
    · cases h

theorem findNow_int {k : Int} : ∀ (L : List MapEntry) (es : List (Int × Value)) (i : Nat), L.map (fun e => (e.key, e.val)) = es.map (fun p => (Value.int .i64 p.1, p.2)) → allI es →
    ∃ r, Instr.findNow (.int .i64) (.int .i64 k) L i = some r ∧ r.map (·.2) = match hasI k es with
      | true => some (.bool true)
      | false => none
  | [], [], i, _, _ => ⟨none, rfl, rfl⟩
  | [], _ :: _, i, h, _ => by simp at h
  | _ :: _, [], i, h, _ => by simp at h
  | e :: L, p :: es, i, h, ha => by
    simp only [List.map_cons, List.cons.injEq, Prod.mk.injEq] at h
    obtain ⟨⟨h1, h2⟩, h3⟩ := h
    obtain ⟨r, r1, r2⟩ := findNow_int (k := k) L es (i + 1) h3 fun q hq => ha q (List.mem_cons_of_mem _ hq)
    have hp := ha p (List.mem_cons_self ..)
    unfold Instr.findNow hasI
    rw [h1]
    cases hb : k == p.1 with
    | true => exact ⟨some (i, e.val), by simp [Instr.sameNow, hb], by simp [h2, hp]⟩
    | false => exact ⟨r, by simp [Instr.sameNow, hb, r1], by simpa using r2⟩

theorem checkKey_int {key : TypeId} {k : Int} {b : Bool} (hk : P.underlying key = some (.int .i64)) (w : World) : (Instr.checkKey b 10000 key (.int .i64 k)).run P w = .ok () w := by
  have : ∀ n, (Instr.checkKey b (n + 1) key (.int .i64 k)).run P w = .ok () w := fun n => by simp [Instr.checkKey, run_underlying hk]
  exact this 9999

def fIl (P : Program) (o : Oper) (env : List Value) (H : Heap) : Option (Out × Prop) :=
  match o.op with
  | .lookup t x k false =>
    match P.underlying t, ev env x, ev env k with
    | some (.map key elem), .map (some id), .int .i64 n =>
      match P.underlying key, P.info? elem, rd H id with
      | some (.int .i64), some i, some (.imap es) =>
        match i.zero with
        | some (.bool false) => some (⟨.bool (hasI n es), [], [id], []⟩, allI es)
        | _ => none
      | _, _, _ => none
    | _, _, _ => none
  | _ => none

def hIl (P : Program) : Hint P where
  fn := fIl P
  ok := by
    intro o env H out vc h hv
    unfold fIl at h
    split at h
    · rename_i t x k ho
      split at h
      · rename_i key elem id s hu hx hk
        split at h
        · rename_i i es hku hi hrd
          split at h
          · rename_i hz
            cases h
            refine StepOK.value fun F A ψ env1 H1 a w hr he hD => ⟨.bool (hasI s es), ?_, .atom _ rfl⟩
            have h1 := opd hr he (x := x) (by simp [ho, Op.operands])
            have h2 := opd hr he (x := k) (by simp [ho, Op.operands])
            rw [hx] at h1; rw [hk] at h2
            obtain ⟨hA, e1⟩ := h1.map_inv
            have e2 := h2.of_atom rfl
            obtain ⟨hblk, _, arr, clock, hm, hes, _⟩ := (hr.heap.live id _ ((hD id (by simp)).trans hrd)).2.2 rfl
            obtain ⟨r, r1, r2⟩ := findNow_int (k := s) arr.toList es 0 hes hv
            have hg : (getObj (ψ id).blk).run P w = .ok (.map arr clock) w := by simp [getObj, Sem.run, hm]
            have hck := checkKey_int (P := P) (key := key) (k := s) (b := arr.isEmpty) hku w
            have hfk : (Instr.findKey key (.int .i64 s) arr.toList).run P w = .ok r w := by simp [Instr.findKey, run_underlying hku, r1]
            have hzv : (zeroValue elem).run P w = .ok (.bool false) w := by simp [zeroValue, typeInfo, hi, hz]
            simp only [execOp, ho, e1, e2, Instr.lookup, Sem.run_bind, run_underlying hu, Result.andThen_ok, hg]
            cases hb : hasI s es with
            | true =>
              rw [hb] at r2
              cases r with
              | none => cases r2
              | some q =>
                have e : q.2 = Value.bool true := by simpa using r2
                simp [hck, hfk, e]
            | false =>
              rw [hb] at r2
              cases r with
              | none => simp [hck, hfk, hzv]
              | some q => cases r2
          · cases h
        · cases h
      · cases h
    · cases h

def fIu (P : Program) (o : Oper) (env : List Value) (H : Heap) : Option (Out × Prop) :=
  match o.op with
  | .mapUpdate t x k v =>
    match P.underlying t, ev env x, ev env k, ev env v with
    | some (.map key _), .map (some id), .int .i64 n, .bool true =>
      match P.underlying key, rd H id with
      | some (.int .i64), some (.imap es) => some (⟨undef, [(id, some (.imap (es ++ [(n, .bool true)])))], [id], []⟩, allI es ∧ hasI n es = false)
      | _, _ => none
    | _, _, _, _ => none
  | _ => none

def hIu (P : Program) : Hint P where
  fn := fIu P
  ok := by
    intro o env H out vc h hv
    unfold fIu at h
    split at h
    · rename_i t x k y ho
      split at h
      · rename_i key elem id s hu hx hk hy
        split at h
        · rename_i es hku hrd
          cases h
          obtain ⟨hv, hf⟩ := hv
          intro F A ψ env1 H1 a w hr he hD hn K Q hK
          have h1 := opd hr he (x := x) (by simp [ho, Op.operands])
          have h2 := opd hr he (x := k) (by simp [ho, Op.operands])
          have h3 := opd hr he (x := y) (by simp [ho, Op.operands])
          rw [hx] at h1; rw [hk] at h2; rw [hy] at h3
          obtain ⟨hA, e1⟩ := h1.map_inv
          have e2 := h2.of_atom rfl
          have e3 := h3.of_atom rfl
          have hrd1 : rd H1 id = some (.imap es) := by rw [hD id (by simp), hrd]
          obtain ⟨hblk, hoff, arr, clock, hm, hes, hall⟩ := (hr.heap.live id _ hrd1).2.2 rfl
          obtain ⟨r, r1, r2⟩ := findNow_int (k := s) arr.toList es 0 hes hv
          rw [hf] at r2
          have hr0 : r = none := by cases r <;> simp_all
          subst hr0
          have hg : (getObj (ψ id).blk).run P w = .ok (.map arr clock) w := by simp [getObj, Sem.run, hm]
          have hck := checkKey_int (P := P) (key := key) (k := s) (b := false) hku w
          have hfk : (Instr.findKey key (.int .i64 s) arr.toList).run P w = .ok none w := by simp [Instr.findKey, run_underlying hku, r1]
          have hset : (setObj (ψ id).blk (.map (arr.push { key := .int .i64 s, val := .bool true, born := clock }) (clock + 1))).run P w = .ok () { w with heap := w.heap.setIfInBounds (ψ id).blk (.map (arr.push { key := .int .i64 s, val := .bool true, born := clock }) (clock + 1)) } := by
            simp [setObj, Sem.run, hm]
          have hrun : (execOp a.eval o).run P w = .ok .skip { w with heap := w.heap.setIfInBounds (ψ id).blk (.map (arr.push { key := .int .i64 s, val := .bool true, born := clock }) (clock + 1)) } := by
            simp only [execOp, ho, e1, e2, e3, Instr.mapUpdate, Sem.run_bind, run_underlying hu, Result.andThen_ok, hg, hck, hfk, hset]
            rfl
          have hsame : SameBut w { w with heap := w.heap.setIfInBounds (ψ id).blk (.map (arr.push { key := .int .i64 s, val := .bool true, born := clock }) (clock + 1)) } (ψ id).blk :=
            ⟨rfl, rfl, rfl, by simp, fun k hk hne => by simp [Array.getElem?_setIfInBounds_ne (Ne.symm hne)]⟩
          unfold Oper.wp
          rw [hrun]
          refine hK ψ _ _ (A_nil (hr.heap_step (hr.heap.update hrd1 rfl rfl trivial hsame (o' := AObj.imap (es ++ [((s, Value.bool true) : Int × Value)])) ⟨hoff, arr.push { key := .int .i64 s, val := .bool true, born := clock }, clock + 1, by simp [hblk], ?_, ?_⟩) .refl_undef o.dst))
          · simp [hes]
          · intro p hp
            rcases List.mem_append.1 hp with hp | hp
            · exact hall p hp
            · simp only [List.mem_singleton] at hp; subst hp; rfl
        · cases h
      · cases h
    · cases h
end
end
end Go.Vm
end
section
/- Strings: two put together, a part of one. -/
namespace Sp
noncomputable section
def cat (a b : ByteArray) : ByteArray := a ++ b
def sub (s : ByteArray) (l h : Int) : ByteArray := s.extract l.toNat h.toNat
end
end Sp
namespace Go.Vm
noncomputable section
def fCc (_P : Program) (o : Oper) (env : List Value) (_ : Heap) : Option (Out × Prop) :=
  match o.op with
  | .binOp .add _ x y _ =>
    match ev env x, ev env y with
    | .string a, .string b => some (⟨.string (Sp.cat a b), [], [], []⟩, a.size + b.size ≤ 9223372036854775807)
    | _, _ => none
  | _ => none

def hCc (P : Program) : Hint P where
  fn := fCc P
  ok := by
    intro o env H out vc h hv
    unfold fCc at h
    split at h
    · rename_i t x y yt ho
      split at h
      · rename_i a b hx hy
        cases h
        refine StepOK.value fun F A ψ env1 H1 ac w hr he _ => ⟨.string (a ++ b), ?_, .atom _ rfl⟩
        have q1 := opd hr he (x := x) (by simp [ho, Op.operands])
        have q2 := opd hr he (x := y) (by simp [ho, Op.operands])
        rw [hx] at q1; rw [hy] at q2
        have e1 := q1.of_atom rfl
        have e2 := q2.of_atom rfl
        have hg : ∀ w : World, (eqGuard .add t x y (.string a) (.string b)).run P w = .ok () w := fun w => by
          unfold eqGuard; rfl
        have hb : (binOp .add t (.string a) (.string b)).run P w = .ok (.string (a ++ b)) w := by
          simp [binOp, run_string_add_sum w a b hv]
        simp only [execOp, ho, e1, e2]
        rw [Sem.run_bind, Sem.run_bind, hg, Result.andThen_ok, hb]; rfl
      · cases h
    · cases h

end
end Go.Vm
end
