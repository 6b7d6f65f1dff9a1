/- The evaluator with values that are not known: what it says is a proposition, with conditions to be shown. -/
import Derived.Test.YtaigknknfaeajaaGreatDoorVmX
namespace Go.Vm
noncomputable section

/-- No heap. -/
abbrev noH : Heap := []

/-- A condition, to be shown. -/
structure Is (p : Prop) : Prop where
  out : p

/-- A choice between two propositions. -/
def br (b : Bool) (T F : Prop) : Prop := Bool.rec (motive := fun _ => Prop) F T b

@[simp] theorem br_t {T F : Prop} : br true T F = T := rfl
@[simp] theorem br_f {T F : Prop} : br false T F = F := rfl
theorem is_iff {p : Prop} : Is p ↔ p := ⟨fun h => h.out, fun h => ⟨h⟩⟩
theorem br_iff {b : Bool} {T F : Prop} : br b T F ↔ (b = true → T) ∧ (b = false → F) := by cases b <;> simp [br]
theorem br_of {b : Bool} {T F : Prop} (h1 : b = true → T) (h2 : b = false → F) : br b T F := br_iff.2 ⟨h1, h2⟩
theorem br_true {b : Bool} {T F : Prop} (h : br b T F) (hb : b = true) : T := (br_iff.1 h).1 hb
theorem br_only {b : Bool} {T : Prop} (h : br b T False) : b = true ∧ T := by cases b <;> simp [br] at h ⊢; exact h

/-- What an operation gives under a condition. -/
structure Hint (P : Program) where
  fn : Oper → List Value → Heap → Option (Out × Prop)
  ok : ∀ {o env H out vc}, fn o env H = some (out, vc) → vc → StepOK P o env H out

/-- A loop (or a meeting point): its states, how they lie, and what goes down. -/
structure Lp where
  σ : Type
  E : σ → List Value
  Hp : σ → Heap
  I : σ → Prop
  m : σ → Nat

/-- A range over a function: the iterator, the slots, what is between two rounds, what is when a round has left. -/
structure Rf (P : Program) where
  it : It P
  k : Nat
  E : List Value
  Hp : Nat → Heap
  I : Nat → Prop := fun _ => True
  σ : Type := Empty
  Hx : σ → Heap := fun _ => []
  Ix : σ → Prop := fun _ => False
  conc : Bool := false

/-- For the first n numbers, one by one. -/
def allN : Nat → (Nat → Prop) → Prop
  | 0, _ => True
  | n + 1, f => allN n f ∧ f n

theorem allN_spec : ∀ {n : Nat} {f : Nat → Prop}, allN n f → ∀ i, i < n → f i
  | 0, _, _, _, h => by omega
  | n + 1, f, ⟨h1, h2⟩, i, h => by
    rcases Nat.lt_succ_iff_lt_or_eq.1 h with h | rfl
    · exact allN_spec h1 i h
    · exact h2

/-- Each round. -/
def eachRound (conc : Bool) (N : Nat) (I : Nat → Prop) (f : Nat → Prop) : Prop :=
  match conc with
  | false => ∀ i, Is (I i) → Is (i < N) → f i
  | true => allN N fun i => Is (I i) → f i

theorem eachRound_spec {conc : Bool} {N : Nat} {I f : Nat → Prop} (h : eachRound conc N I f) : ∀ i, Is (I i) → Is (i < N) → f i := by
  cases conc with
  | false => exact h
  | true => exact fun i h1 h2 => allN_spec h i h2.out h1

/-- What an operation gives, in two cases. -/
structure HintB (P : Program) where
  fn : Oper → List Value → Heap → Option (Bool × Out × Out)
  ok : ∀ {o env H b o1 o2}, fn o env H = some (b, o1, o2) → (b = true → StepOK P o env H o1) ∧ (b = false → StepOK P o env H o2)

/-- The next letter of a text, or its end. -/
def fNx (o : Oper) (env : List Value) (H : Heap) : Option (Bool × Out × Out) :=
  match o.op with
  | .next x true =>
    match ev env x with
    | .pointer (some ⟨id, 0, none⟩) =>
      match rd H id with
      | some (.iter s pos) => some (decide (pos < s.size), ⟨.tuple #[.bool true, goInt pos, .int .i32 (Utf8.decode s pos).1], [(id, some (.iter s (pos + (Utf8.decode s pos).2)))], [id], []⟩, ⟨.tuple #[.bool false], [], [id], []⟩)
      | _ => none
    | _ => none
  | _ => none

def hNx (P : Program) : HintB P where
  fn := fNx
  ok := by
    intro o env H b o1 o2 h
    unfold fNx at h
    split at h
    · rename_i x ho
      split at h
      · rename_i id hx
        split at h
        · rename_i s pos hrd
          cases h
          refine ⟨fun hb => next_ok ho ?_, fun hb => next_ok ho ?_⟩
          · have hb := of_decide_eq_true hb
            simp only [evNext, hx, hrd, if_pos hb]
          · have hb := of_decide_eq_false hb
            simp only [evNext, hx, hrd, if_neg hb]
        · cases h
      · cases h
    · cases h

def autoB (P : Program) (o : Oper) : Option (HintB P) :=
  match o.op with
  | .next _ true => some (hNx P)
  | _ => none

structure Hs (P : Program) where
  op : Nat → Option (Hint P) := fun _ => none
  bo : Oper → Option (HintB P) := autoB P
  rf : Nat → Option (Rf P) := fun _ => none
  lp : Nat → Option Lp := fun _ => none
  lq : Nat → Option ((π : Type) × (π → Lp)) := fun _ => none
  cut : Nat → Option Lp := fun _ => none
  cl : Nat → List Bool := fun _ => []
  nl : Nat → List Nl := fun _ => []
  rn : List Nl := []
  au : Oper → Option (Hint P) := fun _ => none

def Hs.pick {P : Program} (hs : Hs P) (k : Nat) (o : Oper) : Option (Hint P) :=
  match hs.op k with
  | some h => some h
  | none => hs.au o

section
variable (P : Program) (call : CallF) (hs : Hs P)

def gP (ops : Array Oper) (env : List Value) (o : Oper) (T F : List Value → Prop) : Prop :=
  match o.guard with
  | none => T env
  | some (j, want) =>
    match (ops[j]?).bind (·.dst) with
    | none => F env
    | some t =>
      match gt env t with
      | .bool b => br b (br want (T (st env t (.bool true))) (F (st env t (.bool true)))) (br want (F (st env t (.bool false))) (T (st env t (.bool false))))
      | .tuple l => if l.toList.isEmpty then F env else False
      | _ => False

/-- A slot that is known from here on. -/
def known (env : List Value) (c : Operand) (b : Bool) : List Value :=
  match c with
  | .tmp t => st env t (.bool b)
  | _ => env

def step1P (hint : Option (Hint P)) (env : List Value) (H : Heap) (o : Oper) (k : Out → Prop) : Prop :=
  match hint with
  | some h =>
    match h.fn o env H with
    | some (out, vc) => Is vc ∧ br (freshOK H out) (k out) False
    | none =>
      match evStep P call env H H.length o with
      | some out => br (freshOK H out) (k out) False
      | none => False
  | none =>
    match evStep P call env H H.length o with
    | some out => br (freshOK H out) (k out) False
    | none => False

def stepP (key : Nat) (env : List Value) (H : Heap) (o : Oper) (k : Out → Prop) : Prop :=
  match hs.bo o with
  | some hb =>
    match hb.fn o env H with
    | some (b, o1, o2) => br b (br (freshOK H o1) (k o1) False) (br (freshOK H o2) (k o2) False)
    | none => False
  | none => step1P P call (hs.pick key o) env H o k

def opsP (ops : Array Oper) : Nat → List Oper → List Value → Heap → (List Value → Heap → Prop) → Prop
  | _, [], env, H, K => K env H
  | k, o :: r, env, H, K =>
    gP ops env o
      (fun env => stepP P call hs k env H o fun out => opsP ops (k + 1) r (put env o.dst out.v) (ap H out.δ) K)
      (fun env => opsP ops (k + 1) r (put env o.dst undef) H K)

def drawP (ops : Array Oper) (base : Nat) : Nat → List Oper → List Value → Heap → (List Value → Heap → List Tri → Prop) → Prop
  | _, [], env, H, K => K env H []
  | k, o :: r, env, H, K =>
    gP ops env o
      (fun env => stepP P call hs (base + k) env H o fun out => drawP ops base (k + 1) r (put env o.dst out.v) (ap H out.δ) fun e h L => K e h ((k, o, ⟨env, H, true, out⟩) :: L))
      (fun env => drawP ops base (k + 1) r (put env o.dst undef) H fun e h L => K e h ((k, o, ⟨env, H, false, noOut⟩) :: L))

def firstRid : Code → Nat
  | .region id _ _ => id
  | .seq x _ => firstRid x
  | .block _ c => firstRid c
  | .loop c => firstRid c
  | .scope c => firstRid c
  | .cond _ x _ => firstRid x
  | _ => 0

/-- To a state of a loop. -/
def gcP (base : Nat) (cl : List Bool) (nl : List Nl) (env : List Value) (H : Heap) (K : List Value → Heap → Prop) : Prop :=
  match gc base (clr cl env) H with
  | some (e, h) =>
    match nl with
    | [] => K e h
    | x :: r => match gc base (lst (x :: r) e h).1 (lst (x :: r) e h).2 with
      | some (e, h) => K e h
      | none => False
  | none => False

/-- A loop without an invariant, some rounds of it. -/
def iterP (base : Nat) (cl : List Bool) (nl : List Nl) (step : List Value → Heap → (Ex → List Value → Heap → Prop) → Prop) (Q : Ex → List Value → Heap → Prop) : Nat → List Value → Heap → Prop
  | 0, _, _ => False
  | n + 1, env, H => gcP base cl nl env H fun e h => step e h fun x e' h' =>
    match x with
    | .normal => iterP base cl nl step Q n e' h'
    | x => Q x e' h'

def loopP (L : Lp) (base : Nat) (cl : List Bool) (nl : List Nl) (step : List Value → Heap → (Ex → List Value → Heap → Prop) → Prop) (Q : Ex → List Value → Heap → Prop) (env : List Value) (H : Heap) : Prop :=
  (gcP base cl nl env H fun e h => ∃ s, Is (L.I s) ∧ e = L.E s ∧ h = L.Hp s) ∧
  ∀ s, Is (L.I s) → step (L.E s) (L.Hp s) fun x e' h' =>
    match x with
    | .normal => gcP base cl nl e' h' fun e h => ∃ s', Is (L.I s') ∧ Is (L.m s' < L.m s) ∧ e = L.E s' ∧ h = L.Hp s'
    | x => Q x e' h'

def codeP : Nat → Code → List Value → Heap → (Ex → List Value → Heap → Prop) → Prop
  | _, .skip, env, H, Q => Q .normal env H
  | _, .label _, env, H, Q => Q .normal env H
  | _, .region id ops draw, env, H, Q =>
    match draw with
    | true => drawP P call hs ops (id * 100) 0 ops.toList env H fun e h L => br (drawOK ops L) (Q .normal e h) False
    | false => opsP P call hs ops (id * 100) ops.toList env H fun e h => Q .normal e h
  | base, .seq x y, env, H, Q =>
    match hs.cut (firstRid y) with
    | none => codeP base x env H fun ex e h =>
      match ex with
      | .normal => codeP base y e h Q
      | ex => Q ex e h
    | some L =>
      (codeP base x env H fun ex e h =>
        match ex with
        | .normal => gcP base (hs.cl (firstRid y)) (hs.nl (firstRid y)) e h fun e h => ∃ s, Is (L.I s) ∧ e = L.E s ∧ h = L.Hp s
        | ex => Q ex e h) ∧
      ∀ s, Is (L.I s) → codeP base y (L.E s) (L.Hp s) Q
  | base, .cond c x y, env, H, Q =>
    match ev env c with
    | .bool b => br b (codeP base x (known env c true) H Q) (codeP base y (known env c false) H Q)
    | _ => False
  | base, .block id c, env, H, Q => codeP base c env H fun ex e h =>
    match ex with
    | .exit i => if i = id then Q .normal e h else Q (.exit i) e h
    | ex => Q ex e h
  | base, .loop c, env, H, Q =>
    match hs.lp (firstRid c) with
    | some L => loopP L base (hs.cl (firstRid c)) (hs.nl (firstRid c)) (codeP base c) Q env H
    | none =>
      match hs.lq (firstRid c) with
      | some q => ∃ p, loopP (q.2 p) base (hs.cl (firstRid c)) (hs.nl (firstRid c)) (codeP base c) Q env H
      | none => iterP base (hs.cl (firstRid c)) (hs.nl (firstRid c)) (codeP base c) Q 64 env H
  | base, .scope c, env, H, Q => codeP base c env H Q
  | _, .exit id, env, H, Q => Q (.exit id) env H
  | _, .ret, env, H, Q => Q .ret env H
  | base, .rangeFunc g ps assign body, env, H, Q =>
    match hs.rf (firstRid body) with
    | some R =>
      gcP base (hs.cl (firstRid body)) (hs.nl (firstRid body)) env H fun e h =>
        e = R.E ∧ sealH (reach h 1000 (idsV 4 (ev e g)) []) h = R.Hp 0 ∧
        match ev R.E g with
        | .func (.func gf) xs cap =>
          br (decide (gf = R.it.gf) && xs.toList.isEmpty && callable P gf && plainC assign && plainC body && decide (base ≤ R.k))
            (R.E.map (renV (lowρ R.k) 4) = R.E ∧
              match R.it.fn (cap.toList.map (renV (pos (reach (R.Hp 0) 1000 (cap.toList.flatMap (idsV 4)) [])) 4)) (resH (R.Hp 0) (reach (R.Hp 0) 1000 (cap.toList.flatMap (idsV 4)) [])) with
              | some (N, el, vc) =>
                Is vc ∧ Is (R.I 0) ∧
                br (nodupB (reach (R.Hp 0) 1000 (cap.toList.flatMap (idsV 4)) []) && allSealed (resH (R.Hp 0) (reach (R.Hp 0) 1000 (cap.toList.flatMap (idsV 4)) [])))
                  ((eachRound R.conc N R.I fun i => br (Nat.beq (el i).length ps.size && (el i).all ground)
                      (codeP R.k assign (setAll ps.toList (el i) R.E) (R.Hp i) (thenN fun e h => codeP R.k body e h (rfPost R.k R.Hp (fun i => Is (R.I i)) R.Hx (fun s => Is (R.Ix s)) i))) False) ∧
                    (Is (R.I N) → Q .normal R.E (R.Hp N)) ∧ ∀ s, Is (R.Ix s) → Q .ret R.E (R.Hx s)) False
              | none => False) False
        | _ => False
    | none => False
  | _, _, _, _, _ => False

def finP (rn : List Nl) (n : Nat) (rs : List ResultVar) (K : Value → Heap → Prop) (e : List Value) (h : Heap) : Prop :=
  match evResultL P e h rs with
  | some vs =>
    match tidy n (one (lst rn vs h).1) (lst rn vs h).2 with
    | some (v, h') => K v h'
    | none => False
  | none => False

def fnP (f : FuncId) (args : List Value) (H : Heap) (K : Value → Heap → Prop) : Prop :=
  match P.funcs[f]? with
  | some fn =>
    match fn.body with
    | some c => codeP P call hs H.length c (args ++ List.replicate (fn.ntmps - args.length) undef) H fun x e h =>
      match x with
      | .normal => finP P hs.rn H.length fn.results.toList K e h
      | .ret => finP P hs.rn H.length fn.results.toList K e h
      | _ => False
    | none => False
  | none => False
end

section
variable {P : Program} {call : CallF} {hs : Hs P} {F : Fr P} {A : Nat → Prop} {ψ : Nat → Gh} {a : Act} {w : World}

theorem st_same {env : List Value} {t : Nat} {b : Bool} (h : gt env t = .bool b) : st env t (.bool b) = env := by
  rw [st_eq]
  rw [gt_eq] at h
  by_cases ht : t < env.length
  · have : env[t] = .bool b := by simpa [List.getD_eq_getElem?_getD, ht] using h
    rw [← this]; exact List.set_getElem_self ht
  · rw [List.set_eq_of_length_le (by omega)]

theorem known_same {env : List Value} {c : Operand} {b : Bool} (h : ev env c = .bool b) : known env c b = env := by
  unfold known
  split
  · exact st_same h
  · rfl

theorem gP_spec {ops : Array Oper} {env : List Value} {o : Oper} {T G : List Value → Prop} (h : gP ops env o T G) : (wantedA ops env o = some true ∧ T env) ∨ (wantedA ops env o = some false ∧ G env) := by
  unfold gP at h
  unfold wantedA
  split at h
  · rename_i hg; rw [hg]; exact .inl ⟨rfl, h⟩
  · rename_i j want hg
    rw [hg]
    simp only
    split at h
    · rename_i hd; rw [hd]; exact .inr ⟨rfl, h⟩
    · rename_i t hd
      rw [hd]
      simp only
      split at h
      · rename_i b hb
        rw [hb]
        simp only
        cases b with
        | true =>
          simp only [st_same hb] at h
          cases want
          · exact .inr ⟨rfl, h⟩
          · exact .inl ⟨rfl, h⟩
        | false =>
          simp only [st_same hb] at h
          cases want
          · exact .inl ⟨rfl, h⟩
          · exact .inr ⟨rfl, h⟩
      · rename_i l hl
        rw [hl]
        simp only
        split at h
        · rename_i he; rw [if_pos he]; exact .inr ⟨rfl, h⟩
        · exact h.elim
      · exact h.elim

theorem step1P_spec (hc : CallOK P call) {hint : Option (Hint P)} {env : List Value} {H : Heap} {o : Oper} {k : Out → Prop} (h : step1P P call hint env H o k) :
    ∃ out, StepOK P o env H out ∧ freshOK H out = true ∧ k out := by
  unfold step1P at h
  split at h
  · rename_i hh
    split at h
    · rename_i out vc hf
      obtain ⟨h1, h2⟩ := h
      have := br_only h2
      exact ⟨out, hh.ok hf h1.out, this.1, this.2⟩
    · split at h
      · rename_i out hev
        have := br_only h
        exact ⟨out, evStep_ok hc hev, this.1, this.2⟩
      · exact h.elim
  · split at h
    · rename_i out hev
      have := br_only h
      exact ⟨out, evStep_ok hc hev, this.1, this.2⟩
    · exact h.elim

theorem stepP_spec (hc : CallOK P call) {key : Nat} {env : List Value} {H : Heap} {o : Oper} {k : Out → Prop} (h : stepP P call hs key env H o k) :
    ∃ out, StepOK P o env H out ∧ freshOK H out = true ∧ k out := by
  unfold stepP at h
  split at h
  · rename_i hb _
    split at h
    · rename_i b o1 o2 hf
      obtain ⟨h1, h2⟩ := br_iff.1 h
      obtain ⟨k1, k2⟩ := hb.ok hf
      cases b with
      | true => have := br_only (h1 rfl); exact ⟨o1, k1 rfl, this.1, this.2⟩
      | false => have := br_only (h2 rfl); exact ⟨o2, k2 rfl, this.1, this.2⟩
    · exact h.elim
  · exact step1P_spec hc h

theorem opsP_ok (hc : CallOK P call) {ops : Array Oper} : ∀ (l : List Oper) (k : Nat) (env : List Value) (H : Heap) (K : List Value → Heap → Prop), opsP P call hs ops k l env H K →
    ∀ (F : Fr P) A ψ a w (Q : Exit → Act → World → Prop), Rel F A ψ env H a w → (∀ id, A id → id < H.length) →
      (∀ e h A' ψ' a' w', K e h → Rel F A' ψ' e h a' w' → (∀ id, A' id → id < h.length) → Q .normal a' w') → wpList P ops Q l a w := by
  intro l
  induction l with
  | nil => intro k env H K h F A ψ a w Q hr hb hQ; exact hQ _ _ _ _ _ _ h hr hb
  | cons o r ih =>
    intro k env H K h F A ψ a w Q hr hb hQ
    simp only [opsP] at h
    simp only [wpList]
    rcases gP_spec h with ⟨hw, h⟩ | ⟨hw, h⟩
    · rw [wanted_ok hr hw]
      simp only [if_true]
      obtain ⟨out, s1, s2, s3⟩ := stepP_spec hc h
      obtain ⟨h1, h2⟩ := fresh_spec s2 hb
      refine .inl (s1 F A ψ env H a w hr (fun _ _ => rfl) (fun _ _ => rfl) h1 _ _ fun ψ1 a1 w1 hr1 => ?_)
      exact ih _ _ _ _ s3 _ _ _ _ _ _ hr1 h2 hQ
    · rw [wanted_ok hr hw]
      simp only [Bool.false_eq_true, if_false]
      exact ih _ _ _ _ h _ _ _ _ _ _ (skip_rel hr o.dst) hb hQ

theorem drawP_ok (hc : CallOK P call) {ops : Array Oper} {base : Nat} : ∀ (l : List Oper) (k : Nat) (env : List Value) (H : Heap) (K : List Value → Heap → List Tri → Prop), drawP P call hs ops base k l env H K →
    ∃ e h L, Trace P ops L env H e h ∧ L.map (·.2.1) = l ∧ L.map (·.1) = List.range' k l.length ∧ K e h L := by
  intro l
  induction l with
  | nil => intro k env H K h; exact ⟨env, H, [], ⟨rfl, rfl⟩, rfl, rfl, h⟩
  | cons o r ih =>
    intro k env H K h
    simp only [drawP] at h
    rcases gP_spec h with ⟨hw, h⟩ | ⟨hw, h⟩
    · obtain ⟨out, s1, s2, s3⟩ := stepP_spec hc h
      obtain ⟨e, h', L, t1, t2, t3, t4⟩ := ih _ _ _ _ s3
      exact ⟨e, h', (k, o, ⟨env, H, true, out⟩) :: L, ⟨rfl, rfl, hw, fun _ => ⟨s1, s2⟩, (fun hh => by cases hh), t1⟩, by simp [t2], by simp [t3, List.range'_succ], t4⟩
    · obtain ⟨e, h', L, t1, t2, t3, t4⟩ := ih _ _ _ _ h
      exact ⟨e, h', (k, o, ⟨env, H, false, noOut⟩) :: L, ⟨rfl, rfl, hw, (fun hh => by cases hh), fun _ => rfl, t1⟩, by simp [t2], by simp [t3, List.range'_succ], t4⟩

theorem gcP_spec {base : Nat} {cl : List Bool} {nl : List Nl} {env : List Value} {H : Heap} {K : List Value → Heap → Prop} (h : gcP base cl nl env H K) (hr : Rel F A ψ env H a w) (hF : ∀ id, F.A0 id → id < base) :
    ∃ e h A' ψ', Rel F A' ψ' e h a w ∧ (∀ id, A' id → id < h.length) ∧ K e h := by
  unfold gcP at h
  split at h
  · rename_i e h' hg
    obtain ⟨A', ψ', g1, g2⟩ := gc_rel hg (clr_rel hr cl) hF
    split at h
    · exact ⟨e, h', A', ψ', g1, g2, h⟩
    · rename_i x r
      split at h
      · rename_i e2 h2 hg2
        obtain ⟨A2, ψ2, k1, _⟩ := lst_rel (x :: r) g1 g2
        obtain ⟨A3, ψ3, k3, k4⟩ := gc_rel hg2 k1 hF
        exact ⟨e2, h2, A3, ψ3, k3, k4, h⟩
      · exact h.elim
  · exact h.elim

theorem codeP_okIn (hm : P.follows .mixedOrders = true) (hc : CallOK P call) : ∀ (c : Code) (base : Nat) (ro : Option Nat) (env : List Value) (H : Heap) (Q : Ex → List Value → Heap → Prop), (ro = none ∨ plainC c = true) →
    codeP P call hs base c env H Q → GoesIn ro P base c env H Q := by
  intro c
  induction c with
  | skip => intro base ro env H Q _ hev n F A ψ a w R hr hb hF hQ; exact wpIn_skip (hQ _ _ _ _ _ _ _ _ (ExtP.refl _ F) hev hr hb)
  | label l => intro base ro env H Q _ hev n F A ψ a w R hr hb hF hQ; exact wpIn_label (hQ _ _ _ _ _ _ _ _ (ExtP.refl _ F) hev hr hb)
  | exit id => intro base ro env H Q _ hev n F A ψ a w R hr hb hF hQ; exact wpIn_exit (hQ (.exit id) _ _ _ _ _ _ _ (ExtP.refl _ F) hev hr hb)
  | ret => intro base ro env H Q _ hev n F A ψ a w R hr hb hF hQ; exact wpIn_ret (hQ .ret _ _ _ _ _ _ _ (ExtP.refl _ F) hev hr hb)
  | region id ops draw =>
    intro base ro env H Q hpl hev n F A ψ a w R hr hb hF hQ
    have hd : ro = none ∨ noDef ops.toList = true := hpl
    simp only [codeP] at hev
    cases draw with
    | true =>
      simp only at hev
      obtain ⟨e, h, L, t1, t2, t3, t4⟩ := drawP_ok hc _ _ _ _ _ hev
      obtain ⟨hok, t5⟩ := br_only t4
      refine onlyN_mono (wpIn_region_any hm (wpAny_in hd _ _ _ _ ?_))
      have hsz : ops.toList.length = ops.size := by simp
      rw [hsz] at t3
      have hSS : inS (Array.replicate ops.size false) = fun _ => false := by
        funext i
        simp only [inS, Array.getD_eq_getD_getElem?, Array.getElem?_replicate]
        split <;> rfl
      have hrel : Rel F (AS A L (inS (Array.replicate ops.size false))) ψ (envS (inS (Array.replicate ops.size false)) L env) (hS (inS (Array.replicate ops.size false)) L H) a { w with drawn := w.drawn + 1 } := by
        rw [hSS]
        have n1 : ∀ (M : List Tri) (e : List Value), envS (fun _ => false) M e = e := by
          intro M; induction M with
          | nil => intro e; rfl
          | cons z M ih => intro e; obtain ⟨_, _, _⟩ := z; simp only [envS]; exact ih _
        have n2 : ∀ (M : List Tri) (e : Heap), hS (fun _ => false) M e = e := by
          intro M; induction M with
          | nil => intro e; rfl
          | cons z M ih => intro e; obtain ⟨_, _, _⟩ := z; simp only [hS]; exact ih _
        rw [n1, n2]
        have : AS A L (fun _ => false) = A := by
          funext id; simp [AS]
        rw [this]
        exact ⟨hr.slot, hr.len, hr.defers, hr.heap.alike rfl rfl rfl rfl⟩
      refine any_ok t1 t2 t3 hok hb (F := F) (Q := onlyN R) (fun A' ψ' a' w' h1 h2 => hQ .normal e h F A' ψ' a' w' (ExtP.refl _ F) t5 h1 h2) ops.size _ ψ a _ (by simp) (fun j o _ hj => ?_) ?_ hrel
      · rw [hSS] at hj; cases hj
      · exact Nat.le_trans (List.length_filter_le _ _) (by simp)
    | false =>
      simp only at hev
      exact onlyN_mono (wpIn_region_list (wpList_in _ hd _ _ (opsP_ok hc _ _ _ _ _ hev F A ψ a w (onlyN R) hr hb (fun e h A' ψ' a' w' h0 h1 h2 => hQ .normal e h F A' ψ' a' w' (ExtP.refl _ F) h0 h1 h2))))
  | seq x y ihx ihy =>
    intro base ro env H Q hpl hev n F A ψ a w R hr hb hF hQ
    have wx : plainC (.seq x y) = true → plainC x = true := fun h => by simp only [plainC, Bool.and_eq_true] at h; exact h.1
    have wy : plainC (.seq x y) = true → plainC y = true := fun h => by simp only [plainC, Bool.and_eq_true] at h; exact h.2
    have hpx : ro = none ∨ plainC x = true := hpl.imp id wx
    have hpy : ro = none ∨ plainC y = true := hpl.imp id wy
    simp only [codeP] at hev
    split at hev
    · refine wpIn_seq (ihx _ _ _ _ _ hpx hev n F A ψ a w _ hr hb hF fun ex e h F' A' ψ' a' w' k00 k0 k1 k2 => ?_)
      cases ex with
      | normal => exact ihy _ _ _ _ _ hpy k0 n F' A' ψ' a' w' R k1 k2 (by rw [k00.x.A0]; exact hF) fun x e h F2 A2 ψ2 a2 w2 q0 => hQ x e h F2 A2 ψ2 a2 w2 ((k00.weak wx).trans (q0.weak wy))
      | exit id => exact hQ (.exit id) _ _ _ _ _ _ _ (k00.weak wx) k0 k1 k2
      | ret => exact hQ .ret _ _ _ _ _ _ _ (k00.weak wx) k0 k1 k2
    · rename_i L _
      refine wpIn_seq (ihx _ _ _ _ _ hpx hev.1 n F A ψ a w _ hr hb hF fun ex e h F' A' ψ' a' w' k00 k0 k1 k2 => ?_)
      cases ex with
      | normal =>
        have hF' : ∀ id, F'.A0 id → id < base := by rw [k00.x.A0]; exact hF
        obtain ⟨e2, h2, A2, ψ2, g1, g2, s, g3, rfl, rfl⟩ := gcP_spec k0 k1 hF'
        exact ihy _ _ _ _ _ hpy (hev.2 s g3) n F' A2 ψ2 a' w' R g1 g2 hF' fun x e h F2 A2 ψ2 a2 w2 q0 => hQ x e h F2 A2 ψ2 a2 w2 ((k00.weak wx).trans (q0.weak wy))
      | exit id => exact hQ (.exit id) _ _ _ _ _ _ _ (k00.weak wx) k0 k1 k2
      | ret => exact hQ .ret _ _ _ _ _ _ _ (k00.weak wx) k0 k1 k2
  | cond c x y ihx ihy =>
    intro base ro env H Q hpl hev n F A ψ a w R hr hb hF hQ
    have wx : plainC (.cond c x y) = true → plainC x = true := fun h => by simp only [plainC, Bool.and_eq_true] at h; exact h.1
    have wy : plainC (.cond c x y) = true → plainC y = true := fun h => by simp only [plainC, Bool.and_eq_true] at h; exact h.2
    have hpx : ro = none ∨ plainC x = true := hpl.imp id wx
    have hpy : ro = none ∨ plainC y = true := hpl.imp id wy
    simp only [codeP] at hev
    have hcv := hr.ev c
    split at hev
    · rename_i b hv
      rw [hv] at hcv
      have hce := hcv.of_atom rfl
      obtain ⟨h1, h2⟩ := br_iff.1 hev
      cases b with
      | true => have h1 := h1 rfl; rw [known_same hv] at h1; exact wpIn_cond_true hce (ihx _ _ _ _ _ hpx h1 n F A ψ a w R hr hb hF fun x e h F2 A2 ψ2 a2 w2 q0 => hQ x e h F2 A2 ψ2 a2 w2 (q0.weak wx))
      | false => have h2 := h2 rfl; rw [known_same hv] at h2; exact wpIn_cond_false hce (ihy _ _ _ _ _ hpy h2 n F A ψ a w R hr hb hF fun x e h F2 A2 ψ2 a2 w2 q0 => hQ x e h F2 A2 ψ2 a2 w2 (q0.weak wy))
    · exact hev.elim
  | block id c ih =>
    intro base ro env H Q hpl hev n F A ψ a w R hr hb hF hQ
    simp only [codeP] at hev
    refine wpIn_block (ih _ _ _ _ _ hpl hev n F A ψ a w _ hr hb hF fun ex e h F' A' ψ' a' w' k00 k0 k1 k2 => ?_)
    cases ex with
    | normal => exact hQ .normal _ _ _ _ _ _ _ k00 k0 k1 k2
    | ret => exact hQ .ret _ _ _ _ _ _ _ k00 k0 k1 k2
    | exit i =>
      simp only at k0
      simp only [Ex.to, Exit.inBlock]
      split at k0
      · rename_i hi
        rw [if_pos hi]
        exact hQ .normal _ _ _ _ _ _ _ k00 k0 k1 k2
      · rename_i hi
        rw [if_neg hi]
        exact hQ (.exit i) _ _ _ _ _ _ _ k00 k0 k1 k2
  | loop c ih =>
    intro base ro env H Q hpl hev n F A ψ a w R hr hb hF hQ
    have hpl : ro = none ∨ plainC c = true := hpl
    simp only [codeP] at hev
    have lo : ∀ L : Lp, loopP L base (hs.cl (firstRid c)) (hs.nl (firstRid c)) (codeP P call hs base c) Q env H → Code.wpIn (fen ro) n P (.loop c) R a w := by
      intro L hev
      obtain ⟨h0, h1⟩ := hev
      obtain ⟨e2, h2, A2, ψ2, g1, g2, s, g3, rfl, rfl⟩ := gcP_spec h0 hr hF
      have key : ∀ (m : Nat) (s : L.σ) (Fc : Fr P) (A : Nat → Prop) (ψ : Nat → Gh) (a : Act) (w : World), ExtP (plainC c) F Fc → Is (L.I s) → L.m s < m → Rel Fc A ψ (L.E s) (L.Hp s) a w → (∀ id, A id → id < (L.Hp s).length) → Code.roundsIn (fen ro) n P c R m a w := by
        intro m
        induction m with
        | zero => intro s Fc A ψ a w _ _ hlt _ _; omega
        | succ m ihn =>
          intro s Fc A ψ a w hx hI hlt hr hb
          have hFc : ∀ id, Fc.A0 id → id < base := by rw [hx.x.A0]; exact hF
          rw [roundsIn_succ]
          refine ih _ _ _ _ _ hpl (h1 s hI) n Fc A ψ a w _ hr hb hFc fun x e h F' A' ψ' a' w' k00 k0 k1 k2 => ?_
          have hF' : ∀ id, F'.A0 id → id < base := by rw [k00.x.A0]; exact hFc
          cases x with
          | normal =>
            obtain ⟨e3, h3, A3, ψ3, q1, q2, s', q3, q4, rfl, rfl⟩ := gcP_spec k0 k1 hF'
            exact ihn s' F' A3 ψ3 a' w' (hx.trans k00) q3 (by have := q4.out; omega) q1 q2
          | exit id => exact hQ (.exit id) _ _ _ _ _ _ _ (hx.trans k00) k0 k1 k2
          | ret => exact hQ .ret _ _ _ _ _ _ _ (hx.trans k00) k0 k1 k2
      exact wpIn_loop_rounds _ (key _ s F A2 ψ2 a w (ExtP.refl _ F) g3 (Nat.lt_succ_self _) g1 g2)
    split at hev
    · exact lo _ hev
    split at hev
    · exact hev.elim fun p hp => lo _ hp
    · generalize 64 = m at hev
      have key : ∀ (m : Nat) (env : List Value) (H : Heap) (Fc : Fr P) (A : Nat → Prop) (ψ : Nat → Gh) (a : Act) (w : World), ExtP (plainC c) F Fc → iterP base (hs.cl (firstRid c)) (hs.nl (firstRid c)) (codeP P call hs base c) Q m env H → Rel Fc A ψ env H a w → Code.roundsIn (fen ro) n P c R m a w := by
        intro m
        induction m with
        | zero => intro env H Fc A ψ a w _ h1 _; exact h1.elim
        | succ m ihn =>
          intro env H Fc A ψ a w hx h1 hr
          have hFc : ∀ id, Fc.A0 id → id < base := by rw [hx.x.A0]; exact hF
          simp only [iterP] at h1
          obtain ⟨e2, h2, A2, ψ2, g1, g2, g3⟩ := gcP_spec h1 hr hFc
          rw [roundsIn_succ]
          refine ih _ _ _ _ _ hpl g3 n Fc A2 ψ2 a w _ g1 g2 hFc fun x e h F' A' ψ' a' w' k00 k0 k1 k2 => ?_
          cases x with
          | normal => exact ihn _ _ _ _ _ _ _ (hx.trans k00) k0 k1
          | exit id => exact hQ (.exit id) _ _ _ _ _ _ _ (hx.trans k00) k0 k1 k2
          | ret => exact hQ .ret _ _ _ _ _ _ _ (hx.trans k00) k0 k1 k2
      exact wpIn_loop_rounds m (key m env H F A ψ a w (ExtP.refl _ F) hev hr)
  | scope c ih =>
    intro base ro env H Q hpl hev n F A ψ a w R hr hb hF hQ
    have hro : ro = none := by rcases hpl with h | h; exact h; cases h
    subst hro
    simp only [codeP] at hev
    refine (wpIn_wide (n := n)).2 (wp_scope_straight ((wpIn_wide (n := n)).1 (ih _ none _ _ _ (.inl rfl) hev n F A ψ a w _ hr hb hF fun x e h F' A' ψ' a' w' k00 k0 k1 k2 => ?_)))
    cases x with
    | normal => exact hQ .normal _ _ _ _ _ _ _ (k00.weak fun h => by cases h) k0 k1 k2
    | exit id => exact hQ (.exit id) _ _ _ _ _ _ _ (k00.weak fun h => by cases h) k0 k1 k2
    | ret => exact hQ .ret _ _ _ _ _ _ _ (k00.weak fun h => by cases h) k0 k1 k2
  | rangeFunc g ps assign body iha ihb =>
    intro base ro env H Q hpl hev n F A ψ a w R hr hb hF hQ
    have hro : ro = none := by rcases hpl with h | h; exact h; cases h
    subst hro
    simp only [codeP] at hev
    split at hev
    · rename_i X _
      obtain ⟨e, h, A2, ψ2, g1, g2, rfl, g3, g4⟩ := gcP_spec hev hr hF
      split at g4
      · rename_i gf xs cap hg
        obtain ⟨c1, c2, c3⟩ := br_only g4
        simp only [Bool.and_eq_true, decide_eq_true_eq] at c1
        obtain ⟨⟨⟨⟨⟨d1, d2⟩, d3⟩, d4⟩, d5⟩, d6⟩ := c1
        have hxs : xs = #[] := by simpa using d2
        subst hxs
        split at c3
        · rename_i N el vc hit
          obtain ⟨e1, e2, e3⟩ := c3
          obtain ⟨f1, f2, f3, f4⟩ := br_only e3
          simp only [Bool.and_eq_true] at f1
          have hr2 : Rel F A2 ψ2 X.E (X.Hp 0) a w := ⟨g1.slot, g1.len, g1.defers, by rw [← g3]; exact g1.heap.shut _⟩
          refine rangeFunc_ok (base := base) (k := X.k) (Hp := X.Hp) (I := fun i => Is (X.I i)) (Hx := X.Hx) (Ix := fun s => Is (X.Ix s)) (N := N) (el := el) hr2 (fun id hid => by rw [← g3, seal_len]; exact g2 id hid) hF d6 c2 hg d3
            f1.1 f1.2 (by rw [d1]; exact X.it.ok hit e1.out) (fun i hi hlt => ?_) e2
            (cA := fun env H Q => codeP P call hs X.k assign env H Q) (cB := fun env H Q => codeP P call hs X.k body env H Q)
            (fun l env H Q hh => iha _ _ _ _ _ (.inr d4) hh) (fun l env H Q hh => ihb _ _ _ _ _ (.inr d5) hh) (fun i hi hlt => ?_)
            (fun hi F' A' ψ' a' w' k0 k1 k2 => hQ .normal _ _ _ _ _ _ _ ⟨k0, fun h => by cases h⟩ (f3 hi) k1 k2) (fun s hs F' A' ψ' a' w' k0 k1 k2 => hQ .ret _ _ _ _ _ _ _ ⟨k0, fun h => by cases h⟩ (f4 s hs) k1 k2)
          · have := (br_only (eachRound_spec f2 i hi ⟨hlt⟩)).1
            simp only [Bool.and_eq_true] at this
            exact ⟨Nat.eq_of_beq_eq_true this.1, this.2⟩
          · exact (br_only (eachRound_spec f2 i hi ⟨hlt⟩)).2
        · exact c3.elim
      · exact g4.elim
    · exact hev.elim
  | _ => intro base ro env H Q _ hev; simp [codeP] at hev

/-- What a call gives, when it is not said by one value. -/
def SmallK (P : Program) (f : FuncId) (args : List Value) (H : Heap) (K : Value → Heap → Prop) : Prop :=
  ∀ (F : Fr P) A ψ w args', HRel F A ψ H w → (∀ id, A id → id < H.length) → F.A0 = A → F.ψ0 = ψ → LR A ψ args args' →
    Calls P f args'.toArray w (fun e w' => ∃ v h v' A' ψ', K v h ∧ e = .returned v' ∧ HRel F A' ψ' h w' ∧ (∀ id, A' id → id < h.length) ∧ VR A' ψ' v v')

theorem tidy_step {n : Nat} {ret v v' : Value} {H' h : Heap} (ht : tidy n ret H' = some (v, h)) (hh : HRel F A ψ H' w) (hv : VR A ψ ret v') (hb : ∀ id, F.A0 id → id < n) :
    ∃ A2 ψ2, HRel F A2 ψ2 h w ∧ (∀ id, A2 id → id < h.length) ∧ VR A2 ψ2 v v' := by
  unfold tidy at ht
  split at ht
  · rename_i v1 h1 hg
    cases ht
    have hrel : Rel F A ψ [ret] H' ⟨#[v'], F.ds⟩ w := ⟨fun t => by
      cases t with
      | zero => simpa [Array.getD] using hv
      | succ t => simp [Array.getD]; exact .poison _, by simp, rfl, hh⟩
    obtain ⟨A2, ψ2, r1, r2⟩ := gc_rel hg hrel hb
    refine ⟨A2, ψ2, r1.heap, r2, ?_⟩
    have := r1.slot 0
    simpa [Array.getD] using this
  · cases ht

theorem finP_ok {rn : List Nl} {n : Nat} {rs : List ResultVar} {K : Value → Heap → Prop} {env : List Value} {H : Heap} (h : finP P rn n rs K env H) : ∃ vs v h', evResultL P env H rs = some vs ∧ tidy n (one (lst rn vs H).1) (lst rn vs H).2 = some (v, h') ∧ K v h' := by
  unfold finP at h
  split at h
  · rename_i vs h1
    split at h
    · rename_i v h' h2; exact ⟨vs, v, h', h1, h2, h⟩
    · exact h.elim
  · exact h.elim

/-- Marks are taken off, one by one. -/
theorem leaves_marks {fn : Func} {tmps : Array Value} {R : Ending → World → Prop} {n : Nat} : ∀ (l : List Nat) (w : World), l.Nodup → (∀ D ∈ l, w.heap[D]? = some (.deferred (some []))) →
    (∀ w', (∀ {F : Fr P} {A ψ H}, (∀ D ∈ l, F.w0.heap.size ≤ D) → HRel F A ψ H w → HRel F A ψ H w') → LeavesInM (fen none) n P fn tmps R [] .returning w') → LeavesInM (fen none) n P fn tmps R (l.map mark) .returning w
  | [], w, _, _, hfin => hfin w fun _ h => h
  | D :: l, w, hn, hk, hfin => by
    have h1 := hk D (by simp)
    rw [List.nodup_cons] at hn
    refine ⟨by simp, .inl ⟨D, _, rfl, run_takeDeferred h1, ?_⟩⟩
    refine leaves_marks l _ hn.2 (fun D' hD' => (World.putObj_heap_other (fun e => hn.1 (by rw [← e]; exact hD'))).trans (hk D' (by simp [hD']))) fun w' hw => hfin w' fun hs h => ?_
    exact hw (fun D' hD' => hs D' (by simp [hD'])) (h.putObj h1 rfl (fun _ _ _ e => by cases e) (hs D (by simp)) _)

theorem fnP_ok (hm : P.follows .mixedOrders = true) (hc : CallOK P call) {f : FuncId} {args : List Value} {H : Heap} {K : Value → Heap → Prop} (h : fnP P call hs f args H K) : SmallK P f args H K := by
  unfold fnP at h
  split at h
  · rename_i fn hfn
    split at h
    · rename_i c hbody
      intro F A ψ w args' hh hb hA hψ hl
      have hlen : args'.toArray.size = args.length := by simpa using hl.len
      refine callsIn_fen.1 (callsIn_of_wp_marks (F := fen none) (n := 0) hfn hbody trivial ?_)
      refine codeP_okIn hm hc c _ none _ _ _ (.inl rfl) h 0 { F with ds := [] } A ψ _ w _ ⟨fun t => ?_, ?_, rfl, hh.ds []⟩ hb (fun id hid => hb id (by rw [← hA]; exact hid)) fun x e h' F' A' ψ' a' w' k00 k0 k1 k2 => ?_
      · have hrep : LR A ψ (List.replicate (fn.ntmps - args.length) undef) (List.replicate (fn.ntmps - args.length) undef) := ⟨rfl, fun i => by
          by_cases hi : i < fn.ntmps - args.length
          · simp only [List.getD_eq_getElem?_getD, List.getElem?_replicate, hi, if_true, Option.getD_some]; exact .refl_undef
          · simp only [List.getD_eq_getElem?_getD, List.getElem?_replicate, hi, if_false, Option.getD_none]; exact .poison _⟩
        have := (hl.append hrep).at_ t
        rw [hlen]
        have e2 : (args'.toArray ++ Array.replicate (fn.ntmps - args.length) undef).getD t undef = (args' ++ List.replicate (fn.ntmps - args.length) undef).getD t undef := by
          simp [Array.getD_eq_getD_getElem?, List.getD_eq_getElem?_getD, ← List.toArray_replicate]
        rw [e2]; exact this
      · have := hl.len; simp; omega
      · obtain ⟨l, m1, m2, m3⟩ := k00.x.ds
        have hds : a'.defers = l.map mark := by rw [k1.defers, m1]; simp
        have fin : finP P hs.rn H.length fn.results.toList K e h' → LeavesInM (fen none) 0 P fn a'.tmps (fun e w' => ∃ v h v' A' ψ', K v h ∧ e = .returned v' ∧ HRel F A' ψ' h w' ∧ (∀ id, A' id → id < h.length) ∧ VR A' ψ' v v') a'.defers .returning w' := by
          intro hfin
          obtain ⟨vs, v, h2, f1, f2, f3⟩ := finP_ok hfin
          rw [hds]
          refine leaves_marks l w' m2 (fun D hD => ?_) fun w2 hw2 => ?_
          · obtain ⟨q1, q2, q3⟩ := m3 D hD
            exact (k1.heap.fr.block D q2 q3.2).trans q3.1
          · have h3 : HRel { F with ds := [] } A' ψ' h' w2 := hw2 (fun D hD => (m3 D hD).1) (k00.x.back k1.heap)
            have k3 : Rel { F with ds := [] } A' ψ' e h' { a' with defers := [] } w2 := ⟨k1.slot, k1.len, rfl, h3⟩
            obtain ⟨us, r1, r2⟩ := results_rel _ _ f1 k3
            have hres' : (results fn a'.tmps).run P w2 = .ok (if h : us.toArray.size = 1 then us.toArray[0] else .tuple us.toArray) w2 := by
              unfold results
              rw [Array.mapM_eq_mapM_toList]
              simp only [Sem.run_bind, Sem.run_map]
              rw [r1 _ (fun _ => rfl) (fun _ _ => rfl)]
              rfl
            have k4 : Rel { F with ds := [] } A' ψ' vs h' ⟨us.toArray, []⟩ w2 := ⟨fun t => by simpa [Array.getD_eq_getD_getElem?, List.getD_eq_getElem?_getD] using r2.at_ t, by simp [r2.len], rfl, h3⟩
            obtain ⟨A4, ψ4, k5, _⟩ := lst_rel hs.rn k4 k2
            have r3 : LR A4 ψ4 (lst hs.rn vs h').1 us := ⟨by rw [lst_len, r2.len], fun t => by simpa [Array.getD_eq_getD_getElem?, List.getD_eq_getElem?_getD] using k5.slot t⟩
            obtain ⟨A2, ψ2, q1, q2, q3⟩ := tidy_step f2 k5.heap r3.one_rel (fun id hid => hb id (by rw [← hA]; exact hid))
            exact ⟨_, hres', v, h2, _, A2, ψ2, f3, rfl, q1.of_ds, q2, q3⟩
        cases x with
        | normal => exact fin k0
        | ret => exact fin k0
        | exit id => exact k0.elim
    · exact h.elim
  · exact h.elim

theorem SmallK.res {f : FuncId} {args : List Value} {H : Heap} {ret : Value} {H' : Heap} (h : SmallK P f args H fun v h => v = ret ∧ h = H') : SmallRes P f args H ret H' := by
  intro F A ψ w args' hh hb hA hψ hl
  refine (h F A ψ w args' hh hb hA hψ hl).mono ?_
  rintro e w' ⟨v, h, v', A', ψ', ⟨rfl, rfl⟩, rfl, k1, k2, k3⟩
  exact ⟨v', A', ψ', rfl, k1, k2, k3⟩

/-- The road to an answer. -/
theorem fnP_res (hm : P.follows .mixedOrders = true) (hc : CallOK P call) {f : FuncId} {args : List Value} {H : Heap} {ret : Value} {H' : Heap} (h : fnP P call hs f args H fun v h => v = ret ∧ h = H') :
    SmallRes P f args H ret H' := (fnP_ok hm hc h).res

end
end
end Go.Vm
