/- A region that draws its order: one evaluation in the order of the text serves every order. -/
import Derived.Test.YtaigknknfaeajaaGreatDoorVmI
namespace Go.Vm
noncomputable section

structure Ent where
  env : List Value
  H : Heap
  wanted : Bool
  out : Out

abbrev Tri := Nat × Oper × Ent

def noOut : Out := ⟨undef, [], [], []⟩

def evDraw (P : Program) (call : CallF) (fd : Nat) (ops : Array Oper) : Nat → List Oper → List Value → Heap → Option (List Value × Heap × List Tri)
  | _, [], env, H => some (env, H, [])
  | k, o :: rest, env, H =>
    match wantedA ops env o with
    | some true =>
      match evStep P call env H H.length o with
      | some out =>
        if freshOK H out then
          fVal fd out.v fun v =>
            match evDraw P call fd ops (k + 1) rest (put env o.dst v) (ap H out.δ) with
            | some (env', H', L) => some (env', H', (k, o, ⟨env, H, true, out⟩) :: L)
            | none => none
        else none
      | none => none
    | some false =>
      match evDraw P call fd ops (k + 1) rest (put env o.dst undef) H with
      | some (env', H', L) => some (env', H', (k, o, ⟨env, H, false, noOut⟩) :: L)
      | none => none
    | none => none

/-- What the evaluation shows. -/
def Trace (P : Program) (ops : Array Oper) : List Tri → List Value → Heap → List Value → Heap → Prop
  | [], env, H, env', H' => env' = env ∧ H' = H
  | (_, o, e) :: r, env, H, env', H' => e.env = env ∧ e.H = H ∧ wantedA ops env o = some e.wanted ∧
      (e.wanted = true → StepOK P o env H e.out ∧ freshOK H e.out = true) ∧ (e.wanted = false → e.out = noOut) ∧
      Trace P ops r (put env o.dst e.out.v) (ap H e.out.δ) env' H'

theorem evDraw_trace {P : Program} {call : CallF} (hc : CallOK P call) {fd : Nat} {ops : Array Oper} : ∀ (l : List Oper) (k : Nat) (env : List Value) (H : Heap) (env' : List Value) (H' : Heap) (L : List Tri),
    evDraw P call fd ops k l env H = some (env', H', L) → Trace P ops L env H env' H' ∧ L.map (·.2.1) = l ∧ L.map (·.1) = List.range' k l.length
  | [], k, env, H, env', H', L, h => by simp [evDraw] at h; obtain ⟨rfl, rfl, rfl⟩ := h; exact ⟨⟨rfl, rfl⟩, rfl, rfl⟩
  | o :: rest, k, env, H, env', H', L, h => by
    simp only [evDraw, fVal_eq] at h
    split at h
    · rename_i hw
      split at h
      · rename_i out hs
        split at h
        · rename_i hf
          split at h
          · rename_i e1 h1 L1 hrec
            cases h
            obtain ⟨t1, t2, t3⟩ := evDraw_trace hc rest (k + 1) _ _ _ _ _ hrec
            exact ⟨⟨rfl, rfl, hw, fun _ => ⟨evStep_ok hc hs, hf⟩, (fun hh => by cases hh), t1⟩, by simp [t2], by simp [t3, List.range'_succ]⟩
          · cases h
        · cases h
      · cases h
    · rename_i hw
      split at h
      · rename_i e1 h1 L1 hrec
        cases h
        obtain ⟨t1, t2, t3⟩ := evDraw_trace hc rest (k + 1) _ _ _ _ _ hrec
        exact ⟨⟨rfl, rfl, hw, (fun hh => by cases hh), fun _ => rfl, t1⟩, by simp [t2], by simp [t3, List.range'_succ]⟩
      · cases h
    · cases h

/-! ### What is ordered, and what is apart -/
def mask (o : Oper) (acc : List Nat) : Nat := o.after.toList.foldl (fun s e => if Region.binds .any e then s ||| 2 ^ e.on ||| acc.getD e.on 0 else s) 0

def masks : List Oper → List Nat → List Nat
  | [], acc => acc
  | o :: r, acc => masks r (acc ++ [mask o acc])

/-- Slots apart: this is of the text alone. -/
def statPairs (ops : Array Oper) (ms : List Nat) : List (Nat × Oper) → Bool
  | [] => true
  | x :: r => r.all (fun y => (ms.getD y.1 0).testBit x.1 || x.2.apart ops y.2) && statPairs ops ms r

def edgesOK : Nat → List Oper → Bool
  | _, [] => true
  | k, o :: r => o.after.toList.all (fun e => !Region.binds .any e || decide (e.on < k)) && edgesOK (k + 1) r

def index : Nat → List Oper → List (Nat × Oper)
  | _, [] => []
  | k, o :: r => (k, o) :: index (k + 1) r

def statOK (ops : Array Oper) : Bool := Region.noSelect ops && edgesOK 0 ops.toList && statPairs ops (masks ops.toList []) (index 0 ops.toList)

def memApart (x y : Tri) : Bool :=
  x.2.2.out.δ.all (fun p => !(y.2.2.out.D.contains p.1) && !((y.2.2.out.δ.map (·.1)).contains p.1)) && y.2.2.out.δ.all (fun p => !(x.2.2.out.D.contains p.1))

def memPairs (ms : List Nat) : List Tri → Bool
  | [] => true
  | x :: r => r.all (fun y => (x.2.2.out.δ.isEmpty && y.2.2.out.δ.isEmpty) || (ms.getD y.1 0).testBit x.1 || memApart x y) && memPairs ms r

def drawOK (ops : Array Oper) (L : List Tri) : Bool := statOK ops && memPairs (masks ops.toList []) L

def apartE (ops : Array Oper) (x y : Tri) : Bool := x.2.1.apart ops y.2.1 && memApart x y

def pairsOK (ops : Array Oper) (ms : List Nat) : List Tri → Bool
  | [] => true
  | x :: r => r.all (fun y => (ms.getD y.1 0).testBit x.1 || apartE ops x y) && pairsOK ops ms r

theorem memApart_nil {x y : Tri} (h1 : x.2.2.out.δ.isEmpty = true) (h2 : y.2.2.out.δ.isEmpty = true) : memApart x y = true := by
  simp only [List.isEmpty_iff] at h1 h2
  simp [memApart, h1, h2]

theorem pairs_join {ops : Array Oper} {ms : List Nat} : ∀ {L : List Tri}, statPairs ops ms (L.map fun x => (x.1, x.2.1)) = true → memPairs ms L = true → pairsOK ops ms L = true
  | [], _, _ => rfl
  | x :: r, h1, h2 => by
    simp only [List.map_cons, statPairs, Bool.and_eq_true, List.all_eq_true, List.mem_map] at h1
    simp only [memPairs, Bool.and_eq_true, List.all_eq_true] at h2
    simp only [pairsOK, Bool.and_eq_true, List.all_eq_true]
    refine ⟨fun y hy => ?_, pairs_join h1.2 h2.2⟩
    have a1 := h1.1 (y.1, y.2.1) ⟨y, hy, rfl⟩
    have a2 := h2.1 y hy
    simp only [Bool.or_eq_true, Bool.and_eq_true] at a1 a2 ⊢
    rcases a1 with a1 | a1
    · exact .inl a1
    · rcases a2 with (a2 | a2) | a2
      · refine .inr ?_
        simp only [apartE, Bool.and_eq_true]
        exact ⟨a1, memApart_nil a2.1 a2.2⟩
      · exact .inl a2
      · refine .inr ?_
        simp only [apartE, Bool.and_eq_true]
        exact ⟨a1, a2⟩

theorem index_eq : ∀ {L : List Tri} {k : Nat} {l : List Oper}, L.map (·.2.1) = l → L.map (·.1) = List.range' k l.length → L.map (fun x => (x.1, x.2.1)) = index k l
  | [], k, l, h, _ => by simp at h; subst h; rfl
  | x :: r, k, l, h, h2 => by
    cases l with
    | nil => simp at h
    | cons o l =>
      simp only [List.map_cons, List.cons.injEq] at h
      simp only [List.map_cons, List.length_cons, List.range'_succ, List.cons.injEq] at h2
      simp only [List.map_cons, index, h.1, h2.1]
      rw [index_eq h.2 h2.2]

theorem mask_bit {o : Oper} {acc : List Nat} {i : Nat} (h : (mask o acc).testBit i = true) : ∃ e ∈ o.after, Region.binds .any e = true ∧ (e.on = i ∨ (acc.getD e.on 0).testBit i = true) := by
  unfold mask at h
  have : ∀ (l : List Edge) (s : Nat), (l.foldl (fun s e => if Region.binds .any e then s ||| 2 ^ e.on ||| acc.getD e.on 0 else s) s).testBit i = true → s.testBit i = true ∨ ∃ e ∈ l, Region.binds .any e = true ∧ (e.on = i ∨ (acc.getD e.on 0).testBit i = true) := by
    intro l
    induction l with
    | nil => intro s h; exact .inl h
    | cons e r ih =>
      intro s h
      rw [List.foldl_cons] at h
      rcases ih _ h with h1 | ⟨e', he', h1⟩
      · split at h1
        · rename_i hb
          simp only [Nat.testBit_or, Bool.or_eq_true, Nat.testBit_two_pow] at h1
          rcases h1 with (h1 | h1) | h1
          · exact .inl h1
          · exact .inr ⟨e, by simp, hb, .inl (by simpa using h1)⟩
          · exact .inr ⟨e, by simp, hb, .inr h1⟩
        · exact .inl h1
      · exact .inr ⟨e', by simp [he'], h1⟩
  rcases this _ 0 h with h | ⟨e, he, h1⟩
  · simp at h
  · exact ⟨e, by simpa using he, h1⟩

/-- S: what has been done; whatever an operation of S waits for is in S. -/
def Closed (ops : List Oper) (k : Nat) (S : Nat → Prop) : Prop := ∀ j o, ops[j]? = some o → S (k + j) → ∀ e ∈ o.after, Region.binds .any e = true → S e.on

theorem masks_spec {S : Nat → Prop} : ∀ (l : List Oper) (acc : List Nat), Closed l acc.length S → (∀ j, S j → ∀ i, (acc.getD j 0).testBit i = true → S i) →
    (∀ j, S j → ∀ i, ((masks l acc).getD j 0).testBit i = true → S i) ∧
    (∀ j o, l[j]? = some o → (∀ e ∈ o.after, Region.binds .any e = true → S e.on) → ∀ i, ((masks l acc).getD (acc.length + j) 0).testBit i = true → S i) ∧ (∀ j, j < acc.length → (masks l acc).getD j 0 = acc.getD j 0)
  | [], acc, _, h => ⟨h, fun j o h => by simp at h, fun _ _ => rfl⟩
  | o :: r, acc, hc, h => by
    have step : (∀ e ∈ o.after, Region.binds .any e = true → S e.on) → ∀ i, (mask o acc).testBit i = true → S i := fun he i hi => by
      obtain ⟨e, h1, h2, h3⟩ := mask_bit hi
      have hS := he e h1 h2
      rcases h3 with rfl | h3
      · exact hS
      · exact h _ hS i h3
    have h' : ∀ j, S j → ∀ i, ((acc ++ [mask o acc]).getD j 0).testBit i = true → S i := fun j hj i hi => by
      simp only [List.getD_eq_getElem?_getD] at hi h
      by_cases hlt : j < acc.length
      · rw [List.getElem?_append_left hlt] at hi; exact h j hj i hi
      · rw [List.getElem?_append_right (by omega)] at hi
        by_cases h0 : j - acc.length = 0
        · rw [h0] at hi
          have : j = acc.length + 0 := by omega
          refine step (hc 0 o rfl (by rw [← this]; exact hj)) i (by simpa using hi)
        · rw [List.getElem?_eq_none (by simp; omega)] at hi; simp at hi
    have hc' : Closed r (acc ++ [mask o acc]).length S := fun j o' ho hS => hc (j + 1) o' (by simpa using ho) (by rw [show acc.length + (j + 1) = (acc ++ [mask o acc]).length + j by simp; omega]; exact hS)
    obtain ⟨i1, i2, i3⟩ := masks_spec r (acc ++ [mask o acc]) hc' h'
    refine ⟨i1, fun j o' ho he i hi => ?_, fun j hj => ?_⟩
    · cases j with
      | zero =>
        simp at ho; subst ho
        refine step he i ?_
        have := i3 acc.length (by simp)
        rw [masks, Nat.add_zero, this] at hi
        simpa [List.getD_eq_getElem?_getD] using hi
      | succ j =>
        refine i2 j o' (by simpa using ho) he i ?_
        rw [show (acc ++ [mask o acc]).length + j = acc.length + (j + 1) by simp; omega]
        exact hi
    · have := i3 j (by simp; omega)
      rw [masks, this]
      simp [List.getD_eq_getElem?_getD, List.getElem?_append_left hj]

/-! ### What some of the operations leave -/
def envS (S : Nat → Bool) : List Tri → List Value → List Value
  | [], env => env
  | (i, o, e) :: r, env => envS S r (if S i then put env o.dst e.out.v else env)

def hS (S : Nat → Bool) : List Tri → Heap → Heap
  | [], H => H
  | (i, _, e) :: r, H => hS S r (if S i then ap H e.out.δ else H)

theorem put_len (env : List Value) (d : Option Tmp) (v : Value) : (put env d v).length = env.length := by cases d <;> first | rfl | simp [put_some]

theorem put_get_ne {env : List Value} {d : Option Tmp} {v : Value} {t : Nat} (h : d ≠ some t) : (put env d v).getD t poi = env.getD t poi := by
  cases d with
  | none => rfl
  | some d =>
    have : d ≠ t := fun e => h (by rw [e])
    simp [put_some, List.getD_eq_getElem?_getD, List.getElem?_set_ne this]

theorem put_get_congr {env env' : List Value} (hl : env.length = env'.length) {d : Option Tmp} {v : Value} {t : Nat} (h : env.getD t poi = env'.getD t poi) : (put env d v).getD t poi = (put env' d v).getD t poi := by
  cases d with
  | none => exact h
  | some d =>
    by_cases e : d = t
    · subst e
      by_cases hd : d < env.length
      · simp [put_some, List.getD_eq_getElem?_getD, hd, hl ▸ hd]
      · simp [put_some, List.getD_eq_getElem?_getD, hd, hl ▸ hd]
    · rw [put_get_ne (by simpa using e), put_get_ne (by simpa using e)]; exact h

theorem envS_append (S : Nat → Bool) : ∀ (L M : List Tri) (env : List Value), envS S (L ++ M) env = envS S M (envS S L env)
  | [], _, _ => rfl
  | (i, o, e) :: r, M, env => by simp only [List.cons_append, envS]; exact envS_append S r M _

theorem hS_append (S : Nat → Bool) : ∀ (L M : List Tri) (H : Heap), hS S (L ++ M) H = hS S M (hS S L H)
  | [], _, _ => rfl
  | (i, o, e) :: r, M, H => by simp only [List.cons_append, hS]; exact hS_append S r M _

theorem envS_len (S : Nat → Bool) : ∀ (L : List Tri) (env : List Value), (envS S L env).length = env.length
  | [], _ => rfl
  | (i, o, e) :: r, env => by
    simp only [envS]
    rw [envS_len S r]
    split
    · exact put_len _ _ _
    · rfl

/-- A slot that the two choices write alike. -/
theorem envS_congr {S S' : Nat → Bool} {t : Nat} : ∀ (L : List Tri) (env env' : List Value), env.length = env'.length → env.getD t poi = env'.getD t poi → (∀ x ∈ L, x.2.1.dst = some t → S x.1 = S' x.1) →
    (envS S L env).getD t poi = (envS S' L env').getD t poi
  | [], _, _, _, h, _ => h
  | (i, o, e) :: r, env, env', hl, h, hx => by
    simp only [envS]
    refine envS_congr r _ _ ?_ ?_ (fun x hx' => hx x (by simp [hx']))
    · split <;> split <;> simp [put_len, hl]
    · by_cases hd : o.dst = some t
      · have := hx (i, o, e) (by simp) hd
        simp only at this
        rw [this]
        split
        · exact put_get_congr hl h
        · exact h
      · split <;> split <;> (try rw [put_get_ne hd]) <;> (try rw [put_get_ne hd]) <;> exact h

theorem rd_ap_out : ∀ (δ : Delta) (H : Heap) (id : Nat), id ∉ δ.map (·.1) → rd (ap H δ) id = rd H id
  | [], _, _, _ => rfl
  | (i, o) :: r, H, id, h => by
    simp only [List.map_cons, List.mem_cons, not_or] at h
    simp only [ap]
    rw [rd_ap_out r _ id h.2, rd_wr, if_neg h.1]

theorem rd_ap_congr : ∀ (δ : Delta) (H H' : Heap) (id : Nat), (id ∉ δ.map (·.1) → rd H id = rd H' id) → rd (ap H δ) id = rd (ap H' δ) id
  | [], H, H', id, h => h (by simp)
  | (i, o) :: r, H, H', id, h => by
    simp only [ap]
    refine rd_ap_congr r _ _ id fun hn => ?_
    rw [rd_wr, rd_wr]
    split
    · rfl
    · rename_i hne; exact h (by simp only [List.map_cons, List.mem_cons, not_or]; exact ⟨hne, hn⟩)

theorem hS_congr {S S' : Nat → Bool} {id : Nat} : ∀ (L : List Tri) (H H' : Heap), rd H id = rd H' id → (∀ x ∈ L, id ∈ x.2.2.out.δ.map (·.1) → S x.1 = S' x.1) → rd (hS S L H) id = rd (hS S' L H') id
  | [], _, _, h, _ => h
  | (i, o, e) :: r, H, H', h, hx => by
    simp only [hS]
    refine hS_congr r _ _ ?_ (fun x hx' => hx x (by simp [hx']))
    by_cases hd : id ∈ e.out.δ.map (·.1)
    · have := hx (i, o, e) (by simp) hd
      simp only at this
      rw [this]
      split
      · exact rd_ap_congr _ _ _ _ fun _ => h
      · exact h
    · split <;> split <;> (try rw [rd_ap_out _ _ _ hd]) <;> (try rw [rd_ap_out _ _ _ hd]) <;> exact h

section
variable {P : Program} {call : CallF} {ops : Array Oper}

theorem Trace.append : ∀ {L M : List Tri} {env : List Value} {H : Heap} {env' : List Value} {H' : Heap}, Trace P ops (L ++ M) env H env' H' → ∃ e h, Trace P ops L env H e h ∧ Trace P ops M e h env' H'
  | [], M, env, H, env', H', h => ⟨env, H, ⟨rfl, rfl⟩, h⟩
  | (i, o, e) :: r, M, env, H, env', H', h => by
    obtain ⟨h1, h2, h3, h4, h5, h6⟩ := h
    obtain ⟨e', h', t1, t2⟩ := Trace.append h6
    exact ⟨e', h', ⟨h1, h2, h3, h4, h5, t1⟩, t2⟩

theorem Trace.all : ∀ {L : List Tri} {env : List Value} {H : Heap} {env' : List Value} {H' : Heap}, Trace P ops L env H env' H' → ∀ {S : Nat → Bool}, (∀ x ∈ L, S x.1 = true) → env' = envS S L env ∧ H' = hS S L H
  | [], _, _, _, _, h, _, _ => h
  | (i, o, e) :: r, env, H, env', H', h, S, hS' => by
    obtain ⟨h1, h2, h3, h4, h5, h6⟩ := h
    have := Trace.all h6 (S := S) (fun x hx => hS' x (by simp [hx]))
    simp only [envS, hS, hS' (i, o, e) (by simp), if_true]
    exact this

theorem Trace.mono : ∀ {L : List Tri} {env : List Value} {H : Heap} {env' : List Value} {H' : Heap}, Trace P ops L env H env' H' → H.length ≤ H'.length
  | [], _, _, _, _, h => by rw [h.2]; exact Nat.le_refl _
  | (i, o, e) :: r, env, H, env', H', h => by
    obtain ⟨_, _, _, _, _, h6⟩ := h
    exact Nat.le_trans (len_ap _ _) h6.mono

theorem Trace.nu : ∀ {L : List Tri} {env : List Value} {H : Heap} {env' : List Value} {H' : Heap}, Trace P ops L env H env' H' → ∀ x ∈ L, ∀ id ∈ x.2.2.out.nu, H.length ≤ id ∧ id < H'.length
  | [], _, _, _, _, _, x, hx => by cases hx
  | (i, o, e) :: r, env, H, env', H', h, x, hx => by
    obtain ⟨_, _, _, h4, h5, h6⟩ := h
    intro id hid
    rcases List.mem_cons.1 hx with rfl | hx
    · cases hw : e.wanted with
      | true =>
        obtain ⟨_, hf⟩ := h4 hw
        simp only [freshOK, List.all_eq_true, Bool.and_eq_true, decide_eq_true_eq] at hf
        have := hf id hid
        exact ⟨this.1, Nat.lt_of_lt_of_le this.2 h6.mono⟩
      | false => rw [h5 hw] at hid; simp [noOut] at hid
    · have := h6.nu x hx id hid
      exact ⟨Nat.le_trans (len_ap _ _) this.1, this.2⟩
end

theorem Rel.congr {P : Program} {F : Fr P} {A A' : Nat → Prop} {ψ : Nat → Gh} {env env' : List Value} {H H' : Heap} {a : Act} {w : World} (h : Rel F A ψ env H a w) (hA : ∀ id, A' id ↔ A id) (he : ∀ t, env'.getD t poi = env.getD t poi) (hl : env'.length = env.length)
    (hh : ∀ id, rd H' id = rd H id) : Rel F A' ψ env' H' a w := by
  have : A' = A := funext fun id => propext (hA id)
  subst this
  refine ⟨fun t => by rw [he]; exact h.slot t, by rw [hl]; exact h.len, h.defers, ⟨fun id o hr => h.heap.live id o (by rw [← hh]; exact hr), fun i j oi oj hi hj => h.heap.inj i j oi oj (by rw [← hh]; exact hi) (by rw [← hh]; exact hj), h.heap.fr, fun id o hr => h.heap.own id o (by rw [← hh]; exact hr), h.heap.old⟩⟩

end
end Go.Vm
