/- Steps of the heap relation, and the operations one by one. -/
import Derived.Test.YtaigknknfaeajaaGreatDoorVmA
namespace Go.Vm
noncomputable section

def upd (ψ : Nat → Gh) (i : Nat) (g : Gh) : Nat → Gh := fun j => if j = i then g else ψ j

abbrev Delta := List (Nat × Option AObj)

def ap : Heap → Delta → Heap
  | H, [] => H
  | H, (i, o) :: r => ap (wr H i o) r

structure Out where
  v : Value
  δ : Delta
  D : List Nat
  nu : List Nat

theorem ORel.mono {A A' : Nat → Prop} {ψ ψ' : Nat → Gh} (hA : ∀ id, A id → A' id ∧ ψ' id = ψ id) {g : Gh} {w w' : World} (hw : w'.heap[g.blk]? = w.heap[g.blk]?) {o : AObj} (h : ORel A ψ g w o) : ORel A' ψ' g w' o := by
  cases o with
  | iter s pos => simpa [ORel, hw] using h
  | smap es => simpa [ORel, hw] using h
  | row cells es more rw flat =>
    obtain ⟨arr, el, fz, h1, h2, h3, h4, h5⟩ := h
    refine ⟨arr, el, fz, by rw [hw]; exact h1, h2, fun i hi => ?_, h4, h5⟩
    obtain ⟨v', e1, e2, e3⟩ := h3 i hi
    exact ⟨v', e1, e2, e3.mono hA⟩

/-- The streams and the other blocks stand. -/
structure SameBut (w w' : World) (b : Nat) : Prop where
  os : w'.os = w.os
  tape : w'.tape = w.tape
  output : w'.output = w.output
  size : w.heap.size ≤ w'.heap.size
  block : ∀ k, k < w.heap.size → k ≠ b → w'.heap[k]? = w.heap[k]?

theorem SameBut.ok {P : Program} {F : Fr P} {w w' : World} {b : Nat} (h : SameBut w w' b) (hF : F.ok w) (hb : F.w0.heap.size ≤ b ∨ F.S b) : F.ok w' :=
  ⟨h.os.trans hF.os, h.tape.trans hF.tape, h.output.trans hF.output, Nat.le_trans hF.size h.size, fun k hk hs => by
    rw [h.block k (Nat.lt_of_lt_of_le hk hF.size) (fun e => by subst e; rcases hb with hb | hb; omega; exact hs hb)]
    exact hF.block k hk hs, hF.lay⟩

theorem SameBut.alloc (w : World) (c : Obj) : SameBut w (w.alloc c) w.heap.size :=
  ⟨rfl, rfl, rfl, by simp, fun k hk _ => by
    show (w.heap.push c)[k]? = _
    rw [Array.getElem?_push, if_neg (by omega)]⟩

theorem SameBut.drew_alloc (w : World) (c : Obj) : SameBut w (w.drew.alloc c) w.heap.size :=
  have h := SameBut.alloc w.drew c
  ⟨h.os, h.tape, h.output, h.size, h.block⟩

theorem HRel.alike {P : Program} {F : Fr P} {A : Nat → Prop} {ψ : Nat → Gh} {H : Heap} {w w' : World} (h : HRel F A ψ H w) (h1 : w'.heap = w.heap) (h2 : w'.os = w.os) (h3 : w'.tape = w.tape) (h4 : w'.output = w.output) : HRel F A ψ H w' :=
  ⟨fun id o ho => by
    obtain ⟨a, e, b⟩ := h.live id o ho
    exact ⟨a, e, fun hv => ⟨by rw [h1]; exact (b hv).1, (b hv).2.mono (fun _ ha => ⟨ha, rfl⟩) (by rw [h1])⟩⟩, h.inj, ⟨h2.trans h.fr.os, h3.trans h.fr.tape, h4.trans h.fr.output, by rw [h1]; exact h.fr.size, fun k hk hs => by rw [h1]; exact h.fr.block k hk hs, h.fr.lay⟩, h.own, h.old⟩

/-- A new id for a block that no live id has. -/
theorem HRel.adopt {P : Program} {F : Fr P} {A : Nat → Prop} {ψ : Nat → Gh} {H : Heap} {w w' : World} {b : Nat} (h : HRel F A ψ H w) (hw : SameBut w w' b) (hb : b < w'.heap.size)
    {nid : Nat} (hn : ¬ A nid) (hfree : ∀ j oj, rd H j = some oj → oj.vd = false → (ψ j).blk ≠ b) (hown : F.w0.heap.size ≤ b ∨ F.S b) {g : Gh} (hg : g.blk = b) {o : AObj} (hes : EsOK g o)
    (ho : ORel (fun id => A id ∨ id = nid) (upd ψ nid g) g w' o) :
    HRel F (fun id => A id ∨ id = nid) (upd ψ nid g) (wr H nid (some o)) w' := by
  have hag : ∀ id, A id → (A id ∨ id = nid) ∧ upd ψ nid g id = ψ id := fun id ha => ⟨.inl ha, by
    have : id ≠ nid := fun e => hn (by rw [← e]; exact ha)
    simp [upd, this]⟩
  have hsame : ∀ id o', rd H id = some o' → upd ψ nid g id = ψ id := fun id o' he => (hag id (h.live id o' he).1).2
  have hnn : rd H nid = none := by
    cases he : rd H nid with
    | none => rfl
    | some o' => exact absurd (h.live _ _ he).1 hn
  have hup : upd ψ nid g nid = g := by simp [upd]
  refine ⟨fun id o' he => ?_, fun i j oi oj hi hj hij hrw hvi hvj => ?_, hw.ok h.fr hown, fun id o' he hrw hv => ?_, fun id ha => ?_⟩
  · rw [rd_wr] at he
    split at he
    · rename_i e; subst e
      cases he
      exact ⟨.inr rfl, by rw [hup]; exact hes, fun _ => ⟨by rw [hup, hg]; exact hb, by rw [hup]; exact ho⟩⟩
    · obtain ⟨h1, h2, h3⟩ := h.live id o' he
      rw [hsame id o' he]
      exact ⟨.inl h1, h2, fun hv => ⟨Nat.lt_of_lt_of_le (h3 hv).1 hw.size, (h3 hv).2.mono hag (hw.block _ (h3 hv).1 (hfree id o' he hv))⟩⟩
  · rw [rd_wr] at hi hj
    split at hi <;> split at hj
    · omega
    · rename_i e _; subst e
      rw [hup, hsame j oj hj, hg]
      exact fun e => hfree j oj hj hvj e.symm
    · rename_i _ e; subst e
      rw [hup, hsame i oi hi, hg]
      exact fun e => hfree i oi hi hvi e
    · rw [hsame i oi hi, hsame j oj hj]
      exact h.inj i j oi oj hi hj hij hrw hvi hvj
  · rw [rd_wr] at he
    split at he
    · rename_i e; subst e; rw [hup, hg]; exact hown
    · rw [hsame id o' he]; exact h.own id o' he hrw hv
  · have ⟨h1, h2⟩ := h.old id ha
    exact ⟨(hag id h1).1, (hag id h1).2.trans h2⟩

/-- A block of its own turns. -/
theorem HRel.update {P : Program} {F : Fr P} {A : Nat → Prop} {ψ : Nat → Gh} {H : Heap} {w w' : World} {id : Nat} {o o' : AObj} (h : HRel F A ψ H w) (hr : rd H id = some o) (hrw : o.rw = true) (hvo : o.vd = false) (hes : EsOK (ψ id) o')
    (hw : SameBut w w' (ψ id).blk) (ho : ORel A ψ (ψ id) w' o') : HRel F A ψ (wr H id (some o')) w' := by
  have hl := h.live id o hr
  refine ⟨fun j oj he => ?_, fun i j oi oj hi hj hij hrwi hvi hvj => ?_, hw.ok h.fr (h.own id o hr hrw hvo), fun j oj he hrwj hvj => ?_, h.old⟩
  · rw [rd_wr] at he
    split at he
    · rename_i e; subst e; cases he
      exact ⟨hl.1, hes, fun _ => ⟨Nat.lt_of_lt_of_le (hl.2.2 hvo).1 hw.size, ho⟩⟩
    · rename_i hne
      obtain ⟨h1, h2, h3⟩ := h.live j oj he
      exact ⟨h1, h2, fun hv => ⟨Nat.lt_of_lt_of_le (h3 hv).1 hw.size, (h3 hv).2.mono (fun _ ha => ⟨ha, rfl⟩) (hw.block _ (h3 hv).1 (fun e => h.inj id j o oj hr he (Ne.symm hne) hrw hvo hv e.symm))⟩⟩
  · rw [rd_wr] at hi hj
    split at hi <;> split at hj
    · omega
    · rename_i e _; subst e; exact h.inj i j o oj hr hj hij hrw hvo hvj
    · rename_i _ e; subst e; exact fun e => h.inj j i o oi hr hi (Ne.symm hij) hrw hvo hvi e.symm
    · exact h.inj i j oi oj hi hj hij hrwi hvi hvj
  · rw [rd_wr] at he
    split at he
    · rename_i e; subst e; exact h.own j o hr hrw hvo
    · exact h.own j oj he hrwj hvj

/-- An id dies. -/
theorem HRel.kill {P : Program} {F : Fr P} {A : Nat → Prop} {ψ : Nat → Gh} {H : Heap} {w : World} (h : HRel F A ψ H w) (id : Nat) : HRel F A ψ (wr H id none) w := by
  refine ⟨fun j oj he => ?_, fun i j oi oj hi hj hij hrwi hvi hvj => ?_, h.fr, fun j oj he hrwj hvj => ?_, h.old⟩
  · rw [rd_wr] at he; split at he; cases he; exact h.live j oj he
  · rw [rd_wr] at hi hj
    split at hi; cases hi
    split at hj; cases hj
    exact h.inj i j oi oj hi hj hij hrwi hvi hvj
  · rw [rd_wr] at he; split at he; cases he; exact h.own j oj he hrwj hvj

/-! ### What an operation does -/
def StepOK (P : Program) (o : Oper) (env : List Value) (H : Heap) (out : Out) : Prop :=
  ∀ (F : Fr P) A ψ env1 H1 a w, Rel F A ψ env1 H1 a w → (∀ x ∈ o.op.operands, ev env1 x = ev env x) → (∀ id ∈ out.D, rd H1 id = rd H id) → (∀ id ∈ out.nu, ¬ A id) →
    ∀ (K : Act → World → Prop) (Q : Exit → Act → World → Prop),
      (∀ ψ1 a1 w1, Rel F (fun id => A id ∨ id ∈ out.nu) ψ1 (put env1 o.dst out.v) (ap H1 out.δ) a1 w1 → K a1 w1) → o.wp P a w K Q

def pureRun {α : Type} (P : Program) : Sem α → Option α
  | .pure a => some a
  | .program k => pureRun P (k P)
  | .mark _ k => pureRun P k
  | _ => none

theorem pureRun_run {α : Type} (P : Program) (w : World) : ∀ (s : Sem α) (a : α), pureRun P s = some a → s.run P w = .ok a w := by
  intro s
  induction s with
  | pure a => intro b h; simp [pureRun] at h; subst h; rfl
  | program k ih => intro b h; exact ih P b h
  | mark m k ih => intro b h; exact ih b h
  | _ => intro b h; simp [pureRun] at h

theorem A_nil {P : Program} {F : Fr P} {A : Nat → Prop} {ψ : Nat → Gh} {env : List Value} {H : Heap} {a : Act} {w : World} (h : Rel F A ψ env H a w) : Rel F (fun id => A id ∨ id ∈ ([] : List Nat)) ψ env H a w := by
  have : (fun id => A id ∨ id ∈ ([] : List Nat)) = A := by funext id; simp
  rw [this]; exact h

/-- An operation that yields a value and leaves memory alone. -/
theorem StepOK.value {P : Program} {o : Oper} {env : List Value} {H : Heap} {v : Value} {D : List Nat}
    (h : ∀ (F : Fr P) A ψ env1 H1 a w, Rel F A ψ env1 H1 a w → (∀ x ∈ o.op.operands, ev env1 x = ev env x) → (∀ id ∈ D, rd H1 id = rd H id) →
      ∃ v', (execOp a.eval o).run P w = .ok (.value v') w ∧ VR A ψ v v') : StepOK P o env H ⟨v, [], D, []⟩ := by
  intro F A ψ env1 H1 a w hr he hD _ K Q hK
  obtain ⟨v', h1, h2⟩ := h F A ψ env1 H1 a w hr he hD
  unfold Oper.wp
  rw [h1]
  exact hK ψ _ _ (A_nil (put_rel hr h2 o.dst))

/-- The operands are known: the model itself says what comes out. -/
def noSel : Op → Bool
  | .select _ _ => false
  | _ => true

def evGround (P : Program) (env : List Value) (o : Oper) : Option Out :=
  if o.op.operands.toList.all (fun x => ground (ev env x)) && noSel o.op then
    match pureRun P (execOp (ev env) o) with
    | some (.value v) => if ground v then some ⟨v, [], [], []⟩ else none
    | _ => none
  else none

theorem evGround_ok {P : Program} {env : List Value} {H : Heap} {o : Oper} {out : Out} (h : evGround P env o = some out) : StepOK P o env H out := by
  unfold evGround at h
  split at h
  · rename_i hg
    simp only [Bool.and_eq_true, List.all_eq_true] at hg
    obtain ⟨hg, hs⟩ := hg
    split at h
    · rename_i v hv
      split at h
      · rename_i hgv
        cases h
        refine StepOK.value fun F A ψ env1 H1 a w hr he _ => ⟨v, ?_, .refl_ground hgv⟩
        have : execOp a.eval o = execOp (ev env) o := execOp_congr o (by intro cs b e; simp [e, noSel] at hs) fun x hx => by
          have h1 := hr.ev x
          rw [he x hx] at h1
          exact h1.of_ground (hg x (by simpa using hx))
        rw [this]
        exact pureRun_run P w _ _ hv
      · cases h
    · cases h
  · cases h

end
end Go.Vm
