/- The operations that make or write memory. -/
import Derived.Test.YtaigknknfaeajaaGreatDoorVmC
namespace Go.Vm
noncomputable section

section
variable {P : Program} {o : Oper} {env env1 : List Value} {H H1 : Heap} {F : Fr P} {A : Nat → Prop} {ψ : Nat → Gh} {a : Act} {w : World}

theorem Rel.push {w1 : World} {nid : Nat} {g : Gh} {ob : AObj} (hr : Rel F A ψ env1 H1 a w) (hw : SameBut w w1 w.heap.size) (hlt : w.heap.size < w1.heap.size) (hn : ¬ A nid) (hg : g.blk = w.heap.size)
    (ho : ORel (fun id => A id ∨ id = nid) (upd ψ nid g) g w1 ob) {v v' : Value} (hv : VR (fun id => A id ∨ id = nid) (upd ψ nid g) v v') (dst : Option Tmp) (hes : EsOK g ob := by first | exact rfl | exact trivial) :
    Rel F (fun id => A id ∨ id ∈ [nid]) (upd ψ nid g) (put env1 dst v) (wr H1 nid (some ob)) (a.put dst v') w1 := by
  have hA : (fun id => A id ∨ id ∈ [nid]) = (fun id => A id ∨ id = nid) := by funext id; simp
  rw [hA]
  have hag : ∀ id, A id → (A id ∨ id = nid) ∧ upd ψ nid g id = ψ id := fun id ha => ⟨.inl ha, by
    have : id ≠ nid := fun e => hn (by rw [← e]; exact ha)
    simp [upd, this]⟩
  refine put_rel ⟨fun t => (hr.slot t).mono hag, hr.len, hr.defers, ?_⟩ hv dst
  exact hr.heap.adopt hw hlt hn (fun j oj hj hv e => by have := ((hr.heap.live j oj hj).2.2 hv).1; omega) (.inl hr.heap.fr.size) hg hes ho

theorem VR.new_ptr {nid : Nat} {g : Gh} (hg : g.off = 0) : VR (fun id => A id ∨ id = nid) (upd ψ nid g) (.pointer (some ⟨nid, 0, none⟩)) (.pointer (some ⟨g.blk, 0, none⟩)) := by
  have := VR.ptr (A := fun id => A id ∨ id = nid) (ψ := upd ψ nid g) nid 0 (.inr rfl)
  simpa [upd, hg] using this

theorem VR.new_slice {nid : Nat} {g : Gh} (hg : g.off = 0) {len cap cap' : Nat} (hc : CapRel g 0 len cap cap') :
    VR (fun id => A id ∨ id = nid) (upd ψ nid g) (.slice (some ⟨nid, 0, none⟩) len cap) (.slice (some ⟨g.blk, 0, none⟩) len cap') := by
  have := VR.slice (A := fun id => A id ∨ id = nid) (ψ := upd ψ nid g) nid 0 len cap cap' (.inr rfl) (by simpa [upd] using hc)
  simpa [upd, hg] using this

theorem alloc_get (w : World) (c : Obj) : (w.alloc c).heap[w.heap.size]? = some c := by
  show (w.heap.push c)[w.heap.size]? = _
  simp

theorem mono_new {nid : Nat} {g : Gh} (hn : ¬ A nid) : ∀ id, A id → (A id ∨ id = nid) ∧ upd ψ nid g id = ψ id := fun id ha => ⟨.inl ha, by
    have : id ≠ nid := fun e => hn (by rw [← e]; exact ha)
    simp [upd, this]⟩

theorem ORel.new {A' : Nat → Prop} {ψ' : Nat → Gh} {w1 : World} {b es : Nat} {cells : List Value} {arr : Array Value} {el : TypeId} {more flat : Bool} (hb : w1.heap[b]? = some (.cells arr el (0, 0)))
    (hs : if more then cells.length ≤ arr.size else arr.size = cells.length) (hc : ∀ i, i < cells.length → ∃ v', arr[i]? = some v' ∧ v'.oneCell' = true ∧ VR A' ψ' (cells.getD i poi) v')
    (hf : flat = true → ∀ v ∈ cells, atom v = true) : ORel A' ψ' ⟨b, 0, arr.size, es⟩ w1 (.row cells es more true flat) :=
  ⟨arr, el, (0, 0), hb, rfl, by simpa using hc, fun _ => ⟨rfl, rfl, rfl, fun hm => by simpa [hm] using hs⟩, hf⟩

/-- Cells and cells. -/
structure CR (A : Nat → Prop) (ψ : Nat → Gh) (xs ys : Array Value) : Prop where
  size : xs.size = ys.size
  one : ∀ y ∈ ys, y.oneCell' = true
  at_ : ∀ i, VR A ψ (xs.getD i poi) (ys.getD i undef)

theorem CR.of_cells {v v' : Value} (h : VR A ψ v v') (hk : okv v = true) : CR A ψ v.cells v'.cells := by
  obtain ⟨h1, h2, h3⟩ := h.cells hk
  exact ⟨h1.symm, h2, h3⟩

theorem CR.get {A' : Nat → Prop} {ψ' : Nat → Gh} {xs ys : Array Value} (h : CR A' ψ' xs ys) : ∀ i, i < xs.toList.length → ∃ v', ys[i]? = some v' ∧ v'.oneCell' = true ∧ VR A' ψ' (xs.toList.getD i poi) v' := by
  intro i hi
  have hi' : i < ys.size := by have := h.size; simp at hi; omega
  refine ⟨ys[i], by simp [hi'], h.one _ (by simp), ?_⟩
  have := h.at_ i
  have e1 : xs.toList.getD i poi = xs.getD i poi := by simp [Array.getD_eq_getD_getElem?, List.getD_eq_getElem?_getD]
  rw [e1]
  simpa [Array.getD, hi'] using this

theorem CR.mono {A' : Nat → Prop} {ψ' : Nat → Gh} (hA : ∀ id, A id → A' id ∧ ψ' id = ψ id) {xs ys : Array Value} (h : CR A ψ xs ys) : CR A' ψ' xs ys :=
  ⟨h.size, h.one, fun i => (h.at_ i).mono hA⟩

theorem CR.refl {v : Value} (hg : ground1 v = true) : CR A ψ v.cells v.cells := by
  refine CR.of_cells (.refl_ground1 hg) ?_
  cases v <;> simp_all [okv, ground1, Vm.atom]

def evAlloc (P : Program) (nid : Nat) (t : TypeId) : Option Out :=
  match P.info? t with
  | some i => match i.zero with
    | some z => if ground1 z then some ⟨.pointer (some ⟨nid, 0, none⟩), [(nid, some (.row z.cells.toList 0 false true true))], [], [nid]⟩ else none
    | none => none
  | none => none

theorem flat_zero {z : Value} (hg : ground1 z = true) : ∀ v ∈ z.cells.toList, atom v = true := by
  intro v hv
  cases hz : z with
  | agg cs => subst hz; simp only [ground1, List.all_eq_true] at hg; exact hg v hv
  | _ => subst hz; simp only [Value.cells, List.mem_cons, List.not_mem_nil, or_false] at hv; subst hv; simpa [ground1] using hg

theorem alloc_ok {t : TypeId} {nid : Nat} {out : Out} (ho : o.op = .alloc t) (h : evAlloc P nid t = some out) : StepOK P o env H out := by
  unfold evAlloc at h
  split at h
  · rename_i i hi
    split at h
    · rename_i z hz
      split at h
      · rename_i hg
        cases h
        intro F A ψ env1 H1 a w hr he hD hn K Q hK
        have hn' : ¬ A nid := hn _ (List.mem_singleton_self _)
        unfold Oper.wp
        have hrun : (execOp a.eval o).run P w = .ok (.value (.pointer (some ⟨w.heap.size, 0, none⟩))) (w.alloc (.cells z.cells t)) := by
          simp [execOp, ho, Instr.alloc, zeroValue, typeInfo, hi, hz, newVar, newRow]
        rw [hrun]
        have hc : CR (fun id => A id ∨ id = nid) (upd ψ nid ⟨w.heap.size, 0, z.cells.size, 0⟩) z.cells z.cells := CR.refl hg
        exact hK _ _ _ (hr.push (SameBut.alloc w _) (by simp) hn' rfl
          (ORel.new (el := t) (arr := z.cells) (b := w.heap.size) (alloc_get _ _) (by simp) hc.get (fun _ => flat_zero hg)) (VR.new_ptr rfl) o.dst)
      · cases h
    · cases h
  · cases h

def evBox (nid : Nat) (v : Value) : Option Out :=
  if okv v then some ⟨.pointer (some ⟨nid, 0, none⟩), [(nid, some (.row v.cells.toList 0 false true (v.cells.toList.all atom)))], [], [nid]⟩ else none

theorem box_ok {t : TypeId} {x : Operand} {nid : Nat} {out : Out} (ho : o.op = .box t x) (h : evBox nid (ev env x) = some out) : StepOK P o env H out := by
  unfold evBox at h
  split at h
  · rename_i hk
    cases h
    intro F A ψ env1 H1 a w hr he hD hn K Q hK
    have hn' : ¬ A nid := hn _ (List.mem_singleton_self _)
    have h1 := opd hr he (x := x) (by simp [ho, Op.operands])
    unfold Oper.wp
    have hrun : (execOp a.eval o).run P w = .ok (.value (.pointer (some ⟨w.heap.size, 0, none⟩))) (w.alloc (.cells (a.eval x).cells t)) := by
      simp [execOp, ho, Instr.box, newVar, newRow]
    rw [hrun]
    have hc := (CR.of_cells h1 hk).mono (mono_new (ψ := ψ) (g := ⟨w.heap.size, 0, (a.eval x).cells.size, 0⟩) hn')
    exact hK _ _ _ (hr.push (SameBut.alloc w _) (by simp) hn' rfl
      (ORel.new (el := t) (arr := (a.eval x).cells) (b := w.heap.size) (alloc_get _ _) (by simpa using hc.size.symm) hc.get (fun hf => List.all_eq_true.1 hf)) (VR.new_ptr rfl) o.dst)
  · cases h

/-! ### Stores -/
def splice (cells : List Value) (off : Nat) (cs : List Value) : List Value := cells.take off ++ (cs ++ cells.drop (off + cs.length))

theorem splice_len {cells : List Value} {off : Nat} {cs : List Value} (h : off + cs.length ≤ cells.length) : (splice cells off cs).length = cells.length := by
  simp [splice]; omega

theorem splice_get {cells : List Value} {off : Nat} {cs : List Value} (h : off + cs.length ≤ cells.length) (i : Nat) :
    (splice cells off cs).getD i poi = if off ≤ i ∧ i < off + cs.length then cs.getD (i - off) poi else cells.getD i poi := by
  simp only [splice, List.getD_eq_getElem?_getD]
  by_cases h1 : i < off
  · rw [List.getElem?_append_left (by simp; omega), if_neg (by omega), List.getElem?_take, if_pos h1]
  · rw [List.getElem?_append_right (by simp; omega)]
    have hl : (List.take off cells).length = off := by simp; omega
    rw [hl]
    by_cases h2 : i < off + cs.length
    · rw [List.getElem?_append_left (by omega), if_pos ⟨by omega, h2⟩]
    · rw [List.getElem?_append_right (by omega), if_neg (by omega), List.getElem?_drop]
      congr 2; omega

theorem splice_mem {cells : List Value} {off : Nat} {cs : List Value} {v : Value} (h : v ∈ splice cells off cs) : v ∈ cells ∨ v ∈ cs := by
  simp only [splice, List.mem_append] at h
  rcases h with h | h | h
  · exact .inl (List.mem_of_mem_take h)
  · exact .inr h
  · exact .inl (List.mem_of_mem_drop h)

/-- What 'setCells' makes of a block. -/
theorem setCells_block {b : Nat} : ∀ (vs : List Value) (off : Nat) (w : World) (arr : Array Value) (el : TypeId) (fz : Nat × Nat), w.heap[b]? = some (.cells arr el fz) → off + vs.length ≤ arr.size →
    ∃ arr', (w.setCells b off vs).heap[b]? = some (.cells arr' el fz) ∧ arr'.size = arr.size ∧ ∀ i, arr'[i]? = if off ≤ i ∧ i < off + vs.length then vs[i - off]? else arr[i]?
  | [], off, w, arr, el, fz, h, _ => ⟨arr, h, rfl, fun i => by simp [show ¬ (off ≤ i ∧ i < off) by omega]⟩
  | v :: r, off, w, arr, el, fz, h, hl => by
    have hb : b < w.heap.size := by
      rcases Nat.lt_or_ge b w.heap.size with hb | hb
      · exact hb
      · simp [Array.getElem?_eq_none hb] at h
    have h1 : (w.setCell ⟨b, off, none⟩ v).heap[b]? = some (.cells (arr.setIfInBounds off v) el fz) := by
      simp [World.setCell, Array.getElem?_modify, h]
    obtain ⟨arr', e1, e2, e3⟩ := setCells_block r (off + 1) _ _ el fz h1 (by simp at hl ⊢; omega)
    refine ⟨arr', e1, by simpa using e2, fun i => ?_⟩
    rw [e3 i]
    simp only [List.length_cons] at hl ⊢
    by_cases c1 : off + 1 ≤ i ∧ i < off + 1 + r.length
    · rw [if_pos c1, if_pos (by omega)]
      obtain ⟨j, rfl⟩ : ∃ j, i = off + 1 + j := ⟨i - (off + 1), by omega⟩
      simp [show off + 1 + j - (off + 1) = j by omega, show off + 1 + j - off = j + 1 by omega]
    · rw [if_neg c1]
      by_cases c2 : i = off
      · subst c2
        rw [if_pos (by omega)]
        simp [show i < arr.size by omega]
      · rw [if_neg (by omega), Array.getElem?_setIfInBounds_ne (by omega)]

theorem setCells_same {b : Nat} (vs : List Value) (off : Nat) (w : World) : SameBut w (w.setCells b off vs) b := by
  have tape : ∀ (vs : List Value) (off : Nat) (w : World), (w.setCells b off vs).tape = w.tape := by
    intro vs
    induction vs with
    | nil => intro _ _; rfl
    | cons v r ih => intro off w; exact ih _ _
  have size : ∀ (vs : List Value) (off : Nat) (w : World), (w.setCells b off vs).heap.size = w.heap.size := by
    intro vs
    induction vs with
    | nil => intro _ _; rfl
    | cons v r ih => intro off w; show ((w.setCell _ v).setCells b (off + 1) r).heap.size = _; rw [ih]; simp [World.setCell]
  exact ⟨World.os_setCells _ _ _ _, tape _ _ _, World.output_setCells _ _ _ _, by rw [size]; exact Nat.le_refl _, fun k hk hne => World.heap_setCells_other w b off vs hk hne⟩

/-- A row of its own, written. -/
theorem write_row {cells : List Value} {es : Nat} {more flat : Bool} {id off : Nat} {cs vs : List Value} (hh : HRel F A ψ H1 w) (hrd : rd H1 id = some (.row cells es more true flat))
    (hl : off + cs.length ≤ cells.length) (hne : 0 < cs.length) (hlen : vs.length = cs.length) (h1 : ∀ v ∈ vs, v.oneCell' = true) (hv : ∀ i, VR A ψ (cs.getD i poi) (vs.getD i undef)) :
    (∀ j, j < vs.length → (w.cell? ⟨(ψ id).blk, off + j, none⟩).isSome = true) ∧ (∀ j, j < vs.length → w.frozen? ⟨(ψ id).blk, off + j, none⟩ = false) ∧ (ψ id).off = 0 ∧
    HRel F A ψ (wr H1 id (some (.row (splice cells off cs) es more true (flat && cs.all atom)))) (w.setCells (ψ id).blk off vs) := by
  have hvd : (AObj.row cells es more true flat).vd = false := vd_row (by omega)
  obtain ⟨hA, _, hl0⟩ := hh.live id _ hrd
  obtain ⟨hlt, arr, el, fz, k1, k2, k3, k4, k5⟩ := hl0 hvd
  obtain ⟨m1, rfl, m3, m4⟩ := k4 rfl
  have hsz : cells.length ≤ arr.size := by
    rcases Nat.eq_zero_or_pos cells.length with h0 | h0
    · omega
    · obtain ⟨v', e, _⟩ := k3 (cells.length - 1) (by omega)
      rw [m1] at e
      have := (Array.getElem?_eq_some_iff.1 e).1
      omega
  have hin : off + vs.length ≤ arr.size := by omega
  refine ⟨fun j hj => ?_, fun j hj => ?_, m1, ?_⟩
  · simp [World.cell?, k1, show off + j < arr.size by omega]
  · simp [World.frozen?, k1]
  · obtain ⟨arr', e1, e2, e3⟩ := setCells_block vs off w arr el (0, 0) k1 hin
    refine hh.update hrd rfl hvd k2 (setCells_same vs off w) ?_
    refine ⟨arr', el, (0, 0), e1, k2, fun i hi => ?_, fun _ => ⟨m1, rfl, by rw [e2]; exact m3, fun hm => by rw [splice_len hl]; exact m4 hm⟩, fun hf v hv' => ?_⟩
    · rw [splice_len hl] at hi
      rw [m1, Nat.zero_add, e3 i, splice_get hl, hlen]
      split
      · rename_i hc
        have hj : i - off < vs.length := by omega
        refine ⟨vs[i - off], by simp [hj], h1 _ (by simp), ?_⟩
        have := hv (i - off)
        simpa [List.getD_eq_getElem?_getD, hj] using this
      · obtain ⟨v', f1, f2, f3⟩ := k3 i hi
        rw [m1, Nat.zero_add] at f1
        exact ⟨v', f1, f2, f3⟩
    · simp only [Bool.and_eq_true, List.all_eq_true] at hf
      rcases splice_mem hv' with hm | hm
      · exact k5 hf.1 v hm
      · exact hf.2 v hm

def evStore (P : Program) (H : Heap) (t : TypeId) (x v : Value) : Option Out :=
  match x with
  | .pointer (some ⟨id, off, none⟩) =>
    match rd H id, P.info? t with
    | some (.row cells es more true flat), some i =>
      if okv v && decide (v.cells.toList.length = i.size) && decide (off + v.cells.toList.length ≤ cells.length) && decide (0 < v.cells.toList.length) then
        some ⟨undef, [(id, some (.row (splice cells off v.cells.toList) es more true (flat && v.cells.toList.all atom)))], [id], []⟩
      else none
    | _, _ => none
  | _ => none

theorem Rel.heap_step {w1 : World} {H2 : Heap} (hr : Rel F A ψ env1 H1 a w) (h : HRel F A ψ H2 w1) {v v' : Value} (hv : VR A ψ v v') (dst : Option Tmp) : Rel F A ψ (put env1 dst v) H2 (a.put dst v') w1 :=
  put_rel ⟨hr.slot, hr.len, hr.defers, h⟩ hv dst

theorem store_ok {t : TypeId} {x y : Operand} {out : Out} (ho : o.op = .store t x y) (h : evStore P H t (ev env x) (ev env y) = some out) : StepOK P o env H out := by
  unfold evStore at h
  split at h
  · rename_i id off hv
    split at h
    · rename_i cells es more flat i hrd hi
      split at h
      · rename_i hcond
        simp only [Bool.and_eq_true, decide_eq_true_eq] at hcond
        obtain ⟨⟨⟨hk, hsz⟩, hle⟩, hne⟩ := hcond
        cases h
        intro F A ψ env1 H1 a w hr he hD hn K Q hK
        have h1 := opd hr he (x := x) (by simp [ho, Op.operands])
        have h2 := opd hr he (x := y) (by simp [ho, Op.operands])
        rw [hv] at h1
        obtain ⟨hA, e1⟩ := h1.ptr_inv
        have hrd1 : rd H1 id = some (.row cells es more true flat) := by rw [hD id (by simp), hrd]
        have hc := CR.of_cells h2 hk
        have hs : (a.eval y).cells.toList.length = (ev env y).cells.toList.length := by simpa using hc.size.symm
        obtain ⟨k1, k2, k3, k4⟩ := write_row (off := off) (cs := (ev env y).cells.toList) (vs := (a.eval y).cells.toList) hr.heap hrd1 hle hne hs (by simpa using hc.one)
          (fun j => by simpa [Array.getD_eq_getD_getElem?, List.getD_eq_getElem?_getD] using hc.at_ j)
        unfold Oper.wp
        have hst := run_storeCells_cells (P := P) (ψ id).blk off (a.eval y).cells.toList 0 w (by simpa using k1) (by simpa using k2) (by simpa using hc.one)
        simp only [Nat.add_zero] at hst
        have hrun : (execOp a.eval o).run P w = .ok .skip (w.setCells (ψ id).blk off (a.eval y).cells.toList) := by
          have hs' : (a.eval y).cells.size = i.size := by simpa using hs.trans hsz
          simp [execOp, ho, e1, k3, Instr.storeAt, Instr.sureAddr, storeVar, sizeOf, typeInfo, hi, hs', hst]
        rw [hrun]
        have := hr.heap_step (H2 := _) k4 (v := undef) .refl_undef o.dst
        exact hK ψ _ _ (A_nil this)
      · cases h
    · cases h
  · cases h

end
end
end Go.Vm
