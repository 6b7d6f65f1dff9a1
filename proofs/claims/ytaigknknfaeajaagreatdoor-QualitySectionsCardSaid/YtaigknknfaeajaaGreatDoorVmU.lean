/- The range over a function, walked. -/
import Derived.Test.YtaigknknfaeajaaGreatDoorVmO
namespace Go.Vm
open Go.RowKit
noncomputable section

section
variable {P : Program} {F : Fr P} {A A' : Nat → Prop} {ψ ψ' : Nat → Gh} {H H' : Heap} {env : List Value} {a : Act} {w w' : World}

theorem setAll_rel : ∀ (ps : List Tmp) (vs : List Value) {env : List Value} {a : Act}, Rel F A ψ env H a w → vs.all ground = true →
    Rel F A ψ (setAll ps vs env) H { a with tmps := (ps.zip vs).foldl (fun t p => t.setIfInBounds p.1 p.2) a.tmps } w
  | [], vs, env, a, hr, _ => by simpa [setAll] using hr
  | p :: ps, [], env, a, hr, _ => by simpa [setAll] using hr
  | p :: ps, v :: vs, env, a, hr, hv => by
    simp only [List.all_cons, Bool.and_eq_true] at hv
    have h1 := put_rel hr (VR.refl_ground (A := A) (ψ := ψ) hv.1) (some p)
    have := setAll_rel ps vs h1 hv.2
    simpa [setAll, put, Act.put] using this

theorem ext_rebase (h : HRel F A ψ H w) {D : Nat} (hD : F.w0.heap.size ≤ D) (hk : w.heap[D]? = some (.deferred (some []))) : Ext F (Vm.rebase P w ψ H F.A0 F.ψ0 (mark D :: F.ds)) := by
  refine ⟨fun h' => h.unbase h' (fun id hid => ⟨hid, rfl⟩), rfl, h.fr.size, fun D' hm => ⟨(h.fr.block D' (Array.getElem?_eq_some_iff.1 hm.1).1 hm.2).trans hm.1, fun hb => ?_⟩, [D], rfl, by simp, fun D' hD' => ?_⟩
  · obtain ⟨id, o, a, b, hv, c⟩ := hb
    exact h.not_block ((h.fr.block D' (Array.getElem?_eq_some_iff.1 hm.1).1 hm.2).trans hm.1) rfl (fun _ _ _ e => by cases e) a hv c
  · obtain rfl : D' = D := by simpa using hD'
    refine ⟨hD, (Array.getElem?_eq_some_iff.1 hk).1, hk, fun hb => ?_⟩
    obtain ⟨id, o, a, b, hv, c⟩ := hb
    exact h.not_block hk rfl (fun _ _ _ e => by cases e) a hv c

def gcH (k : Nat) (h : Heap) (K : Heap → Prop) : Prop :=
  match gc k [] h with
  | some (_, h') => K h'
  | none => False

def thenN (K : List Value → Heap → Prop) : Ex → List Value → Heap → Prop
  | .normal, e, h => K e h
  | _, _, _ => False

/-- How a round may end. -/
def rfPost (k : Nat) (Hp : Nat → Heap) (I : Nat → Prop) {σ : Type} (Hx : σ → Heap) (Ix : σ → Prop) (i : Nat) : Ex → List Value → Heap → Prop
  | .normal, _, h => gcH k h fun h => h = Hp (i + 1) ∧ I (i + 1)
  | .ret, _, h => gcH k h fun h => ∃ s, h = Hx s ∧ Ix s
  | .exit _, _, _ => False

theorem gcH_spec {k : Nat} {K : Heap → Prop} (h : gcH k H K) (hr : HRel F A ψ H w) (hb : ∀ id, F.A0 id → id < k) : ∃ A' ψ' H', HRel F A' ψ' H' w ∧ (∀ id, A' id → id < H'.length) ∧ K H' := by
  unfold gcH at h
  split at h
  · rename_i e h' hg
    have hrel : Rel F A ψ [] H ⟨#[], F.ds⟩ w := ⟨fun t => by simp; exact .poison _, by simp, rfl, hr⟩
    obtain ⟨A', ψ', r1, r2⟩ := gc_rel hg hrel hb
    exact ⟨A', ψ', h', r1.heap, r2, h⟩
  · exact h.elim

theorem callable_run {gf : Nat} (h : callable P gf = true) (args : Array Value) (w : World) : (callFunc gf args).run P w = .ok (.enter gf args) w := by
  unfold callable at h
  split at h
  · rename_i fn hfn
    simp only [Bool.and_eq_true, bne_iff_ne, ne_eq] at h
    have hb : fn.body ≠ none := by intro hh; simp [hh] at h
    simp [callFunc, hfn, hb, h.1]
  · cases h

set_option maxHeartbeats 1000000 in
theorem rangeFunc_ok {E : List Value} {g : Operand} {ps : Array Tmp} {assign body : Code} {base k : Nat} {Hp : Nat → Heap} {I : Nat → Prop} {σ : Type} {Hx : σ → Heap} {Ix : σ → Prop}
    {gf : Nat} {cap : Array Value} {N : Nat} {el : Nat → List Value}
    (hr : Rel F A ψ E (Hp 0) a w) (hb : ∀ id, A id → id < (Hp 0).length) (hF : ∀ id, F.A0 id → id < base) (hbk : base ≤ k)
    (hE : E.map (renV (lowρ k) 4) = E) (hg : ev E g = .func (.func gf) #[] cap) (hcall : callable P gf = true)
    {ids : List Nat} (hids : nodupB ids = true) (hseal : allSealed (resH (Hp 0) ids) = true)
    (hit : IterRes P gf (cap.toList.map (renV (pos ids) 4)) (resH (Hp 0) ids) N el)
    (hps : ∀ i, I i → i < N → (el i).length = ps.size ∧ (el i).all ground = true) (hI : I 0)
    {cA cB : List Value → Heap → (Ex → List Value → Heap → Prop) → Prop} (hA : ∀ l env H Q, cA env H Q → GoesIn (some l) P k assign env H Q) (hB : ∀ l env H Q, cB env H Q → GoesIn (some l) P k body env H Q)
    (hround : ∀ i, I i → i < N → cA (setAll ps.toList (el i) E) (Hp i) (thenN fun e h => cB e h (rfPost k Hp I Hx Ix i)))
    {R : Exit → Act → World → Prop} {n : Nat}
    (hdone : I N → ∀ F' A' ψ' a' w', Ext F F' → Rel F' A' ψ' E (Hp N) a' w' → (∀ id, A' id → id < (Hp N).length) → R .normal a' w')
    (hret : ∀ s, Ix s → ∀ F' A' ψ' a' w', Ext F F' → Rel F' A' ψ' E (Hx s) a' w' → (∀ id, A' id → id < (Hx s).length) → R .ret a' w') :
    (Code.rangeFunc g ps assign body).wpIn (fen none) n P R a w := by
  have hgv := hr.ev g
  rw [hg] at hgv
  obtain ⟨ys, vs, eg, l1, l2⟩ := hgv.func_inv
  have hys : ys = #[] := by
    apply Array.eq_empty_of_size_eq_zero
    simpa using l1.len
  subst hys
  refine wpIn_rangeFunc ?_
  intro fn _
  obtain ⟨rec, hrec⟩ : ∃ rec : LoopState → Option Code → Loop, rec = fun st pe => { state := st, pending := pe, fn, tmps := a.tmps, params := ps, assign, body, defers := w.heap.size } := ⟨_, rfl⟩
  obtain ⟨W1, hW1⟩ : ∃ W1, (w.alloc (.deferred (some []))).alloc (.loop (rec .ready none)) = W1 := ⟨_, rfl⟩
  have hL1 : W1.heap[w.heap.size + 1]? = some (.loop (rec .ready none)) := by
    rw [← hW1]; have := World.alloc_heap_new (w.alloc (.deferred (some []))) (.loop (rec .ready none)); rwa [World.size_alloc] at this
  have hK1 : W1.heap[w.heap.size]? = some (.deferred (some [])) := by
    rw [← hW1]; exact (Below.heap_alloc _ _ _ (by simp)).trans (World.alloc_heap_new w _)
  have hbel1 : Below w.heap.size w W1 := by
    rw [← hW1]; exact ((Below.refl _ w).alloc (Nat.le_refl _) _).alloc (by simp) _
  -- the rounds' frame
  obtain ⟨F1, hF1⟩ : ∃ F1, F1 = Vm.rebase P w ψ (Hp 0) (fun id => A id ∧ id < k) ψ [] := ⟨_, rfl⟩
  have h1 : HRel F1 A ψ (Hp 0) w := by rw [hF1]; exact hr.heap.rebase fun id h => ⟨h.1, rfl⟩
  have h1w : F1.w0 = w := by rw [hF1]; rfl
  have h1A : ∀ id, F1.A0 id ↔ (A id ∧ id < k) := fun id => by rw [hF1]; exact Iff.rfl
  have h1ψ : F1.ψ0 = ψ := by rw [hF1]; rfl
  have hslots : ∀ {A' : Nat → Prop} {ψ' : Nat → Gh} {H' : Heap} {W' : World}, HRel F1 A' ψ' H' W' → ∀ t, VR A' ψ' (E.getD t poi) (a.tmps.getD t undef) := by
    intro A' ψ' H' W' hh t
    have := map_getD (A' := A') (ψ' := ψ') (f := renV (lowρ k) 4) (l := E) (l' := a.tmps.toList) (fun i _ => renV_rel (A := A) (ψ := ψ) (fun id j ha hj => by
      unfold lowρ at hj
      split at hj
      · rename_i hlt
        cases hj
        have := hh.old id ((h1A id).2 ⟨ha, hlt⟩)
        rw [h1ψ] at this
        exact this
      · cases hj) 4 (by simpa [Array.getD_eq_getD_getElem?, List.getD_eq_getElem?_getD] using hr.slot i)) t
    rw [hE] at this
    simpa [Array.getD_eq_getD_getElem?, List.getD_eq_getElem?_getD] using this
  -- the iterator's frame
  obtain ⟨FI, hFI⟩ : ∃ FI, FI = Vm.rebase P w ψ (Hp 0) (fun _ => False) ψ [] := ⟨_, rfl⟩
  have hI0 : HRel FI A ψ (Hp 0) w := by rw [hFI]; exact hr.heap.rebase fun id h => h.elim
  have hIw : FI.w0 = w := by rw [hFI]; rfl
  have hres := res_rel hr.heap hids (F' := FI) hI0.fr (fun j id o _ h2 h3 h4 => hI0.own id o h2 h3 h4) (fun j hj => by rw [hFI] at hj; exact hj.elim)
  have hkeep : ∀ {A' A'' : Nat → Prop} {ψ' ψ'' : Nat → Gh} {H' H'' : Heap} {W W' : World}, HRel F1 A' ψ' H' W → HRel F1 A'' ψ'' H'' W' → W.heap.size ≤ W'.heap.size → KeepF FI W W' := by
    intro A' A'' ψ' ψ'' H' H'' W W' h h' hs
    refine ⟨h'.fr.os.trans h.fr.os.symm, h'.fr.tape.trans h.fr.tape.symm, h'.fr.output.trans h.fr.output.symm, hs, fun b hb hS => ?_⟩
    have e1 : F1.w0 = FI.w0 := by rw [h1w, hIw]
    have e2 : F1.S = FI.S := by rw [hF1, hFI]; rfl
    rw [h'.fr.block b (by rw [e1]; exact hb) (by rw [e2]; exact hS), h.fr.block b (by rw [e1]; exact hb) (by rw [e2]; exact hS)]
  have hcall1 := hit FI _ _ w vs.toList hres hIw (fun j o ho => by
      have h0 := allSealed_spec hseal ho
      refine ⟨h0, fun hvo hS => ?_⟩
      rw [resH, rd_map] at ho
      cases hi : ids[j]? with
      | none => simp [hi] at ho
      | some id =>
        simp only [hi, Option.bind_some] at ho
        obtain ⟨o2, k1, k2⟩ := Option.map_eq_some_iff.1 ho
        have hgj : ids.getD j 0 = id := by simp [List.getD_eq_getElem?_getD, hi]
        rw [hgj] at hS
        rw [hFI] at hS
        obtain ⟨id', o', q1, q2, q4, q3⟩ := hS
        rw [← k2, renO_vd] at hvo
        have hne : id' ≠ id := fun e => by
          rw [e] at q1; rw [k1] at q1; cases q1
          rw [← k2, renO_rw] at h0
          rw [h0] at q2; cases q2
        exact hr.heap.inj id' id o' o2 q1 k1 hne q2 q4 hvo q3)
    (fun j ⟨id, hj, _⟩ => by simpa [resH] using (List.getElem?_eq_some_iff.1 hj).1)
    (l2.ren (ρ := pos ids) fun id j ha hj => by
      have := pos_spec hj
      exact ⟨⟨id, this, ha⟩, by simp [List.getD_eq_getElem?_getD, this]⟩)
    (n - 1) (w.heap.size + 1)
    (fun i W => I i ∧ (∃ A' ψ', HRel F1 A' ψ' (Hp i) W ∧ ∀ id, A' id → id < (Hp i).length) ∧ W.heap[w.heap.size + 1]? = some (.loop (rec .ready none)) ∧ W.heap[w.heap.size]? = some (.deferred (some [])))
    (fun _ W => ∃ s, Ix s ∧ (∃ A' ψ', HRel F1 A' ψ' (Hx s) W ∧ ∀ id, A' id → id < (Hx s).length) ∧ W.heap[w.heap.size + 1]? = some (.loop (rec .done (some .ret))) ∧ W.heap[w.heap.size]? = some (.deferred (some [])))
    W1 ⟨hbel1.os, hbel1.tape, hbel1.output, hbel1.size, fun b hb _ => hbel1.block b (by rw [hIw] at hb; exact hb)⟩
    (fun i W W' ⟨q1, ⟨A', ψ', q2, q3⟩, q4, q5⟩ hb' => ⟨q1, ⟨A', ψ', q2.below' hb', q3⟩, (hb'.block _ (Array.getElem?_eq_some_iff.1 q4).1).trans q4, (hb'.block _ (Array.getElem?_eq_some_iff.1 q5).1).trans q5⟩)
    (fun i W W' ⟨s, q1, ⟨A', ψ', q2, q3⟩, q4, q5⟩ hb' => ⟨s, q1, ⟨A', ψ', q2.below' hb', q3⟩, (hb'.block _ (Array.getElem?_eq_some_iff.1 q4).1).trans q4, (hb'.block _ (Array.getElem?_eq_some_iff.1 q5).1).trans q5⟩)
    ?round ⟨hI, ⟨A, ψ, h1.below' hbel1, hb⟩, hL1, hK1⟩
  case round =>
    rintro i W ⟨hi, ⟨A1, ψ1, hh, hbd⟩, hl, hk⟩ _ hlt
    have hp := hps i hi hlt
    have hy := run_yield (P := P) (args := (el i).toArray) hl (by rw [hrec]; simp [hp.1])
    rw [hrec] at hy
    refine ⟨fn, _, assign, body, hy, roundIn_of_wpIn trivial ?_⟩
    have hh2 : HRel (Vm.rebase P W ψ1 (Hp i) (fun id => A1 id ∧ id < k) ψ1 []) A1 ψ1 (Hp i) W := hh.rebase fun id h => ⟨h.1, rfl⟩
    have rel2 := setAll_rel (F := Vm.rebase P W ψ1 (Hp i) (fun id => A1 id ∧ id < k) ψ1 []) (a := ⟨a.tmps, []⟩) ps.toList (el i) ⟨hslots hh, hr.len, rfl, hh2⟩ hp.2
    have hfold : (ps.zip (el i).toArray).foldl (fun t (p, v) => t.setIfInBounds p v) a.tmps = (ps.toList.zip (el i)).foldl (fun t p => t.setIfInBounds p.1 p.2) a.tmps := by
      rw [← Array.foldl_toList, Array.toList_zip]
    rw [hfold]
    refine hA (w.heap.size + 1) _ _ _ (hround i hi hlt) _ _ A1 ψ1 _ W _ rel2 hbd (fun id h => h.2) ?_
    rintro x e h F2' A2 ψ2 a2 W2 ext2 hx rel2' hbd2
    cases x with
    | exit id => exact hx.elim
    | ret => exact hx.elim
    | normal =>
    have h22 := ext2.x.back rel2'.heap
    have nb : ∀ {l : Nat} {x : Obj}, W.heap[l]? = some x → x.isWalk = false → (∀ c e f, x ≠ .cells c e f) → W2.heap[l]? = some x := fun hl k1 k2 =>
      (h22.fr.block _ (Array.getElem?_eq_some_iff.1 hl).1 (fun ⟨id, o, q1, _, q4, q3⟩ => hh.not_block hl k1 k2 q1 q4 q3)).trans hl
    have hold1 : ∀ id, F1.A0 id → (A1 id ∧ id < k) ∧ ψ1 id = F1.ψ0 id := fun id hid => ⟨⟨(hh.old id hid).1, ((h1A id).1 hid).2⟩, (hh.old id hid).2⟩
    have h12 : HRel F1 A2 ψ2 h W2 := hh.unbase h22 hold1
    have hL2 := nb hl rfl (fun _ _ _ e => by cases e)
    have hK2 := nb hk rfl (fun _ _ _ e => by cases e)
    refine ⟨_, run_beginRound hL2 (by rw [hrec]), ?_⟩
    obtain ⟨W3, hW3⟩ : ∃ W3, W3 = W2.putObj (w.heap.size + 1) (.loop { rec .ready none with state := .busy }) := ⟨_, rfl⟩
    rw [← hW3]
    have hL3 : W3.heap[w.heap.size + 1]? = some (.loop { rec .ready none with state := .busy }) := by rw [hW3]; exact World.putObj_heap_same (Array.getElem?_eq_some_iff.1 hL2).1
    have hK3 : W3.heap[w.heap.size]? = some (.deferred (some [])) := by rw [hW3]; exact (World.putObj_heap_other (by omega)).trans hK2
    have hs3 : W3.heap.size = W2.heap.size := by rw [hW3]; simp
    have h13 : HRel F1 A2 ψ2 h W3 := by rw [hW3]; exact h12.putObj hL2 rfl (fun _ _ _ e => by cases e) (by rw [h1w]; omega) _
    have h33 : HRel (Vm.rebase P W3 ψ2 h (fun id => A2 id ∧ id < k) ψ2 a2.defers) A2 ψ2 h W3 := h13.rebase fun id h => ⟨h.1, rfl⟩
    refine hB (w.heap.size + 1) _ _ _ hx _ _ A2 ψ2 a2 W3 _ ⟨rel2'.slot, rel2'.len, rfl, h33⟩ hbd2 (fun id h => h.2) ?_
    rintro x e' h' F3' A3 ψ3 a3 W4 ext3 hx3 rel3 hbd3
    have h34 := ext3.x.back rel3.heap
    have nb3 : ∀ {l : Nat} {x : Obj}, W3.heap[l]? = some x → x.isWalk = false → (∀ c e f, x ≠ .cells c e f) → W4.heap[l]? = some x := fun hl k1 k2 =>
      (h34.fr.block _ (Array.getElem?_eq_some_iff.1 hl).1 (fun ⟨id, o, q1, _, q4, q3⟩ => h13.not_block hl k1 k2 q1 q4 q3)).trans hl
    have hL4 := nb3 hL3 rfl (fun _ _ _ e => by cases e)
    have hK4 := nb3 hK3 rfl (fun _ _ _ e => by cases e)
    have h14 : HRel F1 A3 ψ3 h' W4 := h13.unbase h34 fun id hid => ⟨⟨(h13.old id hid).1, ((h1A id).1 hid).2⟩, (h13.old id hid).2⟩
    have fin : ∀ (jump : Option Code), (Instr.endRound (w.heap.size + 1) jump).run P W4 = .ok (.bool jump.isNone) (W4.putObj (w.heap.size + 1) (.loop (rec (if jump.isNone then .ready else .done) jump))) ∧
        (∀ {A5 ψ5 H5}, HRel F1 A5 ψ5 H5 W4 → HRel F1 A5 ψ5 H5 (W4.putObj (w.heap.size + 1) (.loop (rec (if jump.isNone then .ready else .done) jump)))) ∧
        (W4.putObj (w.heap.size + 1) (.loop (rec (if jump.isNone then .ready else .done) jump))).heap[w.heap.size + 1]? = some (.loop (rec (if jump.isNone then .ready else .done) jump)) ∧
        (W4.putObj (w.heap.size + 1) (.loop (rec (if jump.isNone then .ready else .done) jump))).heap[w.heap.size]? = some (.deferred (some [])) ∧
        KeepF FI W (W4.putObj (w.heap.size + 1) (.loop (rec (if jump.isNone then .ready else .done) jump))) := fun jump => by
      have hr1 := run_endRound (P := P) jump hL4
      have hput : ∀ {A5 ψ5 H5}, HRel F1 A5 ψ5 H5 W4 → HRel F1 A5 ψ5 H5 (W4.putObj (w.heap.size + 1) (.loop (rec (if jump.isNone then .ready else .done) jump))) := fun h5 =>
        h5.putObj hL4 rfl (fun _ _ _ e => by cases e) (by rw [h1w]; omega) _
      refine ⟨by rw [hrec] at hr1 ⊢; exact hr1, hput, World.putObj_heap_same (Array.getElem?_eq_some_iff.1 hL4).1, (World.putObj_heap_other (by omega)).trans hK4, hkeep hh (hput h14) ?_⟩
      have a1 := h22.fr.size
      have a2 := h34.fr.size
      simp only [Vm.rebase] at a1 a2
      simp only [World.putObj_size]
      omega
    cases x with
    | exit id => exact hx3.elim
    | normal =>
      obtain ⟨A5, ψ5, H5, q1, q2, rfl, q3⟩ := gcH_spec hx3 h14 (fun id hid => ((h1A id).1 hid).2)
      obtain ⟨f1, f2, f3, f4, f5⟩ := fin none
      exact ⟨_, _, f1, .inl ⟨rfl, ⟨q3, ⟨A5, ψ5, f2 q1, q2⟩, f3, f4⟩, f5⟩⟩
    | ret =>
      obtain ⟨A5, ψ5, H5, q1, q2, s, rfl, q3⟩ := gcH_spec hx3 h14 (fun id hid => ((h1A id).1 hid).2)
      obtain ⟨f1, f2, f3, f4, f5⟩ := fin (some .ret)
      exact ⟨_, _, f1, .inr ⟨rfl, ⟨s, q3, ⟨A5, ψ5, f2 q1, q2⟩, f3, f4⟩, f5⟩⟩
  have hlast : ∀ {A' : Nat → Prop} {ψ' : Nat → Gh} {H' : Heap} {W2 : World} {st : LoopState} {pe : Option Code}, HRel F1 A' ψ' H' W2 → W2.heap[w.heap.size + 1]? = some (.loop (rec st pe)) → W2.heap[w.heap.size]? = some (.deferred (some [])) → st ≠ .busy →
      ∃ W3, (Instr.endLoop (w.heap.size + 1)).run P W2 = .ok pe W3 ∧ ∃ F', Ext F F' ∧ Rel F' A' ψ' E H' { a with defers := [mark w.heap.size] ++ a.defers } W3 := by
    intro A' ψ' H' W2 st pe h2 hl hk hst
    have hrun := run_endLoop (P := P) hl (by rw [hrec]; exact hst)
    have hpe : (rec st pe).pending = pe := by rw [hrec]
    have hrun : (Instr.endLoop (w.heap.size + 1)).run P W2 = .ok pe (W2.putObj (w.heap.size + 1) (.loop { rec st pe with state := .exhausted })) := hrun.trans (congrArg (fun z => Result.ok z _) hpe)
    refine ⟨_, hrun, ?_⟩
    have h3 := h2.putObj hl rfl (fun _ _ _ e => by cases e) (by rw [h1w]; omega) (.loop { rec st pe with state := .exhausted })
    have hk3 : (W2.putObj (w.heap.size + 1) (.loop { rec st pe with state := .exhausted })).heap[w.heap.size]? = some (.deferred (some [])) := (World.putObj_heap_other (by omega)).trans hk
    have hFr : HRel F A' ψ' H' (W2.putObj (w.heap.size + 1) (.loop { rec st pe with state := .exhausted })) := hr.heap.unbase (A0 := fun id => A id ∧ id < k) (ψ0 := ψ) (ds := []) (by rw [hF1] at h3; exact h3) fun id hid =>
      ⟨⟨(hr.heap.old id hid).1, Nat.lt_of_lt_of_le (hF id hid) hbk⟩, (hr.heap.old id hid).2⟩
    refine ⟨Vm.rebase P _ ψ' H' F.A0 F.ψ0 (mark w.heap.size :: F.ds), ext_rebase hFr hr.heap.fr.size hk3, ⟨hslots h3, hr.len, ?_, hFr.rebase hFr.old⟩⟩
    simp [Vm.rebase, hr.defers]
  refine ⟨w.heap.size + 1, [{ target := .collected w.heap.size, args := #[] }], W1, { target := .fn (.func gf) vs, args := #[.func (.yield (w.heap.size + 1)) #[] #[]] }, W1, gf,
    #[.func (.yield (w.heap.size + 1)) #[] #[]] ++ vs, W1, ?_, ?_, ?_, ?_, fun h => fen_depth h, ?_⟩
  · rw [← hW1, hrec]; exact run_enterLoop_outer _ _ _ _ _
  · simp only [resolve, eg]
    simp [go_sem]
  · intro _ _; trivial
  · simp [invoke, go_sem, callable_run hcall]
  · have harr : (Value.func (.yield (w.heap.size + 1)) #[] #[] :: vs.toList).toArray = #[.func (.yield (w.heap.size + 1)) #[] #[]] ++ vs := by
      apply Array.ext'; simp
    rw [harr] at hcall1
    refine hcall1.mono ?_
    rintro e W2 ⟨⟨v, rfl⟩, (⟨hi, ⟨A', ψ', hh, hbd⟩, hl, hk⟩ | ⟨i, _, s, hs, ⟨A', ψ', hh, hbd⟩, hl, hk⟩)⟩
    · obtain ⟨W3, e1, F', e2, e3⟩ := hlast hh hl hk (by simp)
      exact ⟨none, W3, e1, hdone hi F' A' ψ' _ W3 e2 e3 hbd⟩
    · obtain ⟨W3, e1, F', e2, e3⟩ := hlast hh hl hk (by simp)
      exact ⟨some .ret, W3, e1, wpIn_ret (hret s hs F' A' ψ' _ W3 e2 e3 hbd)⟩

end
end
end Go.Vm
