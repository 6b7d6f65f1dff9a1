/- build, buildSlice, makeSlice, slice. -/
import Derived.Test.YtaigknknfaeajaaGreatDoorVmD
import Derived.Laws.MakeOwn
namespace Go.Vm
noncomputable section

section
variable {P : Program} {o : Oper} {env env1 : List Value} {H H1 : Heap} {F : Fr P} {A : Nat → Prop} {ψ : Nat → Gh} {a : Act} {w : World}

theorem CR.set {xs ys : Array Value} (h : CR A ψ xs ys) {c c' : Value} (hc : VR A ψ c c') (h1 : c'.oneCell' = true) (k : Nat) : CR A ψ (xs.setIfInBounds k c) (ys.setIfInBounds k c') := by
  refine ⟨by simpa using h.size, fun y hy => ?_, fun i => ?_⟩
  · rcases Array.mem_or_eq_of_mem_setIfInBounds hy with hm | hm
    · exact h.one y hm
    · rw [hm]; exact h1
  · by_cases hk : k < xs.size
    · have hk' : k < ys.size := by have := h.size; omega
      by_cases e : k = i
      · subst e; simpa [Array.getD_eq_getD_getElem?, hk, hk'] using hc
      · simpa [Array.getD_eq_getD_getElem?, Array.getElem?_setIfInBounds_ne e] using h.at_ i
    · have hk' : ¬ k < ys.size := by have := h.size; omega
      have e1 : xs.setIfInBounds k c = xs := by simp [Array.setIfInBounds, hk]
      have e2 : ys.setIfInBounds k c' = ys := by simp [Array.setIfInBounds, hk']
      rw [e1, e2]; exact h.at_ i

theorem CR.fold (off : Nat) : ∀ (cs cs' : List Value) (k : Nat), cs.length = cs'.length → (∀ i, VR A ψ (cs.getD i poi) (cs'.getD i undef)) → (∀ y ∈ cs', y.oneCell' = true) → ∀ xs ys : Array Value, CR A ψ xs ys →
    CR A ψ ((cs.zipIdx k).foldl (fun cs p => cs.setIfInBounds (off + p.2) p.1) xs) ((cs'.zipIdx k).foldl (fun cs p => cs.setIfInBounds (off + p.2) p.1) ys)
  | [], [], _, _, _, _, _, _, h => h
  | c :: cs, c' :: cs', k, hl, hv, h1, xs, ys, h => by
    simp only [List.zipIdx_cons, List.foldl_cons]
    refine CR.fold off cs cs' (k + 1) (by simpa using hl) (fun i => by simpa using hv (i + 1)) (fun y hy => h1 y (by simp [hy])) _ _ (h.set (by simpa using hv 0) (h1 _ (by simp)) _)
  | [], _ :: _, _, h, _, _, _, _, _ => by simp at h
  | _ :: _, [], _, h, _, _, _, _, _ => by simp at h

theorem fill_rel (place : Nat → Option (Nat × Nat)) : ∀ (ps qs : List (Nat × Value)), ps.length = qs.length → (∀ (i : Nat) (p q : Nat × Value), ps[i]? = some p → qs[i]? = some q → p.1 = q.1 ∧ okv p.2 = true ∧ VR A ψ p.2 q.2) →
    ∀ (xs ys : Array Value), CR A ψ xs ys → ∀ r, Instr.fill place xs ps = some r → ∃ r', Instr.fill place ys qs = some r' ∧ CR A ψ r r'
  | [], [], _, _, xs, ys, h, r, hr => by simp [Instr.fill] at hr ⊢; subst hr; exact h
  | p :: ps, q :: qs, hl, hpq, xs, ys, h, r, hr => by
    obtain ⟨h1, h2, h3⟩ := hpq 0 p q (by simp) (by simp)
    obtain ⟨i, v⟩ := p
    obtain ⟨j, u⟩ := q
    simp only at h1 h2 h3
    subst h1
    have hc := CR.of_cells h3 h2
    simp only [Instr.fill] at hr ⊢
    cases hp : place i with
    | none => simp [hp] at hr
    | some sz =>
      obtain ⟨off, size⟩ := sz
      simp only [hp] at hr ⊢
      by_cases hcond : (decide (v.cells.size ≠ size) || decide (off + v.cells.size > xs.size)) = true
      · rw [if_pos hcond] at hr; cases hr
      · rw [if_neg hcond] at hr
        have hcond' : ¬ (decide (u.cells.size ≠ size) || decide (off + u.cells.size > ys.size)) = true := by rw [← hc.size, ← h.size]; exact hcond
        rw [if_neg hcond']
        refine fill_rel place ps qs (by simpa using hl) (fun k p q hp hq => hpq (k + 1) p q (by simpa using hp) (by simpa using hq)) _ _ ?_ r hr
        have := CR.fold (A := A) (ψ := ψ) off v.cells.toList u.cells.toList 0 (by simpa using hc.size) (fun i => by simpa [Array.getD_eq_getD_getElem?, List.getD_eq_getElem?_getD] using hc.at_ i) (by simpa using hc.one) xs ys h
        rw [← Array.foldl_toList, ← Array.foldl_toList, Array.toList_zipIdx, Array.toList_zipIdx]
        exact this
  | [], _ :: _, h, _, _, _, _, _, _ => by simp at h
  | _ :: _, [], h, _, _, _, _, _, _ => by simp at h

def vparts (env : List Value) (ps : Array (Nat × Operand)) : List (Nat × Value) := ps.toList.map fun p => (p.1, ev env p.2)

theorem parts_rel {ps : Array (Nat × Operand)} (hr : Rel F A ψ env1 H1 a w) (he : ∀ x ∈ ps.toList.map (·.2), ev env1 x = ev env x) (hk : (vparts env ps).all (fun p => okv p.2) = true) :
    (vparts env ps).length = (ps.map fun (i, x) => (i, a.eval x)).toList.length ∧ ∀ (i : Nat) (p q : Nat × Value), (vparts env ps)[i]? = some p → (ps.map fun (i, x) => (i, a.eval x)).toList[i]? = some q → p.1 = q.1 ∧ okv p.2 = true ∧ VR A ψ p.2 q.2 := by
  refine ⟨by simp [vparts], fun i p q hp hq => ?_⟩
  have hp' := hp
  simp only [vparts, List.getElem?_map, Option.map_eq_some_iff] at hp
  obtain ⟨x, hx, rfl⟩ := hp
  have hx' : ps[i]? = some x := by simpa using hx
  simp [hx'] at hq
  subst hq
  refine ⟨rfl, (List.all_eq_true.1 hk) _ (List.mem_of_getElem? hp'), ?_⟩
  have hm : x.2 ∈ ps.toList.map (·.2) := List.mem_map.2 ⟨x, List.mem_of_getElem? hx, rfl⟩
  show VR A ψ (ev env x.2) _
  rw [← he _ hm]
  exact hr.ev x.2

/-- Where the fields lie. -/
def places (P : Program) : List Field → Option (List (Nat × Nat))
  | [] => some []
  | f :: r => match P.info? f.type, places P r with
    | some i, some l => some ((f.offset, i.size) :: l)
    | _, _ => none

theorem run_places (w : World) : ∀ (fs : List Field) (l : List (Nat × Nat)), places P fs = some l → (fs.mapM (m := Sem) fun f => do pure (f.offset, ← sizeOf f.type)).run P w = .ok l w
  | [], l, h => by simp [places] at h; subst h; simp
  | f :: r, l, h => by
    simp only [places] at h
    split at h
    · rename_i i l' hi hl
      cases h
      have h2 := run_places w r l' hl
      have h1 : (do pure (f.offset, ← sizeOf f.type) : Sem (Nat × Nat)).run P w = .ok (f.offset, i.size) w := by simp [sizeOf, typeInfo, hi]
      rw [List.mapM_cons, Sem.run_bind, h1, Result.andThen_ok, Sem.run_bind, h2]
      rfl
    · cases h

def evBuild (P : Program) (env : List Value) (t : TypeId) (ps : Array (Nat × Operand)) : Option Out :=
  match P.underlying t, P.info? t with
  | some (.struct fields), some i =>
    match i.zero, places P fields.toList with
    | some z, some pl =>
      if ground1 z && (vparts env ps).all (fun p => okv p.2) then (Instr.fill (fun k => pl[k]?) z.cells (vparts env ps)).map fun r => ⟨.agg r, [], [], []⟩ else none
    | _, _ => none
  | some (.array _ elem), some i =>
    match i.zero, P.info? elem with
    | some z, some ie =>
      if ground1 z && (vparts env ps).all (fun p => okv p.2) then (Instr.fill (fun k => some (k * ie.size, ie.size)) z.cells (vparts env ps)).map fun r => ⟨.agg r, [], [], []⟩ else none
    | _, _ => none
  | _, _ => none

theorem build_ok {t : TypeId} {ps : Array (Nat × Operand)} {out : Out} (ho : o.op = .build t ps) (h : evBuild P env t ps = some out) : StepOK P o env H out := by
  unfold evBuild at h
  split at h
  · rename_i fields i hu hi
    split at h
    · rename_i z pl hz hpl
      split at h
      · rename_i hcond
        simp only [Bool.and_eq_true] at hcond
        obtain ⟨hg, hk⟩ := hcond
        obtain ⟨r, hf, rfl⟩ := Option.map_eq_some_iff.1 h
        refine StepOK.value fun F A ψ env1 H1 a w hr he _ => ?_
        obtain ⟨hl, hp⟩ := parts_rel hr (fun x hx => he x (by simpa [ho, Op.operands] using hx)) hk
        obtain ⟨r', e1, e2⟩ := fill_rel _ _ _ hl hp _ _ (CR.refl hg) r hf
        refine ⟨.agg r', ?_, .agg _ _ e2.size e2.one e2.at_⟩
        have hpl' : (fields.mapM (m := Sem) fun f => do pure (f.offset, ← sizeOf f.type)).run P w = .ok pl.toArray w := by
          have := run_places (P := P) w fields.toList pl hpl
          rw [Array.mapM_eq_mapM_toList]
          simp only [Sem.run_map, this, Result.andThen_ok]
        have e1' : Instr.fill (fun x => pl.toArray[x]?) z.cells (ps.map fun (i, x) => (i, a.eval x)).toList = some r' := by
          rw [← e1]; congr 1; funext k; simp
        simp only [execOp, ho, Instr.build, zeroValue, typeInfo, Sem.run_bind, run_program, Result.andThen_ok, hi, Sem.run_pure, hz, run_underlying hu, hpl', e1']
      · cases h
    · cases h
  · rename_i n elem i hu hi
    split at h
    · rename_i z ie hz hie
      split at h
      · rename_i hcond
        simp only [Bool.and_eq_true] at hcond
        obtain ⟨hg, hk⟩ := hcond
        obtain ⟨r, hf, rfl⟩ := Option.map_eq_some_iff.1 h
        refine StepOK.value fun F A ψ env1 H1 a w hr he _ => ?_
        obtain ⟨hl, hp⟩ := parts_rel hr (fun x hx => he x (by simpa [ho, Op.operands] using hx)) hk
        obtain ⟨r', e1, e2⟩ := fill_rel _ _ _ hl hp _ _ (CR.refl hg) r hf
        refine ⟨.agg r', ?_, .agg _ _ e2.size e2.one e2.at_⟩
        simp only [execOp, ho, Instr.build, zeroValue, typeInfo, sizeOf, Sem.run_bind, run_program, Result.andThen_ok, hi, hie, Sem.run_pure, hz, run_underlying hu, e1]
      · cases h
    · cases h
  · cases h

/-- Zero cells, n of them. -/
def zrow (z : Array Value) (n : Nat) : Array Value := (Array.range n).map (z[· % z.size]!)

theorem zrow_atoms {z : Value} (hg : ground1 z = true) (n : Nat) (hz : z.cells.size ≠ 0) : ∀ v ∈ zrow z.cells n, atom v = true := by
  intro v hv
  obtain ⟨i, hi, rfl⟩ := Array.mem_map.1 hv
  have hlt : i % z.cells.size < z.cells.size := Nat.mod_lt _ (by omega)
  rw [getElem!_pos z.cells _ hlt]
  exact flat_zero hg _ (by simp)

theorem CR.atoms {xs : Array Value} (h : ∀ v ∈ xs, atom v = true) : CR A ψ xs xs := by
  refine ⟨rfl, fun y hy => ?_, fun i => ?_⟩
  · have := h y hy
    cases y <;> simp_all [Vm.atom, Value.oneCell']
  · by_cases hi : i < xs.size
    · have e1 : xs.getD i poi = xs[i] := by simp [Array.getD, hi]
      have e2 : xs.getD i undef = xs[i] := by simp [Array.getD, hi]
      rw [e1, e2]; exact .atom _ (h _ (by simp))
    · have e1 : xs.getD i poi = poi := by simp [Array.getD, hi]
      rw [e1]; exact .poison _

def evBuildSlice (P : Program) (env : List Value) (nid : Nat) (t : TypeId) (n : Nat) (ps : Array (Nat × Operand)) : Option Out :=
  match P.underlying t with
  | some (.slice elem) =>
    match P.info? elem with
    | some ie =>
      match ie.zero with
      | some z =>
        if ground1 z && (vparts env ps).all (fun p => okv p.2) && decide (n * ie.size ≤ 2 ^ 24) && decide (z.cells.size ≠ 0) then
          match Instr.fill (fun k => some (k * ie.size, ie.size)) (zrow z.cells (n * ie.size)) (vparts env ps) with
          | some r => some ⟨.slice (some ⟨nid, 0, none⟩) n n, [(nid, some (.row r.toList ie.size false true (r.toList.all atom)))], [], [nid]⟩
          | none => none
        else none
      | none => none
    | none => none
  | _ => none

theorem buildSlice_ok {t : TypeId} {n nid : Nat} {ps : Array (Nat × Operand)} {out : Out} (ho : o.op = .buildSlice t n ps) (h : evBuildSlice P env nid t n ps = some out) : StepOK P o env H out := by
  unfold evBuildSlice at h
  split at h
  · rename_i elem hu
    split at h
    · rename_i ie hie
      split at h
      · rename_i z hz
        split at h
        · rename_i hcond
          simp only [Bool.and_eq_true, decide_eq_true_eq] at hcond
          obtain ⟨⟨⟨hg, hk⟩, h24⟩, hzc⟩ := hcond
          split at h
          · rename_i r hf
            cases h
            intro F A ψ env1 H1 a w hr he hD hn K Q hK
            have hn' : ¬ A nid := hn _ (List.mem_singleton_self _)
            obtain ⟨hl, hp⟩ := parts_rel hr (fun x hx => he x (by simpa [ho, Op.operands] using hx)) hk
            obtain ⟨r', e1, e2⟩ := fill_rel _ _ _ hl hp _ _ (CR.atoms (zrow_atoms hg _ hzc)) r hf
            unfold Oper.wp
            have hrun : (execOp a.eval o).run P w = .ok (.value (.slice (some ⟨w.heap.size, 0, none⟩) n n)) (w.alloc (.cells r' elem)) := by
              have h24' : ¬ n * ie.size > 2 ^ 24 := by omega
              by_cases h0 : n * ie.size = 0
              · have e1' : Instr.fill (fun i => some (i * ie.size, ie.size)) ((Array.range (n * ie.size)).map fun x => (#[] : Array Value)[x % (#[] : Array Value).size]!) (ps.map fun (i, x) => (i, a.eval x)).toList = some r' := by
                  rw [← e1]; congr 1; rw [h0]; simp [zrow]
                simp only [execOp, ho, Instr.buildSlice, zeroValue, typeInfo, sizeOf, Sem.run_bind, run_program, Result.andThen_ok, hie, Sem.run_pure, run_underlying hu, if_neg h24', if_pos h0, e1', newRow, run_newObj]
                rfl
              · simp only [execOp, ho, Instr.buildSlice, zeroValue, typeInfo, sizeOf, Sem.run_bind, run_program, Result.andThen_ok, hie, Sem.run_pure, hz, run_underlying hu, if_neg h24', if_neg h0, newRow]
                have e1' : Instr.fill (fun i => some (i * ie.size, ie.size)) ((Array.range (n * ie.size)).map fun x => z.cells[x % z.cells.size]!) (ps.map fun (i, x) => (i, a.eval x)).toList = some r' := e1
                simp only [e1', Sem.run_bind, run_newObj, Result.andThen_ok, Sem.run_pure]
                rfl
            rw [hrun]
            have hc := e2.mono (mono_new (ψ := ψ) (g := ⟨w.heap.size, 0, r'.size, ie.size⟩) hn')
            exact hK _ _ _ (hr.push (SameBut.alloc w _) (by simp) hn' rfl
              (ORel.new (el := elem) (arr := r') (b := w.heap.size) (alloc_get _ _) (by simpa using hc.size.symm) hc.get (fun hf => List.all_eq_true.1 hf)) (VR.new_slice rfl (.inl ⟨rfl, Nat.le_refl _⟩)) o.dst)
          · cases h
        · cases h
      · cases h
    · cases h
  · cases h

def evMakeSlice (P : Program) (nid : Nat) (t : TypeId) (l c : Value) : Option Out :=
  match P.underlying t, l, c with
  | some (.slice elem), .int _ l, .int _ c =>
    match P.info? elem with
    | some ie =>
      match ie.zero with
      | some z =>
        if ground1 z && decide (0 ≤ l ∧ l ≤ c ∧ c ≤ 9223372036854775807 ∧ ie.bytes * c ≤ 2 ^ 48) && decide (z.cells.size ≠ 0) then
          some ⟨.slice (some ⟨nid, 0, none⟩) l.toNat c.toNat, [(nid, some (.row (zrow z.cells (c.toNat * ie.size)).toList ie.size false true true))], [], [nid]⟩
        else none
      | none => none
    | none => none
  | _, _, _ => none

theorem wrap_i64 {n : Int} (h0 : 0 ≤ n) (h1 : n ≤ 9223372036854775807) : IntKind.i64.wrap n = n := by
  rw [IntKind.wrap_i64]; omega

theorem makeSlice_ok {t : TypeId} {nid : Nat} {x y : Operand} {out : Out} (ho : o.op = .makeSlice t x y) (h : evMakeSlice P nid t (ev env x) (ev env y) = some out) : StepOK P o env H out := by
  unfold evMakeSlice at h
  split at h
  · rename_i elem kl l kc c hu hl hc
    split at h
    · rename_i ie hie
      split at h
      · rename_i z hz
        split at h
        · rename_i hcond
          simp only [Bool.and_eq_true, decide_eq_true_eq] at hcond
          obtain ⟨⟨hg, h0, h1, h2, h3⟩, hzc⟩ := hcond
          cases h
          intro F A ψ env1 H1 a w hr he hD hn K Q hK
          have hn' : ¬ A nid := hn _ (List.mem_singleton_self _)
          have q1 := opd hr he (x := x) (by simp [ho, Op.operands])
          have q2 := opd hr he (x := y) (by simp [ho, Op.operands])
          rw [hl] at q1; rw [hc] at q2
          have r1 := q1.of_atom rfl
          have r2 := q2.of_atom rfl
          have w1 := wrap_i64 h0 (by omega)
          have w2 := wrap_i64 (n := c) (by omega) h2
          unfold Oper.wp
          have hrun : (execOp a.eval o).run P w = .ok (.value (.slice (some ⟨w.heap.size, 0, none⟩) l.toNat c.toNat)) (w.alloc (.cells (zrow z.cells (c.toNat * ie.size)) elem)) := by
            have := run_make (P := P) w t elem ie z hu hie hz kl kc l c h0 h1 (by omega) h2
            simp [execOp, ho, r1, r2, this]
            rfl
          rw [hrun]
          have hat := zrow_atoms hg (c.toNat * ie.size) hzc
          have hcr : CR (fun id => A id ∨ id = nid) (upd ψ nid ⟨w.heap.size, 0, (zrow z.cells (c.toNat * ie.size)).size, ie.size⟩) (zrow z.cells (c.toNat * ie.size)) (zrow z.cells (c.toNat * ie.size)) := CR.atoms hat
          exact hK _ _ _ (hr.push (SameBut.alloc w _) (by simp) hn' rfl
            (ORel.new (el := elem) (arr := zrow z.cells (c.toNat * ie.size)) (b := w.heap.size) (alloc_get _ _) (by simp) hcr.get (fun _ v hv => hat v (by simpa using hv))) (VR.new_slice rfl (.inl ⟨rfl, by omega⟩)) o.dst)
        · cases h
      · cases h
    · cases h
  · cases h

end
end
end Go.Vm
