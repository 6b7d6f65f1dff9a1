/- The operations that read, or only compute addresses. -/
import Derived.Test.YtaigknknfaeajaaGreatDoorVmB
namespace Go.Vm
noncomputable section

/-- Not the unknown value. -/
def noPoi : List Value → Bool
  | [.tuple _] => false
  | _ => true

section inv
variable {A : Nat → Prop} {ψ : Nat → Gh}
theorem VR.ptr_inv {id off : Nat} {v' : Value} (h : VR A ψ (.pointer (some ⟨id, off, none⟩)) v') : A id ∧ v' = .pointer (some ⟨(ψ id).blk, (ψ id).off + off, none⟩) := by
  cases h with
  | atom _ h => simp [Vm.atom] at h
  | ptr _ _ h => exact ⟨h, rfl⟩
theorem VR.map_inv {id : Nat} {v' : Value} (h : VR A ψ (.map (some id)) v') : A id ∧ v' = .map (some (ψ id).blk) := by
  cases h with
  | atom _ h => simp [Vm.atom] at h
  | map _ h => exact ⟨h, rfl⟩
theorem VR.slice_inv {id off len cap : Nat} {v' : Value} (h : VR A ψ (.slice (some ⟨id, off, none⟩) len cap) v') :
    A id ∧ ∃ a cap', v' = .slice a len cap' ∧ len ≤ cap' ∧ (len = 0 ∨ a = some ⟨(ψ id).blk, (ψ id).off + off, none⟩) ∧
      ((CapRel (ψ id) off len cap cap' ∧ a = some ⟨(ψ id).blk, (ψ id).off + off, none⟩) ∨ (len = 0 ∧ cap = 0 ∧ cap' = 0) ∨ cap = big) := by
  cases h with
  | atom _ h => simp [Vm.atom] at h
  | slice _ _ _ _ c h hc => exact ⟨h, _, c, rfl, by rcases hc with hc | hc <;> omega, .inr rfl, .inl ⟨hc, rfl⟩⟩
  | void _ _ a h => exact ⟨h, a, 0, rfl, Nat.le_refl _, .inl rfl, .inr (.inl ⟨rfl, rfl, rfl⟩)⟩
  | view _ _ _ c a h hl ha => exact ⟨h, a, c, rfl, hl, ha, .inr (.inr rfl)⟩
theorem VR.agg_inv {xs : Array Value} {v' : Value} (h : VR A ψ (.agg xs) v') :
    ∃ ys, v' = .agg ys ∧ xs.size = ys.size ∧ (∀ y ∈ ys, y.oneCell' = true) ∧ ∀ i, VR A ψ (xs.getD i poi) (ys.getD i undef) := by
  cases h with
  | atom _ h => simp [Vm.atom] at h
  | agg _ ys hs h1 h => exact ⟨ys, rfl, hs, h1, h⟩
theorem VR.tuple_inv {xs : Array Value} {v' : Value} (h : VR A ψ (.tuple xs) v') (h2 : noPoi xs.toList = true) :
    ∃ ys, v' = .tuple ys ∧ xs.size = ys.size ∧ ∀ i, VR A ψ (xs.getD i poi) (ys.getD i undef) := by
  cases h with
  | poison => simp [noPoi] at h2
  | atom _ h => simp [Vm.atom] at h
  | tuple _ ys hs h => exact ⟨ys, rfl, hs, h⟩
theorem VR.nil_inv {len cap : Nat} {v' : Value} (h : VR A ψ (.slice none len cap) v') : len = 0 ∧ ∃ a c, v' = .slice a 0 c ∧ (cap ≠ 1 → a = none ∧ c = 0 ∧ cap = 0) := by
  cases h with
  | atom _ h =>
    simp only [Vm.atom] at h
    split at h <;> simp_all
  | empty a c => exact ⟨rfl, a, c, rfl, fun h => absurd rfl h⟩
theorem VR.slice_len {sa : Option Addr} {n c : Nat} {v' : Value} (h : VR A ψ (.slice sa n c) v') : ∃ a' c', v' = .slice a' n c' := by
  cases h with
  | atom _ _ => exact ⟨_, _, rfl⟩
  | slice id off len cap cap' h hc => exact ⟨_, _, rfl⟩
  | void id off a h => exact ⟨_, _, rfl⟩
  | view id off len c a h hl ha => exact ⟨_, _, rfl⟩
  | empty a c => exact ⟨_, _, rfl⟩
end inv

section
variable {P : Program} {o : Oper} {env env1 : List Value} {H H1 : Heap} {F : Fr P} {A : Nat → Prop} {ψ : Nat → Gh} {a : Act} {w : World}

theorem opd (hr : Rel F A ψ env1 H1 a w) (he : ∀ x ∈ o.op.operands, ev env1 x = ev env x) {x : Operand} (hx : x ∈ o.op.operands) : VR A ψ (ev env x) (a.eval x) := by
  rw [← he x hx]; exact hr.ev x

theorem move_ok {x : Operand} (ho : o.op = .move x ∨ o.op = .assign x) : StepOK P o env H ⟨ev env x, [], [], []⟩ :=
  StepOK.value fun F A ψ env1 H1 a w hr he _ => ⟨a.eval x, by rcases ho with ho | ho <;> simp [execOp, ho], opd hr he (by rcases ho with ho | ho <;> simp [ho, Op.operands])⟩

def evPick (env : List Value) (c x y : Operand) : Option Out :=
  match ev env c with
  | .bool true => some ⟨ev env x, [], [], []⟩
  | .bool false => some ⟨ev env y, [], [], []⟩
  | _ => none

theorem pick_ok {c x y : Operand} {out : Out} (ho : o.op = .pick c x y) (h : evPick env c x y = some out) : StepOK P o env H out := by
  unfold evPick at h
  split at h <;> rename_i hc <;> cases h
  all_goals
    refine StepOK.value fun F A ψ env1 H1 a w hr he _ => ?_
    have h1 := opd hr he (x := c) (by simp [ho, Op.operands])
    rw [hc] at h1
    have h2 := h1.of_atom rfl
  · exact ⟨a.eval x, by simp [execOp, ho, h2, asBool], opd hr he (by simp [ho, Op.operands])⟩
  · exact ⟨a.eval y, by simp [execOp, ho, h2, asBool], opd hr he (by simp [ho, Op.operands])⟩

def evExtract (v : Value) (ix : Nat) : Option Out :=
  match v with
  | .tuple vs => if noPoi vs.toList then (match vs.toList[ix]? with | some v => some ⟨v, [], [], []⟩ | none => none) else none
  | _ => none

theorem getD_toList {vs : Array Value} {ix : Nat} {v d : Value} (h : vs.toList[ix]? = some v) : ix < vs.size ∧ vs.getD ix d = v := by
  have : vs[ix]? = some v := by simpa using h
  obtain ⟨hlt, he⟩ := Array.getElem?_eq_some_iff.1 this
  exact ⟨hlt, by simp [Array.getD, hlt, he]⟩

theorem extract_ok {x : Operand} {ix : Nat} {out : Out} (ho : o.op = .extract x ix) (h : evExtract (ev env x) ix = some out) : StepOK P o env H out := by
  unfold evExtract at h
  split at h
  · rename_i vs hv
    split at h
    · rename_i h2
      split at h
      · rename_i v hix
        cases h
        refine StepOK.value fun F A ψ env1 H1 a w hr he _ => ?_
        have h1 := opd hr he (x := x) (by simp [ho, Op.operands])
        rw [hv] at h1
        obtain ⟨ys, e1, e2, e3⟩ := h1.tuple_inv h2
        obtain ⟨hlt, hd⟩ := getD_toList (d := poi) hix
        have hlt' : ix < ys.size := by omega
        refine ⟨ys[ix], by simp [execOp, ho, e1, Instr.extract, hlt'], ?_⟩
        have := e3 ix
        rw [hd] at this
        simpa [Array.getD, hlt'] using this
      · cases h
    · cases h
  · cases h

theorem run_isAgg' {t : TypeId} {d : TypeDesc} (hu : P.underlying t = some d) (w : World) : (isAgg t).run P w = .ok d.isRow w := by
  unfold isAgg
  rw [Sem.run_bind, run_underlying hu w]
  cases d <;> simp

/-- A part of known cells. -/
def evPart (P : Program) (t : TypeId) (cs : List Value) (off : Nat) : Option Value :=
  match P.underlying t, P.info? t with
  | some d, some i =>
    if d.isRow then (if off + i.size ≤ cs.length then some (.agg ((cs.drop off).take i.size).toArray) else none)
    else cs[off]?
  | _, _ => none

theorem extract_rel {xs ys : Array Value} (hs : xs.size = ys.size) (h1 : ∀ y ∈ ys, y.oneCell' = true) (h : ∀ i, VR A ψ (xs.getD i poi) (ys.getD i undef)) (off n : Nat) (hn : off + n ≤ xs.size) :
    VR A ψ (.agg ((xs.toList.drop off).take n).toArray) (.agg (ys.extract off (off + n))) := by
  refine .agg _ _ (by simp; omega) (fun y hy => h1 y ?_) fun i => ?_
  · obtain ⟨j, hj, e⟩ := Array.mem_iff_getElem.1 hy
    rw [← e]
    simp
  · by_cases hi : i < n
    · have e1 : (((xs.toList.drop off).take n).toArray).getD i poi = xs.getD (off + i) poi := by
        simp [Array.getD_eq_getD_getElem?, hi]
      have e2 : (ys.extract off (off + n)).getD i undef = ys.getD (off + i) undef := by
        simp [Array.getD_eq_getD_getElem?, Array.getElem?_extract]
        rw [if_pos (by omega)]
      rw [e1, e2]; exact h _
    · have e1 : (((xs.toList.drop off).take n).toArray).getD i poi = poi := by
        simp [Array.getD_eq_getD_getElem?, List.getElem?_take, hi]
      rw [e1]; exact .poison _

theorem part_rel {t : TypeId} {xs ys : Array Value} {off : Nat} {v : Value} (hp : evPart P t xs.toList off = some v) (hs : xs.size = ys.size) (h1 : ∀ y ∈ ys, y.oneCell' = true)
    (h : ∀ i, VR A ψ (xs.getD i poi) (ys.getD i undef)) (w : World) : ∃ v', (part t ys off).run P w = .ok v' w ∧ VR A ψ v v' := by
  unfold evPart at hp
  split at hp
  · rename_i d i hu hi
    split at hp
    · rename_i hrow
      split at hp
      · rename_i hle
        cases hp
        exact ⟨_, by simp [part, run_isAgg' hu, hrow, sizeOf, typeInfo, hi], extract_rel hs h1 h off i.size (by simpa using hle)⟩
      · cases hp
    · rename_i hrow
      obtain ⟨hlt, hd⟩ := getD_toList (d := poi) hp
      have hlt' : off < ys.size := by omega
      have := h off
      rw [hd] at this
      refine ⟨ys[off], ?_, by simpa [Array.getD, hlt'] using this⟩
      have hrow' : d.isRow = false := by simpa using hrow
      simp [part, run_isAgg' hu, hrow', hlt']
  · cases hp

def evField (P : Program) (t : TypeId) (x : Value) (f : Nat) : Option Out :=
  match P.underlying t, x with
  | some (.struct fields), .agg cs =>
    match fields.toList[f]? with
    | some fd => (evPart P fd.type cs.toList fd.offset).map fun v => ⟨v, [], [], []⟩
    | none => none
  | _, _ => none

theorem field_ok {t : TypeId} {x : Operand} {f : Nat} {out : Out} (ho : o.op = .field t x f) (h : evField P t (ev env x) f = some out) : StepOK P o env H out := by
  unfold evField at h
  split at h
  · rename_i fields cs hu hv
    split at h
    · rename_i fd hf
      obtain ⟨v, hp, rfl⟩ := Option.map_eq_some_iff.1 h
      refine StepOK.value fun F A ψ env1 H1 a w hr he _ => ?_
      have h1 := opd hr he (x := x) (by simp [ho, Op.operands])
      rw [hv] at h1
      obtain ⟨ys, e1, e2, e3, e4⟩ := h1.agg_inv
      obtain ⟨v', k1, k2⟩ := part_rel hp e2 e3 e4 w
      have hf' : fields[f]? = some fd := by simpa using hf
      exact ⟨v', by simp [execOp, ho, e1, Instr.field, run_underlying hu, hf', asAgg, k1], k2⟩
    · cases h
  · cases h

def evIndex (P : Program) (t : TypeId) (x i : Value) : Option Out :=
  match P.underlying t, x, i with
  | some (.array len elem), .agg cs, .int _ n =>
    match P.info? elem with
    | some inf => if 0 ≤ n ∧ n < len then (evPart P elem cs.toList (n.toNat * inf.size)).map fun v => ⟨v, [], [], []⟩ else none
    | none => none
  | _, _, _ => none

theorem index_ok {t : TypeId} {x i : Operand} {out : Out} (ho : o.op = .index t x i) (h : evIndex P t (ev env x) (ev env i) = some out) : StepOK P o env H out := by
  unfold evIndex at h
  split at h
  · rename_i len elem cs k n hu hv hi
    split at h
    · rename_i inf hinf
      split at h
      · rename_i hn
        obtain ⟨v, hp, rfl⟩ := Option.map_eq_some_iff.1 h
        refine StepOK.value fun F A ψ env1 H1 a w hr he _ => ?_
        have h1 := opd hr he (x := x) (by simp [ho, Op.operands])
        have h2 := opd hr he (x := i) (by simp [ho, Op.operands])
        rw [hv] at h1
        rw [hi] at h2
        have h3 := h2.of_atom rfl
        obtain ⟨ys, e1, e2, e3, e4⟩ := h1.agg_inv
        obtain ⟨v', k1, k2⟩ := part_rel hp e2 e3 e4 w
        exact ⟨v', by simp [execOp, ho, e1, h3, Instr.index, asIntOf, run_underlying hu, hn, sizeOf, typeInfo, hinf, k1], k2⟩
      · cases h
    · cases h
  · cases h

/-- The cells of a live row, in the world. -/
theorem row_cells {cells : List Value} {es : Nat} {more rw flat : Bool} {id : Nat} (hh : HRel F A ψ H1 w) (hr : rd H1 id = some (.row cells es more rw flat)) :
    ∀ i, i < cells.length → ∃ v', w.cell? ⟨(ψ id).blk, (ψ id).off + i, none⟩ = some v' ∧ v'.oneCell' = true ∧ VR A ψ (cells.getD i poi) v' := by
  intro i hi
  obtain ⟨_, arr, el, fz, h1, _, h3, _⟩ := (hh.live id _ hr).2.2 (vd_row (by omega))
  obtain ⟨v', e1, e2, e3⟩ := h3 i hi
  exact ⟨v', by simp [World.cell?, h1, e1], e2, e3⟩

/-- A range of them, as a list. -/
theorem row_range {cells : List Value} {es : Nat} {more rw flat : Bool} {id : Nat} (hh : HRel F A ψ H1 w) (hr : rd H1 id = some (.row cells es more rw flat)) (off n : Nat) (hn : off + n ≤ cells.length) :
    ∃ vs : List Value, vs.length = n ∧ (∀ v ∈ vs, v.oneCell' = true) ∧ w.rangeAt (ψ id).blk ((ψ id).off + off) vs ∧ ∀ i, VR A ψ (((cells.drop off).take n).getD i poi) (vs.getD i undef) := by
  have hc := row_cells hh hr
  let vs := (List.range n).map fun i => (w.cell? ⟨(ψ id).blk, (ψ id).off + (off + i), none⟩).getD undef
  have hget : ∀ i, i < n → ∃ v', vs[i]? = some v' ∧ w.cell? ⟨(ψ id).blk, (ψ id).off + (off + i), none⟩ = some v' ∧ v'.oneCell' = true ∧ VR A ψ (cells.getD (off + i) poi) v' := by
    intro i hi
    obtain ⟨v', e1, e2, e3⟩ := hc (off + i) (by omega)
    exact ⟨v', by simp [vs, hi, e1], e1, e2, e3⟩
  refine ⟨vs, by simp [vs], fun v hv => ?_, fun j v hj => ?_, fun i => ?_⟩
  · obtain ⟨i, hi, e⟩ := List.mem_iff_getElem.1 hv
    obtain ⟨v', e1, _, e2, _⟩ := hget i (by simpa [vs] using hi)
    rw [List.getElem?_eq_getElem hi] at e1
    cases e1; rw [← e]; exact e2
  · have hj' : j < n := by
      have := (List.getElem?_eq_some_iff.1 hj).1
      simpa [vs] using this
    obtain ⟨v', e1, e2, _⟩ := hget j hj'
    rw [hj] at e1; cases e1
    rw [← e2]; simp [Nat.add_assoc]
  · by_cases hi : i < n
    · obtain ⟨v', e1, _, _, e3⟩ := hget i hi
      have h1 : ((cells.drop off).take n).getD i poi = cells.getD (off + i) poi := by
        simp [List.getD_eq_getElem?_getD, hi]
      have h2 : vs.getD i undef = v' := by simp [List.getD_eq_getElem?_getD, e1]
      rw [h1, h2]; exact e3
    · have h1 : ((cells.drop off).take n).getD i poi = poi := by
        simp [List.getD_eq_getElem?_getD, List.getElem?_take, hi]
      rw [h1]; exact .poison _

def evLoad (P : Program) (H : Heap) (t : TypeId) (v : Value) : Option Out :=
  match v with
  | .pointer (some ⟨id, off, none⟩) =>
    match rd H id with
    | some (.row cells _ _ _ _) => (evPart P t cells off).map fun v => ⟨v, [], [id], []⟩
    | _ => none
  | _ => none

theorem load_ok {t : TypeId} {x : Operand} {out : Out} (ho : o.op = .load t x) (h : evLoad P H t (ev env x) = some out) : StepOK P o env H out := by
  unfold evLoad at h
  split at h
  · rename_i id off hv
    split at h
    · rename_i cells es more rw flat hrd
      obtain ⟨v, hp, rfl⟩ := Option.map_eq_some_iff.1 h
      refine StepOK.value fun F A ψ env1 H1 a w hr he hD => ?_
      have h1 := opd hr he (x := x) (by simp [ho, Op.operands])
      rw [hv] at h1
      obtain ⟨_, e1⟩ := h1.ptr_inv
      have hrd1 : rd H1 id = some (.row cells es more rw flat) := by rw [hD id (by simp), hrd]
      unfold evPart at hp
      split at hp
      · rename_i d i hu hi
        split at hp
        · rename_i hrow
          split at hp
          · rename_i hle
            cases hp
            obtain ⟨vs, k1, k2, k3, k4⟩ := row_range hr.heap hrd1 off i.size hle
            refine ⟨.agg vs.toArray, ?_, .agg _ _ (by simp [k1]; omega) (by simpa using k2) fun j => by simpa [Array.getD_eq_getD_getElem?, List.getD_eq_getElem?_getD] using k4 j⟩
            have := run_loadAt_mid w (ψ id).blk ((ψ id).off + off) t vs d k3 hu hrow (by simp [hi, k1])
            simp [execOp, ho, e1, this]
          · cases hp
        · rename_i hrow
          have hlt := (List.getElem?_eq_some_iff.1 hp).1
          obtain ⟨v', k1, k2, k3⟩ := row_cells hr.heap hrd1 off hlt
          have hrow' : d.isRow = false := by simpa using hrow
          have hg : cells.getD off poi = v := by simp [List.getD_eq_getElem?_getD, hp]
          rw [hg] at k3
          exact ⟨v', by simp [execOp, ho, e1, Instr.loadAt, Instr.sureAddr, loadVar, run_isAgg' hu, hrow', k1], k3⟩
      · cases hp
    · cases h
  · cases h

def evFieldAddr (P : Program) (t : TypeId) (x : Value) (f : Nat) : Option Out :=
  match P.underlying t, x with
  | some (.struct fields), .pointer (some ⟨id, off, none⟩) =>
    match fields.toList[f]? with
    | some fd => match P.info? fd.type with
      | some i => if i.size = 0 then none else some ⟨.pointer (some ⟨id, off + fd.offset, none⟩), [], [], []⟩
      | none => none
    | none => none
  | _, _ => none

theorem fieldAddr_ok {t : TypeId} {x : Operand} {f : Nat} {out : Out} (ho : o.op = .fieldAddr t x f) (h : evFieldAddr P t (ev env x) f = some out) : StepOK P o env H out := by
  unfold evFieldAddr at h
  split at h
  · rename_i fields id off hu hv
    split at h
    · rename_i fd hf
      split at h
      · rename_i i hi
        split at h
        · cases h
        · rename_i hz
          cases h
          refine StepOK.value fun F A ψ env1 H1 a w hr he _ => ?_
          have h1 := opd hr he (x := x) (by simp [ho, Op.operands])
          rw [hv] at h1
          obtain ⟨hA, e1⟩ := h1.ptr_inv
          have hf' : fields[f]? = some fd := by simpa using hf
          refine ⟨.pointer (some ⟨(ψ id).blk, (ψ id).off + (off + fd.offset), none⟩), ?_, .ptr _ _ hA⟩
          simp [execOp, ho, e1, Instr.fieldAt, run_underlying hu, hf', Instr.sureAddr, fieldPlace, sizeOf, typeInfo, hi, hz, Addr.add_mid, Nat.add_assoc]
      · cases h
    · cases h
  · cases h

def evIndexAddr (P : Program) (t : TypeId) (x i : Value) : Option Out :=
  match P.underlying t, x, i with
  | some (.array len elem), .pointer (some ⟨id, off, none⟩), .int _ n =>
    match P.info? elem with
    | some inf => if 0 ≤ n ∧ n < len then some ⟨.pointer (some ⟨id, off + n.toNat * inf.size, none⟩), [], [], []⟩ else none
    | none => none
  | some (.slice elem), .slice (some ⟨id, off, none⟩) len _, .int _ n =>
    match P.info? elem with
    | some inf => if 0 ≤ n ∧ n < len then some ⟨.pointer (some ⟨id, off + n.toNat * inf.size, none⟩), [], [], []⟩ else none
    | none => none
  | _, _, _ => none

theorem indexAddr_ok {t : TypeId} {x i : Operand} {out : Out} (ho : o.op = .indexAddr t x i) (h : evIndexAddr P t (ev env x) (ev env i) = some out) : StepOK P o env H out := by
  unfold evIndexAddr at h
  split at h
  · rename_i len elem id off k n hu hv hi
    split at h
    · rename_i inf hinf
      split at h
      · rename_i hn
        cases h
        refine StepOK.value fun F A ψ env1 H1 a w hr he _ => ?_
        have h1 := opd hr he (x := x) (by simp [ho, Op.operands])
        have h2 := opd hr he (x := i) (by simp [ho, Op.operands])
        rw [hv] at h1; rw [hi] at h2
        have h3 := h2.of_atom rfl
        obtain ⟨hA, e1⟩ := h1.ptr_inv
        refine ⟨.pointer (some ⟨(ψ id).blk, (ψ id).off + (off + n.toNat * inf.size), none⟩), ?_, .ptr _ _ hA⟩
        simp [execOp, ho, e1, h3, Instr.indexAt, asIntOf, run_underlying hu, Instr.sureAddr, hn, sizeOf, typeInfo, hinf, Addr.add_mid, Nat.add_assoc]
      · cases h
    · cases h
  · rename_i elem id off len cap k n hu hv hi
    split at h
    · rename_i inf hinf
      split at h
      · rename_i hn
        cases h
        refine StepOK.value fun F A ψ env1 H1 a w hr he _ => ?_
        have h1 := opd hr he (x := x) (by simp [ho, Op.operands])
        have h2 := opd hr he (x := i) (by simp [ho, Op.operands])
        rw [hv] at h1; rw [hi] at h2
        have h3 := h2.of_atom rfl
        obtain ⟨hA, ad, cap', e1, _, e0, _⟩ := h1.slice_inv
        obtain rfl := e0.resolve_left (by omega)
        refine ⟨.pointer (some ⟨(ψ id).blk, (ψ id).off + (off + n.toNat * inf.size), none⟩), ?_, .ptr _ _ hA⟩
        simp [execOp, ho, e1, h3, Instr.indexAt, asIntOf, run_underlying hu, hn, sizeOf, typeInfo, hinf, Addr.add_mid, Nat.add_assoc]
      · cases h
    · cases h
  · cases h

/-- The length. -/
def evLen (P : Program) (t : TypeId) (x : Value) : Option Out :=
  match P.underlying t, x with
  | some (.slice _), .slice _ n _ => some ⟨goInt n, [], [], []⟩
  | some .string, .string s => some ⟨goInt s.size, [], [], []⟩
  | some (.array n _), _ => some ⟨goInt n, [], [], []⟩
  | _, _ => none

theorem len_ok {t : TypeId} {x : Operand} {ts : Array TypeId} {out : Out} (ho : o.op = .call ⟨.builtin .len, #[x], ts⟩) (ht : ts.toList.head? = some t) (h : evLen P t (ev env x) = some out) : StepOK P o env H out := by
  have ht' : ts[0]? = some t := by rw [← ht]; cases ts with | mk l => cases l <;> simp
  unfold evLen at h
  split at h
  · rename_i e sa n c hu hv
    cases h
    refine StepOK.value fun F A ψ env1 H1 a w hr he _ => ?_
    have h1 := opd hr he (x := x) (by simp [ho, Op.operands, Call.operands])
    rw [hv] at h1
    refine ⟨goInt n, ?_, .atom _ rfl⟩
    obtain ⟨a', c', e1⟩ := h1.slice_len
    simp [execOp, ho, resolve, invoke, builtin, Builtin.len_, ht', e1, run_underlying hu]
  · rename_i s hu hv
    cases h
    refine StepOK.value fun F A ψ env1 H1 a w hr he _ => ?_
    have h1 := opd hr he (x := x) (by simp [ho, Op.operands, Call.operands])
    rw [hv] at h1
    have e1 := h1.of_atom rfl
    exact ⟨goInt s.size, by simp [execOp, ho, resolve, invoke, builtin, Builtin.len_, ht', e1, run_underlying hu], .atom _ rfl⟩
  · rename_i n e hu
    cases h
    refine StepOK.value fun F A ψ env1 H1 a w hr he _ => ?_
    exact ⟨goInt n, by simp [execOp, ho, resolve, invoke, builtin, Builtin.len_, ht', run_underlying hu], .atom _ rfl⟩
  · cases h

def evMakeFunc (fn : Fn) (env : List Value) (fs cs : Array Operand) : Option Out :=
  some ⟨.func fn (fs.toList.map (ev env)).toArray (cs.toList.map (ev env)).toArray, [], [], []⟩

theorem map_rel {xs : Array Operand} (h : ∀ x ∈ xs, VR A ψ (ev env x) (a.eval x)) (i : Nat) : VR A ψ (((xs.toList.map (ev env)).toArray).getD i poi) ((xs.map a.eval).getD i undef) := by
  by_cases hi : i < xs.size
  · have e1 : ((xs.toList.map (ev env)).toArray).getD i poi = ev env xs[i] := by simp [Array.getD_eq_getD_getElem?, hi]
    have e2 : (xs.map a.eval).getD i undef = a.eval xs[i] := by simp [Array.getD_eq_getD_getElem?, hi]
    rw [e1, e2]; exact h _ (by simp)
  · have e1 : ((xs.toList.map (ev env)).toArray).getD i poi = poi := by simp [Array.getD_eq_getD_getElem?, hi]
    rw [e1]; exact .poison _

theorem makeFunc_ok {fn : Fn} {fs cs : Array Operand} {out : Out} (ho : o.op = .makeFunc fn fs cs) (h : evMakeFunc fn env fs cs = some out) : StepOK P o env H out := by
  cases h
  refine StepOK.value fun F A ψ env1 H1 a w hr he _ => ⟨.func fn (fs.map a.eval) (cs.map a.eval), by simp [execOp, ho, Instr.makeFunc], ?_⟩
  refine .func _ _ _ _ _ (by simp) (by simp) (map_rel fun x hx => opd hr he (by simp [ho, Op.operands, hx])) (map_rel fun x hx => opd hr he (by simp [ho, Op.operands, hx]))

end
end
end Go.Vm
