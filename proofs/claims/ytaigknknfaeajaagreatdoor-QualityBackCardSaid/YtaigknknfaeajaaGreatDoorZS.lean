/- Parts of the proof: VmAH, VmAI. -/
import Derived.Test.YtaigknknfaeajaaGreatDoorZC
import Derived.Test.YtaigknknfaeajaaGreatDoorZD
import Derived.Laws.Cover3
section
/- Slots by a list in order: one pass. -/
namespace Go.Vm
noncomputable section
def slotsG : Nat → Nat → List (Nat × Value) → List Value
  | 0, _, _ => []
  | n + 1, _, [] => poi :: slotsG n 0 []
  | n + 1, i, (t, v) :: r => match Nat.beq t i with
    | true => v :: slotsG n (i + 1) r
    | false => poi :: slotsG n (i + 1) ((t, v) :: r)
/-- Slots: the pairs lie in order. -/
def slotsF (n : Nat) (l : List (Nat × Value)) : List Value := slotsG n 0 l
def keepG : Nat → Nat → List Nat → List Bool
  | 0, _, _ => []
  | n + 1, _, [] => true :: keepG n 0 []
  | n + 1, i, t :: r => match Nat.beq t i with
    | true => false :: keepG n (i + 1) r
    | false => true :: keepG n (i + 1) (t :: r)
def keepF (n : Nat) (l : List Nat) : List Bool := keepG n 0 l
end
end Go.Vm
end
section
/- Lists of any length: made, copied whole, held against nil. -/
namespace Go.Vm
noncomputable section
/-- So many zero elements have these cells. -/
def _root_.Sp.zeroCells (z : Value) (n : Nat) (l : List Value) : Prop := (zrow z.cells n).toList = l
/-- Each one is a cell without an address. -/
def _root_.Sp.atoms (l : List Value) : Prop := ∀ v ∈ l, atom v = true

section
variable {P : Program} {o : Oper} {env : List Value} {H : Heap}
/-- A list of zero elements; g: its cells, by the length. -/
def fMk (P : Program) (g : Nat → List Value) (o : Oper) (env : List Value) (H : Heap) : Option (Out × Prop) :=
  match o.op with
  | .makeSlice t x y =>
    match P.underlying t, ev env x, ev env y with
    | some (.slice elem), .int _ l, .int _ c =>
      match P.info? elem with
      | some ie =>
        match ie.zero with
        | some z =>
          if ground1 z && decide (z.cells.size ≠ 0) then
            some (⟨.slice (some ⟨H.length, 0, none⟩) l.toNat 0, [(H.length, some (.row (g l.toNat) ie.size true true true))], [], [H.length]⟩,
              l = c ∧ 0 ≤ l ∧ l ≤ 9223372036854775807 ∧ ie.bytes * l ≤ 281474976710656 ∧ Sp.zeroCells z (l.toNat * ie.size) (g l.toNat))
          else none
        | none => none
      | none => none
    | _, _, _ => none
  | _ => none

theorem zrow_size (z : Array Value) (n : Nat) : (zrow z n).size = n := by simp [zrow]

def hMk (P : Program) (g : Nat → List Value) : Hint P where
  fn := fMk P g
  ok := by
    intro o env H out vc h hv
    unfold fMk at h
    split at h
    · rename_i t x y ho
      split at h
      · rename_i elem kl l kc c hu hl hc
        split at h
        · rename_i ie hie
          split at h
          · rename_i z hz
            split at h
            · rename_i hcond
              simp only [Bool.and_eq_true, decide_eq_true_eq] at hcond
              obtain ⟨hg, hzc⟩ := hcond
              cases h
              obtain ⟨rfl, h0, h2, h3, h4⟩ := hv
              unfold Sp.zeroCells at h4
              intro F A ψ env1 H1 a w hr he hD hn K Q hK
              have hn' : ¬ A H.length := hn _ (List.mem_singleton_self _)
              have q1 := opd hr he (x := x) (by simp [ho, Op.operands])
              have q2 := opd hr he (x := y) (by simp [ho, Op.operands])
              rw [hl] at q1; rw [hc] at q2
              have r1 := q1.of_atom rfl
              have r2 := q2.of_atom rfl
              unfold Oper.wp
              have hrun : (execOp a.eval o).run P w = .ok (.value (.slice (some ⟨w.heap.size, 0, none⟩) l.toNat l.toNat)) (w.alloc (.cells (zrow z.cells (l.toNat * ie.size)) elem)) := by
                have := run_make (P := P) w t elem ie z hu hie hz kl kc l l h0 (Int.le_refl _) (by omega) h2
                simp [execOp, ho, r1, r2, this]
                rfl
              rw [hrun]
              have hat := zrow_atoms hg (l.toNat * ie.size) hzc
              have hcr : CR (fun id => A id ∨ id = H.length) (upd ψ H.length ⟨w.heap.size, 0, (zrow z.cells (l.toNat * ie.size)).size, ie.size⟩) (zrow z.cells (l.toNat * ie.size)) (zrow z.cells (l.toNat * ie.size)) := CR.atoms hat
              have hcap : CapRel ⟨w.heap.size, 0, (zrow z.cells (l.toNat * ie.size)).size, ie.size⟩ 0 l.toNat 0 l.toNat := by
                rcases Nat.eq_zero_or_pos l.toNat with e | e
                · rw [e]; exact .inl ⟨rfl, Nat.le_refl _⟩
                · exact .inr ⟨rfl, e, Nat.le_refl _, by simp [zrow_size]⟩
              have key := hr.push (v := .slice (some ⟨H.length, 0, none⟩) l.toNat 0) (SameBut.alloc w _) (by simp) hn' rfl
                (ORel.new (more := true) (flat := true) (el := elem) (arr := zrow z.cells (l.toNat * ie.size)) (b := w.heap.size) (alloc_get _ _) (by simp) hcr.get (fun _ v hv => hat v (by simpa using hv))) (VR.new_slice rfl hcap) o.dst
              rw [h4] at key
              exact hK _ _ _ key
            · cases h
          · cases h
        · cases h
      · cases h
    · cases h

/-- A row that is what it was. -/
theorem StepOK.same {v : Value} {id : Nat} {ob : AObj} {D : List Nat} (h : StepOK P o env H ⟨v, [], D, []⟩) (hr : rd H id = some ob) : StepOK P o env H ⟨v, [(id, some ob)], id :: D, []⟩ := by
  intro F A ψ env1 H1 a w hrel he hD hn K Q hK
  refine h F A ψ env1 H1 a w hrel he (fun i hi => hD i (List.mem_cons_of_mem _ hi)) hn K Q fun ψ1 a1 w1 h1 => hK ψ1 a1 w1 ?_
  refine h1.congr (fun _ => Iff.rfl) (fun _ => rfl) rfl fun i => ?_
  show rd (wr H1 id (some ob)) i = rd H1 i
  rw [rd_wr]
  split
  · rename_i e; subst e; rw [hD i (by simp), hr]
  · rfl

/-- A list, copied whole into another one. -/
def fCp (P : Program) (o : Oper) (env : List Value) (H : Heap) : Option (Out × Prop) :=
  match o.op with
  | .call ⟨.builtin .copy, args, ts⟩ =>
    match args.toList, ts.toList with
    | [x, y], t :: _ =>
      match P.underlying t with
      | some (.slice elem) =>
        match P.info? elem with
        | some ie =>
          match ev env x, ev env y with
          | .slice (some ⟨id, 0, none⟩) n _, .slice (some ⟨jd, 0, none⟩) m _ =>
            match rd H id, rd H jd with
            | some (.row cells es more true true), some (.row src _ _ _ true) =>
              if Nat.blt 0 ie.size then
                some (⟨goInt n, [(id, some (.row src es more true true))], [id, id, jd], []⟩, m = n ∧ cells.length = n * ie.size ∧ src.length = n * ie.size ∧ Sp.atoms src)
              else none
            | _, _ => none
          | _, _ => none
        | none => none
      | _ => none
    | _, _ => none
  | _ => none

def hCp (P : Program) : Hint P where
  fn := fCp P
  ok := by
    intro o env H out vc h hv
    unfold fCp at h
    split at h
    · rename_i args ts ho
      split at h
      · rename_i x y t r hargs hts
        have ho' : o.op = .call ⟨.builtin .copy, #[x, y], ts⟩ := by
          rw [ho, args_list hargs]
        split at h
        · rename_i elem hu
          split at h
          · rename_i ie hie
            split at h
            · rename_i id n c1 jd m c2 hx hy
              split at h
              · rename_i cells es more src es2 more2 rw2 hrd hrd2
                split at h
                · rename_i hpos
                  have hpos : 0 < ie.size := blt_lt hpos
                  cases h
                  obtain ⟨rfl, h1, h2, h3⟩ := hv
                  unfold Sp.atoms at h3
                  rcases Nat.eq_zero_or_pos m with h0 | h0
                  · subst h0
                    have e1 : cells = [] := List.eq_nil_of_length_eq_zero (by simpa using h1)
                    have e2 : src = [] := List.eq_nil_of_length_eq_zero (by simpa using h2)
                    subst e1; subst e2
                    refine StepOK.same ?_ hrd
                    have : StepOK P o env H ⟨goInt 0, [], [], []⟩ := copy_ok ho' (by unfold evCopy; simp only [hts, hu, hie, hx, hy]; rfl)
                    intro F A ψ env1 H1 a w hrel he hD hn K Q hK
                    exact this F A ψ env1 H1 a w hrel he (fun i hi => by cases hi) hn K Q hK
                  · have key : StepOK P o env H ⟨goInt (min m m : Nat), [(id, some (.row (splice cells 0 ((src.drop 0).take (min m m * ie.size))) es more true (true && ((src.drop 0).take (min m m * ie.size)).all atom)))], [id, jd], []⟩ := by
                      refine copy_ok ho' ?_
                      unfold evCopy
                      simp only [hts, hu, hie, hx, hy, hrd, hrd2]
                      rw [if_neg (by omega), if_pos ⟨by simp; omega, by simp; omega, hpos⟩]
                    have e1 : (src.drop 0).take (min m m * ie.size) = src := by
                      rw [List.drop_zero, Nat.min_self, List.take_of_length_le (by omega)]
                    rw [e1] at key
                    have e2 : splice cells 0 src = src := by
                      unfold splice
                      simp only [List.take_zero, List.nil_append, Nat.zero_add]
                      rw [List.drop_of_length_le (by omega), List.append_nil]
                    have e3 : (true && src.all atom) = true := by
                      rw [Bool.true_and, List.all_eq_true]; exact h3
                    rw [e2, e3, Nat.min_self] at key
                    intro F A ψ env1 H1 a w hrel he hD hn K Q hK
                    exact key F A ψ env1 H1 a w hrel he (fun i hi => hD i (List.mem_cons_of_mem _ hi)) hn K Q hK
                · cases h
              · cases h
            · cases h
          · cases h
        · cases h
      · cases h
    · cases h

/-- A list, held against nil: nobody knows, but that a list with elements is not nil. -/
def fNil (P : Program) (o : Oper) (env : List Value) : Option ((Bool → Value) × (Bool → Prop)) :=
  match o.op with
  | .binOp .eql t x y _ =>
    match P.underlying t, ev env x, ev env y with
    | some (.slice _), .slice (some ⟨_, _, none⟩) n _, .slice none 0 0 => some (fun b => .bool b, fun b => b = true → n = 0)
    | _, _, _ => none
  | _ => none

def hNil (P : Program) : HintN P where
  α := Bool
  fn := fNil P
  ok := by
    intro o env f c h
    unfold fNil at h
    split at h
    · rename_i t x y yt ho
      split at h
      · rename_i e id off n cap hu hx hy
        cases h
        intro F A ψ env1 H1 a w hr he
        have q1 := opd hr he (x := x) (by simp [ho, Op.operands])
        have q2 := opd hr he (x := y) (by simp [ho, Op.operands])
        rw [hx] at q1; rw [hy] at q2
        have r2 := q2.of_atom rfl
        obtain ⟨_, ad, cap', r1, _, h4, _⟩ := q1.slice_inv
        refine ⟨.bool ad.isNone, w, ?_, hr.heap, ad.isNone, ?_, .atom _ rfl⟩
        · have hg : (eqGuard .eql t x y (.slice ad n cap') (.slice none 0 0)).run P w = .ok () w := by
            unfold eqGuard; rfl
          have hb : (binOp .eql t (.slice ad n cap') (.slice none 0 0)).run P w = .ok (.bool ad.isNone) w := by
            simp only [binOp]
            simp [run_equal_slice_nil w t e ad n cap' hu]
          simp only [execOp, ho, r1, r2]
          rw [Sem.run_bind, Sem.run_bind, hg, Result.andThen_ok, hb]; rfl
        · intro hn
          cases ad with
          | none => exact h4.resolve_right (by simp)
          | some b => cases hn
      · cases h
    · cases h
end
end
end Go.Vm
end
