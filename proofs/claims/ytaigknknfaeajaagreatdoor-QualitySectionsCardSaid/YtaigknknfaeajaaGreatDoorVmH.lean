/- copy, ranging over a string, and all operations in one. -/
import Derived.Test.YtaigknknfaeajaaGreatDoorVmG
namespace Go.Vm
noncomputable section

section
variable {P : Program} {o : Oper} {env env1 : List Value} {H H1 : Heap} {F : Fr P} {A : Nat → Prop} {ψ : Nat → Gh} {a : Act} {w : World}

/-- The cells of the second argument of a copy, for so many elements. -/
def evCopy (P : Program) (H : Heap) (ts : List TypeId) (x y : Value) : Option Out :=
  match ts with
  | t :: _ =>
    match P.underlying t with
    | some (.slice elem) =>
      match P.info? elem with
      | some ie =>
        match x, y with
        | .slice sa dLen _, .slice sb sLen _ =>
          if min sLen dLen = 0 then some ⟨goInt 0, [], [], []⟩
          else match sa, sb with
            | some ⟨id, off, none⟩, some ⟨jd, joff, none⟩ =>
              match rd H id, rd H jd with
              | some (.row cells es more true flat), some (.row src _ _ _ _) =>
                if off + min sLen dLen * ie.size ≤ cells.length ∧ joff + min sLen dLen * ie.size ≤ src.length ∧ 0 < ie.size then
                  some ⟨goInt (min sLen dLen : Nat), [(id, some (.row (splice cells off ((src.drop joff).take (min sLen dLen * ie.size))) es more true (flat && ((src.drop joff).take (min sLen dLen * ie.size)).all atom)))], [id, jd], []⟩
                else none
              | _, _ => none
            | _, _ => none
        | _, _ => none
      | none => none
    | _ => none
  | [] => none

theorem copy_ok {x y : Operand} {ts : Array TypeId} {out : Out} (ho : o.op = .call ⟨.builtin .copy, #[x, y], ts⟩) (h : evCopy P H ts.toList (ev env x) (ev env y) = some out) : StepOK P o env H out := by
  unfold evCopy at h
  split at h
  · rename_i l t r hts
    have ht0 : ts[0]? = some t := by
      have : ts.toList[0]? = some t := by rw [hts]; rfl
      simpa using this
    split at h
    · rename_i elem hu
      split at h
      · rename_i ie hie
        split at h
        · rename_i sa dLen dc sb sLen sc hxv hyv
          intro F A ψ env1 H1 a w hr he hD hn K Q hK
          have hx := opd hr he (x := x) (by simp [ho, Op.operands, Call.operands])
          have hy := opd hr he (x := y) (by simp [ho, Op.operands, Call.operands])
          have hexec : execOp a.eval o = (do let v ← Builtin.copy_ ts o.type #[a.eval x, a.eval y]; pure (.value v)) := by
            simp [execOp, ho, resolve, invoke, builtin]
          rw [hxv] at hx; rw [hyv] at hy
          split at h
          · rename_i hmin
            cases h
            obtain ⟨a1, c1, e1⟩ := hx.slice_len
            obtain ⟨a2, c2, e2⟩ := hy.slice_len
            unfold Oper.wp
            have hmin' : Nat.min sLen dLen = 0 := hmin
            have hf : (Builtin.firstCells ie.size 0 (.slice a2 sLen c2)).run P w = .ok #[] w := by
              cases a2 with
              | none => simp [Builtin.firstCells]
              | some b => exact run_firstCells_some w ie.size 0 b sLen c2 [] (by simp) (by simp)
            have hrun : (Builtin.copy_ ts o.type #[a.eval x, a.eval y]).run P w = .ok (goInt 0) w := by
              rw [e1, e2]
              cases a1 <;> simp [Builtin.copy_, ht0, run_underlying hu, Builtin.lenOf, hmin', sizeOf, typeInfo, hie, hf, storeCells]
            rw [hexec, Sem.run_bind, hrun]
            exact hK ψ _ _ (A_nil (put_rel hr (.atom _ rfl) o.dst))
          · rename_i hmin
            split at h
            · rename_i id off jd joff
              split at h
              · rename_i cells es more flat src es2 more2 rw2 flat2 hrd hrd2
                split at h
                · rename_i hle
                  cases h
                  obtain ⟨hle1, hle2, hpos⟩ := hle
                  have hrd1 : rd H1 id = some (.row cells es more true flat) := by rw [hD id (by simp), hrd]
                  have hrd1' : rd H1 jd = some (.row src es2 more2 rw2 flat2) := by rw [hD jd (by simp), hrd2]
                  obtain ⟨hA, ad1, c1, e1, _, e10, _⟩ := hx.slice_inv
                  obtain ⟨_, ad2, c2, e2, _, e20, _⟩ := hy.slice_inv
                  obtain rfl := e10.resolve_left (by omega)
                  obtain rfl := e20.resolve_left (by omega)
                  obtain ⟨vs, k1, k2, k3, k4⟩ := row_range hr.heap hrd1' joff (min sLen dLen * ie.size) hle2
                  have hl : ((src.drop joff).take (min sLen dLen * ie.size)).length = min sLen dLen * ie.size := by
                    rw [List.length_take, List.length_drop]; omega
                  obtain ⟨m1, m2, m3, m4⟩ := write_row (off := off) (cs := (src.drop joff).take (min sLen dLen * ie.size)) (vs := vs) hr.heap hrd1 (by rw [hl]; exact hle1) (by rw [hl]; exact Nat.mul_pos (by omega) hpos) (by rw [k1, hl]) k2 k4
                  have hst := run_storeCells_cells (P := P) (ψ id).blk off vs 0 w (by simpa using m1) (by simpa using m2) k2
                  simp only [Nat.add_zero] at hst
                  unfold Oper.wp
                  have hf : (Builtin.firstCells ie.size (Nat.min sLen dLen) (.slice (some ⟨(ψ jd).blk, (ψ jd).off + joff, none⟩) sLen c2)).run P w = .ok vs.toArray w :=
                    run_firstCells_some w ie.size _ _ sLen c2 vs k1 (fun j u hj => by rw [Addr.add_mid]; exact k3 j u hj)
                  have hrun : (Builtin.copy_ ts o.type #[a.eval x, a.eval y]).run P w = .ok (goInt (min sLen dLen : Nat)) (w.setCells (ψ id).blk off vs) := by
                    rw [e1, e2]
                    simp only [Builtin.copy_, ht0]
                    simp [run_underlying hu, Builtin.lenOf, sizeOf, typeInfo, hie, hf, m3, hst]
                  rw [hexec, Sem.run_bind, hrun]
                  exact hK ψ _ _ (A_nil (hr.heap_step m4 (.atom _ rfl) o.dst))
                · cases h
              · cases h
            · cases h
        · cases h
      · cases h
    · cases h
  · cases h

def evRange (P : Program) (nid : Nat) (t : TypeId) (x : Value) : Option Out :=
  match P.underlying t, x with
  | some .string, .string s => some ⟨.pointer (some ⟨nid, 0, none⟩), [(nid, some (.iter s 0))], [], [nid]⟩
  | _, _ => none

theorem range_ok {t : TypeId} {x : Operand} {nid : Nat} {out : Out} (ho : o.op = .range t x) (h : evRange P nid t (ev env x) = some out) : StepOK P o env H out := by
  unfold evRange at h
  split at h
  · rename_i s hu hv
    cases h
    intro F A ψ env1 H1 a w hr he hD hn K Q hK
    have hn' : ¬ A nid := hn _ (List.mem_singleton_self _)
    have h1 := opd hr he (x := x) (by simp [ho, Op.operands])
    rw [hv] at h1
    have e1 := h1.of_atom rfl
    unfold Oper.wp
    have hrun : (execOp a.eval o).run P w = .ok (.value (.pointer (some ⟨w.heap.size, 0, none⟩))) (w.alloc (.stringIter s 0)) := by
      simp [execOp, ho, e1, Instr.range, run_underlying hu]
    rw [hrun]
    have hob : ORel (fun id => A id ∨ id = nid) (upd ψ nid ⟨w.heap.size, 0, 0, 0⟩) ⟨w.heap.size, 0, 0, 0⟩ (w.alloc (.stringIter s 0)) (.iter s 0) := ⟨rfl, alloc_get _ _⟩
    exact hK _ _ _ (hr.push (SameBut.alloc w _) (by simp) hn' rfl hob (VR.new_ptr rfl) o.dst)
  · cases h

def evNext (H : Heap) (x : Value) (isString : Bool) : Option Out :=
  match x, isString with
  | .pointer (some ⟨id, 0, none⟩), true =>
    match rd H id with
    | some (.iter s pos) =>
      if pos < s.size then
        some ⟨.tuple #[.bool true, goInt pos, .int .i32 (Utf8.decode s pos).1], [(id, some (.iter s (pos + (Utf8.decode s pos).2)))], [id], []⟩
      else some ⟨.tuple #[.bool false], [], [id], []⟩
    | _ => none
  | _, _ => none

theorem next_ok {x : Operand} {b : Bool} {out : Out} (ho : o.op = .next x b) (h : evNext H (ev env x) b = some out) : StepOK P o env H out := by
  unfold evNext at h
  split at h
  · rename_i id hv
    split at h
    · rename_i s pos hrd
      split at h
      · rename_i hlt
        cases h
        intro F A ψ env1 H1 a w hr he hD hn K Q hK
        have h1 := opd hr he (x := x) (by simp [ho, Op.operands])
        rw [hv] at h1
        obtain ⟨hA, e1⟩ := h1.ptr_inv
        have hrd1 : rd H1 id = some (.iter s pos) := by rw [hD id (by simp), hrd]
        obtain ⟨hblk, hob⟩ := (hr.heap.live id _ hrd1).2.2 rfl
        obtain ⟨hoff, hob'⟩ := hob
        have hg : (getObj (ψ id).blk).run P w = .ok (.stringIter s pos) w := by simp [getObj, Sem.run, hob']
        have hs : (setObj (ψ id).blk (.stringIter s (pos + (Utf8.decode s pos).2))).run P w = .ok () { w with heap := w.heap.setIfInBounds (ψ id).blk (.stringIter s (pos + (Utf8.decode s pos).2)) } := by
          simp [setObj, Sem.run, hob']
        have hrun : (execOp a.eval o).run P w = .ok (.value (.tuple #[.bool true, goInt pos, .int .i32 (Utf8.decode s pos).1])) { w with heap := w.heap.setIfInBounds (ψ id).blk (.stringIter s (pos + (Utf8.decode s pos).2)) } := by
          simp [execOp, ho, e1, hoff, Instr.next, hg, hlt, hs]
        have hsame : SameBut w { w with heap := w.heap.setIfInBounds (ψ id).blk (.stringIter s (pos + (Utf8.decode s pos).2)) } (ψ id).blk :=
          ⟨rfl, rfl, rfl, by simp, fun k hk hne => by simp [Array.getElem?_setIfInBounds_ne (Ne.symm hne)]⟩
        unfold Oper.wp
        rw [hrun]
        refine hK ψ _ _ (A_nil (hr.heap_step (hr.heap.update hrd1 rfl rfl trivial hsame (o' := .iter s (pos + (Utf8.decode s pos).2)) ⟨hoff, by simp [hblk]⟩) (.refl_ground ?_) o.dst))
        rfl
      · rename_i hlt
        cases h
        refine StepOK.value fun F A ψ env1 H1 a w hr he hD => ⟨.tuple #[.bool false], ?_, .refl_ground rfl⟩
        have h1 := opd hr he (x := x) (by simp [ho, Op.operands])
        rw [hv] at h1
        obtain ⟨hA, e1⟩ := h1.ptr_inv
        have hrd1 : rd H1 id = some (.iter s pos) := by rw [hD id (by simp), hrd]
        obtain ⟨hblk, hoff, hob'⟩ := (hr.heap.live id _ hrd1).2.2 rfl
        have hg : (getObj (ψ id).blk).run P w = .ok (.stringIter s pos) w := by simp [getObj, Sem.run, hob']
        simp [execOp, ho, e1, hoff, Instr.next, hg, hlt]
    · cases h
  · cases h

end

/-! ### Maps with strings for keys -/
section
variable {P : Program} {o : Oper} {env : List Value} {H : Heap}
def findS (k : ByteArray) : List (ByteArray × Value) → Option Value
  | [] => none
  | p :: r => bif k == p.1 then some p.2 else findS k r

def evMakeMap (nid : Nat) : Out := ⟨.map (some nid), [(nid, some (.smap []))], [], [nid]⟩

theorem makeMap_ok {t : TypeId} {nid : Nat} (ho : o.op = .makeMap t none) : StepOK P o env H (evMakeMap nid) := by
  intro F A ψ env1 H1 a w hr he hD hn K Q hK
  have hn' : ¬ A nid := hn _ (List.mem_singleton_self _)
  unfold Oper.wp
  have hrun : (execOp a.eval o).run P w = .ok (.value (.map (some w.heap.size))) (w.alloc (.map #[] 0)) := by
    have hmk : (Instr.makeMap t none).run P w = .ok (.map (some w.heap.size)) (w.alloc (.map #[] 0)) := rfl
    simp [execOp, ho, hmk]
  rw [hrun]
  have hob : ORel (fun id => A id ∨ id = nid) (upd ψ nid ⟨w.heap.size, 0, 0, 0⟩) ⟨w.heap.size, 0, 0, 0⟩ (w.alloc (.map #[] 0)) (.smap []) := ⟨rfl, #[], 0, alloc_get _ _, rfl, by simp⟩
  have hv : VR (fun id => A id ∨ id = nid) (upd ψ nid ⟨w.heap.size, 0, 0, 0⟩) (.map (some nid)) (.map (some w.heap.size)) := by
    have := VR.map (A := fun id => A id ∨ id = nid) (ψ := upd ψ nid ⟨w.heap.size, 0, 0, 0⟩) nid (.inr rfl)
    simpa [upd] using this
  exact hK _ _ _ (hr.push (SameBut.alloc w _) (by simp) hn' rfl hob hv o.dst)

theorem findNow_find (k : ByteArray) : ∀ (L : List MapEntry) (es : List (ByteArray × Value)) (i : Nat), L.map (fun e => (e.key, e.val)) = es.map (fun p => (Value.string p.1, p.2)) →
    ∃ r, Instr.findNow .string (.string k) L i = some r ∧ r.map (·.2) = findS k es
  | [], [], i, _ => ⟨none, rfl, rfl⟩
  | [], _ :: _, i, h => by simp at h
  | _ :: _, [], i, h => by simp at h
  | e :: L, p :: es, i, h => by
    simp only [List.map_cons, List.cons.injEq, Prod.mk.injEq] at h
    obtain ⟨⟨h1, h2⟩, h3⟩ := h
    obtain ⟨r, r1, r2⟩ := findNow_find k L es (i + 1) h3
    unfold Instr.findNow findS
    rw [h1]
    cases hb : k == p.1 with
    | true => exact ⟨some (i, e.val), by simp [Instr.sameNow, hb], by simp [h2]⟩
    | false => exact ⟨r, by simp [Instr.sameNow, hb, r1], by simpa using r2⟩

theorem checkKey_string {key : TypeId} {k : ByteArray} {b : Bool} (hk : P.underlying key = some .string) (w : World) : (Instr.checkKey b 10000 key (.string k)).run P w = .ok () w := by
  have : ∀ n, (Instr.checkKey b (n + 1) key (.string k)).run P w = .ok () w := fun n => by simp [Instr.checkKey, run_underlying hk]
  exact this 9999

def evLookup (P : Program) (H : Heap) (t : TypeId) (x k : Value) (ok : Bool) : Option Out :=
  match P.underlying t, x, k with
  | some (.map key elem), .map (some id), .string s =>
    match P.underlying key, P.info? elem, rd H id with
    | some .string, some i, some (.smap es) =>
      match i.zero, findS s es with
      | some _, some v => if ground (.tuple #[v, .bool true]) && atom v then some ⟨bif ok then .tuple #[v, .bool true] else v, [], [id], []⟩ else none
      | some z, none => if ground (.tuple #[z, .bool false]) && ground1 z then some ⟨bif ok then .tuple #[z, .bool false] else z, [], [id], []⟩ else none
      | _, _ => none
    | _, _, _ => none
  | _, _, _ => none

theorem lookup_ok {t : TypeId} {x k : Operand} {ok : Bool} {out : Out} (ho : o.op = .lookup t x k ok) (h : evLookup P H t (ev env x) (ev env k) ok = some out) : StepOK P o env H out := by
  unfold evLookup at h
  split at h
  · rename_i key elem id s hu hx hk
    split at h
    · rename_i i es hku hi hrd
      have base : ∀ (F : Fr P) (A : Nat → Prop) (ψ : Nat → Gh) (env1 : List Value) (H1 : Heap) (a : Act) (w : World), Rel F A ψ env1 H1 a w → (∀ x ∈ o.op.operands, ev env1 x = ev env x) → rd H1 id = rd H id → ∀ z, i.zero = some z →
          (execOp a.eval o).run P w = .ok (.value (if ok then .tuple #[(findS s es).getD z, .bool (findS s es).isSome] else (findS s es).getD z)) w := by
        intro F A ψ env1 H1 a w hr he hD z hz
        have h1 := opd hr he (x := x) (by simp [ho, Op.operands])
        have h2 := opd hr he (x := k) (by simp [ho, Op.operands])
        rw [hx] at h1; rw [hk] at h2
        obtain ⟨hA, e1⟩ := h1.map_inv
        have e2 := h2.of_atom rfl
        obtain ⟨hblk, _, arr, clock, hm, hes, _⟩ := (hr.heap.live id _ (hD.trans hrd)).2.2 rfl
        obtain ⟨r, r1, r2⟩ := findNow_find s arr.toList es 0 hes
        have hg : (getObj (ψ id).blk).run P w = .ok (.map arr clock) w := by simp [getObj, Sem.run, hm]
        have hck := checkKey_string (P := P) (key := key) (k := s) (b := arr.isEmpty) hku w
        have hfk : (Instr.findKey key (.string s) arr.toList).run P w = .ok r w := by simp [Instr.findKey, run_underlying hku, r1]
        have hzv : (zeroValue elem).run P w = .ok z w := by simp [zeroValue, typeInfo, hi, hz]
        simp only [execOp, ho, e1, e2, Instr.lookup, Sem.run_bind, run_underlying hu, Result.andThen_ok, hg, hck, hfk]
        rw [← r2]
        cases r with
        | none => cases ok <;> simp [hck, hfk, hzv]
        | some q => cases ok <;> simp [hck, hfk]
      split at h
      · rename_i z v hz hv
        split at h
        · rename_i hgr
          simp only [Bool.and_eq_true] at hgr
          cases h
          refine StepOK.value fun F A ψ env1 H1 a w hr he hD => ⟨_, base F A ψ env1 H1 a w hr he (hD id (by simp)) z hz, ?_⟩
          rw [hv]
          cases ok with
          | true => exact .refl_ground hgr.1
          | false => exact .atom _ hgr.2
        · cases h
      · rename_i z hz hv
        split at h
        · rename_i hgr
          simp only [Bool.and_eq_true] at hgr
          cases h
          refine StepOK.value fun F A ψ env1 H1 a w hr he hD => ⟨_, base F A ψ env1 H1 a w hr he (hD id (by simp)) z hz, ?_⟩
          rw [hv]
          cases ok with
          | true => exact .refl_ground hgr.1
          | false => exact .refl_ground1 hgr.2
        · cases h
      · cases h
    · cases h
  · cases h

def evMapUpdate (P : Program) (H : Heap) (t : TypeId) (x k v : Value) : Option Out :=
  match P.underlying t, x, k with
  | some (.map key _), .map (some id), .string s =>
    match P.underlying key, rd H id with
    | some .string, some (.smap es) =>
      match findS s es with
      | none => if atom v then some ⟨undef, [(id, some (.smap (es ++ [(s, v)])))], [id], []⟩ else none
      | some _ => none
    | _, _ => none
  | _, _, _ => none

theorem mapUpdate_ok {t : TypeId} {x k y : Operand} {out : Out} (ho : o.op = .mapUpdate t x k y) (h : evMapUpdate P H t (ev env x) (ev env k) (ev env y) = some out) : StepOK P o env H out := by
  unfold evMapUpdate at h
  split at h
  · rename_i key elem id s hu hx hk
    split at h
    · rename_i es hku hrd
      split at h
      · rename_i hf
        split at h
        · rename_i hat
          cases h
          intro F A ψ env1 H1 a w hr he hD hn K Q hK
          have h1 := opd hr he (x := x) (by simp [ho, Op.operands])
          have h2 := opd hr he (x := k) (by simp [ho, Op.operands])
          have h3 := opd hr he (x := y) (by simp [ho, Op.operands])
          rw [hx] at h1; rw [hk] at h2
          obtain ⟨hA, e1⟩ := h1.map_inv
          have e2 := h2.of_atom rfl
          have e3 := h3.of_atom hat
          have hrd1 : rd H1 id = some (.smap es) := by rw [hD id (by simp), hrd]
          obtain ⟨hblk, hoff, arr, clock, hm, hes, hall⟩ := (hr.heap.live id _ hrd1).2.2 rfl
          obtain ⟨r, r1, r2⟩ := findNow_find s arr.toList es 0 hes
          rw [hf] at r2
          have hr0 : r = none := by cases r <;> simp_all
          subst hr0
          have hg : (getObj (ψ id).blk).run P w = .ok (.map arr clock) w := by simp [getObj, Sem.run, hm]
          have hck := checkKey_string (P := P) (key := key) (k := s) (b := false) hku w
          have hfk : (Instr.findKey key (.string s) arr.toList).run P w = .ok none w := by simp [Instr.findKey, run_underlying hku, r1]
          have hset : (setObj (ψ id).blk (.map (arr.push { key := .string s, val := ev env y, born := clock }) (clock + 1))).run P w = .ok () { w with heap := w.heap.setIfInBounds (ψ id).blk (.map (arr.push { key := .string s, val := ev env y, born := clock }) (clock + 1)) } := by
            simp [setObj, Sem.run, hm]
          have hrun : (execOp a.eval o).run P w = .ok .skip { w with heap := w.heap.setIfInBounds (ψ id).blk (.map (arr.push { key := .string s, val := ev env y, born := clock }) (clock + 1)) } := by
            simp only [execOp, ho, e1, e2, e3, Instr.mapUpdate, Sem.run_bind, run_underlying hu, Result.andThen_ok, hg, hck, hfk, hset]
            rfl
          have hsame : SameBut w { w with heap := w.heap.setIfInBounds (ψ id).blk (.map (arr.push { key := .string s, val := ev env y, born := clock }) (clock + 1)) } (ψ id).blk :=
            ⟨rfl, rfl, rfl, by simp, fun k hk hne => by simp [Array.getElem?_setIfInBounds_ne (Ne.symm hne)]⟩
          unfold Oper.wp
          rw [hrun]
          refine hK ψ _ _ (A_nil (hr.heap_step (hr.heap.update hrd1 rfl rfl trivial hsame (o' := .smap (es ++ [(s, ev env y)])) ⟨hoff, arr.push { key := .string s, val := ev env y, born := clock }, clock + 1, by simp [hblk], ?_, ?_⟩) .refl_undef o.dst))
          · simp [hes]
          · intro p hp
            rcases List.mem_append.1 hp with hp | hp
            · exact hall p hp
            · simp only [List.mem_singleton] at hp; subst hp; exact hat
        · cases h
      · cases h
    · cases h
  · cases h

end

/-- Two integers. -/
def evInt (op : BinOp) (k : IntKind) (x y : Int) : Option Value :=
  match op with
  | .add => some (.int k (k.wrap (x + y)))
  | .sub => some (.int k (k.wrap (x - y)))
  | .mul => some (.int k (k.wrap (x * y)))
  | .eql => some (.bool (x == y))
  | .neq => some (.bool (x != y))
  | .lss => some (.bool (decide (x < y)))
  | .leq => some (.bool (decide (x ≤ y)))
  | .gtr => some (.bool (decide (y < x)))
  | .geq => some (.bool (decide (y ≤ x)))
  | .quo => if y = 0 then none else some (.int k (k.wrap (x.tdiv y)))
  | .rem => if y = 0 then none else some (.int k (x.tmod y))
  | _ => none

theorem evInt_run {P : Program} {w : World} {op : BinOp} {t : TypeId} {x y : Operand} {k : IntKind} {a b : Int} {v : Value} (h : evInt op k a b = some v) :
    (do eqGuard op t x y (.int k a) (.int k b); binOp op t (.int k a) (.int k b) : Sem Value).run P w = .ok v w := by
  have hg : (eqGuard op t x y (.int k a) (.int k b)).run P w = .ok () w := by
    unfold eqGuard; cases op <;> rfl
  rw [Sem.run_bind, hg]
  unfold evInt at h
  split at h
  all_goals first
    | (cases h; simp [binOp, Op.intArith, Op.intCmp]; done)
    | (split at h
       · cases h
       · rename_i hb; cases h; simp [binOp, Op.intDiv, hb])
    | cases h

def evBin (P : Program) (env : List Value) (o : Oper) (op : BinOp) (x y : Operand) : Option Out :=
  match ev env x, ev env y with
  | .int k a, .int k' b => if k = k' then (evInt op k a b).map (fun v => ⟨v, [], [], []⟩) else none
  | _, _ => evGround P env o

theorem evInt_atom {op : BinOp} {k : IntKind} {a b : Int} {v : Value} (h : evInt op k a b = some v) : atom v = true := by
  unfold evInt at h
  split at h <;> first | (cases h; rfl) | (split at h <;> cases h; rfl) | cases h

theorem bin_ok {P : Program} {env : List Value} {H : Heap} {o : Oper} {out : Out} {op : BinOp} {t yt : TypeId} {x y : Operand} (ho : o.op = .binOp op t x y yt) (h : evBin P env o op x y = some out) : StepOK P o env H out := by
  unfold evBin at h
  split at h
  · rename_i k a k' b hx hy
    split at h
    · rename_i hk
      subst hk
      obtain ⟨v, hv, rfl⟩ := Option.map_eq_some_iff.1 h
      refine StepOK.value fun F A ψ env1 H1 ac w hr he _ => ⟨v, ?_, .atom _ (evInt_atom hv)⟩
      have h1 := opd hr he (x := x) (by simp [ho, Op.operands])
      have h2 := opd hr he (x := y) (by simp [ho, Op.operands])
      rw [hx] at h1; rw [hy] at h2
      have e1 := h1.of_atom rfl
      have e2 := h2.of_atom rfl
      have := evInt_run (P := P) (w := w) (t := t) (x := x) (y := y) hv
      simp only [execOp, ho, e1, e2]
      rw [Sem.run_bind, this]; rfl
    · cases h
  · exact evGround_ok h

/-- An operation that is no call of a Go function. -/
def evOp (P : Program) (env : List Value) (H : Heap) (nid : Nat) (o : Oper) : Option Out :=
  match o.op with
  | .move x | .assign x => some ⟨ev env x, [], [], []⟩
  | .pick c x y => evPick env c x y
  | .extract x ix => evExtract (ev env x) ix
  | .field t x f => evField P t (ev env x) f
  | .index t x i => match ev env x with | .agg _ => evIndex P t (ev env x) (ev env i) | _ => evGround P env o
  | .load t x => evLoad P H t (ev env x)
  | .store t x y => evStore P H t (ev env x) (ev env y)
  | .fieldAddr t x f => evFieldAddr P t (ev env x) f
  | .indexAddr t x i => evIndexAddr P t (ev env x) (ev env i)
  | .makeFunc fn fs cs => evMakeFunc fn env fs cs
  | .alloc t => evAlloc P nid t
  | .box _ x => evBox nid (ev env x)
  | .build t ps => evBuild P env t ps
  | .buildSlice t n ps => evBuildSlice P env nid t n ps
  | .makeSlice t x y => evMakeSlice P nid t (ev env x) (ev env y)
  | .slice t x lo hi mx => match ev env x with | .string _ => evGround P env o | _ => evSlice P env H t (ev env x) lo hi mx
  | .range t x => evRange P nid t (ev env x)
  | .makeMap _ none => some (evMakeMap nid)
  | .lookup t x k ok => evLookup P H t (ev env x) (ev env k) ok
  | .mapUpdate t x k y => evMapUpdate P H t (ev env x) (ev env k) (ev env y)
  | .next x b => evNext H (ev env x) b
  | .call ⟨.builtin .len, args, ts⟩ => match args.toList, ts.toList with | [x], t :: _ => evLen P t (ev env x) | _, _ => none
  | .call ⟨.builtin .append, args, ts⟩ => match args.toList with | [x, y] => evAppend P H nid ts.toList (ev env x) (ev env y) | _ => none
  | .call ⟨.builtin .copy, args, ts⟩ => match args.toList with | [x, y] => evCopy P H ts.toList (ev env x) (ev env y) | _ => none
  | .call ⟨.builtin .min, _, _⟩ | .call ⟨.builtin .max, _, _⟩ => evGround P env o
  | .binOp op _ x y _ => evBin P env o op x y
  | .unOp _ _ _ | .convert _ _ _ => evGround P env o
  | _ => none

theorem args_list {xs : Array Operand} {l : List Operand} (h : xs.toList = l) : xs = l.toArray := by
  rw [← h]

theorem evOp_ok {P : Program} {env : List Value} {H : Heap} {nid : Nat} {o : Oper} {out : Out} (h : evOp P env H nid o = some out) : StepOK P o env H out := by
  unfold evOp at h
  split at h
  · rename_i x ho; cases h; exact move_ok (.inl ho)
  · rename_i x ho; cases h; exact move_ok (.inr ho)
  · rename_i ho; exact pick_ok ho h
  · rename_i ho; exact extract_ok ho h
  · rename_i ho; exact field_ok ho h
  · rename_i ho; split at h
    · exact index_ok ho h
    · exact evGround_ok h
  · rename_i ho; exact load_ok ho h
  · rename_i ho; exact store_ok ho h
  · rename_i ho; exact fieldAddr_ok ho h
  · rename_i ho; exact indexAddr_ok ho h
  · rename_i ho; exact makeFunc_ok ho h
  · rename_i ho; exact alloc_ok ho h
  · rename_i ho; exact box_ok ho h
  · rename_i ho; exact build_ok ho h
  · rename_i ho; exact buildSlice_ok ho h
  · rename_i ho; exact makeSlice_ok ho h
  · rename_i ho; split at h
    · exact evGround_ok h
    · exact slice_ok ho h
  · rename_i ho; exact range_ok ho h
  · rename_i ho; cases h; exact makeMap_ok ho
  · rename_i ho; exact lookup_ok ho h
  · rename_i ho; exact mapUpdate_ok ho h
  · rename_i ho; exact next_ok ho h
  · rename_i args ts ho; split at h
    · rename_i x t r e1 e2
      rw [args_list e1] at ho
      exact len_ok ho (by rw [e2]; rfl) h
    · cases h
  · rename_i args ts ho; split at h
    · rename_i x y e1
      rw [args_list e1] at ho
      exact append_ok ho h
    · cases h
  · rename_i args ts ho; split at h
    · rename_i x y e1
      rw [args_list e1] at ho
      exact copy_ok ho h
    · cases h
  all_goals first | (rename_i ho; exact bin_ok ho h) | exact evGround_ok h | cases h

end
end Go.Vm
