/- append, copy, ranging over a string. -/
import Derived.Test.YtaigknknfaeajaaGreatDoorVmF
namespace Go.Vm
noncomputable section

section
variable {P : Program} {o : Oper} {env env1 : List Value} {H H1 : Heap} {F : Fr P} {A : Nat → Prop} {ψ : Nat → Gh} {a : Act} {w : World}

/-- What is appended or copied: how many elements, the cells, what was looked at. -/
def evSrc (P : Program) (H : Heap) (size : Nat) (t : TypeId) (v : Value) : Option (Nat × List Value × List Nat) :=
  match P.underlying t, v with
  | some (.slice _), .slice none 0 _ => some (0, [], [])
  | some (.slice _), .slice (some ⟨id, off, none⟩) n _ =>
    match rd H id with
    | some (.row cells _ _ _ _) => if off + n * size ≤ cells.length then some (n, (cells.drop off).take (n * size), [id]) else none
    | _ => none
  | some .string, .string s => if size = 1 then some (s.size, byteCells s, []) else none
  | _, _ => none

theorem src_ok {size n : Nat} {t : TypeId} {v v' : Value} {news : List Value} {D : List Nat} (hh : HRel F A ψ H1 w) (hv : VR A ψ v v') (h : evSrc P H size t v = some (n, news, D)) (hD : ∀ id ∈ D, rd H1 id = rd H id) :
    ∃ news' : List Value, Src P size t v' n news' w ∧ news.length = n * size ∧ news'.length = news.length ∧ ∀ i, VR A ψ (news.getD i poi) (news'.getD i undef) := by
  unfold evSrc at h
  split at h
  · rename_i e c hu
    cases h
    obtain ⟨_, ad, c', rfl, _⟩ := hv.nil_inv
    refine ⟨[], ?_, by simp, rfl, fun i => by simp; exact .poison _⟩
    cases ad with
    | none => exact Src.ofNil w hu c'
    | some b => exact Src.ofSlice w hu b 0 c' [] (by simp) (by simp) (by simp)
  · rename_i e id off n' c hu
    split at h
    · rename_i cells es more rw flat hrd
      split at h
      · rename_i hle
        cases h
        obtain ⟨hA, ad, cap', rfl, _, e0, _⟩ := hv.slice_inv
        have hrd1 : rd H1 id = some (.row cells es more rw flat) := by rw [hD id (by simp), hrd]
        obtain ⟨vs, k1, k2, k3, k4⟩ := row_range hh hrd1 off (n * size) hle
        by_cases hn0 : n = 0
        · subst hn0
          refine ⟨[], ?_, by simp, by simp, fun i => by simp; exact .poison _⟩
          cases ad with
          | none => exact Src.ofNil w hu cap'
          | some b => exact Src.ofSlice w hu b 0 cap' [] (by simp) (by simp) (by simp)
        obtain rfl := e0.resolve_left hn0
        have hl : ((cells.drop off).take (n * size)).length = n * size := by simp; omega
        exact ⟨vs, Src.ofSlice w hu _ n cap' vs k1 (fun j u hj => by rw [Addr.add_mid]; exact k3 j u hj) k2, hl, by rw [k1, hl], k4⟩
      · cases h
    · cases h
  · rename_i s hu
    split at h
    · rename_i h1
      cases h
      subst h1
      have := hv.of_atom rfl
      subst this
      refine ⟨byteCells s, Src.ofString w hu s, by rw [byteCells_length, Nat.mul_one], rfl, fun i => ?_⟩
      by_cases hi : i < (byteCells s).length
      · have e1 : (byteCells s).getD i poi = (byteCells s)[i] := by simp [List.getD_eq_getElem?_getD, hi]
        have e2 : (byteCells s).getD i undef = (byteCells s)[i] := by simp [List.getD_eq_getElem?_getD, hi]
        rw [e1, e2]
        refine .atom _ ?_
        have : (byteCells s)[i] ∈ byteCells s := List.getElem_mem _
        obtain ⟨b, _, hb⟩ := List.mem_map.1 this
        rw [← hb]; rfl
      · have e1 : (byteCells s).getD i poi = poi := by simp [List.getD_eq_getElem?_getD, hi]
        rw [e1]; exact .poison _
    · cases h
  · cases h

/-- The cells that the first argument holds. -/
def evOld (H : Heap) (size : Nat) (v : Value) : Option (Nat × List Value × List Nat) :=
  match v with
  | .slice sa n _ =>
    if n = 0 then some (0, [], [])
    else match sa with
      | some ⟨id, off, none⟩ =>
        match rd H id with
        | some (.row cells _ _ _ _) => if off + n * size ≤ cells.length then some (n, (cells.drop off).take (n * size), [id]) else none
        | _ => none
      | _ => none
  | _ => none

theorem old_len {size n l c : Nat} {sa : Option Addr} {olds : List Value} {D : List Nat} (h : evOld H size (.slice sa l c) = some (n, olds, D)) : n = l := by
  simp only [evOld] at h
  split at h
  · cases h; omega
  · split at h
    · split at h
      · split at h
        · cases h; rfl
        · cases h
      · cases h
    · cases h

theorem old_ok {size n : Nat} {v v' : Value} {olds : List Value} {D : List Nat} (hh : HRel F A ψ H1 w) (hv : VR A ψ v v') (h : evOld H size v = some (n, olds, D)) (hD : ∀ id ∈ D, rd H1 id = rd H id) :
    ∃ (olds' : List Value) (base : Option Addr) (c' : Nat), v' = .slice base n c' ∧ (Builtin.firstCells size n v').run P w.drew = .ok olds'.toArray w.drew ∧ olds.length = n * size ∧ olds'.length = olds.length ∧ (∀ u ∈ olds', u.oneCell' = true) ∧ ∀ i, VR A ψ (olds.getD i poi) (olds'.getD i undef) := by
  unfold evOld at h
  split at h
  · rename_i sa l c
    split at h
    · rename_i h0
      cases h
      subst h0
      obtain ⟨a', c', rfl⟩ := hv.slice_len
      refine ⟨[], a', c', rfl, ?_, by simp, rfl, by simp, fun i => by simp; exact .poison _⟩
      cases a' with
      | none => simp [Builtin.firstCells]
      | some b => exact run_firstCells_some w.drew size 0 b 0 c' [] (by simp) (by simp)
    · split at h
      · rename_i id off
        split at h
        · rename_i cells es more rw flat hrd
          split at h
          · rename_i hle
            cases h
            obtain ⟨hA, ad, cap', rfl, _, e0, _⟩ := hv.slice_inv
            obtain rfl := e0.resolve_left (by assumption)
            have hrd1 : rd H1 id = some (.row cells es more rw flat) := by rw [hD id (by simp), hrd]
            obtain ⟨vs, k1, k2, k3, k4⟩ := row_range hh hrd1 off (n * size) hle
            have hl : ((cells.drop off).take (n * size)).length = n * size := by simp; omega
            refine ⟨vs, _, _, rfl, ?_, hl, by rw [k1, hl], k2, k4⟩
            exact run_firstCells_some w.drew size n _ n cap' vs k1 (fun j u hj => by rw [Addr.add_mid]; simpa using k3 j u hj)
          · cases h
        · cases h
      · cases h
  · cases h

/-- Is the capacity known, and how much is it? -/
def capOf : Value → Option Nat
  | .slice none 0 0 => some 0
  | .slice (some _) len cap => if cap = 0 ∧ 0 < len then none else some cap
  | _ => none

def capV : Value → Nat
  | .slice _ _ c => c
  | _ => 0

def evAppend (P : Program) (H : Heap) (nid : Nat) (ts : List TypeId) (x y : Value) : Option Out :=
  match ts with
  | [t, tx] =>
    match P.underlying t with
    | some (.slice elem) =>
      match P.info? elem with
      | some ie =>
        match ie.zero, evSrc P H ie.size tx y with
        | some z, some (n, news, D) =>
          if n = 0 then (match x with | .slice _ _ _ => some ⟨x, [], D, []⟩ | _ => none)
          else
            match evOld H ie.size x with
            | some (len, olds, D') =>
              if (len + n) * ie.bytes ≤ 140737488355328 ∧ len + n ≤ 9223372036854775807 ∧ z.cells.size = ie.size ∧ 0 < ie.size ∧ capV x ≠ big then
                match capOf x with
                | some cap =>
                  if len + n ≤ cap then
                    match x with
                    | .slice (some ⟨id, off, none⟩) _ _ =>
                      match rd H id with
                      | some (.row cells es more true flat) =>
                        if off + len * ie.size + news.length ≤ cells.length then
                          some ⟨.slice (some ⟨id, off, none⟩) (len + n) cap, [(id, some (.row (splice cells (off + len * ie.size) news) es more true (flat && news.all atom)))], id :: D, []⟩
                        else none
                      | _ => none
                    | _ => none
                  else some ⟨.slice (some ⟨nid, 0, none⟩) (len + n) 0, [(nid, some (.row (olds ++ news) ie.size true true ((olds ++ news).all atom)))], D' ++ D, [nid]⟩
                | none =>
                  match x with
                  | .slice (some ⟨id, 0, none⟩) _ _ =>
                    match rd H id with
                    | some (.row cells es true true flat) =>
                      if es = ie.size ∧ cells.length = len * ie.size then
                        some ⟨.slice (some ⟨nid, 0, none⟩) (len + n) 0, [(id, none), (nid, some (.row (cells ++ news) es true true (flat && news.all atom)))], id :: D, [nid]⟩
                      else none
                    | _ => none
                  | _ => none
              else none
            | none => none
        | _, _ => none
      | none => none
    | _ => none
  | _ => none

theorem get_append {xs ys : List Value} {xs' ys' : List Value} (h1 : xs'.length = xs.length) (hx : ∀ i, VR A ψ (xs.getD i poi) (xs'.getD i undef)) (hy : ∀ i, VR A ψ (ys.getD i poi) (ys'.getD i undef)) (i : Nat) :
    VR A ψ ((xs ++ ys).getD i poi) ((xs' ++ ys').getD i undef) := by
  simp only [List.getD_eq_getElem?_getD] at *
  by_cases hi : i < xs.length
  · rw [List.getElem?_append_left hi, List.getElem?_append_left (by omega)]; exact hx i
  · rw [List.getElem?_append_right (by omega), List.getElem?_append_right (by omega), h1]; exact hy _

theorem grownCap_ge (w : World) (need old : Nat) (e : TypeId) : need ≤ grownCap w need old e := by
  simp [grownCap, Question.cut]

/-- A longer row, made anew. -/
theorem grow_step {olds news olds' news' : List Value} {es nid : Nat} {z : Value} {elem : TypeId} {len cap' n : Nat} (hr : Rel F A ψ env1 H1 a w) {H2 : Heap} (hh : HRel F A ψ H2 w) (hn : ¬ A nid)
    (hl1 : olds'.length = olds.length) (hl2 : news'.length = news.length) (ho1 : ∀ u ∈ olds', u.oneCell' = true) (hn1 : ∀ u ∈ news', u.oneCell' = true)
    (hol : olds.length = len * es) (hnl : news.length = n * es) (hvo : ∀ i, VR A ψ (olds.getD i poi) (olds'.getD i undef)) (hvn : ∀ i, VR A ψ (news.getD i poi) (news'.getD i undef))
    (hzs : z.cells.size = es) (hpos : 0 < len + n) {flat : Bool} (hflat : flat = true → ∀ v ∈ olds ++ news, atom v = true) (dst : Option Tmp) :
    ∃ ψ1, Rel F (fun id => A id ∨ id = nid) ψ1 (put env1 dst (.slice (some ⟨nid, 0, none⟩) (len + n) 0)) (wr H2 nid (some (.row (olds ++ news) es true true flat)))
      (a.put dst (.slice (some ⟨w.heap.size, 0, none⟩) (len + n) (grownCap w (len + n) cap' elem))) (w.drew.alloc (.cells ((olds' ++ news').toArray ++ Builtin.zeroCells z.cells (grownCap w (len + n) cap' elem - (len + n))) elem)) := by
  let arr := (olds' ++ news').toArray ++ Builtin.zeroCells z.cells (grownCap w (len + n) cap' elem - (len + n))
  let g : Gh := ⟨w.heap.size, 0, arr.size, es⟩
  have hge := grownCap_ge w (len + n) cap' elem
  have hsz : arr.size = grownCap w (len + n) cap' elem * es := by
    have : (olds' ++ news').length = (len + n) * es := by simp [hl1, hl2, hol, hnl, Nat.add_mul]
    simp only [arr, Array.size_append, List.size_toArray, this, Builtin.zeroCells, Array.size_map, Array.size_range, hzs]
    rw [← Nat.add_mul]; congr 1; omega
  have hag := mono_new (ψ := ψ) (g := g) hn
  have hcell : ∀ i, i < (olds ++ news).length → ∃ v', arr[i]? = some v' ∧ v'.oneCell' = true ∧ VR A ψ ((olds ++ news).getD i poi) v' := by
    intro i hi
    have hi' : i < (olds' ++ news').length := by simp at hi ⊢; omega
    refine ⟨(olds' ++ news')[i], ?_, ?_, ?_⟩
    · simp only [arr]
      rw [Array.getElem?_append_left (by simpa using hi')]
      simp
    · have : (olds' ++ news')[i] ∈ olds' ++ news' := List.getElem_mem _
      rcases List.mem_append.1 this with h | h
      · exact ho1 _ h
      · exact hn1 _ h
    · have := get_append hl1 hvo hvn i
      simpa only [List.getD_eq_getElem?_getD, List.getElem?_eq_getElem hi', Option.getD_some] using this
  refine ⟨upd ψ nid g, put_rel ⟨fun t => (hr.slot t).mono hag, hr.len, hr.defers, ?_⟩ (VR.new_slice (g := g) rfl (.inr ⟨rfl, hpos, hge, ?_⟩)) dst⟩
  · refine hh.adopt (SameBut.drew_alloc w _) (by simp) hn (fun j oj hj hv e => by have := ((hh.live j oj hj).2.2 hv).1; omega) (.inl hr.heap.fr.size) (g := g) rfl rfl ?_
    refine ORel.new (el := elem) (arr := arr) (es := es) (b := w.heap.size) (alloc_get w.drew _) (by simp [hsz]; rw [hol, hnl, ← Nat.add_mul]; exact Nat.mul_le_mul_right _ hge) (fun i hi => ?_) hflat
    obtain ⟨v', h1, h2, h3⟩ := hcell i hi
    exact ⟨v', h1, h2, h3.mono hag⟩
  · simp [g, hsz]

theorem old_all {size n id l c : Nat} {es : Nat} {more rw flat : Bool} {cells olds : List Value} {D : List Nat} (h : evOld H size (.slice (some ⟨id, 0, none⟩) l c) = some (n, olds, D))
    (hrd : rd H id = some (.row cells es more rw flat)) (hl : cells.length = n * size) (hn : 0 < n) : olds = cells ∧ D = [id] := by
  have := old_len h
  subst this
  simp only [evOld, hrd] at h
  rw [if_neg (by omega), if_pos (by omega)] at h
  cases h
  refine ⟨?_, rfl⟩
  rw [List.drop_zero, List.take_of_length_le (by omega)]

theorem append_ok {x y : Operand} {ts : Array TypeId} {nid : Nat} {out : Out} (ho : o.op = .call ⟨.builtin .append, #[x, y], ts⟩) (h : evAppend P H nid ts.toList (ev env x) (ev env y) = some out) : StepOK P o env H out := by
  unfold evAppend at h
  split at h
  · rename_i l t tx hts
    have hts' : ts = #[t, tx] := by
      rw [← Array.toArray_toList (xs := ts), hts]
    split at h
    · rename_i elem hu
      split at h
      · rename_i ie hie
        split at h
        · rename_i z n news D hz hsrc
          intro F A ψ env1 H1 a w hr he hD hn K Q hK
          have hx := opd hr he (x := x) (by simp [ho, Op.operands, Call.operands])
          have hy := opd hr he (x := y) (by simp [ho, Op.operands, Call.operands])
          have hexec : execOp a.eval o = (do let v ← Builtin.append_ #[t, tx] o.type #[a.eval x, a.eval y]; pure (.value v)) := by
            simp [execOp, ho, resolve, invoke, builtin, hts']
          split at h
          · rename_i hn0
            subst hn0
            split at h
            · rename_i sa len cap hxv
              cases h
              obtain ⟨news', s1, s2, s3, _⟩ := src_ok (P := P) hr.heap hy hsrc hD
              have hnil : news' = [] := by apply List.eq_nil_of_length_eq_zero; rw [s3, s2]; simp
              subst hnil
              rw [hxv] at hx
              obtain ⟨a', c', e1⟩ := hx.slice_len
              have hle : len ≤ c' := by
                rw [e1] at hx
                cases hx with
                | atom _ h => simp only [Vm.atom] at h; split at h <;> simp_all
                | slice id off _ _ _ h hc => rcases hc with hc | hc <;> omega
                | void => exact Nat.le_refl _
                | view => assumption
                | empty => exact Nat.zero_le _
              unfold Oper.wp
              have := run_append_nothing (P := P) w t tx o.type elem ie hu hie a' len c' hle (a.eval y) s1
              rw [hexec, Sem.run_bind, e1, this]
              rw [e1] at hx
              refine hK ψ _ _ ?_
              rw [hxv]
              exact A_nil (put_rel hr hx o.dst)
            · cases h
          · rename_i hn0
            split at h
            · rename_i len olds D' hold
              split at h
              · rename_i hb
                obtain ⟨hb1, hb2, hzs, hpos0, hnb⟩ := hb
                split at h
                · rename_i cap hcap
                  split at h
                  · rename_i hroom
                    split at h
                    · rename_i id off len0 cap0 hxv
                      split at h
                      · rename_i cells es more flat hrd
                        split at h
                        · rename_i hle
                          cases h
                          obtain ⟨news', s1, s2, s3, s4⟩ := src_ok (P := P) hr.heap hy hsrc (fun i hi => hD i (List.mem_cons_of_mem _ hi))
                          rw [hxv] at hx hnb
                          obtain ⟨hA, ad, cap', e1, _, _, hcr⟩ := hx.slice_inv
                          have hrd1 : rd H1 id = some (.row cells es more true flat) := by rw [hD id (by simp), hrd]
                          have hc0 : cap0 = cap ∧ ¬ (cap0 = 0 ∧ 0 < len0) := by
                            rw [hxv] at hcap; simp only [capOf] at hcap; split at hcap
                            · cases hcap
                            · cases hcap; exact ⟨rfl, by assumption⟩
                          obtain ⟨rfl, hnk⟩ := hc0
                          rw [hxv] at hold
                          have hlen := old_len hold
                          subst hlen
                          have hcap' : cap' = cap0 ∧ ad = some ⟨(ψ id).blk, (ψ id).off + off, none⟩ := by
                            rcases hcr with ⟨h | h, ha⟩ | h | h
                            · exact ⟨h.1, ha⟩
                            · exact absurd ⟨h.1, h.2.1⟩ hnk
                            · omega
                            · exact absurd h hnb
                          obtain ⟨rfl, rfl⟩ := hcap'
                          obtain ⟨k1, k2, k3, k4⟩ := write_row (off := off + len * ie.size) (cs := news) (vs := news') hr.heap hrd1 hle (by rw [s2]; exact Nat.mul_pos (by omega) hpos0) s3 s1.one s4
                          unfold Oper.wp
                          have hrun := run_append_room_src (P := P) w t tx o.type elem ie hu hie (ψ id).blk ((ψ id).off + off) len cap' (a.eval y) n news' s1 hroom (by rw [k3, Nat.zero_add]; exact k1) (by rw [k3, Nat.zero_add]; exact k2)
                          rw [hexec, Sem.run_bind, e1, hrun]
                          refine hK ψ _ _ (A_nil ?_)
                          have hv : VR A ψ (.slice (some ⟨id, off, none⟩) (len + n) cap') (.slice (some ⟨(ψ id).blk, (ψ id).off + off, none⟩) (len + n) cap') := .slice _ _ _ _ _ hA (.inl ⟨rfl, hroom⟩)
                          rw [k3, Nat.zero_add] at hv ⊢
                          exact hr.heap_step k4 hv o.dst
                        · cases h
                      · cases h
                    · cases h
                  · rename_i hroom
                    cases h
                    obtain ⟨news', s1, s2, s3, s4⟩ := src_ok (P := P) hr.heap hy hsrc (fun i hi => hD i (by simp [hi]))
                    obtain ⟨olds', base, c', e1, f1, f2, f3, f4, f5⟩ := old_ok (P := P) hr.heap hx hold (fun i hi => hD i (by simp [hi]))
                    have hc' : c' = cap := by
                      rw [e1] at hx
                      cases hxv : ev env x with
                      | slice sa l c =>
                        rw [hxv] at hx hcap
                        cases hx with
                        | atom _ ha =>
                          simp only [Vm.atom] at ha
                          split at ha <;> simp_all [capOf]
                        | slice id off _ _ _ hA hc =>
                          simp only [capOf] at hcap
                          split at hcap
                          · cases hcap
                          · cases hcap; rcases hc with hc | hc
                            · exact hc.1
                            · omega
                        | void => simp [capOf] at hcap; exact hcap
                        | view => rw [hxv] at hnb; exact absurd rfl hnb
                        | empty => simp [capOf] at hcap
                      | _ => rw [hxv] at hcap; simp [capOf] at hcap
                    subst hc'
                    have hnn : ¬ A nid := hn _ (List.mem_singleton_self _)
                    unfold Oper.wp
                    have hrun := run_append_grow_src (P := P) w t tx o.type elem ie z hu hie hz base len c' olds' (by rw [← e1]; exact f1) (a.eval y) n news' s1 (by omega) (by omega) (growslice_fits (by omega) hb1)
                    rw [hexec, Sem.run_bind, e1, hrun]
                    obtain ⟨ψ1, hrel⟩ := grow_step (z := z) (es := ie.size) (nid := nid) (cap' := c') (elem := elem) (len := len) (n := n) hr hr.heap hnn f3 s3 f4 s1.one f2 s2 f5 s4 hzs (by omega) (fun hf => List.all_eq_true.1 hf) o.dst
                    refine hK ψ1 _ _ ?_
                    have hA : (fun id => A id ∨ id ∈ [nid]) = (fun id => A id ∨ id = nid) := by funext id; simp
                    rw [hA]
                    exact hrel
                · rename_i hcap
                  split at h
                  · rename_i id len0 cap0 hxv
                    split at h
                    · rename_i cells es flat hrd
                      split at h
                      · rename_i hle
                        cases h
                        obtain ⟨hes, hlc⟩ := hle
                        obtain ⟨news', s1, s2, s3, s4⟩ := src_ok (P := P) hr.heap hy hsrc (fun i hi => hD i (List.mem_cons_of_mem _ hi))
                        have hrd1 : rd H1 id = some (.row cells es true true flat) := by rw [hD id (by simp), hrd]
                        have hnn : ¬ A nid := hn _ (List.mem_singleton_self _)
                        rw [hxv] at hx hold hcap hnb
                        have hlen := old_len hold
                        subst hlen
                        simp only [capOf] at hcap
                        split at hcap
                        case isFalse => cases hcap
                        rename_i hc0
                        obtain ⟨rfl, hpos⟩ := hc0
                        obtain ⟨rfl, rfl⟩ := old_all hold hrd hlc hpos
                        obtain ⟨olds', base, c', e1, f1, f2, f3, f4, f5⟩ := old_ok (P := P) hr.heap hx hold (fun i hi => hD i (by simp at hi; simp [hi]))
                        obtain ⟨hA, ad, cap', e2, _, _, hcr⟩ := hx.slice_inv
                        have hle : (len ≤ cap' ∧ 0 + cap' * (ψ id).es = (ψ id).tot) ∧ ad = some ⟨(ψ id).blk, (ψ id).off + 0, none⟩ := by
                          rcases hcr with ⟨h | h, ha⟩ | h | h
                          · omega
                          · exact ⟨⟨h.2.2.1, h.2.2.2⟩, ha⟩
                          · omega
                          · exact absurd h hnb
                        obtain ⟨hle, rfl⟩ := hle
                        have hvd : (AObj.row olds es true true flat).vd = false := vd_row (by rw [hlc]; exact Nat.mul_pos hpos hpos0)
                        obtain ⟨_, _, hl0⟩ := hr.heap.live id _ hrd1
                        obtain ⟨hlt, arr, el, fz, k1, k2, k3, k4, k5⟩ := hl0 hvd
                        obtain ⟨m1, rfl, m3, m4⟩ := k4 rfl
                        have hkill := hr.heap.kill id
                        have hflat : (flat && news.all atom) = true → ∀ v ∈ olds ++ news, atom v = true := fun hf v hv => by
                          simp only [Bool.and_eq_true, List.all_eq_true] at hf
                          rcases List.mem_append.1 hv with h | h
                          · exact k5 hf.1 v h
                          · exact hf.2 v h
                        have hAe : (fun id => A id ∨ id ∈ [nid]) = (fun id => A id ∨ id = nid) := by funext id; simp
                        unfold Oper.wp
                        by_cases hroom : len + n ≤ cap'
                        · have hsz : arr.size = cap' * ie.size := by rw [m3, ← hle.2, k2, hes]; omega
                          have hin : len * ie.size + news'.length ≤ arr.size := by
                            rw [hsz, s3, s2, ← Nat.add_mul]; exact Nat.mul_le_mul_right _ hroom
                          have c1 : ∀ j, j < news'.length → (w.cell? ⟨(ψ id).blk, (ψ id).off + 0 + len * ie.size + j, none⟩).isSome = true := fun j hj => by
                            simp [World.cell?, k1, m1, show len * ie.size + j < arr.size by omega]
                          have c2 : ∀ j, j < news'.length → w.frozen? ⟨(ψ id).blk, (ψ id).off + 0 + len * ie.size + j, none⟩ = false := fun j hj => by
                            simp [World.frozen?, k1]
                          have hrun := run_append_room_src (P := P) w t tx o.type elem ie hu hie (ψ id).blk ((ψ id).off + 0) len cap' (a.eval y) n news' s1 hroom c1 c2
                          rw [hexec, Sem.run_bind, e2, hrun]
                          obtain ⟨arr', g1, g2, g3⟩ := setCells_block news' ((ψ id).off + 0 + len * ie.size) w arr el (0, 0) k1 (by rw [m1]; omega)
                          have hag := mono_new (ψ := ψ) (g := ψ id) hnn
                          have hrel : HRel F (fun j => A j ∨ j = nid) (upd ψ nid (ψ id)) (wr (wr H1 id none) nid (some (.row (olds ++ news) es true true (flat && news.all atom)))) (w.setCells (ψ id).blk ((ψ id).off + 0 + len * ie.size) news') := by
                            refine hkill.adopt (setCells_same _ _ _) (Nat.lt_of_lt_of_le hlt (setCells_same _ _ _).size) hnn (fun j oj hj hvj e => ?_) (hr.heap.own id _ hrd1 rfl hvd) rfl k2 ?_
                            · rw [rd_wr] at hj
                              split at hj
                              · cases hj
                              · rename_i hne
                                exact hr.heap.inj id j _ oj hrd1 hj (Ne.symm hne) rfl hvd hvj e.symm
                            · refine ⟨arr', el, (0, 0), g1, k2, fun i hi => ?_, fun _ => ⟨m1, rfl, by rw [g2]; exact m3, fun h => by cases h⟩, hflat⟩
                              rw [g3, m1]
                              simp only [Nat.zero_add]
                              by_cases hi2 : i < olds.length
                              · rw [if_neg (by omega)]
                                obtain ⟨v', q1, q2, q3⟩ := k3 i hi2
                                rw [m1, Nat.zero_add] at q1
                                refine ⟨v', q1, q2, ?_⟩
                                have : (olds ++ news).getD i poi = olds.getD i poi := by simp [List.getD_eq_getElem?_getD, List.getElem?_append_left hi2]
                                rw [this]; exact q3.mono hag
                              · simp only [List.length_append] at hi
                                rw [if_pos (by omega)]
                                have hj : i - len * ie.size < news'.length := by omega
                                refine ⟨news'[i - len * ie.size], by simp [hj], s1.one _ (List.getElem_mem _), ?_⟩
                                have e3 : (olds ++ news).getD i poi = news.getD (i - len * ie.size) poi := by
                                  simp only [List.getD_eq_getElem?_getD]
                                  rw [List.getElem?_append_right (by omega), hlc]
                                rw [e3]
                                have := s4 (i - len * ie.size)
                                simp only [List.getD_eq_getElem?_getD, List.getElem?_eq_getElem hj, Option.getD_some] at this
                                exact (by simpa only [List.getD_eq_getElem?_getD] using this.mono hag)
                          have hv : VR (fun j => A j ∨ j = nid) (upd ψ nid (ψ id)) (.slice (some ⟨nid, 0, none⟩) (len + n) 0) (.slice (some ⟨(ψ id).blk, (ψ id).off + 0, none⟩) (len + n) cap') := by
                            rw [m1]
                            exact VR.new_slice (g := ψ id) m1 (.inr ⟨rfl, by omega, hroom, hle.2⟩)
                          refine hK (upd ψ nid (ψ id)) _ _ ?_
                          rw [hAe]
                          exact put_rel ⟨fun t => (hr.slot t).mono hag, hr.len, hr.defers, hrel⟩ hv o.dst
                        · have hb' : base = some ⟨(ψ id).blk, (ψ id).off + 0, none⟩ ∧ c' = cap' := by
                            rw [e2] at e1; cases e1; exact ⟨rfl, rfl⟩
                          obtain ⟨rfl, rfl⟩ := hb'
                          have hrun := run_append_grow_src (P := P) w t tx o.type elem ie z hu hie hz _ len c' olds' (by rw [← e1]; exact f1) (a.eval y) n news' s1 (by omega) (by omega) (growslice_fits (by omega) hb1)
                          rw [hexec, Sem.run_bind, e1, hrun]
                          obtain ⟨ψ1, hrel⟩ := grow_step (z := z) (es := es) (nid := nid) (cap' := c') (elem := elem) (len := len) (n := n) hr hkill hnn f3 s3 f4 s1.one (by rw [hes]; exact f2) (by rw [hes]; exact s2) f5 s4 (by rw [hes]; exact hzs) (by omega) hflat o.dst
                          refine hK ψ1 _ _ ?_
                          rw [hAe]
                          exact hrel
                      · cases h
                    · cases h
                  · cases h
              · cases h
            · cases h
        · cases h
      · cases h
    · cases h
  · cases h

end
end
end Go.Vm
