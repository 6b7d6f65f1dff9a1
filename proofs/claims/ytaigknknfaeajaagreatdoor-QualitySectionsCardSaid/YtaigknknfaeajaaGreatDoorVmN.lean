/- Code, functions, and the whole evaluator. -/
import Derived.Test.YtaigknknfaeajaaGreatDoorVmM
import Derived.LoopN
namespace Go.Vm
noncomputable section

/-! ### What is reached -/
def idsV : Nat → Value → List Nat
  | 0, _ => []
  | d + 1, v =>
    match v with
    | .pointer (some ⟨id, _, none⟩) => [id]
    | .slice (some ⟨id, _, none⟩) _ _ => [id]
    | .map (some id) => [id]
    | .agg xs => xs.toList.flatMap (idsV d)
    | .tuple xs => xs.toList.flatMap (idsV d)
    | .func _ xs us => xs.toList.flatMap (idsV d) ++ us.toList.flatMap (idsV d)
    | _ => []

def idsO : AObj → List Nat
  | .row cells _ _ _ flat => if flat then [] else cells.flatMap (idsV 4)
  | .iter _ _ => []
  | .smap _ => []

def reach (H : Heap) : Nat → List Nat → List Nat → List Nat
  | 0, _, acc => acc.reverse
  | _ + 1, [], acc => acc.reverse
  | n + 1, id :: q, acc =>
    if acc.contains id then reach H n q acc
    else match rd H id with
      | none => reach H n q acc
      | some o => reach H n (idsO o ++ q) (id :: acc)

/-! ### Slots that are let go -/
def clr : List Bool → List Value → List Value
  | true :: m, _ :: e => poi :: clr m e
  | false :: m, v :: e => v :: clr m e
  | _, e => e

theorem clr_len : ∀ (m : List Bool) (e : List Value), (clr m e).length = e.length
  | [], e => by cases e <;> rfl
  | true :: m, [] => rfl
  | false :: m, [] => rfl
  | true :: m, _ :: e => by simp [clr, clr_len m e]
  | false :: m, _ :: e => by simp [clr, clr_len m e]

theorem clr_get : ∀ (m : List Bool) (e : List Value) (t : Nat), (clr m e).getD t poi = poi ∨ (clr m e).getD t poi = e.getD t poi
  | [], e, t => by cases e <;> exact .inr rfl
  | true :: m, [], t => .inr rfl
  | false :: m, [], t => .inr rfl
  | true :: m, _ :: e, 0 => .inl rfl
  | false :: m, _ :: e, 0 => .inr rfl
  | true :: m, _ :: e, t + 1 => by simpa [clr] using clr_get m e t
  | false :: m, _ :: e, t + 1 => by simpa [clr] using clr_get m e t

/-- Let go what is not reached, and number the rest. -/
def gc (base : Nat) (env : List Value) (H : Heap) : Option (List Value × Heap) :=
  let ids := List.range base ++ (reach H 1000 (List.range base ++ env.flatMap (idsV 4)) []).filter (fun id => decide (base ≤ id))
  if nodupB ids && decide (base ≤ H.length) then some (env.map (renV (pos ids) 4), resH H ids) else none

inductive Ex where
  | normal
  | exit (id : Nat)
  | ret

def Ex.to : Ex → Exit
  | .normal => .normal
  | .exit id => .exit id
  | .ret => .ret

def evLoop (cl : List Bool) (lim base : Nat) (step : List Value → Heap → Option (Ex × List Value × Heap)) : Nat → List Value → Heap → Option (Ex × List Value × Heap)
  | 0, _, _ => none
  | n + 1, env, H =>
    match (if H.length < lim then some (env, H) else gc base (clr cl env) H) with
    | some (env1, H1) =>
      match step env1 H1 with
      | some (.normal, e, h) => evLoop cl lim base step n e h
      | r => r
    | none => none

def evCode (P : Program) (call : CallF) (cl : List Bool) (fd lim base N : Nat) : Code → List Value → Heap → Option (Ex × List Value × Heap)
  | .skip, env, H => some (.normal, env, H)
  | .label _, env, H => some (.normal, env, H)
  | .region _ ops draw, env, H =>
    match draw with
    | true =>
      match evDraw P call fd ops 0 ops.toList env H with
      | some (e, h, L) => if drawOK ops L then some (.normal, e, h) else none
      | none => none
    | false =>
      match evOps P call fd ops ops.toList env H with
      | some (e, h) => some (.normal, e, h)
      | none => none
  | .seq x y, env, H =>
    match evCode P call cl fd lim base N x env H with
    | some (.normal, e, h) => evCode P call cl fd lim base N y e h
    | r => r
  | .cond c x y, env, H =>
    match ev env c with
    | .bool true => evCode P call cl fd lim base N x env H
    | .bool false => evCode P call cl fd lim base N y env H
    | _ => none
  | .block id c, env, H =>
    match evCode P call cl fd lim base N c env H with
    | some (.exit i, e, h) => if i = id then some (.normal, e, h) else some (.exit i, e, h)
    | r => r
  | .loop c, env, H => evLoop cl lim base (evCode P call cl fd lim base N c) N env H
  | .scope c, env, H => evCode P call cl fd lim base N c env H
  | .exit id, env, H => some (.exit id, env, H)
  | .ret, env, H => some (.ret, env, H)
  | _, _, _ => none

section
variable {P : Program} {F : Fr P} {A : Nat → Prop} {ψ : Nat → Gh} {env : List Value} {H : Heap} {a : Act} {w : World}

theorem clr_rel (hr : Rel F A ψ env H a w) (cl : List Bool) : Rel F A ψ (clr cl env) H a w := by
  refine ⟨fun t => ?_, by rw [clr_len]; exact hr.len, hr.defers, hr.heap⟩
  rcases clr_get cl env t with h | h
  · rw [h]; exact .poison _
  · rw [h]; exact hr.slot t

theorem gc_rel {base : Nat} {r : List Value × Heap} (h : gc base env H = some r) (hr : Rel F A ψ env H a w) (hb : ∀ id, F.A0 id → id < base) :
    ∃ A' ψ', Rel F A' ψ' r.1 r.2 a w ∧ ∀ id, A' id → id < r.2.length := by
  simp only [gc] at h
  split at h
  · rename_i hn
    simp only [Bool.and_eq_true, decide_eq_true_eq] at hn
    obtain ⟨hn, _⟩ := hn
    cases h
    generalize hids : List.range base ++ (reach H 1000 (List.range base ++ env.flatMap (idsV 4)) []).filter (fun id => decide (base ≤ id)) = ids at *
    have hpin : ∀ j, j < base → ids[j]? = some j := fun j hj => by
      rw [← hids, List.getElem?_append_left (by simpa using hj)]
      simp [hj]
    have hg : ∀ {j id : Nat}, ids[j]? = some id → ids.getD j 0 = id := fun h => by simp [List.getD_eq_getElem?_getD, h]
    refine ⟨_, _, ⟨fun t => ?_, by simpa using hr.len, hr.defers, res_rel hr.heap hn hr.heap.fr (fun j id o _ h2 h3 h4 => hr.heap.own id o h2 h3 h4) (fun j hj => ?_)⟩, fun j hj => ?_⟩
    · have hρ : ∀ id j, A id → pos ids id = some j → (∃ id : Nat, ids[j]? = some id ∧ A id) ∧ ψ (ids.getD j 0) = ψ id := fun id j ha hj => by
        have := pos_spec hj
        exact ⟨⟨id, this, ha⟩, by rw [hg this]⟩
      by_cases ht : t < env.length
      · have e1 : (env.map (renV (pos ids) 4)).getD t poi = renV (pos ids) 4 (env.getD t poi) := by simp [List.getD_eq_getElem?_getD, ht]
        rw [e1]; exact renV_rel hρ 4 (hr.slot t)
      · have e1 : (env.map (renV (pos ids) 4)).getD t poi = poi := by simp [List.getD_eq_getElem?_getD, ht]
        rw [e1]; exact .poison _
    · have h1 := hpin j (hb j hj)
      have h2 := hr.heap.old j hj
      exact ⟨j, h1, h2.1, h2.2⟩
    · obtain ⟨id, h1, _⟩ := hj
      have := (List.getElem?_eq_some_iff.1 h1).1
      simpa [resH] using this
  · cases h

def Goes (P : Program) (base : Nat) (c : Code) (env : List Value) (H : Heap) (x : Ex) (e : List Value) (h : Heap) : Prop :=
  ∀ (F : Fr P) A ψ a w (Q : Exit → Act → World → Prop), Rel F A ψ env H a w → (∀ id, A id → id < H.length) → (∀ id, F.A0 id → id < base) →
    (∀ A' ψ' a' w', Rel F A' ψ' e h a' w' → (∀ id, A' id → id < h.length) → Q x.to a' w') → c.wp P Q a w

theorem evCode_ok {call : CallF} (hm : P.follows .mixedOrders = true) (hc : CallOK P call) {cl : List Bool} {fd lim base N : Nat} : ∀ (c : Code) (env : List Value) (H : Heap) (x : Ex) (e : List Value) (h : Heap),
    evCode P call cl fd lim base N c env H = some (x, e, h) → Goes P base c env H x e h := by
  intro c
  induction c with
  | skip => intro env H x e h hev F A ψ a w Q hr hb hF hQ; cases hev; exact wp_skip (hQ _ _ _ _ hr hb)
  | label l => intro env H x e h hev F A ψ a w Q hr hb hF hQ; cases hev; exact wp_label (hQ _ _ _ _ hr hb)
  | exit id => intro env H x e h hev F A ψ a w Q hr hb hF hQ; cases hev; exact wp_exit (hQ _ _ _ _ hr hb)
  | ret => intro env H x e h hev F A ψ a w Q hr hb hF hQ; cases hev; exact wp_ret (hQ _ _ _ _ hr hb)
  | region id ops draw =>
    intro env H x e h hev F A ψ a w Q hr hb hF hQ
    simp only [evCode] at hev
    cases draw with
    | true =>
      simp only at hev
      split at hev
      · rename_i e1 h1 L hd
        split at hev
        · rename_i hok
          cases hev
          obtain ⟨t1, t2, t3⟩ := evDraw_trace hc _ _ _ _ _ _ _ hd
          refine wp_region_any hm ?_
          have hsz : ops.toList.length = ops.size := by simp
          rw [hsz] at t3
          have hSS : inS (Array.replicate ops.size false) = fun _ => false := by
            funext i
            simp only [inS, Array.getD_eq_getD_getElem?, Array.getElem?_replicate]
            split <;> rfl
          have hrel : Rel F (AS A L (inS (Array.replicate ops.size false))) ψ (envS (inS (Array.replicate ops.size false)) L env) (hS (inS (Array.replicate ops.size false)) L H) a { w with drawn := w.drawn + 1 } := by
            rw [hSS]
            have n1 : ∀ (M : List Tri) (e : List Value), envS (fun _ => false) M e = e := by
              intro M; induction M with
              | nil => intro e; rfl
              | cons z M ih => intro e; obtain ⟨_, _, _⟩ := z; simp only [envS]; exact ih _
            have n2 : ∀ (M : List Tri) (e : Heap), hS (fun _ => false) M e = e := by
              intro M; induction M with
              | nil => intro e; rfl
              | cons z M ih => intro e; obtain ⟨_, _, _⟩ := z; simp only [hS]; exact ih _
            rw [n1, n2]
            have : AS A L (fun _ => false) = A := by
              funext id; simp [AS]
            rw [this]
            exact ⟨hr.slot, hr.len, hr.defers, hr.heap.alike rfl rfl rfl rfl⟩
          refine any_ok t1 t2 t3 hok hb (F := F) (Q := Q) (fun A' ψ' a' w' h1 h2 => hQ A' ψ' a' w' h1 h2) ops.size _ ψ a _ (by simp) (fun j o _ hj => ?_) ?_ hrel
          · rw [hSS] at hj; cases hj
          · exact Nat.le_trans (List.length_filter_le _ _) (by simp)
        · cases hev
      · cases hev
    | false =>
      simp only at hev
      split at hev
      · rename_i e1 h1 hd
        cases hev
        exact wp_region_list (evOps_plain hc _ _ _ _ hd F A ψ a w Q hr hb (fun A' ψ' a' w' h1 h2 => hQ A' ψ' a' w' h1 h2))
      · cases hev
  | seq x y ihx ihy =>
    intro env H r e h hev F A ψ a w Q hr hb hF hQ
    simp only [evCode] at hev
    split at hev
    · rename_i e1 h1 hx
      refine wp_seq (ihx _ _ _ _ _ hx F A ψ a w _ hr hb hF fun A' ψ' a' w' k1 k2 => ?_)
      exact ihy _ _ _ _ _ hev F A' ψ' a' w' Q k1 k2 hF hQ
    · rename_i hne
      refine wp_seq (ihx _ _ _ _ _ hev F A ψ a w _ hr hb hF fun A' ψ' a' w' k1 k2 => ?_)
      cases r with
      | normal => exact absurd hev (hne _ _)
      | exit id => exact hQ _ _ _ _ k1 k2
      | ret => exact hQ _ _ _ _ k1 k2
  | cond c x y ihx ihy =>
    intro env H r e h hev F A ψ a w Q hr hb hF hQ
    simp only [evCode] at hev
    have hcv := hr.ev c
    split at hev
    · rename_i hv
      rw [hv] at hcv
      exact wp_cond_true (hcv.of_atom rfl) (ihx _ _ _ _ _ hev F A ψ a w Q hr hb hF hQ)
    · rename_i hv
      rw [hv] at hcv
      exact wp_cond_false (hcv.of_atom rfl) (ihy _ _ _ _ _ hev F A ψ a w Q hr hb hF hQ)
    · cases hev
  | block id c ih =>
    intro env H r e h hev F A ψ a w Q hr hb hF hQ
    simp only [evCode] at hev
    split at hev
    · rename_i i e1 h1 hx
      refine wp_block (ih _ _ _ _ _ hx F A ψ a w _ hr hb hF fun A' ψ' a' w' k1 k2 => ?_)
      simp only [Ex.to, Exit.inBlock]
      split at hev
      · rename_i hi
        rw [if_pos hi]
        cases hev; exact hQ _ _ _ _ k1 k2
      · rename_i hi
        rw [if_neg hi]
        cases hev; exact hQ _ _ _ _ k1 k2
    · rename_i hne
      refine wp_block (ih _ _ _ _ _ hev F A ψ a w _ hr hb hF fun A' ψ' a' w' k1 k2 => ?_)
      cases r with
      | normal => exact hQ _ _ _ _ k1 k2
      | exit id => exact absurd hev (hne _ _ _)
      | ret => exact hQ _ _ _ _ k1 k2
  | loop c ih =>
    intro env H r e h hev F A ψ a w Q hr hb hF hQ
    simp only [evCode] at hev
    have key : ∀ (n : Nat) (env : List Value) (H : Heap) (A : Nat → Prop) (ψ : Nat → Gh) (a : Act) (w : World), evLoop cl lim base (evCode P call cl fd lim base N c) n env H = some (r, e, h) → Rel F A ψ env H a w → (∀ id, A id → id < H.length) → Code.rounds P c Q n a w := by
      intro n
      induction n with
      | zero => intro env H A ψ a w h1 _ _; simp [evLoop] at h1
      | succ n ihn =>
        intro env H A ψ a w h1 hr hb
        simp only [evLoop] at h1
        split at h1
        · rename_i env1 H1 hgc
          obtain ⟨A', ψ', g1, g2⟩ : ∃ A' ψ', Rel F A' ψ' env1 H1 a w ∧ ∀ id, A' id → id < H1.length := by
            split at hgc
            · cases hgc; exact ⟨A, ψ, hr, hb⟩
            · exact gc_rel hgc (clr_rel hr cl) hF
          rw [rounds_succ]
          split at h1
          · rename_i e2 h2 hstep
            exact ih _ _ _ _ _ hstep F A' ψ' a w _ g1 g2 hF fun A2 ψ2 a2 w2 k1 k2 => ihn _ _ _ _ _ _ h1 k1 k2
          · rename_i hne
            refine ih _ _ _ _ _ h1 F A' ψ' a w _ g1 g2 hF fun A2 ψ2 a2 w2 k1 k2 => ?_
            cases r with
            | normal => exact absurd h1 (hne _ _)
            | exit id => exact hQ _ _ _ _ k1 k2
            | ret => exact hQ _ _ _ _ k1 k2
        · cases h1
    exact wp_loop_rounds N (key N env H A ψ a w hev hr hb)
  | scope c ih =>
    intro env H r e h hev F A ψ a w Q hr hb hF hQ
    simp only [evCode] at hev
    refine wp_scope_straight (ih _ _ _ _ _ hev F A ψ a w _ hr hb hF fun A' ψ' a' w' k1 k2 => ?_)
    cases r <;> exact hQ _ _ _ _ k1 k2
  | _ => intro env H x e h hev; simp [evCode] at hev

/-- A variable, read whole. -/
theorem loadVar_rel {t : TypeId} {v v' : Value} {out : Out} (h : evLoad P H t v = some out) (hh : HRel F A ψ H w) (hv : VR A ψ v v') :
    ∃ ad u, v' = .pointer (some ad) ∧ (loadVar t ad).run P w = .ok u w ∧ VR A ψ out.v u := by
  unfold evLoad at h
  split at h
  · rename_i id off
    split at h
    · rename_i cells es more rw flat hrd
      obtain ⟨v1, hp, rfl⟩ := Option.map_eq_some_iff.1 h
      obtain ⟨_, rfl⟩ := hv.ptr_inv
      refine ⟨⟨(ψ id).blk, (ψ id).off + off, none⟩, ?_⟩
      unfold evPart at hp
      split at hp
      · rename_i d i hu hi
        split at hp
        · rename_i hrow
          split at hp
          · rename_i hle
            cases hp
            obtain ⟨vs, k1, k2, k3, k4⟩ := row_range hh hrd off i.size hle
            exact ⟨.agg vs.toArray, rfl, run_loadVar_mid w (ψ id).blk ((ψ id).off + off) t vs d k3 hu hrow (by simp [hi, k1]),
              .agg _ _ (by simp [k1]; omega) (by simpa using k2) fun j => by simpa [Array.getD_eq_getD_getElem?, List.getD_eq_getElem?_getD] using k4 j⟩
          · cases hp
        · rename_i hrow
          have hlt := (List.getElem?_eq_some_iff.1 hp).1
          obtain ⟨v2, k1, k2, k3⟩ := row_cells hh hrd off hlt
          have hrow' : d.isRow = false := by simpa using hrow
          have hg : cells.getD off poi = v1 := by simp [List.getD_eq_getElem?_getD, hp]
          rw [hg] at k3
          exact ⟨v2, rfl, by simp [loadVar, run_isAgg' hu, hrow', k1], k3⟩
      · cases hp
    · cases h
  · cases h

/-! ### Functions -/
def evResult (P : Program) (env : List Value) (H : Heap) : ResultVar → Option Value
  | .tmp t => some (gt env t)
  | .cell t ty => (evLoad P H ty (gt env t)).map (·.v)

def evResultL (P : Program) (env : List Value) (H : Heap) : List ResultVar → Option (List Value)
  | [] => some []
  | r :: l => match evResult P env H r, evResultL P env H l with
    | some v, some vs => some (v :: vs)
    | _, _ => none

def one (vs : List Value) : Value :=
  match vs with
  | [v] => v
  | vs => .tuple vs.toArray

def runFn (P : Program) (call : CallF) (K : FuncId → List Bool) (fd lim N : Nat) (f : FuncId) (args : List Value) (H : Heap) : Option (Value × Heap) :=
  match P.funcs[f]? with
  | some fn =>
    match fn.body with
    | some c =>
      match evCode P call (K f) fd lim H.length N c (args ++ List.replicate (fn.ntmps - args.length) undef) H with
      | some (.normal, e, h) => (evResultL P e h fn.results.toList).map fun vs => (one vs, h)
      | some (.ret, e, h) => (evResultL P e h fn.results.toList).map fun vs => (one vs, h)
      | _ => none
    | none => none
  | none => none

theorem results_rel : ∀ (l : List ResultVar) (vs : List Value), evResultL P env H l = some vs → Rel F A ψ env H a w →
    ∃ us, (∀ g : ResultVar → Sem Value, (∀ t, g (.tmp t) = pure (a.tmps.getD t undef)) → (∀ x t, g (.cell x t) = (do loadVar t (← asAddr (a.tmps.getD x undef)))) → (l.mapM g).run P w = .ok us w) ∧ LR A ψ vs us
  | [], vs, h, hr => by simp [evResultL] at h; subst h; exact ⟨[], fun _ _ _ => rfl, rfl, fun i => by simp; exact .poison _⟩
  | r :: l, vs, h, hr => by
    simp only [evResultL] at h
    split at h
    · rename_i v vs' h1 h2
      cases h
      obtain ⟨us, k1, k2⟩ := results_rel l vs' h2 hr
      have : ∃ u, (∀ g : ResultVar → Sem Value, (∀ t, g (.tmp t) = pure (a.tmps.getD t undef)) → (∀ x t, g (.cell x t) = (do loadVar t (← asAddr (a.tmps.getD x undef)))) → (g r).run P w = .ok u w) ∧ VR A ψ v u := by
        cases r with
        | tmp t => simp only [evResult, Option.some.injEq, gt_eq] at h1; subst h1; exact ⟨_, fun g g1 _ => by rw [g1]; rfl, hr.slot t⟩
        | cell x t =>
          simp only [evResult, gt_eq] at h1
          obtain ⟨out, h3, rfl⟩ := Option.map_eq_some_iff.1 h1
          obtain ⟨ad, u, e1, e2, e3⟩ := loadVar_rel h3 hr.heap (hr.slot x)
          exact ⟨u, fun g _ g2 => by rw [g2]; simp [e1, asAddr, e2], e3⟩
      obtain ⟨u, q1, q2⟩ := this
      refine ⟨u :: us, fun g g1 g2 => ?_, by simp [k2.len], fun i => ?_⟩
      · rw [List.mapM_cons, Sem.run_bind, q1 g g1 g2, Result.andThen_ok, Sem.run_bind, k1 g g1 g2]; rfl
      · cases i with
        | zero => simpa using q2
        | succ i => simpa using k2.at_ i
    · cases h

theorem LR.one_rel {vs us : List Value} (h : LR A ψ vs us) : VR A ψ (one vs) (if h : us.toArray.size = 1 then us.toArray[0] else .tuple us.toArray) := by
  cases vs with
  | nil =>
    have : us = [] := List.eq_nil_of_length_eq_zero (by simpa using h.len)
    subst this
    exact .refl_undef
  | cons v r =>
    cases r with
    | nil =>
      have hl := h.len
      obtain ⟨u, rfl⟩ : ∃ u, us = [u] := List.length_eq_one_iff.1 (by simpa using hl)
      have := h.at_ 0
      simpa [one] using this
    | cons v2 r =>
      have hl := h.len
      have : ¬ us.toArray.size = 1 := by simp at hl ⊢; omega
      rw [dif_neg this]
      refine .tuple _ _ (by simpa using hl.symm) fun i => ?_
      simpa [Array.getD_eq_getD_getElem?, List.getD_eq_getElem?_getD] using h.at_ i

theorem runFn_ok {call : CallF} (hm : P.follows .mixedOrders = true) (hc : CallOK P call) {K : FuncId → List Bool} {fd lim N : Nat} {f : FuncId} {args : List Value} {ret : Value} {H' : Heap}
    (h : runFn P call K fd lim N f args H = some (ret, H')) : SmallRes P f args H ret H' := by
  unfold runFn at h
  split at h
  · rename_i fn hfn
    split at h
    · rename_i c hbody
      have main : ∀ (x : Ex) (e : List Value) (hp : Heap), (x = .normal ∨ x = .ret) → evCode P call (K f) fd lim H.length N c (args ++ List.replicate (fn.ntmps - args.length) undef) H = some (x, e, hp) →
          (evResultL P e hp fn.results.toList).map (fun vs => (one vs, hp)) = some (ret, H') → SmallRes P f args H ret H' := by
        intro x e hp hx hev hres F A ψ w args' hh hb hA hψ hl
        obtain ⟨vs, hvs, he⟩ := Option.map_eq_some_iff.1 hres
        cases he
        have hlen : args'.toArray.size = args.length := by simpa using hl.len
        refine calls_of_wp hfn hbody ?_
        refine evCode_ok hm hc c _ _ _ _ _ hev { F with ds := [] } A ψ _ w _ ⟨fun t => ?_, ?_, rfl, hh.ds []⟩ hb (fun id hid => hb id (by rw [← hA]; exact hid)) fun A' ψ' a' w' k1 k2 => ?_
        · have hrep : LR A ψ (List.replicate (fn.ntmps - args.length) undef) (List.replicate (fn.ntmps - args.length) undef) := ⟨rfl, fun i => by
            by_cases hi : i < fn.ntmps - args.length
            · simp only [List.getD_eq_getElem?_getD, List.getElem?_replicate, hi, if_true, Option.getD_some]; exact .refl_undef
            · simp only [List.getD_eq_getElem?_getD, List.getElem?_replicate, hi, if_false, Option.getD_none]; exact .poison _⟩
          have := (hl.append hrep).at_ t
          rw [hlen]
          have e2 : (args'.toArray ++ Array.replicate (fn.ntmps - args.length) undef).getD t undef = (args' ++ List.replicate (fn.ntmps - args.length) undef).getD t undef := by
            simp [Array.getD_eq_getD_getElem?, List.getD_eq_getElem?_getD, ← List.toArray_replicate]
          rw [e2]; exact this
        · have := hl.len; simp; omega
        · obtain ⟨us, r1, r2⟩ := results_rel _ _ hvs k1
          have hres' : (results fn a'.tmps).run P w' = .ok (if h : us.toArray.size = 1 then us.toArray[0] else .tuple us.toArray) w' := by
            unfold results
            rw [Array.mapM_eq_mapM_toList]
            simp only [Sem.run_bind, Sem.run_map]
            rw [r1 _ (fun _ => rfl) (fun _ _ => rfl)]
            rfl
          rcases hx with rfl | rfl
          · exact ⟨k1.defers, _, hres', _, A', ψ', rfl, k1.heap.of_ds, k2, r2.one_rel⟩
          · exact ⟨k1.defers, _, hres', _, A', ψ', rfl, k1.heap.of_ds, k2, r2.one_rel⟩
      split at h
      · rename_i e hp hev; exact main _ _ _ (.inl rfl) hev h
      · rename_i e hp hev; exact main _ _ _ (.inr rfl) hev h
      · cases h
    · cases h
  · cases h

/-- What comes back, and no more. -/
def tidy (n : Nat) (ret : Value) (H' : Heap) : Option (Value × Heap) :=
  match gc n [ret] H' with
  | some ([v], h) => some (v, h)
  | _ => none

theorem tidy_ok {f : FuncId} {args : List Value} {ret v : Value} {H' h : Heap} (hs : SmallRes P f args H ret H') (ht : tidy H.length ret H' = some (v, h)) : SmallRes P f args H v h := by
  unfold tidy at ht
  split at ht
  · rename_i v1 h1 hg
    cases ht
    intro F A ψ w args' hh hb hA hψ hl
    refine (hs F A ψ w args' hh hb hA hψ hl).mono ?_
    rintro e w' ⟨v', A', ψ', rfl, k1, k2, k3⟩
    have hrel : Rel F A' ψ' [ret] H' ⟨#[v'], F.ds⟩ w' := ⟨fun t => by
      cases t with
      | zero => simpa [Array.getD] using k3
      | succ t => simp [Array.getD]; exact .poison _, by simp, rfl, k1⟩
    obtain ⟨A2, ψ2, r1, r2⟩ := gc_rel hg hrel (fun id hid => hb id (by rw [← hA]; exact hid))
    refine ⟨v', A2, ψ2, rfl, r1.heap, r2, ?_⟩
    have := r1.slot 0
    simpa [Array.getD] using this
  · cases ht

abbrev Orc := List Value → Heap → Option (Value × Heap)

def OrcOK (P : Program) (O : FuncId → Option Orc) : Prop := ∀ f orc, O f = some orc → ∀ args H ret H', orc args H = some (ret, H') → SmallRes P f args H ret H'

/-- What comes back is numbered. -/
def newIds (H' : Heap) (k : Nat) (ret : Value) : List Nat := (reach H' 1000 (List.range k ++ idsV 4 ret) []).filter (fun id => decide (k ≤ id))

def wrapC (run : Orc) : List Value → Heap → Nat → Option Out := fun args H nid =>
  let ids := reach H 1000 (args.flatMap (idsV 4)) []
  match run (args.map (renV (pos ids) 4)) (resH H ids) with
  | some (ret, H') => if backOK H ids (newIds H' ids.length ret) H' then some (back H ids (newIds H' ids.length ret) nid ret H') else none
  | none => none

def evF (P : Program) (O : FuncId → Option Orc) (K : FuncId → List Bool) (fd lim N : Nat) : Nat → CallF
  | 0 => fun _ _ _ _ => none
  | n + 1 => fun f => match O f with
    | some orc => wrapC orc
    | none => wrapC (runFn P (evF P O K fd lim N n) K fd lim N f)

theorem evF_ok {O : FuncId → Option Orc} (hm : P.follows .mixedOrders = true) (hO : OrcOK P O) {K : FuncId → List Bool} {fd lim N : Nat} : ∀ n, CallOK P (evF P O K fd lim N n) := by
  have wrap : ∀ (run : Orc) (f : FuncId) (args : List Value) (H : Heap) (nid : Nat) (out : Out), (∀ args H ret H', run args H = some (ret, H') → SmallRes P f args H ret H') → wrapC run args H nid = some out → CallRes P f args H out := by
    intro run f args H nid out hrun h
    simp only [wrapC] at h
    split at h
    · rename_i ret H' hr
      split at h
      · rename_i hb
        cases h
        exact call_lift (hrun _ _ _ _ hr) hb
      · cases h
    · cases h
  intro n
  induction n with
  | zero => intro f args H nid out h; simp [evF] at h
  | succ n ih =>
    intro f args H nid out h
    simp only [evF] at h
    cases ho : O f with
    | some orc =>
      rw [ho] at h
      exact wrap orc f args H nid out (fun args H ret H' hr => hO f orc ho args H ret H' hr) h
    | none =>
      rw [ho] at h
      exact wrap _ f args H nid out (fun args H ret H' hr => runFn_ok hm ih hr) h

end
end
end Go.Vm
