/- The theorem on drawn regions. -/
import Derived.Test.YtaigknknfaeajaaGreatDoorVmJ
namespace Go.Vm
noncomputable section

section
variable {P : Program} {ops : Array Oper} {env0 env' : List Value} {H0 H' : Heap} {L : List Tri}

theorem pairs_before {ms : List Nat} : ∀ {L M : List Tri} {x : Tri}, pairsOK ops ms (L ++ x :: M) = true → (∀ y ∈ L, ((ms.getD x.1 0).testBit y.1 || apartE ops y x) = true) ∧ (∀ y ∈ M, ((ms.getD y.1 0).testBit x.1 || apartE ops x y) = true)
  | [], M, x, h => by
    simp only [List.nil_append, pairsOK, Bool.and_eq_true, List.all_eq_true] at h
    exact ⟨by simp, h.1⟩
  | z :: L, M, x, h => by
    simp only [List.cons_append, pairsOK, Bool.and_eq_true, List.all_eq_true] at h
    obtain ⟨h1, h2⟩ := pairs_before h.2
    refine ⟨fun y hy => ?_, h2⟩
    rcases List.mem_cons.1 hy with rfl | hy
    · exact h.1 x (by simp)
    · exact h1 y hy

structure Apart (x y : Tri) : Prop where
  slots : (∀ d, x.2.1.dst = some d → d ∉ y.2.1.looksAt ops) ∧ (∀ d, x.2.1.dst = some d → y.2.1.dst ≠ some d) ∧ (∀ d, y.2.1.dst = some d → d ∉ x.2.1.looksAt ops)
  xw : ∀ id, id ∈ x.2.2.out.δ.map (·.1) → id ∉ y.2.2.out.D ∧ id ∉ y.2.2.out.δ.map (·.1)
  yw : ∀ id, id ∈ y.2.2.out.δ.map (·.1) → id ∉ x.2.2.out.D

theorem apartE_spec {x y : Tri} (h : apartE ops x y = true) : Apart (ops := ops) x y := by
  simp only [apartE, memApart, Bool.and_eq_true, List.all_eq_true] at h
  obtain ⟨h1, h2, h3⟩ := h
  refine ⟨Oper.apart_spec h1, fun id hid => ?_, fun id hid => ?_⟩
  · obtain ⟨p, hp, rfl⟩ := List.mem_map.1 hid
    have := h2 p hp
    constructor
    · intro hc; simp [hc] at this
    · intro hc
      obtain ⟨q, hq, e⟩ := List.mem_map.1 hc
      have h4 := this.2
      simp only [Bool.not_eq_eq_eq_not, Bool.not_true] at h4
      have : (y.2.2.out.δ.map (·.1)).contains p.1 = true := by rw [List.contains_iff_mem]; exact hc
      rw [this] at h4; cases h4
  · obtain ⟨p, hp, rfl⟩ := List.mem_map.1 hid
    have := h3 p hp
    intro hc
    have h5 : x.2.2.out.D.contains p.1 = true := by rw [List.contains_iff_mem]; exact hc
    rw [h5] at this; cases this

theorem set_get {listed : Array Bool} {i j : Nat} (hi : i < listed.size) : (listed.setIfInBounds i true).getD j false = if j = i then true else listed.getD j false := by
  simp only [Array.getD_eq_getD_getElem?]
  by_cases e : j = i
  · subst e; simp [hi]
  · rw [if_neg e, Array.getElem?_setIfInBounds_ne (Ne.symm e)]

theorem filter_lt {p q : Nat → Bool} : ∀ (l : List Nat), (∀ x ∈ l, q x = true → p x = true) → ∀ i ∈ l, p i = true → q i = false → (l.filter q).length < (l.filter p).length
  | [], _, i, hi, _, _ => by cases hi
  | x :: l, h, i, hi, hp, hq => by
    have hle : (l.filter q).length ≤ (l.filter p).length := by
      clear hi
      have h' : ∀ x ∈ l, q x = true → p x = true := fun y hy => h y (by simp [hy])
      clear h
      induction l with
      | nil => simp
      | cons y l ih =>
        have h1 := h' y (by simp)
        have h2 := ih (fun z hz => h' z (by simp [hz]))
        simp only [List.filter_cons]
        cases hqy : q y with
        | true => simp [h1 hqy]; exact h2
        | false => cases hpy : p y <;> simp <;> omega
    rcases List.mem_cons.1 hi with rfl | hi
    · simp only [List.filter_cons, hp, hq]; simp; omega
    · have := filter_lt l (fun y hy => h y (by simp [hy])) i hi hp hq
      have hx := h x (by simp)
      simp only [List.filter_cons]
      cases hqx : q x with
      | true => simp [hx hqx]; exact this
      | false => cases hpx : p x <;> simp <;> omega

/-- Is an index listed? -/
def inS (listed : Array Bool) : Nat → Bool := fun i => listed.getD i false

theorem edges_at : ∀ (l : List Oper) (k : Nat), edgesOK k l = true → ∀ j o, l[j]? = some o → ∀ e ∈ o.after, Region.binds .any e = true → e.on < k + j
  | [], _, _, j, o, h, _, _, _ => by simp at h
  | x :: l, k, h, j, o, hj, e, he, hb => by
    simp only [edgesOK, Bool.and_eq_true, List.all_eq_true] at h
    cases j with
    | zero =>
      simp at hj; subst hj
      have := h.1 e (by simpa using he)
      simpa [hb] using this
    | succ j =>
      have := edges_at l (k + 1) h.2 j o (by simpa using hj) e he hb
      omega

/-- All is listed, or something is ready. -/
theorem ready_nil {listed : Array Bool} (hsz : listed.size = ops.size) (he : edgesOK 0 ops.toList = true) (h : Region.ready .any ops listed = []) : ∀ i, i < ops.size → inS listed i = true := by
  intro i
  induction i using Nat.strongRecOn with
  | _ i ih =>
    intro hi
    cases hl : inS listed i with
    | true => rfl
    | false =>
      exfalso
      have hm : i ∈ Region.ready .any ops listed := by
        simp only [Region.ready, List.mem_filter, List.mem_range]
        refine ⟨hi, ?_⟩
        have hl' : listed.getD i true = false := by
          have h1 : i < listed.size := by omega
          simp only [inS, Array.getD, h1, dif_pos] at hl ⊢
          exact hl
        rw [hl']
        simp only [Bool.not_false, Bool.true_and, hi, Array.getElem?_eq_getElem, Option.map_some, Option.getD_some]
        rw [Array.all_eq_true_iff_forall_mem]
        intro e hem
        cases hb : Region.binds .any e with
        | false => simp
        | true =>
          have hlt := edges_at ops.toList 0 he i ops[i] (by simp [hi]) e hem hb
          have := ih e.on (by omega) (by omega)
          simp only [inS] at this
          simp [this]
      rw [h] at hm; cases hm

theorem mem_ready {listed : Array Bool} {i : Nat} (h : i ∈ Region.ready .any ops listed) : i < ops.size ∧ listed.getD i true = false ∧ ∃ o, ops[i]? = some o ∧ ∀ e ∈ o.after, Region.binds .any e = true → inS listed e.on = true := by
  simp only [Region.ready, List.mem_filter, List.mem_range, Bool.and_eq_true] at h
  obtain ⟨h1, h2, h3⟩ := h
  refine ⟨h1, by simpa using h2, ops[i], by simp [h1], fun e he hb => ?_⟩
  simp only [h1, Array.getElem?_eq_getElem, Option.map_some, Option.getD_some] at h3
  rw [Array.all_eq_true_iff_forall_mem] at h3
  have := h3 e he
  simpa [hb, inS] using this

/-- The tools of the invariant. -/
structure Inv (P : Program) (call : CallF) (ops : Array Oper) (L : List Tri) (env0 : List Value) (H0 : Heap) (A0 : Nat → Prop) (listed : Array Bool) : Prop where
  size : listed.size = ops.size
  closed : Closed ops.toList 0 (fun i => inS listed i = true)

def AS (A0 : Nat → Prop) (L : List Tri) (S : Nat → Bool) : Nat → Prop := fun id => A0 id ∨ ∃ x ∈ L, S x.1 = true ∧ id ∈ x.2.2.out.nu

theorem any_ok (htr : Trace P ops L env0 H0 env' H') (hops : L.map (·.2.1) = ops.toList) (hix : L.map (·.1) = List.range' 0 ops.size) (hok : drawOK ops L = true)
    {A0 : Nat → Prop} (hA0 : ∀ id, A0 id → id < H0.length) {F : Fr P} {Q : Exit → Act → World → Prop}
    (hQ : ∀ A' ψ' a' w', Rel F A' ψ' env' H' a' w' → (∀ id, A' id → id < H'.length) → Q .normal a' w') :
    ∀ (fuel : Nat) (listed : Array Bool) (ψ : Nat → Gh) (a : Act) (w : World), listed.size = ops.size → Closed ops.toList 0 (fun i => inS listed i = true) →
      ((List.range ops.size).filter (fun i => !inS listed i)).length ≤ fuel → Rel F (AS A0 L (inS listed)) ψ (envS (inS listed) L env0) (hS (inS listed) L H0) a w → wpAny P .any ops Q fuel listed a w := by
  simp only [drawOK, statOK, Bool.and_eq_true] at hok
  obtain ⟨⟨⟨hsel, hedge⟩, hstat⟩, hmem⟩ := hok
  have hpairs := pairs_join (L := L) (by rw [index_eq (k := 0) hops (by rw [hix]; simp)]; exact hstat) hmem
  have hixl : ∀ x ∈ L, x.1 < ops.size := fun x hx => by
    have : x.1 ∈ L.map (·.1) := List.mem_map.2 ⟨x, hx, rfl⟩
    rw [hix] at this
    simpa using this
  have fin : ∀ (listed : Array Bool) (ψ : Nat → Gh) (a : Act) (w : World), (∀ i, i < ops.size → inS listed i = true) → Rel F (AS A0 L (inS listed)) ψ (envS (inS listed) L env0) (hS (inS listed) L H0) a w → Q .normal a w := by
    intro listed ψ a w hall hr
    obtain ⟨e1, e2⟩ := htr.all (S := inS listed) (fun x hx => hall _ (hixl x hx))
    rw [← e1, ← e2] at hr
    refine hQ _ _ _ _ hr fun id hid => ?_
    rcases hid with h | ⟨x, hx, _, hid⟩
    · exact Nat.lt_of_lt_of_le (hA0 id h) htr.mono
    · exact (htr.nu x hx id hid).2
  intro fuel
  induction fuel with
  | zero =>
    intro listed ψ a w hsz hcl hcnt hr
    have hall : ∀ i, i < ops.size → inS listed i = true := fun i hi => by
      cases hl : inS listed i with
      | true => rfl
      | false =>
        have : i ∈ (List.range ops.size).filter (fun i => !inS listed i) := by simp [hi, hl]
        have := List.length_pos_of_mem this
        omega
    refine ⟨?_, fin listed ψ a w hall hr⟩
    apply List.eq_nil_iff_forall_not_mem.2
    intro i hi
    obtain ⟨h1, h2, _⟩ := mem_ready hi
    have h3 := hall i h1
    have h4 : i < listed.size := by omega
    simp only [inS, Array.getD, h4, dif_pos] at h2 h3
    rw [h2] at h3; cases h3
  | succ fuel ih =>
    intro listed ψ a w hsz hcl hcnt hr
    refine ⟨fun hnil => fin listed ψ a w (ready_nil hsz hedge hnil) hr, fun j hj => ?_⟩
    obtain ⟨hjlt, hjun, o, ho, hedges⟩ := mem_ready hj
    have hjl : j < listed.size := by omega
    have hSj : inS listed j = false := by
      simp only [inS, Array.getD, hjl, dif_pos] at hjun ⊢; exact hjun
    -- the entry of j
    have hLlen : L.length = ops.size := by have := congrArg List.length hops; simpa using this
    have hjL : j < L.length := by omega
    obtain ⟨L1, x, L2, hsplit, hl1⟩ : ∃ L1 x L2, L = L1 ++ x :: L2 ∧ L1.length = j :=
      ⟨L.take j, L[j], L.drop (j + 1), by rw [List.getElem_cons_drop, List.take_append_drop], by simp; omega⟩
    have hxj : x.1 = j ∧ x.2.1 = o := by
      have h1 : (L.map (·.1))[j]? = some x.1 := by rw [hsplit]; simp [← hl1]
      have h2 : (L.map (·.2.1))[j]? = some x.2.1 := by rw [hsplit]; simp [← hl1]
      rw [hix] at h1
      rw [hops] at h2
      simp [hjlt] at h1
      have ho' : ops.toList[j]? = some o := by simpa using ho
      rw [ho'] at h2
      exact ⟨h1.symm, by cases h2; rfl⟩
    obtain ⟨hx1, hx2⟩ := hxj
    have hidx1 : ∀ y ∈ L1, y.1 < j := fun y hy => by
      obtain ⟨k, hk, e⟩ := List.mem_iff_getElem.1 hy
      have h1 : (L.map (·.1))[k]? = some y.1 := by
        rw [hsplit, List.map_append, List.getElem?_append_left (by simpa using hk), List.getElem?_map, List.getElem?_eq_getElem hk, e]; rfl
      rw [hix, List.getElem?_range' (by omega)] at h1
      simp at h1
      omega
    have hidx2 : ∀ y ∈ L2, j < y.1 := fun y hy => by
      obtain ⟨k, hk, e⟩ := List.mem_iff_getElem.1 hy
      have h0 : L.length = L1.length + (L2.length + 1) := by rw [hsplit]; simp
      have h1 : (L.map (·.1))[L1.length + (k + 1)]? = some y.1 := by
        rw [hsplit, List.map_append, List.getElem?_append_right (by simp)]
        simp only [List.length_map, Nat.add_sub_cancel_left, List.map_cons, List.getElem?_cons_succ, List.getElem?_map, List.getElem?_eq_getElem hk, e]; rfl
      rw [hix, List.getElem?_range' (by omega)] at h1
      simp at h1
      omega
    rw [hsplit] at htr hpairs
    obtain ⟨ej, hj', tr1, tr2⟩ := htr.append
    obtain ⟨i, ox, ent⟩ := x
    simp only at hx1 hx2
    subst hx1 hx2
    obtain ⟨k1, k2, k3, k4, k5, k6⟩ := tr2
    obtain ⟨pb, pa⟩ := pairs_before hpairs
    -- the closure
    have hm := masks_spec (S := fun i => inS listed i = true) ops.toList [] (by simpa using hcl) (fun j _ i hi => by simp at hi)
    have hoL : ops.toList[i]? = some ox := by simpa using ho
    have bef : ∀ y ∈ L1, inS listed y.1 = true ∨ Apart (ops := ops) y (i, ox, ent) := fun y hy => by
      have := pb y hy
      simp only [Bool.or_eq_true] at this
      rcases this with h | h
      · exact .inl (hm.2.1 i ox hoL (fun e he hb => hedges e he hb) y.1 (by simpa using h))
      · exact .inr (apartE_spec h)
    have aft : ∀ y ∈ L2, inS listed y.1 = false ∨ Apart (ops := ops) (i, ox, ent) y := fun y hy => by
      have := pa y hy
      simp only [Bool.or_eq_true] at this
      rcases this with h | h
      · left
        cases hS' : inS listed y.1 with
        | false => rfl
        | true =>
          have := hm.1 y.1 hS' i (by simpa using h)
          rw [hSj] at this; cases this
      · exact .inr (apartE_spec h)
    have e1 : ej = envS (fun _ => true) L1 env0 ∧ hj' = hS (fun _ => true) L1 H0 := tr1.all (fun _ _ => rfl)
    -- what i looks at
    have hslot : ∀ t, t ∈ ox.looksAt ops → (envS (inS listed) L env0).getD t poi = ej.getD t poi := by
      intro t ht
      rw [hsplit, envS_append, e1.1]
      have h2 : (envS (inS listed) ((i, ox, ent) :: L2) (envS (inS listed) L1 env0)).getD t poi = (envS (inS listed) L1 env0).getD t poi := by
        have := envS_congr (S := inS listed) (S' := fun _ => false) (t := t) ((i, ox, ent) :: L2) (envS (inS listed) L1 env0) (envS (inS listed) L1 env0) rfl rfl (fun y hy hd => by
          rcases List.mem_cons.1 hy with rfl | hy
          · exact hSj
          · rcases aft y hy with h | h
            · exact h
            · exact absurd ht (h.slots.2.2 t hd))
        rw [this]
        have none_ : ∀ (M : List Tri) (e : List Value), envS (fun _ => false) M e = e := by
          intro M; induction M with
          | nil => intro e; rfl
          | cons z M ih => intro e; obtain ⟨_, _, _⟩ := z; simp only [envS]; exact ih _
        rw [none_]
      rw [h2]
      exact envS_congr L1 env0 env0 rfl rfl fun y hy hd => by
        rcases bef y hy with h | h
        · simpa using h
        · exact absurd ht (h.slots.1 t hd)
    have hread : ∀ id, id ∈ ent.out.D → rd (hS (inS listed) L H0) id = rd hj' id := by
      intro id hid
      rw [hsplit, hS_append, e1.2]
      have h2 : rd (hS (inS listed) ((i, ox, ent) :: L2) (hS (inS listed) L1 H0)) id = rd (hS (inS listed) L1 H0) id := by
        have := hS_congr (S := inS listed) (S' := fun _ => false) (id := id) ((i, ox, ent) :: L2) (hS (inS listed) L1 H0) (hS (inS listed) L1 H0) rfl (fun y hy hd => by
          rcases List.mem_cons.1 hy with rfl | hy
          · exact hSj
          · rcases aft y hy with h | h
            · exact h
            · exact absurd hid (h.yw id hd))
        rw [this]
        have none_ : ∀ (M : List Tri) (e : Heap), hS (fun _ => false) M e = e := by
          intro M; induction M with
          | nil => intro e; rfl
          | cons z M ih => intro e; obtain ⟨_, _, _⟩ := z; simp only [hS]; exact ih _
        rw [none_]
      rw [h2]
      exact hS_congr L1 H0 H0 rfl fun y hy hd => by
        rcases bef y hy with h | h
        · simpa using h
        · exact absurd hid (h.xw id hd).1
    have hlooks : ∀ t, Operand.tmp t ∈ ox.op.operands → t ∈ ox.looksAt ops := fun t ht => by
      simp only [Oper.looksAt, List.mem_append, List.mem_filterMap]
      exact .inl ⟨.tmp t, by simpa using ht, rfl⟩
    have hev : ∀ y ∈ ox.op.operands, ev (envS (inS listed) L env0) y = ev ej y := fun y hy => by
      cases y with
      | tmp t => show gt _ t = gt _ t; rw [gt_eq, gt_eq]; exact hslot t (hlooks t hy)
      | _ => rfl
    have hwant : wantedA ops (envS (inS listed) L env0) ox = some ent.wanted := by
      rw [← k3]
      unfold wantedA
      split
      · rfl
      · rename_i g want hg
        split
        · rfl
        · rename_i t hd
          have : t ∈ ox.looksAt ops := by
            simp only [Oper.looksAt, List.mem_append]
            right
            simp [hg, hd]
          rw [gt_eq, gt_eq, hslot t this]
    have hnew : ∀ id ∈ ent.out.nu, ¬ AS A0 L (inS listed) id := fun id hid hA => by
      have hb : hj'.length ≤ id ∧ id < (ap hj' ent.out.δ).length := by
        cases hw : ent.wanted with
        | true =>
          obtain ⟨_, hf⟩ := k4 hw
          simp only [freshOK, List.all_eq_true, Bool.and_eq_true, decide_eq_true_eq] at hf
          exact hf id hid
        | false => rw [k5 hw] at hid; simp [noOut] at hid
      rcases hA with hA | ⟨y, hy, hS', hid'⟩
      · have := hA0 id hA; have := tr1.mono; omega
      · rw [hsplit] at hy
        rcases List.mem_append.1 hy with hy | hy
        · have := (tr1.nu y hy id hid').2; omega
        · rcases List.mem_cons.1 hy with rfl | hy
          · rw [hSj] at hS'; cases hS'
          · have := (k6.nu y hy id hid').1; omega
    -- what stands behind it
    have hset : ∀ k, inS (listed.setIfInBounds i true) k = if k = i then true else inS listed k := fun k => set_get hjl
    have hrest : ∀ (ψ1 : Nat → Gh) (a1 : Act) (w1 : World), Rel F (fun id => AS A0 L (inS listed) id ∨ id ∈ ent.out.nu) ψ1 (put (envS (inS listed) L env0) ox.dst ent.out.v) (ap (hS (inS listed) L H0) ent.out.δ) a1 w1 →
        wpAny P .any ops Q fuel (listed.setIfInBounds i true) a1 w1 := by
      intro ψ1 a1 w1 hr1
      refine ih _ ψ1 a1 w1 (by simpa using hsz) (fun k o' ho' hk e he hb => ?_) ?_ (hr1.congr (fun id => ?_) (fun t => ?_) ?_ (fun id => ?_))
      · show inS (listed.setIfInBounds i true) e.on = true
        have hk' : inS (listed.setIfInBounds i true) (0 + k) = true := hk
        rw [hset] at hk' ⊢
        split
        · rfl
        · split at hk'
          · rename_i _ hki
            have : k = i := by omega
            subst this
            rw [hoL] at ho'; cases ho'
            exact hedges e he hb
          · exact hcl k o' ho' hk' e he hb
      · have : ((List.range ops.size).filter (fun k => !inS (listed.setIfInBounds i true) k)).length < ((List.range ops.size).filter (fun k => !inS listed k)).length := by
          refine filter_lt (p := fun k => !inS listed k) (q := fun k => !inS (listed.setIfInBounds i true) k) _ (fun k _ hk => ?_) i (by simpa using hjlt) (by simp [hSj]) (by simp [hset])
          simp only [hset] at hk
          split at hk
          · simp at hk
          · exact hk
        omega
      · constructor
        · rintro (h | ⟨y, hy, hS', hid⟩)
          · exact .inl (.inl h)
          · rw [hset] at hS'
            by_cases hyi : y.1 = i
            · have hyx : y = (i, ox, ent) := by
                rw [hsplit] at hy
                rcases List.mem_append.1 hy with hy | hy
                · have := hidx1 y hy; omega
                · rcases List.mem_cons.1 hy with rfl | hy
                  · rfl
                  · have := hidx2 y hy; omega
              rw [hyx] at hid
              exact .inr hid
            · rw [if_neg hyi] at hS'
              exact .inl (.inr ⟨y, hy, hS', hid⟩)
        · rintro ((h | ⟨y, hy, hS', hid⟩) | h)
          · exact .inl h
          · exact .inr ⟨y, hy, by rw [hset]; split; rfl; exact hS', hid⟩
          · exact .inr ⟨(i, ox, ent), by rw [hsplit]; simp, by rw [hset]; simp, h⟩
      · rw [hsplit, envS_append, envS_append]
        simp only [envS, hset, hSj, if_true]
        have hL1 : ∀ y ∈ L1, inS (listed.setIfInBounds i true) y.1 = inS listed y.1 := fun y hy => by rw [hset, if_neg (by have := hidx1 y hy; omega)]
        have hL2 : ∀ y ∈ L2, inS (listed.setIfInBounds i true) y.1 = inS listed y.1 := fun y hy => by rw [hset, if_neg (by have := hidx2 y hy; omega)]
        have b1 : ∀ s, (envS (inS (listed.setIfInBounds i true)) L1 env0).getD s poi = (envS (inS listed) L1 env0).getD s poi := fun s => envS_congr L1 env0 env0 rfl rfl (fun y hy _ => hL1 y hy)
        have bl : (envS (inS (listed.setIfInBounds i true)) L1 env0).length = (envS (inS listed) L1 env0).length := by rw [envS_len, envS_len]
        simp only [Bool.false_eq_true, if_false]
        by_cases hd : ox.dst = some t
        · -- nothing behind writes it
          have hno : ∀ (e e' : List Value), e.length = e'.length → e.getD t poi = e'.getD t poi → (envS (inS listed) L2 e).getD t poi = e'.getD t poi := fun e e' hl he => by
            have := envS_congr (S := inS listed) (S' := fun _ => false) (t := t) L2 e e' hl he (fun y hy hdy => by
              rcases aft y hy with h | h
              · exact h
              · exact absurd hdy (h.slots.2.1 t hd))
            rw [this]
            have none_ : ∀ (M : List Tri) (e : List Value), envS (fun _ => false) M e = e := by
              intro M; induction M with
              | nil => intro e; rfl
              | cons z M ih => intro e; obtain ⟨_, _, _⟩ := z; simp only [envS]; exact ih _
            rw [none_]
          rw [envS_congr (S := inS (listed.setIfInBounds i true)) (S' := inS listed) L2 _ _ rfl rfl (fun y hy _ => hL2 y hy)]
          rw [hno _ (put (envS (inS listed) L1 env0) ox.dst ent.out.v) (by rw [put_len, put_len, bl]) (put_get_congr bl (b1 t))]
          exact (put_get_congr (by rw [envS_len]) (hno _ _ rfl rfl)).symm
        · rw [put_get_ne hd]
          exact envS_congr L2 _ _ (by rw [put_len, bl]) (by rw [put_get_ne hd]; exact b1 t) (fun y hy _ => hL2 y hy)
      · rw [put_len, envS_len, envS_len]
      · rw [hsplit, hS_append, hS_append]
        simp only [hS, hset, hSj, if_true]
        have hL1 : ∀ y ∈ L1, inS (listed.setIfInBounds i true) y.1 = inS listed y.1 := fun y hy => by rw [hset, if_neg (by have := hidx1 y hy; omega)]
        have hL2 : ∀ y ∈ L2, inS (listed.setIfInBounds i true) y.1 = inS listed y.1 := fun y hy => by rw [hset, if_neg (by have := hidx2 y hy; omega)]
        have b1 : rd (hS (inS (listed.setIfInBounds i true)) L1 H0) id = rd (hS (inS listed) L1 H0) id := hS_congr L1 H0 H0 rfl (fun y hy _ => hL1 y hy)
        simp only [Bool.false_eq_true, if_false]
        by_cases hd : id ∈ ent.out.δ.map (·.1)
        · have hno : ∀ (e e' : Heap), rd e id = rd e' id → rd (hS (inS listed) L2 e) id = rd e' id := fun e e' he => by
            have := hS_congr (S := inS listed) (S' := fun _ => false) (id := id) L2 e e' he (fun y hy hdy => by
              rcases aft y hy with h | h
              · exact h
              · exact absurd hdy (h.xw id hd).2)
            rw [this]
            have none_ : ∀ (M : List Tri) (e : Heap), hS (fun _ => false) M e = e := by
              intro M; induction M with
              | nil => intro e; rfl
              | cons z M ih => intro e; obtain ⟨_, _, _⟩ := z; simp only [hS]; exact ih _
            rw [none_]
          rw [hS_congr (S := inS (listed.setIfInBounds i true)) (S' := inS listed) L2 _ _ rfl (fun y hy _ => hL2 y hy)]
          rw [hno _ (ap (hS (inS listed) L1 H0) ent.out.δ) (rd_ap_congr _ _ _ _ fun _ => b1)]
          exact rd_ap_congr _ _ _ _ fun hn => absurd hd hn
        · rw [rd_ap_out _ _ _ hd]
          exact hS_congr L2 _ _ (by rw [rd_ap_out _ _ _ hd]; exact b1) (fun y hy _ => hL2 y hy)
    -- the operation
    unfold wpOp
    simp only [ho]
    rw [wanted_ok hr hwant]
    cases hw : ent.wanted with
    | true =>
      obtain ⟨hs, hf⟩ := k4 hw
      simp only [if_true]
      exact .inl (hs F _ ψ _ _ a w hr hev hread hnew _ _ hrest)
    | false =>
      simp only [Bool.false_eq_true, if_false]
      have hno := k5 hw
      refine hrest ψ _ _ ?_
      rw [hno]
      exact (skip_rel hr ox.dst).congr (fun id => by simp [noOut]) (fun _ => rfl) rfl (fun _ => rfl)

end
end
end Go.Vm
