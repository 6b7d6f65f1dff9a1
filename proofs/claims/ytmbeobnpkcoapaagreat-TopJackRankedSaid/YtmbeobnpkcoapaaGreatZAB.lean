/- Parts of the proof: VmK, VmL, VmM, VmN, VmO, VmU, VmX, VmBO, VmBU, VmBJ, VmBK. -/
import Derived.Test.YtmbeobnpkcoapaaGreatZAA
import Derived.LoopN
import Derived.RangeFuncLeaves
import Derived.RangeFuncSeq
import Derived.OrdersIn
import Derived.TacticsIn
import Derived.LoopNIn
section
/- The theorem on drawn regions. -/
namespace Go.Vm
noncomputable section

section
variable {P : Program} {ops : Array Oper} {env0 env' : List Value} {H0 H' : Heap} {L : List Tri}

theorem pairs_before {ms : List Nat} : ∀ {L M : List Tri} {x : Tri}, pairsOK ops ms (L ++ x :: M) = true → (∀ y ∈ L, ((ms.getD x.1 0).testBit y.1 || apartE ops y x) = true) ∧ (∀ y ∈ M, ((ms.getD y.1 0).testBit x.1 || apartE ops x y) = true)
  | [], M, x, h => by
    simp only [List.nil_append, pairsOK, Bool.and_eq_true, List.all_eq_true] at h
    exact ⟨by simp, h.1⟩
  | z :: L, M, x, h => by
    simp only [List.cons_append, pairsOK, Bool.and_eq_true, List.all_eq_true] at h
    obtain ⟨h1, h2⟩ := pairs_before h.2
    refine ⟨fun y hy => ?_, h2⟩
    rcases List.mem_cons.1 hy with rfl | hy
    · exact h.1 x (by simp)
    · exact h1 y hy

structure Apart (x y : Tri) : Prop where
  slots : (∀ d, x.2.1.dst = some d → d ∉ y.2.1.looksAt ops) ∧ (∀ d, x.2.1.dst = some d → y.2.1.dst ≠ some d) ∧ (∀ d, y.2.1.dst = some d → d ∉ x.2.1.looksAt ops)
  xw : ∀ id, id ∈ x.2.2.out.δ.map (·.1) → id ∉ y.2.2.out.D ∧ id ∉ y.2.2.out.δ.map (·.1)
  yw : ∀ id, id ∈ y.2.2.out.δ.map (·.1) → id ∉ x.2.2.out.D

theorem apartE_spec {x y : Tri} (h : apartE ops x y = true) : Apart (ops := ops) x y := by
  simp only [apartE, memApart, Bool.and_eq_true, List.all_eq_true] at h
  obtain ⟨h1, h2, h3⟩ := h
  refine ⟨Oper.apart_spec h1, fun id hid => ?_, fun id hid => ?_⟩
  · obtain ⟨p, hp, rfl⟩ := List.mem_map.1 hid
    have := h2 p hp
    constructor
    · intro hc; simp [hc] at this
    · intro hc
      obtain ⟨q, hq, e⟩ := List.mem_map.1 hc
      have h4 := this.2
      simp only [Bool.not_eq_eq_eq_not, Bool.not_true] at h4
      have : (y.2.2.out.δ.map (·.1)).contains p.1 = true := by rw [List.contains_iff_mem]; exact hc
      rw [this] at h4; cases h4
  · obtain ⟨p, hp, rfl⟩ := List.mem_map.1 hid
    have := h3 p hp
    intro hc
    have h5 : x.2.2.out.D.contains p.1 = true := by rw [List.contains_iff_mem]; exact hc
    rw [h5] at this; cases this

theorem set_get {listed : Array Bool} {i j : Nat} (hi : i < listed.size) : (listed.setIfInBounds i true).getD j false = if j = i then true else listed.getD j false := by
  simp only [Array.getD_eq_getD_getElem?]
  by_cases e : j = i
  · subst e; simp [hi]
  · rw [if_neg e, Array.getElem?_setIfInBounds_ne (Ne.symm e)]

theorem filter_lt {p q : Nat → Bool} : ∀ (l : List Nat), (∀ x ∈ l, q x = true → p x = true) → ∀ i ∈ l, p i = true → q i = false → (l.filter q).length < (l.filter p).length
  | [], _, i, hi, _, _ => by cases hi
  | x :: l, h, i, hi, hp, hq => by
    have hle : (l.filter q).length ≤ (l.filter p).length := by
      clear hi
      have h' : ∀ x ∈ l, q x = true → p x = true := fun y hy => h y (by simp [hy])
      clear h
      induction l with
      | nil => simp
      | cons y l ih =>
        have h1 := h' y (by simp)
        have h2 := ih (fun z hz => h' z (by simp [hz]))
        simp only [List.filter_cons]
        cases hqy : q y with
        | true => simp [h1 hqy]; exact h2
        | false => cases hpy : p y <;> simp <;> omega
    rcases List.mem_cons.1 hi with rfl | hi
    · simp only [List.filter_cons, hp, hq]; simp; omega
    · have := filter_lt l (fun y hy => h y (by simp [hy])) i hi hp hq
      have hx := h x (by simp)
      simp only [List.filter_cons]
      cases hqx : q x with
      | true => simp [hx hqx]; exact this
      | false => cases hpx : p x <;> simp <;> omega

/-- Is an index listed? -/
def inS (listed : Array Bool) : Nat → Bool := fun i => listed.getD i false

theorem edges_at : ∀ (l : List Oper) (k : Nat), edgesOK k l = true → ∀ j o, l[j]? = some o → ∀ e ∈ o.after, Region.binds .any e = true → e.on < k + j
  | [], _, _, j, o, h, _, _, _ => by simp at h
  | x :: l, k, h, j, o, hj, e, he, hb => by
    simp only [edgesOK, Bool.and_eq_true, List.all_eq_true] at h
    cases j with
    | zero =>
      simp at hj; subst hj
      have := h.1 e (by simpa using he)
      simpa [hb] using this
    | succ j =>
      have := edges_at l (k + 1) h.2 j o (by simpa using hj) e he hb
      omega

/-- All is listed, or something is ready. -/
theorem ready_nil {listed : Array Bool} (hsz : listed.size = ops.size) (he : edgesOK 0 ops.toList = true) (h : Region.ready .any ops listed = []) : ∀ i, i < ops.size → inS listed i = true := by
  intro i
  induction i using Nat.strongRecOn with
  | _ i ih =>
    intro hi
    cases hl : inS listed i with
    | true => rfl
    | false =>
      exfalso
      have hm : i ∈ Region.ready .any ops listed := by
        simp only [Region.ready, List.mem_filter, List.mem_range]
        refine ⟨hi, ?_⟩
        have hl' : listed.getD i true = false := by
          have h1 : i < listed.size := by omega
          simp only [inS, Array.getD, h1, dif_pos] at hl ⊢
          exact hl
        rw [hl']
        simp only [Bool.not_false, Bool.true_and, hi, Array.getElem?_eq_getElem, Option.map_some, Option.getD_some]
        rw [Array.all_eq_true_iff_forall_mem]
        intro e hem
        cases hb : Region.binds .any e with
        | false => simp
        | true =>
          have hlt := edges_at ops.toList 0 he i ops[i] (by simp [hi]) e hem hb
          have := ih e.on (by omega) (by omega)
          simp only [inS] at this
          simp [this]
      rw [h] at hm; cases hm

theorem mem_ready {listed : Array Bool} {i : Nat} (h : i ∈ Region.ready .any ops listed) : i < ops.size ∧ listed.getD i true = false ∧ ∃ o, ops[i]? = some o ∧ ∀ e ∈ o.after, Region.binds .any e = true → inS listed e.on = true := by
  simp only [Region.ready, List.mem_filter, List.mem_range, Bool.and_eq_true] at h
  obtain ⟨h1, h2, h3⟩ := h
  refine ⟨h1, by simpa using h2, ops[i], by simp [h1], fun e he hb => ?_⟩
  simp only [h1, Array.getElem?_eq_getElem, Option.map_some, Option.getD_some] at h3
  rw [Array.all_eq_true_iff_forall_mem] at h3
  have := h3 e he
  simpa [hb, inS] using this

/-- The tools of the invariant. -/
structure Inv (P : Program) (call : CallF) (ops : Array Oper) (L : List Tri) (env0 : List Value) (H0 : Heap) (A0 : Nat → Prop) (listed : Array Bool) : Prop where
  size : listed.size = ops.size
  closed : Closed ops.toList 0 (fun i => inS listed i = true)

def AS (A0 : Nat → Prop) (L : List Tri) (S : Nat → Bool) : Nat → Prop := fun id => A0 id ∨ ∃ x ∈ L, S x.1 = true ∧ id ∈ x.2.2.out.nu

theorem any_ok (htr : Trace P ops L env0 H0 env' H') (hops : L.map (·.2.1) = ops.toList) (hix : L.map (·.1) = List.range' 0 ops.size) (hok : drawOK ops L = true)
    {A0 : Nat → Prop} (hA0 : ∀ id, A0 id → id < H0.length) {F : Fr P} {Q : Exit → Act → World → Prop}
    (hQ : ∀ A' ψ' a' w', Rel F A' ψ' env' H' a' w' → (∀ id, A' id → id < H'.length) → Q .normal a' w') :
    ∀ (fuel : Nat) (listed : Array Bool) (ψ : Nat → Gh) (a : Act) (w : World), listed.size = ops.size → Closed ops.toList 0 (fun i => inS listed i = true) →
      ((List.range ops.size).filter (fun i => !inS listed i)).length ≤ fuel → Rel F (AS A0 L (inS listed)) ψ (envS (inS listed) L env0) (hS (inS listed) L H0) a w → wpAny P .any ops Q fuel listed a w := by
  simp only [drawOK, statOK, Bool.and_eq_true] at hok
  obtain ⟨⟨⟨hsel, hedge⟩, hstat⟩, hmem⟩ := hok
  have hpairs := pairs_join (L := L) (by rw [index_eq (k := 0) hops (by rw [hix]; simp)]; exact hstat) hmem
  have hixl : ∀ x ∈ L, x.1 < ops.size := fun x hx => by
    have : x.1 ∈ L.map (·.1) := List.mem_map.2 ⟨x, hx, rfl⟩
    rw [hix] at this
    simpa using this
  have fin : ∀ (listed : Array Bool) (ψ : Nat → Gh) (a : Act) (w : World), (∀ i, i < ops.size → inS listed i = true) → Rel F (AS A0 L (inS listed)) ψ (envS (inS listed) L env0) (hS (inS listed) L H0) a w → Q .normal a w := by
    intro listed ψ a w hall hr
    obtain ⟨e1, e2⟩ := htr.all (S := inS listed) (fun x hx => hall _ (hixl x hx))
    rw [← e1, ← e2] at hr
    refine hQ _ _ _ _ hr fun id hid => ?_
    rcases hid with h | ⟨x, hx, _, hid⟩
    · exact Nat.lt_of_lt_of_le (hA0 id h) htr.mono
    · exact (htr.nu x hx id hid).2
  intro fuel
  induction fuel with
  | zero =>
    intro listed ψ a w hsz hcl hcnt hr
    have hall : ∀ i, i < ops.size → inS listed i = true := fun i hi => by
      cases hl : inS listed i with
      | true => rfl
      | false =>
        have : i ∈ (List.range ops.size).filter (fun i => !inS listed i) := by simp [hi, hl]
        have := List.length_pos_of_mem this
        omega
    refine ⟨?_, fin listed ψ a w hall hr⟩
    apply List.eq_nil_iff_forall_not_mem.2
    intro i hi
    obtain ⟨h1, h2, _⟩ := mem_ready hi
    have h3 := hall i h1
    have h4 : i < listed.size := by omega
    simp only [inS, Array.getD, h4, dif_pos] at h2 h3
    rw [h2] at h3; cases h3
  | succ fuel ih =>
    intro listed ψ a w hsz hcl hcnt hr
    refine ⟨fun hnil => fin listed ψ a w (ready_nil hsz hedge hnil) hr, fun j hj => ?_⟩
    obtain ⟨hjlt, hjun, o, ho, hedges⟩ := mem_ready hj
    have hjl : j < listed.size := by omega
    have hSj : inS listed j = false := by
      simp only [inS, Array.getD, hjl, dif_pos] at hjun ⊢; exact hjun
    -- the entry of j
    have hLlen : L.length = ops.size := by have := congrArg List.length hops; simpa using this
    have hjL : j < L.length := by omega
    obtain ⟨L1, x, L2, hsplit, hl1⟩ : ∃ L1 x L2, L = L1 ++ x :: L2 ∧ L1.length = j :=
      ⟨L.take j, L[j], L.drop (j + 1), by rw [List.getElem_cons_drop, List.take_append_drop], by simp; omega⟩
    have hxj : x.1 = j ∧ x.2.1 = o := by
      have h1 : (L.map (·.1))[j]? = some x.1 := by rw [hsplit]; simp [← hl1]
      have h2 : (L.map (·.2.1))[j]? = some x.2.1 := by rw [hsplit]; simp [← hl1]
      rw [hix] at h1
      rw [hops] at h2
      simp [hjlt] at h1
      have ho' : ops.toList[j]? = some o := by simpa using ho
      rw [ho'] at h2
      exact ⟨h1.symm, by cases h2; rfl⟩
    obtain ⟨hx1, hx2⟩ := hxj
    have hidx1 : ∀ y ∈ L1, y.1 < j := fun y hy => by
      obtain ⟨k, hk, e⟩ := List.mem_iff_getElem.1 hy
      have h1 : (L.map (·.1))[k]? = some y.1 := by
        rw [hsplit, List.map_append, List.getElem?_append_left (by simpa using hk), List.getElem?_map, List.getElem?_eq_getElem hk, e]; rfl
      rw [hix, List.getElem?_range' (by omega)] at h1
      simp at h1
      omega
    have hidx2 : ∀ y ∈ L2, j < y.1 := fun y hy => by
      obtain ⟨k, hk, e⟩ := List.mem_iff_getElem.1 hy
      have h0 : L.length = L1.length + (L2.length + 1) := by rw [hsplit]; simp
      have h1 : (L.map (·.1))[L1.length + (k + 1)]? = some y.1 := by
        rw [hsplit, List.map_append, List.getElem?_append_right (by simp)]
        simp only [List.length_map, Nat.add_sub_cancel_left, List.map_cons, List.getElem?_cons_succ, List.getElem?_map, List.getElem?_eq_getElem hk, e]; rfl
      rw [hix, List.getElem?_range' (by omega)] at h1
      simp at h1
      omega
    rw [hsplit] at htr hpairs
    obtain ⟨ej, hj', tr1, tr2⟩ := htr.append
    obtain ⟨i, ox, ent⟩ := x
    simp only at hx1 hx2
    subst hx1 hx2
    obtain ⟨k1, k2, k3, k4, k5, k6⟩ := tr2
    obtain ⟨pb, pa⟩ := pairs_before hpairs
    -- the closure
    have hm := masks_spec (S := fun i => inS listed i = true) ops.toList [] (by simpa using hcl) (fun j _ i hi => by simp at hi)
    have hoL : ops.toList[i]? = some ox := by simpa using ho
    have bef : ∀ y ∈ L1, inS listed y.1 = true ∨ Apart (ops := ops) y (i, ox, ent) := fun y hy => by
      have := pb y hy
      simp only [Bool.or_eq_true] at this
      rcases this with h | h
      · exact .inl (hm.2.1 i ox hoL (fun e he hb => hedges e he hb) y.1 (by simpa using h))
      · exact .inr (apartE_spec h)
    have aft : ∀ y ∈ L2, inS listed y.1 = false ∨ Apart (ops := ops) (i, ox, ent) y := fun y hy => by
      have := pa y hy
      simp only [Bool.or_eq_true] at this
      rcases this with h | h
      · left
        cases hS' : inS listed y.1 with
        | false => rfl
        | true =>
          have := hm.1 y.1 hS' i (by simpa using h)
          rw [hSj] at this; cases this
      · exact .inr (apartE_spec h)
    have e1 : ej = envS (fun _ => true) L1 env0 ∧ hj' = hS (fun _ => true) L1 H0 := tr1.all (fun _ _ => rfl)
    -- what i looks at
    have hslot : ∀ t, t ∈ ox.looksAt ops → (envS (inS listed) L env0).getD t poi = ej.getD t poi := by
      intro t ht
      rw [hsplit, envS_append, e1.1]
      have h2 : (envS (inS listed) ((i, ox, ent) :: L2) (envS (inS listed) L1 env0)).getD t poi = (envS (inS listed) L1 env0).getD t poi := by
        have := envS_congr (S := inS listed) (S' := fun _ => false) (t := t) ((i, ox, ent) :: L2) (envS (inS listed) L1 env0) (envS (inS listed) L1 env0) rfl rfl (fun y hy hd => by
          rcases List.mem_cons.1 hy with rfl | hy
          · exact hSj
          · rcases aft y hy with h | h
            · exact h
            · exact absurd ht (h.slots.2.2 t hd))
        rw [this]
        have none_ : ∀ (M : List Tri) (e : List Value), envS (fun _ => false) M e = e := by
          intro M; induction M with
          | nil => intro e; rfl
          | cons z M ih => intro e; obtain ⟨_, _, _⟩ := z; simp only [envS]; exact ih _
        rw [none_]
      rw [h2]
      exact envS_congr L1 env0 env0 rfl rfl fun y hy hd => by
        rcases bef y hy with h | h
        · simpa using h
        · exact absurd ht (h.slots.1 t hd)
    have hread : ∀ id, id ∈ ent.out.D → rd (hS (inS listed) L H0) id = rd hj' id := by
      intro id hid
      rw [hsplit, hS_append, e1.2]
      have h2 : rd (hS (inS listed) ((i, ox, ent) :: L2) (hS (inS listed) L1 H0)) id = rd (hS (inS listed) L1 H0) id := by
        have := hS_congr (S := inS listed) (S' := fun _ => false) (id := id) ((i, ox, ent) :: L2) (hS (inS listed) L1 H0) (hS (inS listed) L1 H0) rfl (fun y hy hd => by
          rcases List.mem_cons.1 hy with rfl | hy
          · exact hSj
          · rcases aft y hy with h | h
            · exact h
            · exact absurd hid (h.yw id hd))
        rw [this]
        have none_ : ∀ (M : List Tri) (e : Heap), hS (fun _ => false) M e = e := by
          intro M; induction M with
          | nil => intro e; rfl
          | cons z M ih => intro e; obtain ⟨_, _, _⟩ := z; simp only [hS]; exact ih _
        rw [none_]
      rw [h2]
      exact hS_congr L1 H0 H0 rfl fun y hy hd => by
        rcases bef y hy with h | h
        · simpa using h
        · exact absurd hid (h.xw id hd).1
    have hlooks : ∀ t, Operand.tmp t ∈ ox.op.operands → t ∈ ox.looksAt ops := fun t ht => by
      simp only [Oper.looksAt, List.mem_append, List.mem_filterMap]
      exact .inl ⟨.tmp t, by simpa using ht, rfl⟩
    have hev : ∀ y ∈ ox.op.operands, ev (envS (inS listed) L env0) y = ev ej y := fun y hy => by
      cases y with
      | tmp t => show gt _ t = gt _ t; rw [gt_eq, gt_eq]; exact hslot t (hlooks t hy)
      | _ => rfl
    have hwant : wantedA ops (envS (inS listed) L env0) ox = some ent.wanted := by
      rw [← k3]
      unfold wantedA
      split
      · rfl
      · rename_i g want hg
        split
        · rfl
        · rename_i t hd
          have : t ∈ ox.looksAt ops := by
            simp only [Oper.looksAt, List.mem_append]
            right
            simp [hg, hd]
          rw [gt_eq, gt_eq, hslot t this]
    have hnew : ∀ id ∈ ent.out.nu, ¬ AS A0 L (inS listed) id := fun id hid hA => by
      have hb : hj'.length ≤ id ∧ id < (ap hj' ent.out.δ).length := by
        cases hw : ent.wanted with
        | true =>
          obtain ⟨_, hf⟩ := k4 hw
          simp only [freshOK, List.all_eq_true, Bool.and_eq_true, decide_eq_true_eq] at hf
          exact hf id hid
        | false => rw [k5 hw] at hid; simp [noOut] at hid
      rcases hA with hA | ⟨y, hy, hS', hid'⟩
      · have := hA0 id hA; have := tr1.mono; omega
      · rw [hsplit] at hy
        rcases List.mem_append.1 hy with hy | hy
        · have := (tr1.nu y hy id hid').2; omega
        · rcases List.mem_cons.1 hy with rfl | hy
          · rw [hSj] at hS'; cases hS'
          · have := (k6.nu y hy id hid').1; omega
    -- what stands behind it
    have hset : ∀ k, inS (listed.setIfInBounds i true) k = if k = i then true else inS listed k := fun k => set_get hjl
    have hrest : ∀ (ψ1 : Nat → Gh) (a1 : Act) (w1 : World), Rel F (fun id => AS A0 L (inS listed) id ∨ id ∈ ent.out.nu) ψ1 (put (envS (inS listed) L env0) ox.dst ent.out.v) (ap (hS (inS listed) L H0) ent.out.δ) a1 w1 →
        wpAny P .any ops Q fuel (listed.setIfInBounds i true) a1 w1 := by
      intro ψ1 a1 w1 hr1
      refine ih _ ψ1 a1 w1 (by simpa using hsz) (fun k o' ho' hk e he hb => ?_) ?_ (hr1.congr (fun id => ?_) (fun t => ?_) ?_ (fun id => ?_))
      · show inS (listed.setIfInBounds i true) e.on = true
        have hk' : inS (listed.setIfInBounds i true) (0 + k) = true := hk
        rw [hset] at hk' ⊢
        split
        · rfl
        · split at hk'
          · rename_i _ hki
            have : k = i := by omega
            subst this
            rw [hoL] at ho'; cases ho'
            exact hedges e he hb
          · exact hcl k o' ho' hk' e he hb
      · have : ((List.range ops.size).filter (fun k => !inS (listed.setIfInBounds i true) k)).length < ((List.range ops.size).filter (fun k => !inS listed k)).length := by
          refine filter_lt (p := fun k => !inS listed k) (q := fun k => !inS (listed.setIfInBounds i true) k) _ (fun k _ hk => ?_) i (by simpa using hjlt) (by simp [hSj]) (by simp [hset])
          simp only [hset] at hk
          split at hk
          · simp at hk
          · exact hk
        omega
      · constructor
        · rintro (h | ⟨y, hy, hS', hid⟩)
          · exact .inl (.inl h)
          · rw [hset] at hS'
            by_cases hyi : y.1 = i
            · have hyx : y = (i, ox, ent) := by
                rw [hsplit] at hy
                rcases List.mem_append.1 hy with hy | hy
                · have := hidx1 y hy; omega
                · rcases List.mem_cons.1 hy with rfl | hy
                  · rfl
                  · have := hidx2 y hy; omega
              rw [hyx] at hid
              exact .inr hid
            · rw [if_neg hyi] at hS'
              exact .inl (.inr ⟨y, hy, hS', hid⟩)
        · rintro ((h | ⟨y, hy, hS', hid⟩) | h)
          · exact .inl h
          · exact .inr ⟨y, hy, by rw [hset]; split; rfl; exact hS', hid⟩
          · exact .inr ⟨(i, ox, ent), by rw [hsplit]; simp, by rw [hset]; simp, h⟩
      · rw [hsplit, envS_append, envS_append]
        simp only [envS, hset, hSj, if_true]
        have hL1 : ∀ y ∈ L1, inS (listed.setIfInBounds i true) y.1 = inS listed y.1 := fun y hy => by rw [hset, if_neg (by have := hidx1 y hy; omega)]
        have hL2 : ∀ y ∈ L2, inS (listed.setIfInBounds i true) y.1 = inS listed y.1 := fun y hy => by rw [hset, if_neg (by have := hidx2 y hy; omega)]
        have b1 : ∀ s, (envS (inS (listed.setIfInBounds i true)) L1 env0).getD s poi = (envS (inS listed) L1 env0).getD s poi := fun s => envS_congr L1 env0 env0 rfl rfl (fun y hy _ => hL1 y hy)
        have bl : (envS (inS (listed.setIfInBounds i true)) L1 env0).length = (envS (inS listed) L1 env0).length := by rw [envS_len, envS_len]
        simp only [Bool.false_eq_true, if_false]
        by_cases hd : ox.dst = some t
        · -- nothing behind writes it
          have hno : ∀ (e e' : List Value), e.length = e'.length → e.getD t poi = e'.getD t poi → (envS (inS listed) L2 e).getD t poi = e'.getD t poi := fun e e' hl he => by
            have := envS_congr (S := inS listed) (S' := fun _ => false) (t := t) L2 e e' hl he (fun y hy hdy => by
              rcases aft y hy with h | h
              · exact h
              · exact absurd hdy (h.slots.2.1 t hd))
            rw [this]
            have none_ : ∀ (M : List Tri) (e : List Value), envS (fun _ => false) M e = e := by
              intro M; induction M with
              | nil => intro e; rfl
              | cons z M ih => intro e; obtain ⟨_, _, _⟩ := z; simp only [envS]; exact ih _
            rw [none_]
          rw [envS_congr (S := inS (listed.setIfInBounds i true)) (S' := inS listed) L2 _ _ rfl rfl (fun y hy _ => hL2 y hy)]
          rw [hno _ (put (envS (inS listed) L1 env0) ox.dst ent.out.v) (by rw [put_len, put_len, bl]) (put_get_congr bl (b1 t))]
          exact (put_get_congr (by rw [envS_len]) (hno _ _ rfl rfl)).symm
        · rw [put_get_ne hd]
          exact envS_congr L2 _ _ (by rw [put_len, bl]) (by rw [put_get_ne hd]; exact b1 t) (fun y hy _ => hL2 y hy)
      · rw [put_len, envS_len, envS_len]
      · rw [hsplit, hS_append, hS_append]
        simp only [hS, hset, hSj, if_true]
        have hL1 : ∀ y ∈ L1, inS (listed.setIfInBounds i true) y.1 = inS listed y.1 := fun y hy => by rw [hset, if_neg (by have := hidx1 y hy; omega)]
        have hL2 : ∀ y ∈ L2, inS (listed.setIfInBounds i true) y.1 = inS listed y.1 := fun y hy => by rw [hset, if_neg (by have := hidx2 y hy; omega)]
        have b1 : rd (hS (inS (listed.setIfInBounds i true)) L1 H0) id = rd (hS (inS listed) L1 H0) id := hS_congr L1 H0 H0 rfl (fun y hy _ => hL1 y hy)
        simp only [Bool.false_eq_true, if_false]
        by_cases hd : id ∈ ent.out.δ.map (·.1)
        · have hno : ∀ (e e' : Heap), rd e id = rd e' id → rd (hS (inS listed) L2 e) id = rd e' id := fun e e' he => by
            have := hS_congr (S := inS listed) (S' := fun _ => false) (id := id) L2 e e' he (fun y hy hdy => by
              rcases aft y hy with h | h
              · exact h
              · exact absurd hdy (h.xw id hd).2)
            rw [this]
            have none_ : ∀ (M : List Tri) (e : Heap), hS (fun _ => false) M e = e := by
              intro M; induction M with
              | nil => intro e; rfl
              | cons z M ih => intro e; obtain ⟨_, _, _⟩ := z; simp only [hS]; exact ih _
            rw [none_]
          rw [hS_congr (S := inS (listed.setIfInBounds i true)) (S' := inS listed) L2 _ _ rfl (fun y hy _ => hL2 y hy)]
          rw [hno _ (ap (hS (inS listed) L1 H0) ent.out.δ) (rd_ap_congr _ _ _ _ fun _ => b1)]
          exact rd_ap_congr _ _ _ _ fun hn => absurd hd hn
        · rw [rd_ap_out _ _ _ hd]
          exact hS_congr L2 _ _ (by rw [rd_ap_out _ _ _ hd]; exact b1) (fun y hy _ => hL2 y hy)
    -- the operation
    unfold wpOp
    simp only [ho]
    rw [wanted_ok hr hwant]
    cases hw : ent.wanted with
    | true =>
      obtain ⟨hs, hf⟩ := k4 hw
      simp only [if_true]
      exact .inl (hs F _ ψ _ _ a w hr hev hread hnew _ _ hrest)
    | false =>
      simp only [Bool.false_eq_true, if_false]
      have hno := k5 hw
      refine hrest ψ _ _ ?_
      rw [hno]
      exact (skip_rel hr ox.dst).congr (fun id => by simp [noOut]) (fun _ => rfl) rfl (fun _ => rfl)

end
end
end Go.Vm
end
section
/- Renaming of ids: into a small heap for a call, and back; collecting what is not reached. -/
namespace Go.Vm
noncomputable section

/-- A value under other ids; an id without a new name becomes unknown. -/
def renV (ρ : Nat → Option Nat) : Nat → Value → Value
  | 0, _ => poi
  | d + 1, v =>
    if atom v then v
    else match v with
      | .pointer (some ⟨id, off, none⟩) => match ρ id with | some j => .pointer (some ⟨j, off, none⟩) | none => poi
      | .map (some id) => match ρ id with | some j => .map (some j) | none => poi
      | .slice (some ⟨id, off, none⟩) len cap => match ρ id with | some j => .slice (some ⟨j, off, none⟩) len cap | none => poi
      | .slice none 0 1 => v
      | .agg xs => .agg (xs.toList.map (renV ρ d)).toArray
      | .tuple xs => if noPoi xs.toList then .tuple (xs.toList.map (renV ρ d)).toArray else poi
      | .func fn xs us => .func fn (xs.toList.map (renV ρ d)).toArray (us.toList.map (renV ρ d)).toArray
      | _ => poi

def renO (ρ : Nat → Option Nat) : AObj → AObj
  | .row cells es more rw flat => .row (if flat then cells else cells.map (renV ρ 4)) es more rw flat
  | o => o

theorem renO_vd (ρ : Nat → Option Nat) (o : AObj) : (renO ρ o).vd = o.vd := by
  cases o with
  | row cells es more rw flat => cases cells <;> cases flat <;> rfl
  | _ => rfl

theorem renO_es (ρ : Nat → Option Nat) {g : Gh} {o : AObj} (h : EsOK g o) : EsOK g (renO ρ o) := by cases o <;> exact h

theorem renO_rw (ρ : Nat → Option Nat) (o : AObj) : (renO ρ o).rw = o.rw := by cases o <;> rfl

section
variable {A A' : Nat → Prop} {ψ ψ' : Nat → Gh} {ρ : Nat → Option Nat}

theorem map_getD {f : Value → Value} {l : List Value} {l' : List Value} (h : ∀ i, i < l.length → VR A' ψ' (f (l.getD i poi)) (l'.getD i undef)) (i : Nat) :
    VR A' ψ' ((l.map f).getD i poi) (l'.getD i undef) := by
  by_cases hi : i < l.length
  · have := h i hi
    simpa [List.getD_eq_getElem?_getD, hi] using this
  · have e1 : (l.map f).getD i poi = poi := by simp [List.getD_eq_getElem?_getD, hi]
    rw [e1]; exact .poison _

theorem arr_map {f : Value → Value} {xs ys : Array Value} (_hs : xs.size = ys.size) (h : ∀ i, VR A' ψ' (f (xs.getD i poi)) (ys.getD i undef)) (i : Nat) :
    VR A' ψ' ((xs.toList.map f).toArray.getD i poi) (ys.getD i undef) := by
  have := map_getD (A' := A') (ψ' := ψ') (f := f) (l := xs.toList) (l' := ys.toList) (fun i _ => by simpa [Array.getD_eq_getD_getElem?, List.getD_eq_getElem?_getD] using h i) i
  simpa [Array.getD_eq_getD_getElem?, List.getD_eq_getElem?_getD] using this

theorem renV_rel (hρ : ∀ id j, A id → ρ id = some j → A' j ∧ ψ' j = ψ id) : ∀ (d : Nat) {v v' : Value}, VR A ψ v v' → VR A' ψ' (renV ρ d v) v'
  | 0, _, _, _ => .poison _
  | d + 1, v, v', h => by
    unfold renV
    split
    · rename_i ha
      rw [h.of_atom ha]; exact .atom _ ha
    · rename_i hna
      cases h with
      | poison => simp [poi, noPoi]; exact .poison _
      | atom _ ha => exact absurd ha hna
      | ptr id off hA =>
        simp only
        split
        · rename_i j hj
          obtain ⟨h1, h2⟩ := hρ id j hA hj
          rw [← h2]; exact .ptr _ _ h1
        · exact .poison _
      | map id hA =>
        simp only
        split
        · rename_i j hj
          obtain ⟨h1, h2⟩ := hρ id j hA hj
          rw [← h2]; exact .map _ h1
        · exact .poison _
      | slice id off len cap cap' hA hc =>
        simp only
        split
        · rename_i j hj
          obtain ⟨h1, h2⟩ := hρ id j hA hj
          rw [← h2] at hc ⊢; exact .slice _ _ _ _ _ h1 hc
        · exact .poison _
      | void id off a hA =>
        simp only
        split
        · rename_i j hj
          exact .void _ _ _ (hρ id j hA hj).1
        · exact .poison _
      | view id off len c a hA hl ha =>
        simp only
        split
        · rename_i j hj
          obtain ⟨h1, h2⟩ := hρ id j hA hj
          exact .view _ _ _ _ _ h1 hl (by rw [h2]; exact ha)
        · exact .poison _
      | empty a c => exact .empty a c
      | agg xs ys hs h1 h => exact .agg _ _ (by simp [hs]) h1 (arr_map hs fun i => renV_rel hρ d (h i))
      | tuple xs ys hs h =>
        simp only
        split
        · exact .tuple _ _ (by simp [hs]) (arr_map hs fun i => renV_rel hρ d (h i))
        · exact .poison _
      | func fn xs ys us vs hs ht h k => exact .func _ _ _ _ _ (by simp [hs]) (by simp [ht]) (arr_map hs fun i => renV_rel hρ d (h i)) (arr_map ht fun i => renV_rel hρ d (k i))

theorem renO_rel (hρ : ∀ id j, A id → ρ id = some j → A' j ∧ ψ' j = ψ id) {g : Gh} {w : World} {o : AObj} (h : ORel A ψ g w o) : ORel A' ψ' g w (renO ρ o) := by
  cases o with
  | iter s pos => exact h
  | smap es => exact h
  | imap es => exact h
  | row cells es more rw flat =>
    obtain ⟨arr, el, fz, h1, h2, h3, h4, h5⟩ := h
    cases flat with
    | true =>
      refine ⟨arr, el, fz, h1, h2, fun i hi => ?_, h4, h5⟩
      simp only [if_true] at hi ⊢
      obtain ⟨v', e1, e2, e3⟩ := h3 i hi
      have ha : atom (cells.getD i poi) = true := by
        have : cells.getD i poi ∈ cells := by simp [List.getD_eq_getElem?_getD, hi]
        exact h5 rfl _ this
      refine ⟨v', e1, e2, ?_⟩
      rw [e3.of_atom ha]; exact .atom _ ha
    | false =>
      refine ⟨arr, el, fz, h1, h2, fun i hi => ?_, fun hrw => ?_, fun hf => by cases hf⟩
      · simp only [Bool.false_eq_true, if_false, List.length_map] at hi ⊢
        obtain ⟨v', e1, e2, e3⟩ := h3 i hi
        refine ⟨v', e1, e2, ?_⟩
        have e4 : (cells.map (renV ρ 4)).getD i poi = renV ρ 4 (cells.getD i poi) := by simp [List.getD_eq_getElem?_getD, hi]
        rw [e4]; exact renV_rel hρ 4 e3
      · obtain ⟨q1, q2, q3, q4⟩ := h4 hrw
        exact ⟨q1, q2, q3, fun hm => by simpa using q4 hm⟩

theorem LR.ren (hρ : ∀ id j, A id → ρ id = some j → A' j ∧ ψ' j = ψ id) {l l' : List Value} (h : LR A ψ l l') : LR A' ψ' (l.map (renV ρ 4)) l' :=
  ⟨by simp [h.len], map_getD fun i _ => renV_rel hρ 4 (h.at_ i)⟩
end

/-- The place of an id in a list. -/
def pos : List Nat → Nat → Option Nat
  | [], _ => none
  | x :: r, id => if x == id then some 0 else (pos r id).map (· + 1)

def nodupB : List Nat → Bool
  | [] => true
  | x :: r => !(r.contains x) && nodupB r

theorem pos_spec : ∀ {l : List Nat} {id j : Nat}, pos l id = some j → l[j]? = some id
  | [], _, _, h => by simp [pos] at h
  | x :: r, id, j, h => by
    simp only [pos] at h
    split at h
    · rename_i he; cases h; simp at he; simp [he]
    · obtain ⟨k, hk, rfl⟩ := Option.map_eq_some_iff.1 h
      simpa using pos_spec hk

theorem nodup_inj : ∀ {l : List Nat}, nodupB l = true → ∀ {i j x : Nat}, l[i]? = some x → l[j]? = some x → i = j
  | [], _, _, _, _, h, _ => by simp at h
  | y :: r, hn, i, j, x, hi, hj => by
    simp only [nodupB, Bool.and_eq_true, Bool.not_eq_true'] at hn
    cases i with
    | zero =>
      cases j with
      | zero => rfl
      | succ j =>
        simp at hi hj; subst hi
        have : y ∈ r := List.mem_of_getElem? hj
        have h2 := hn.1
        rw [← List.contains_iff_mem] at this
        rw [this] at h2; cases h2
    | succ i =>
      cases j with
      | zero =>
        simp at hi hj; subst hj
        have : y ∈ r := List.mem_of_getElem? hi
        have h2 := hn.1
        rw [← List.contains_iff_mem] at this
        rw [this] at h2; cases h2
      | succ j => simp at hi hj; rw [nodup_inj hn.2 hi hj]

/-- The part of a heap with these ids, which are numbered anew. -/
def resH (H : Heap) (ids : List Nat) : Heap := ids.map fun id => (rd H id).map (renO (pos ids))

theorem rd_map {f : Nat → Option AObj} : ∀ (ids : List Nat) (j : Nat), rd (ids.map f) j = (ids[j]?).bind f
  | [], _ => rfl
  | _ :: _, 0 => rfl
  | _ :: r, j + 1 => by rw [List.map_cons, rd_cons, rd_map r j]; simp

theorem res_rel {P : Program} {F : Fr P} {A : Nat → Prop} {ψ : Nat → Gh} {H : Heap} {w : World} {ids : List Nat} (h : HRel F A ψ H w) (hn : nodupB ids = true) {F' : Fr P} (hF : F'.ok w)
    (hown : ∀ (j id : Nat) (o : AObj), ids[j]? = some id → rd H id = some o → o.rw = true → o.vd = false → F'.w0.heap.size ≤ (ψ id).blk ∨ F'.S (ψ id).blk)
    (hold : ∀ (j : Nat), F'.A0 j → ∃ id : Nat, ids[j]? = some id ∧ A id ∧ ψ id = F'.ψ0 j) :
    HRel F' (fun j => ∃ id : Nat, ids[j]? = some id ∧ A id) (fun j => ψ (ids.getD j 0)) (resH H ids) w := by
  have hg : ∀ {j id : Nat}, ids[j]? = some id → ids.getD j 0 = id := fun h => by simp [List.getD_eq_getElem?_getD, h]
  have hρ : ∀ id j, A id → pos ids id = some j → (∃ id : Nat, ids[j]? = some id ∧ A id) ∧ ψ (ids.getD j 0) = ψ id := fun id j ha hj => by
    have := pos_spec hj
    exact ⟨⟨id, this, ha⟩, by rw [hg this]⟩
  have look : ∀ {j : Nat} {o : AObj}, rd (resH H ids) j = some o → ∃ (id : Nat) (o' : AObj), ids[j]? = some id ∧ rd H id = some o' ∧ o = renO (pos ids) o' := fun {j o} hj => by
    rw [resH, rd_map] at hj
    cases hi : ids[j]? with
    | none => simp [hi] at hj
    | some id =>
      simp only [hi, Option.bind_some] at hj
      obtain ⟨o', h1, h2⟩ := Option.map_eq_some_iff.1 hj
      exact ⟨id, o', rfl, h1, h2.symm⟩
  refine ⟨fun j o hj => ?_, fun i j oi oj hi hj hij hrw hvi hvj => ?_, hF, fun j o hj hrw hv => ?_, fun j hj => ?_⟩
  · obtain ⟨id, o', h1, h2, rfl⟩ := look hj
    obtain ⟨l1, l2, l3⟩ := h.live id o' h2
    simp only [hg h1]
    exact ⟨⟨id, h1, l1⟩, renO_es _ l2, fun hv => by rw [renO_vd] at hv; exact ⟨(l3 hv).1, renO_rel hρ (l3 hv).2⟩⟩
  · obtain ⟨a, oa, a1, a2, rfl⟩ := look hi
    obtain ⟨b, ob, b1, b2, rfl⟩ := look hj
    simp only [hg a1, hg b1]
    rw [renO_rw] at hrw
    rw [renO_vd] at hvi hvj
    exact h.inj a b oa ob a2 b2 (fun e => hij (nodup_inj hn a1 (by rw [e]; exact b1))) hrw hvi hvj
  · obtain ⟨id, o', h1, h2, rfl⟩ := look hj
    simp only [hg h1]
    rw [renO_rw] at hrw
    rw [renO_vd] at hv
    exact hown j id o' h1 h2 hrw hv
  · obtain ⟨id, h1, h2, h3⟩ := hold j hj
    simp only [hg h1]
    exact ⟨⟨id, h1, h2⟩, h3⟩

/-- Small: a function's run from a heap of its own, ids from 0 on. -/
def SmallRes (P : Program) (f : FuncId) (args : List Value) (H : Heap) (ret : Value) (H' : Heap) : Prop :=
  ∀ (F : Fr P) A ψ w args', HRel F A ψ H w → (∀ id, A id → id < H.length) → F.A0 = A → F.ψ0 = ψ → LR A ψ args args' →
    Calls P f args'.toArray w (fun e w' => ∃ v' A' ψ', e = .returned v' ∧ HRel F A' ψ' H' w' ∧ (∀ id, A' id → id < H'.length) ∧ VR A' ψ' ret v')

/-- Names for what comes back. -/
def backρ (ids new : List Nat) (nid : Nat) (j : Nat) : Option Nat := if j < ids.length then ids[j]? else (pos new j).map (nid + ·)

def back (H : Heap) (ids new : List Nat) (nid : Nat) (ret : Value) (H' : Heap) : Out :=
  ⟨renV (backρ ids new nid) 4 ret,
   (ids.zipIdx.filterMap fun (id, j) => match rd H id with
      | some o => if o.rw then some (id, (rd H' j).map (renO (backρ ids new nid))) else none
      | none => none) ++ (new.zipIdx.map fun (j, k) => (nid + k, (rd H' j).map (renO (backρ ids new nid)))),
   ids, (List.range new.length).map (nid + ·)⟩

end
end Go.Vm
end
section
/- From a function's own small heap to its caller's. -/
namespace Go.Vm
noncomputable section

theorem rd_ap_mem : ∀ (δ : Delta) (H : Heap) (i : Nat) (o : Option AObj), (∀ p ∈ δ, p.1 = i → p.2 = o) → (∃ p ∈ δ, p.1 = i) → rd (ap H δ) i = o
  | [], _, _, _, _, h => by obtain ⟨_, h, _⟩ := h; cases h
  | (k, x) :: r, H, i, o, h, hex => by
    simp only [ap]
    by_cases hr : ∃ p ∈ r, p.1 = i
    · exact rd_ap_mem r _ i o (fun p hp => h p (by simp [hp])) hr
    · obtain ⟨p, hp, e⟩ := hex
      rcases List.mem_cons.1 hp with rfl | hp
      · simp only at e; subst e
        rw [rd_ap_out r _ k (fun hm => hr (by obtain ⟨q, hq, e⟩ := List.mem_map.1 hm; exact ⟨q, hq, e⟩)), rd_wr, if_pos rfl]
        exact h (k, x) (by simp) rfl
      · exact absurd ⟨p, hp, e⟩ hr

/-- The checks on what comes back. -/
def backOK (H : Heap) (ids new : List Nat) (H' : Heap) : Bool :=
  nodupB ids && ids.all (fun id => (rd H id).isSome) && nodupB new && new.all (fun j => decide (ids.length ≤ j) && (match rd H' j with | some o => o.rw | none => true)) &&
    (ids.zipIdx.all fun (id, j) => match rd H id with
      | some o => !o.rw || (match rd H' j with | some o' => o'.rw | none => true)
      | none => true)

theorem call_lift {P : Program} {f : FuncId} {args : List Value} {H : Heap} {ids new : List Nat} {ret : Value} {H' : Heap} {nid : Nat}
    (hs : SmallRes P f (args.map (renV (pos ids) 4)) (resH H ids) ret H') (hok : backOK H ids new H' = true) : CallRes P f args H (back H ids new nid ret H') := by
  simp only [backOK, Bool.and_eq_true, List.all_eq_true, decide_eq_true_eq] at hok
  obtain ⟨⟨⟨⟨hn, hlive⟩, hnn⟩, hnew⟩, hids⟩ := hok
  intro F A ψ H1 w args' hh hl hD hnu
  have hD' : ∀ id ∈ ids, rd H1 id = rd H id := hD
  have hres : resH H ids = resH H1 ids := List.map_congr_left fun id hid => by rw [hD' id hid]
  rw [hres] at hs
  have hobj : ∀ id ∈ ids, ∃ o, rd H1 id = some o := fun id hid => by
    have := hlive id hid
    rw [← hD' id hid] at this
    exact Option.isSome_iff_exists.1 this
  have hAids : ∀ (j id : Nat), ids[j]? = some id → A id := fun j id h => by
    obtain ⟨o, ho⟩ := hobj id (List.mem_of_getElem? h)
    exact (hh.live id o ho).1
  have hgd : ∀ {j id : Nat}, ids[j]? = some id → ids.getD j 0 = id := fun h => by simp [List.getD_eq_getElem?_getD, h]
  let S' : Nat → Prop := fun b => ∃ id o, id ∈ ids ∧ rd H1 id = some o ∧ o.rw = true ∧ o.vd = false ∧ (ψ id).blk = b
  let F' : Fr P := ⟨w, S', fun j => ∃ id : Nat, ids[j]? = some id ∧ A id, fun j => ψ (ids.getD j 0), []⟩
  have hF' : F'.ok w := ⟨rfl, rfl, rfl, Nat.le_refl _, fun _ _ _ => rfl, fun w' h1 h2 => hh.fr.lay w' (fun k hk hs => by
    refine (h1 k (Nat.lt_of_lt_of_le hk hh.fr.size) fun hS' => ?_).trans (hh.fr.block k hk hs)
    obtain ⟨id, o, _, k2, k3, k5, k4⟩ := hS'
    rcases hh.own id o k2 k3 k5 with h | h
    · rw [k4] at h; omega
    · rw [k4] at h; exact hs h) (Nat.le_trans hh.fr.size h2)⟩
  have hr0 := res_rel (F' := F') hh hn hF' (fun j id o h1 h2 h3 h4 => .inr ⟨id, o, List.mem_of_getElem? h1, h2, h3, h4, rfl⟩) (fun j hj => by
    obtain ⟨id, h1, h2⟩ := hj
    exact ⟨id, h1, h2, by show ψ id = ψ (ids.getD j 0); rw [hgd h1]⟩)
  have hl0 : LR (fun j => ∃ id : Nat, ids[j]? = some id ∧ A id) (fun j => ψ (ids.getD j 0)) (args.map (renV (pos ids) 4)) args' := hl.ren fun id j ha hj => by
    have := pos_spec hj
    exact ⟨⟨id, this, ha⟩, by rw [hgd this]⟩
  refine (hs F' _ _ w args' hr0 (fun j hj => ?_) rfl rfl hl0).mono ?_
  · obtain ⟨id, h1, _⟩ := hj
    have := (List.getElem?_eq_some_iff.1 h1).1
    simpa [resH] using this
  rintro e w' ⟨v', A', ψ', rfl, hh', hb', hv'⟩
  -- the names
  have hmemnu : ∀ id, id ∈ (List.range new.length).map (nid + ·) ↔ ∃ m, m < new.length ∧ id = nid + m := fun id => by
    simp only [List.mem_map, List.mem_range]
    exact ⟨fun ⟨m, h1, h2⟩ => ⟨m, h1, h2.symm⟩, fun ⟨m, h1, h2⟩ => ⟨m, h1, h2.symm⟩⟩
  let ψ2 : Nat → Gh := fun id => if nid ≤ id ∧ id - nid < new.length then ψ' (new.getD (id - nid) 0) else ψ id
  have hψA : ∀ id, A id → ψ2 id = ψ id := fun id ha => by
    have : ¬ (nid ≤ id ∧ id - nid < new.length) := fun hc => hnu id ((hmemnu id).2 ⟨id - nid, hc.2, by omega⟩) ha
    simp only [ψ2, if_neg this]
  have hψn : ∀ (m j : Nat), new[m]? = some j → ψ2 (nid + m) = ψ' j := fun m j hm => by
    have hlt := (List.getElem?_eq_some_iff.1 hm).1
    have : nid ≤ nid + m ∧ nid + m - nid < new.length := ⟨by omega, by omega⟩
    simp only [ψ2, if_pos this]
    rw [show nid + m - nid = m by omega]
    congr 1
    simp [List.getD_eq_getElem?_getD, hm]
  have hold : ∀ (j id : Nat), ids[j]? = some id → A' j ∧ ψ' j = ψ id := fun j id h => by
    have := hh'.old j ⟨id, h, hAids j id h⟩
    exact ⟨this.1, by rw [this.2]; show ψ (ids.getD j 0) = ψ id; rw [hgd h]⟩
  have hρ : ∀ j k, A' j → backρ ids new nid j = some k → (A k ∨ k ∈ (List.range new.length).map (nid + ·)) ∧ ψ2 k = ψ' j := fun j k ha hk => by
    simp only [backρ] at hk
    split at hk
    · have hA := hAids j k hk
      exact ⟨.inl hA, by rw [hψA k hA, (hold j k hk).2]⟩
    · obtain ⟨m, hm, rfl⟩ := Option.map_eq_some_iff.1 hk
      have := pos_spec hm
      exact ⟨.inr ((hmemnu _).2 ⟨m, (List.getElem?_eq_some_iff.1 this).1, rfl⟩), hψn m j this⟩
  refine ⟨v', ψ2, rfl, ?_, hψA, renV_rel hρ 4 hv'⟩
  -- the heap
  have hkeys1 : ∀ p ∈ (back H ids new nid ret H').δ, (∃ (j : Nat) (o : AObj), ids[j]? = some p.1 ∧ rd H1 p.1 = some o ∧ o.rw = true ∧ p.2 = (rd H' j).map (renO (backρ ids new nid))) ∨
      ∃ m j : Nat, new[m]? = some j ∧ p.1 = nid + m ∧ p.2 = (rd H' j).map (renO (backρ ids new nid)) := fun p hp => by
    simp only [back, List.mem_append, List.mem_filterMap, List.mem_map] at hp
    rcases hp with ⟨⟨id, j⟩, hm, h1⟩ | ⟨⟨j, k⟩, hm, h1⟩
    · have hj : ids[j]? = some id := List.mem_zipIdx_iff_getElem?.1 hm
      have hid : id ∈ ids := List.mem_of_getElem? hj
      simp only at h1
      split at h1
      · rename_i o ho
        split at h1
        · rename_i hrw
          cases h1
          exact .inl ⟨j, o, hj, by rw [hD' id hid]; exact ho, hrw, rfl⟩
        · cases h1
      · cases h1
    · have hj : new[k]? = some j := List.mem_zipIdx_iff_getElem?.1 hm
      cases h1
      exact .inr ⟨k, j, hj, rfl, rfl⟩
  have hnotnu : ∀ {j id m : Nat}, ids[j]? = some id → m < new.length → id ≠ nid + m := fun {j id m} h hm e => hnu id ((hmemnu id).2 ⟨m, hm, e⟩) (hAids j id h)
  have hnew_at : ∀ (m j : Nat), new[m]? = some j → rd (ap H1 (back H ids new nid ret H').δ) (nid + m) = (rd H' j).map (renO (backρ ids new nid)) := fun m j hm => by
    refine rd_ap_mem _ _ _ _ (fun p hp he => ?_) ⟨(nid + m, (rd H' j).map (renO (backρ ids new nid))), ?_, rfl⟩
    · rcases hkeys1 p hp with ⟨j', o, h1, _, _, _⟩ | ⟨m', j', h1, h2, h3⟩
      · exact absurd he (hnotnu h1 (List.getElem?_eq_some_iff.1 hm).1)
      · have : m' = m := by omega
        subst this
        rw [hm] at h1; cases h1; exact h3
    · simp only [back, List.mem_append, List.mem_map]
      exact .inr ⟨(j, m), List.mem_zipIdx_iff_getElem?.2 hm, rfl⟩
  have hids_at : ∀ (j id : Nat) (o : AObj), ids[j]? = some id → rd H1 id = some o → o.rw = true → rd (ap H1 (back H ids new nid ret H').δ) id = (rd H' j).map (renO (backρ ids new nid)) := fun j id o h1 h2 h3 => by
    refine rd_ap_mem _ _ _ _ (fun p hp he => ?_) ⟨(id, (rd H' j).map (renO (backρ ids new nid))), ?_, rfl⟩
    · rcases hkeys1 p hp with ⟨j', o', k1, _, _, k4⟩ | ⟨m', j', k1, k2, _⟩
      · rw [he] at k1
        have := nodup_inj hn h1 k1
        subst this; exact k4
      · exact absurd (he.symm.trans k2) (hnotnu h1 (List.getElem?_eq_some_iff.1 k1).1)
    · simp only [back, List.mem_append, List.mem_filterMap]
      refine .inl ⟨(id, j), List.mem_zipIdx_iff_getElem?.2 h1, ?_⟩
      rw [hD' id (List.mem_of_getElem? h1)] at h2
      simp [h2, h3]
  have hrest : ∀ id, (∀ m, m < new.length → id ≠ nid + m) → (∀ (j : Nat) (o : AObj), ids[j]? = some id → rd H1 id = some o → o.rw = false) → rd (ap H1 (back H ids new nid ret H').δ) id = rd H1 id := fun id h1 h2 => by
    refine rd_ap_out _ _ _ fun hm => ?_
    obtain ⟨p, hp, rfl⟩ := List.mem_map.1 hm
    rcases hkeys1 p hp with ⟨j', o, k1, k2, k3, _⟩ | ⟨m', j', k1, k2, _⟩
    · have := h2 j' o k1 k2; rw [k3] at this; cases this
    · exact h1 m' (List.getElem?_eq_some_iff.1 k1).1 k2
  have look : ∀ {id : Nat} {o : AObj}, rd (ap H1 (back H ids new nid ret H').δ) id = some o →
      (∃ (j : Nat) (o' : AObj), rd H' j = some o' ∧ o = renO (backρ ids new nid) o' ∧ ψ2 id = ψ' j ∧ (A id ∨ id ∈ (List.range new.length).map (nid + ·)) ∧ o.rw = true ∧ ((∃ m, new[m]? = some j ∧ id = nid + m) ∨ ids[j]? = some id)) ∨
      (rd H1 id = some o ∧ (∀ (j : Nat), ids[j]? = some id → o.rw = false)) := fun {id o} ho => by
    by_cases hc1 : ∃ m, m < new.length ∧ id = nid + m
    · obtain ⟨m, hm, rfl⟩ := hc1
      have hj : new[m]? = some new[m] := List.getElem?_eq_getElem hm
      rw [hnew_at m _ hj] at ho
      obtain ⟨o', h1, h2⟩ := Option.map_eq_some_iff.1 ho
      refine .inl ⟨_, o', h1, h2.symm, hψn m _ hj, .inr ((hmemnu _).2 ⟨m, hm, rfl⟩), ?_, .inl ⟨m, hj, rfl⟩⟩
      have := (hnew _ (List.getElem_mem hm)).2
      rw [h1] at this
      rw [← h2, renO_rw]; exact this
    · by_cases hc2 : ∃ (j : Nat) (o0 : AObj), ids[j]? = some id ∧ rd H1 id = some o0 ∧ o0.rw = true
      · obtain ⟨j, o0, k1, k2, k3⟩ := hc2
        rw [hids_at j id o0 k1 k2 k3] at ho
        obtain ⟨o', h1, h2⟩ := Option.map_eq_some_iff.1 ho
        have hA := hAids j id k1
        refine .inl ⟨j, o', h1, h2.symm, by rw [hψA id hA, (hold j id k1).2], .inl hA, ?_, .inr k1⟩
        have := hids (id, j) (List.mem_zipIdx_iff_getElem?.2 k1)
        rw [hD' id (List.mem_of_getElem? k1)] at k2
        simp only [k2, k3, Bool.not_true, Bool.false_or, h1] at this
        rw [← h2, renO_rw]; exact this
      · have hno : ∀ (j : Nat) (o : AObj), ids[j]? = some id → rd H1 id = some o → o.rw = false := fun j o h1 h2 => by
          cases hr : o.rw with
          | false => rfl
          | true => exact absurd ⟨j, o, h1, h2, hr⟩ hc2
        rw [hrest id (fun m hm e => hc1 ⟨m, hm, e⟩) hno] at ho
        exact .inr ⟨ho, fun j hj => hno j o hj ho⟩
  have hS'blk : ∀ {id : Nat} {o : AObj}, rd H1 id = some o → o.vd = false → (∀ (j : Nat), ids[j]? = some id → o.rw = false) → ¬ S' (ψ id).blk := fun {id o} h1 hv h2 hS => by
    obtain ⟨id2, o2, k1, k2, k3, k5, k4⟩ := hS
    by_cases e : id2 = id
    · subst e
      rw [h1] at k2; cases k2
      obtain ⟨j, hj, e⟩ := List.mem_iff_getElem.1 k1
      have := h2 j (by rw [← e]; exact List.getElem?_eq_getElem hj)
      rw [k3] at this; cases this
    · exact hh.inj id2 id o2 o k2 h1 e k3 k5 hv k4
  have hnear : ∀ {id : Nat} {o : AObj} {b : Nat}, rd H1 id = some o → o.vd = false → (∀ (j : Nat), ids[j]? = some id → o.rw = false) → (w.heap.size ≤ b ∨ S' b) → b ≠ (ψ id).blk := fun {id o b} h1 hv h2 hb e => by
    subst e
    rcases hb with hb | hb
    · have := ((hh.live id o h1).2.2 hv).1; omega
    · exact hS'blk h1 hv h2 hb
  have hown' : ∀ b, (w.heap.size ≤ b ∨ S' b) → F.w0.heap.size ≤ b ∨ F.S b := fun b hb => by
    rcases hb with hb | ⟨id2, o2, k1, k2, k3, k5, k4⟩
    · exact .inl (Nat.le_trans hh.fr.size hb)
    · rw [← k4]; exact hh.own id2 o2 k2 k3 k5
  have hψ1 : ∀ {id : Nat} {o : AObj}, rd H1 id = some o → ψ2 id = ψ id := fun {id o} h => hψA id (hh.live id o h).1
  refine ⟨fun id o ho => ?_, fun i j oi oj hi hj hij hrw hvi hvj => ?_, ?_, fun id o ho hrw hv => ?_, fun id ha => ?_⟩
  · rcases look ho with ⟨j, o', h1, rfl, h3, h4, _, _⟩ | ⟨h1, h2⟩
    · obtain ⟨l1, l2, l3⟩ := hh'.live j o' h1
      rw [h3]
      exact ⟨h4, renO_es _ l2, fun hv => by rw [renO_vd] at hv; exact ⟨(l3 hv).1, renO_rel hρ (l3 hv).2⟩⟩
    · obtain ⟨l1, l2, l3⟩ := hh.live id o h1
      rw [hψ1 h1]
      refine ⟨.inl l1, l2, fun hv => ⟨Nat.lt_of_lt_of_le (l3 hv).1 hh'.fr.size, (l3 hv).2.mono (fun k hk => ⟨.inl hk, hψA k hk⟩) ?_⟩⟩
      exact hh'.fr.block _ (l3 hv).1 (hS'blk h1 hv h2)
  · rcases look hi with ⟨ji, o1, a1, rfl, a3, a4, a5, a6⟩ | ⟨a1, a2⟩ <;> rcases look hj with ⟨jj, o2, b1, rfl, b3, b4, b5, b6⟩ | ⟨b1, b2⟩
    · rw [a3, b3]
      rw [renO_rw] at hrw
      rw [renO_vd] at hvi hvj
      refine hh'.inj ji jj o1 o2 a1 b1 (fun e => hij ?_) hrw hvi hvj
      subst e
      rcases a6 with ⟨m, m1, rfl⟩ | a6 <;> rcases b6 with ⟨m', m2, rfl⟩ | b6
      · rw [nodup_inj hnn m1 m2]
      · have := (hnew _ (List.mem_of_getElem? m1)).1
        have := (List.getElem?_eq_some_iff.1 b6).1
        omega
      · have := (hnew _ (List.mem_of_getElem? m2)).1
        have := (List.getElem?_eq_some_iff.1 a6).1
        omega
      · rw [a6] at b6; cases b6; rfl
    · rw [a3, hψ1 b1]
      rw [renO_rw] at hrw
      rw [renO_vd] at hvi
      exact hnear b1 hvj b2 (hh'.own ji o1 a1 hrw hvi)
    · rw [b3, hψ1 a1]
      rw [renO_rw] at b5
      rw [renO_vd] at hvj
      exact fun e => hnear a1 hvi a2 (hh'.own jj o2 b1 b5 hvj) e.symm
    · rw [hψ1 a1, hψ1 b1]
      exact hh.inj i j oi oj a1 b1 hij hrw hvi hvj
  · have k := hh'.fr
    exact ⟨k.os.trans hh.fr.os, k.tape.trans hh.fr.tape, k.output.trans hh.fr.output, Nat.le_trans hh.fr.size k.size, fun b hb hS => by
      rw [k.block b (Nat.lt_of_lt_of_le hb hh.fr.size) (fun hS2 => by rcases hown' b (.inr hS2) with h | h; omega; exact hS h)]
      exact hh.fr.block b hb hS, hh.fr.lay⟩
  · rcases look ho with ⟨j, o', h1, rfl, h3, h4, _, _⟩ | ⟨h1, h2⟩
    · rw [h3]
      rw [renO_rw] at hrw
      rw [renO_vd] at hv
      exact hown' _ (hh'.own j o' h1 hrw hv)
    · rw [hψ1 h1]; exact hh.own id o h1 hrw hv
  · obtain ⟨h1, h2⟩ := hh.old id ha
    exact ⟨.inl h1, (hψA id h1).trans h2⟩

end
end Go.Vm
end
section
/- Code, functions, and the whole evaluator. -/
namespace Go.Vm
noncomputable section

/-! ### What is reached -/
def idsV : Nat → Value → List Nat
  | 0, _ => []
  | d + 1, v =>
    match v with
    | .pointer (some ⟨id, _, none⟩) => [id]
    | .slice (some ⟨id, _, none⟩) _ _ => [id]
    | .map (some id) => [id]
    | .agg xs => xs.toList.flatMap (idsV d)
    | .tuple xs => xs.toList.flatMap (idsV d)
    | .func _ xs us => xs.toList.flatMap (idsV d) ++ us.toList.flatMap (idsV d)
    | _ => []

def idsO : AObj → List Nat
  | .row cells _ _ _ flat => if flat then [] else cells.flatMap (idsV 4)
  | .iter _ _ => []
  | .smap _ => []
  | .imap _ => []

def reach (H : Heap) : Nat → List Nat → List Nat → List Nat
  | 0, _, acc => acc.reverse
  | _ + 1, [], acc => acc.reverse
  | n + 1, id :: q, acc =>
    if acc.contains id then reach H n q acc
    else match rd H id with
      | none => reach H n q acc
      | some o => reach H n (idsO o ++ q) (id :: acc)

/-! ### Slots that are let go -/
def clr : List Bool → List Value → List Value
  | true :: m, _ :: e => poi :: clr m e
  | false :: m, v :: e => v :: clr m e
  | _, e => e

theorem clr_len : ∀ (m : List Bool) (e : List Value), (clr m e).length = e.length
  | [], e => by cases e <;> rfl
  | true :: m, [] => rfl
  | false :: m, [] => rfl
  | true :: m, _ :: e => by simp [clr, clr_len m e]
  | false :: m, _ :: e => by simp [clr, clr_len m e]

theorem clr_get : ∀ (m : List Bool) (e : List Value) (t : Nat), (clr m e).getD t poi = poi ∨ (clr m e).getD t poi = e.getD t poi
  | [], e, t => by cases e <;> exact .inr rfl
  | true :: m, [], t => .inr rfl
  | false :: m, [], t => .inr rfl
  | true :: m, _ :: e, 0 => .inl rfl
  | false :: m, _ :: e, 0 => .inr rfl
  | true :: m, _ :: e, t + 1 => by simpa [clr] using clr_get m e t
  | false :: m, _ :: e, t + 1 => by simpa [clr] using clr_get m e t

/-- Let go what is not reached, and number the rest. -/
def gc (base : Nat) (env : List Value) (H : Heap) : Option (List Value × Heap) :=
  let ids := List.range base ++ (reach H 1000 (List.range base ++ env.flatMap (idsV 4)) []).filter (fun id => decide (base ≤ id))
  if nodupB ids && decide (base ≤ H.length) then some (env.map (renV (pos ids) 4), resH H ids) else none

inductive Ex where
  | normal
  | exit (id : Nat)
  | ret

def Ex.to : Ex → Exit
  | .normal => .normal
  | .exit id => .exit id
  | .ret => .ret

def evLoop (cl : List Bool) (lim base : Nat) (step : List Value → Heap → Option (Ex × List Value × Heap)) : Nat → List Value → Heap → Option (Ex × List Value × Heap)
  | 0, _, _ => none
  | n + 1, env, H =>
    match (if H.length < lim then some (env, H) else gc base (clr cl env) H) with
    | some (env1, H1) =>
      match step env1 H1 with
      | some (.normal, e, h) => evLoop cl lim base step n e h
      | r => r
    | none => none

def evCode (P : Program) (call : CallF) (cl : List Bool) (fd lim base N : Nat) : Code → List Value → Heap → Option (Ex × List Value × Heap)
  | .skip, env, H => some (.normal, env, H)
  | .label _, env, H => some (.normal, env, H)
  | .region _ ops draw, env, H =>
    match draw with
    | true =>
      match evDraw P call fd ops 0 ops.toList env H with
      | some (e, h, L) => if drawOK ops L then some (.normal, e, h) else none
      | none => none
    | false =>
      match evOps P call fd ops ops.toList env H with
      | some (e, h) => some (.normal, e, h)
      | none => none
  | .seq x y, env, H =>
    match evCode P call cl fd lim base N x env H with
    | some (.normal, e, h) => evCode P call cl fd lim base N y e h
    | r => r
  | .cond c x y, env, H =>
    match ev env c with
    | .bool true => evCode P call cl fd lim base N x env H
    | .bool false => evCode P call cl fd lim base N y env H
    | _ => none
  | .block id c, env, H =>
    match evCode P call cl fd lim base N c env H with
    | some (.exit i, e, h) => if i = id then some (.normal, e, h) else some (.exit i, e, h)
    | r => r
  | .loop c, env, H => evLoop cl lim base (evCode P call cl fd lim base N c) N env H
  | .scope c, env, H => evCode P call cl fd lim base N c env H
  | .exit id, env, H => some (.exit id, env, H)
  | .ret, env, H => some (.ret, env, H)
  | _, _, _ => none

section
variable {P : Program} {F : Fr P} {A : Nat → Prop} {ψ : Nat → Gh} {env : List Value} {H : Heap} {a : Act} {w : World}

theorem clr_rel (hr : Rel F A ψ env H a w) (cl : List Bool) : Rel F A ψ (clr cl env) H a w := by
  refine ⟨fun t => ?_, by rw [clr_len]; exact hr.len, hr.defers, hr.heap⟩
  rcases clr_get cl env t with h | h
  · rw [h]; exact .poison _
  · rw [h]; exact hr.slot t

theorem gc_rel {base : Nat} {r : List Value × Heap} (h : gc base env H = some r) (hr : Rel F A ψ env H a w) (hb : ∀ id, F.A0 id → id < base) :
    ∃ A' ψ', Rel F A' ψ' r.1 r.2 a w ∧ ∀ id, A' id → id < r.2.length := by
  simp only [gc] at h
  split at h
  · rename_i hn
    simp only [Bool.and_eq_true, decide_eq_true_eq] at hn
    obtain ⟨hn, _⟩ := hn
    cases h
    generalize hids : List.range base ++ (reach H 1000 (List.range base ++ env.flatMap (idsV 4)) []).filter (fun id => decide (base ≤ id)) = ids at *
    have hpin : ∀ j, j < base → ids[j]? = some j := fun j hj => by
      rw [← hids, List.getElem?_append_left (by simpa using hj)]
      simp [hj]
    have hg : ∀ {j id : Nat}, ids[j]? = some id → ids.getD j 0 = id := fun h => by simp [List.getD_eq_getElem?_getD, h]
    refine ⟨_, _, ⟨fun t => ?_, by simpa using hr.len, hr.defers, res_rel hr.heap hn hr.heap.fr (fun j id o _ h2 h3 h4 => hr.heap.own id o h2 h3 h4) (fun j hj => ?_)⟩, fun j hj => ?_⟩
    · have hρ : ∀ id j, A id → pos ids id = some j → (∃ id : Nat, ids[j]? = some id ∧ A id) ∧ ψ (ids.getD j 0) = ψ id := fun id j ha hj => by
        have := pos_spec hj
        exact ⟨⟨id, this, ha⟩, by rw [hg this]⟩
      by_cases ht : t < env.length
      · have e1 : (env.map (renV (pos ids) 4)).getD t poi = renV (pos ids) 4 (env.getD t poi) := by simp [List.getD_eq_getElem?_getD, ht]
        rw [e1]; exact renV_rel hρ 4 (hr.slot t)
      · have e1 : (env.map (renV (pos ids) 4)).getD t poi = poi := by simp [List.getD_eq_getElem?_getD, ht]
        rw [e1]; exact .poison _
    · have h1 := hpin j (hb j hj)
      have h2 := hr.heap.old j hj
      exact ⟨j, h1, h2.1, h2.2⟩
    · obtain ⟨id, h1, _⟩ := hj
      have := (List.getElem?_eq_some_iff.1 h1).1
      simpa [resH] using this
  · cases h

def Goes (P : Program) (base : Nat) (c : Code) (env : List Value) (H : Heap) (x : Ex) (e : List Value) (h : Heap) : Prop :=
  ∀ (F : Fr P) A ψ a w (Q : Exit → Act → World → Prop), Rel F A ψ env H a w → (∀ id, A id → id < H.length) → (∀ id, F.A0 id → id < base) →
    (∀ A' ψ' a' w', Rel F A' ψ' e h a' w' → (∀ id, A' id → id < h.length) → Q x.to a' w') → c.wp P Q a w

theorem evCode_ok {call : CallF} (hm : P.follows .mixedOrders = true) (hc : CallOK P call) {cl : List Bool} {fd lim base N : Nat} : ∀ (c : Code) (env : List Value) (H : Heap) (x : Ex) (e : List Value) (h : Heap),
    evCode P call cl fd lim base N c env H = some (x, e, h) → Goes P base c env H x e h := by
  intro c
  induction c with
  | skip => intro env H x e h hev F A ψ a w Q hr hb hF hQ; cases hev; exact wp_skip (hQ _ _ _ _ hr hb)
  | label l => intro env H x e h hev F A ψ a w Q hr hb hF hQ; cases hev; exact wp_label (hQ _ _ _ _ hr hb)
  | exit id => intro env H x e h hev F A ψ a w Q hr hb hF hQ; cases hev; exact wp_exit (hQ _ _ _ _ hr hb)
  | ret => intro env H x e h hev F A ψ a w Q hr hb hF hQ; cases hev; exact wp_ret (hQ _ _ _ _ hr hb)
  | region id ops draw =>
    intro env H x e h hev F A ψ a w Q hr hb hF hQ
    simp only [evCode] at hev
    cases draw with
    | true =>
      simp only at hev
      split at hev
      · rename_i e1 h1 L hd
        split at hev
        · rename_i hok
          cases hev
          obtain ⟨t1, t2, t3⟩ := evDraw_trace hc _ _ _ _ _ _ _ hd
          refine wp_region_any hm ?_
          have hsz : ops.toList.length = ops.size := by simp
          rw [hsz] at t3
          have hSS : inS (Array.replicate ops.size false) = fun _ => false := by
            funext i
            simp only [inS, Array.getD_eq_getD_getElem?, Array.getElem?_replicate]
            split <;> rfl
          have hrel : Rel F (AS A L (inS (Array.replicate ops.size false))) ψ (envS (inS (Array.replicate ops.size false)) L env) (hS (inS (Array.replicate ops.size false)) L H) a { w with drawn := w.drawn + 1 } := by
            rw [hSS]
            have n1 : ∀ (M : List Tri) (e : List Value), envS (fun _ => false) M e = e := by
              intro M; induction M with
              | nil => intro e; rfl
              | cons z M ih => intro e; obtain ⟨_, _, _⟩ := z; simp only [envS]; exact ih _
            have n2 : ∀ (M : List Tri) (e : Heap), hS (fun _ => false) M e = e := by
              intro M; induction M with
              | nil => intro e; rfl
              | cons z M ih => intro e; obtain ⟨_, _, _⟩ := z; simp only [hS]; exact ih _
            rw [n1, n2]
            have : AS A L (fun _ => false) = A := by
              funext id; simp [AS]
            rw [this]
            exact ⟨hr.slot, hr.len, hr.defers, hr.heap.alike rfl rfl rfl rfl⟩
          refine any_ok t1 t2 t3 hok hb (F := F) (Q := Q) (fun A' ψ' a' w' h1 h2 => hQ A' ψ' a' w' h1 h2) ops.size _ ψ a _ (by simp) (fun j o _ hj => ?_) ?_ hrel
          · rw [hSS] at hj; cases hj
          · exact Nat.le_trans (List.length_filter_le _ _) (by simp)
        · cases hev
      · cases hev
    | false =>
      simp only at hev
      split at hev
      · rename_i e1 h1 hd
        cases hev
        exact wp_region_list (evOps_plain hc _ _ _ _ hd F A ψ a w Q hr hb (fun A' ψ' a' w' h1 h2 => hQ A' ψ' a' w' h1 h2))
      · cases hev
  | seq x y ihx ihy =>
    intro env H r e h hev F A ψ a w Q hr hb hF hQ
    simp only [evCode] at hev
    split at hev
    · rename_i e1 h1 hx
      refine wp_seq (ihx _ _ _ _ _ hx F A ψ a w _ hr hb hF fun A' ψ' a' w' k1 k2 => ?_)
      exact ihy _ _ _ _ _ hev F A' ψ' a' w' Q k1 k2 hF hQ
    · rename_i hne
      refine wp_seq (ihx _ _ _ _ _ hev F A ψ a w _ hr hb hF fun A' ψ' a' w' k1 k2 => ?_)
      cases r with
      | normal => exact absurd hev (hne _ _)
      | exit id => exact hQ _ _ _ _ k1 k2
      | ret => exact hQ _ _ _ _ k1 k2
  | cond c x y ihx ihy =>
    intro env H r e h hev F A ψ a w Q hr hb hF hQ
    simp only [evCode] at hev
    have hcv := hr.ev c
    split at hev
    · rename_i hv
      rw [hv] at hcv
      exact wp_cond_true (hcv.of_atom rfl) (ihx _ _ _ _ _ hev F A ψ a w Q hr hb hF hQ)
    · rename_i hv
      rw [hv] at hcv
      exact wp_cond_false (hcv.of_atom rfl) (ihy _ _ _ _ _ hev F A ψ a w Q hr hb hF hQ)
    · cases hev
  | block id c ih =>
    intro env H r e h hev F A ψ a w Q hr hb hF hQ
    simp only [evCode] at hev
    split at hev
    · rename_i i e1 h1 hx
      refine wp_block (ih _ _ _ _ _ hx F A ψ a w _ hr hb hF fun A' ψ' a' w' k1 k2 => ?_)
      simp only [Ex.to, Exit.inBlock]
      split at hev
      · rename_i hi
        rw [if_pos hi]
        cases hev; exact hQ _ _ _ _ k1 k2
      · rename_i hi
        rw [if_neg hi]
        cases hev; exact hQ _ _ _ _ k1 k2
    · rename_i hne
      refine wp_block (ih _ _ _ _ _ hev F A ψ a w _ hr hb hF fun A' ψ' a' w' k1 k2 => ?_)
      cases r with
      | normal => exact hQ _ _ _ _ k1 k2
      | exit id => exact absurd hev (hne _ _ _)
      | ret => exact hQ _ _ _ _ k1 k2
  | loop c ih =>
    intro env H r e h hev F A ψ a w Q hr hb hF hQ
    simp only [evCode] at hev
    have key : ∀ (n : Nat) (env : List Value) (H : Heap) (A : Nat → Prop) (ψ : Nat → Gh) (a : Act) (w : World), evLoop cl lim base (evCode P call cl fd lim base N c) n env H = some (r, e, h) → Rel F A ψ env H a w → (∀ id, A id → id < H.length) → Code.rounds P c Q n a w := by
      intro n
      induction n with
      | zero => intro env H A ψ a w h1 _ _; simp [evLoop] at h1
      | succ n ihn =>
        intro env H A ψ a w h1 hr hb
        simp only [evLoop] at h1
        split at h1
        · rename_i env1 H1 hgc
          obtain ⟨A', ψ', g1, g2⟩ : ∃ A' ψ', Rel F A' ψ' env1 H1 a w ∧ ∀ id, A' id → id < H1.length := by
            split at hgc
            · cases hgc; exact ⟨A, ψ, hr, hb⟩
            · exact gc_rel hgc (clr_rel hr cl) hF
          rw [rounds_succ]
          split at h1
          · rename_i e2 h2 hstep
            exact ih _ _ _ _ _ hstep F A' ψ' a w _ g1 g2 hF fun A2 ψ2 a2 w2 k1 k2 => ihn _ _ _ _ _ _ h1 k1 k2
          · rename_i hne
            refine ih _ _ _ _ _ h1 F A' ψ' a w _ g1 g2 hF fun A2 ψ2 a2 w2 k1 k2 => ?_
            cases r with
            | normal => exact absurd h1 (hne _ _)
            | exit id => exact hQ _ _ _ _ k1 k2
            | ret => exact hQ _ _ _ _ k1 k2
        · cases h1
    exact wp_loop_rounds N (key N env H A ψ a w hev hr hb)
  | scope c ih =>
    intro env H r e h hev F A ψ a w Q hr hb hF hQ
    simp only [evCode] at hev
    refine wp_scope_straight (ih _ _ _ _ _ hev F A ψ a w _ hr hb hF fun A' ψ' a' w' k1 k2 => ?_)
    cases r <;> exact hQ _ _ _ _ k1 k2
  | _ => intro env H x e h hev; simp [evCode] at hev

/-- A variable, read whole. -/
theorem loadVar_rel {t : TypeId} {v v' : Value} {out : Out} (h : evLoad P H t v = some out) (hh : HRel F A ψ H w) (hv : VR A ψ v v') :
    ∃ ad u, v' = .pointer (some ad) ∧ (loadVar t ad).run P w = .ok u w ∧ VR A ψ out.v u := by
  unfold evLoad at h
  split at h
  · rename_i id off
    split at h
    · rename_i cells es more rw flat hrd
      obtain ⟨v1, hp, rfl⟩ := Option.map_eq_some_iff.1 h
      obtain ⟨_, rfl⟩ := hv.ptr_inv
      refine ⟨⟨(ψ id).blk, (ψ id).off + off, none⟩, ?_⟩
      unfold evPart at hp
      split at hp
      · rename_i d i hu hi
        split at hp
        · rename_i hrow
          split at hp
          · rename_i hle
            cases hp
            obtain ⟨vs, k1, k2, k3, k4⟩ := row_range hh hrd off i.size hle
            exact ⟨.agg vs.toArray, rfl, run_loadVar_mid w (ψ id).blk ((ψ id).off + off) t vs d k3 hu hrow (by simp [hi, k1]),
              .agg _ _ (by simp [k1]; omega) (by simpa using k2) fun j => by simpa [Array.getD_eq_getD_getElem?, List.getD_eq_getElem?_getD] using k4 j⟩
          · cases hp
        · rename_i hrow
          have hlt := (List.getElem?_eq_some_iff.1 hp).1
          obtain ⟨v2, k1, k2, k3⟩ := row_cells hh hrd off hlt
          have hrow' : d.isRow = false := by simpa using hrow
          have hg : cells.getD off poi = v1 := by simp [List.getD_eq_getElem?_getD, hp]
          rw [hg] at k3
          exact ⟨v2, rfl, by simp [loadVar, run_isAgg' hu, hrow', k1], k3⟩
      · cases hp
    · cases h
  · cases h

/-! ### Functions -/
def evResult (P : Program) (env : List Value) (H : Heap) : ResultVar → Option Value
  | .tmp t => some (gt env t)
  | .cell t ty => (evLoad P H ty (gt env t)).map (·.v)

def evResultL (P : Program) (env : List Value) (H : Heap) : List ResultVar → Option (List Value)
  | [] => some []
  | r :: l => match evResult P env H r, evResultL P env H l with
    | some v, some vs => some (v :: vs)
    | _, _ => none

def one (vs : List Value) : Value :=
  match vs with
  | [v] => v
  | vs => .tuple vs.toArray

def runFn (P : Program) (call : CallF) (K : FuncId → List Bool) (fd lim N : Nat) (f : FuncId) (args : List Value) (H : Heap) : Option (Value × Heap) :=
  match P.funcs[f]? with
  | some fn =>
    match fn.body with
    | some c =>
      match evCode P call (K f) fd lim H.length N c (args ++ List.replicate (fn.ntmps - args.length) undef) H with
      | some (.normal, e, h) => (evResultL P e h fn.results.toList).map fun vs => (one vs, h)
      | some (.ret, e, h) => (evResultL P e h fn.results.toList).map fun vs => (one vs, h)
      | _ => none
    | none => none
  | none => none

theorem results_rel : ∀ (l : List ResultVar) (vs : List Value), evResultL P env H l = some vs → Rel F A ψ env H a w →
    ∃ us, (∀ g : ResultVar → Sem Value, (∀ t, g (.tmp t) = pure (a.tmps.getD t undef)) → (∀ x t, g (.cell x t) = (do loadVar t (← asAddr (a.tmps.getD x undef)))) → (l.mapM g).run P w = .ok us w) ∧ LR A ψ vs us
  | [], vs, h, hr => by simp [evResultL] at h; subst h; exact ⟨[], fun _ _ _ => rfl, rfl, fun i => by simp; exact .poison _⟩
  | r :: l, vs, h, hr => by
    simp only [evResultL] at h
    split at h
    · rename_i v vs' h1 h2
      cases h
      obtain ⟨us, k1, k2⟩ := results_rel l vs' h2 hr
      have : ∃ u, (∀ g : ResultVar → Sem Value, (∀ t, g (.tmp t) = pure (a.tmps.getD t undef)) → (∀ x t, g (.cell x t) = (do loadVar t (← asAddr (a.tmps.getD x undef)))) → (g r).run P w = .ok u w) ∧ VR A ψ v u := by
        cases r with
        | tmp t => simp only [evResult, Option.some.injEq, gt_eq] at h1; subst h1; exact ⟨_, fun g g1 _ => by rw [g1]; rfl, hr.slot t⟩
        | cell x t =>
          simp only [evResult, gt_eq] at h1
          obtain ⟨out, h3, rfl⟩ := Option.map_eq_some_iff.1 h1
          obtain ⟨ad, u, e1, e2, e3⟩ := loadVar_rel h3 hr.heap (hr.slot x)
          exact ⟨u, fun g _ g2 => by rw [g2]; simp [e1, asAddr, e2], e3⟩
      obtain ⟨u, q1, q2⟩ := this
      refine ⟨u :: us, fun g g1 g2 => ?_, by simp [k2.len], fun i => ?_⟩
      · rw [List.mapM_cons, Sem.run_bind, q1 g g1 g2, Result.andThen_ok, Sem.run_bind, k1 g g1 g2]; rfl
      · cases i with
        | zero => simpa using q2
        | succ i => simpa using k2.at_ i
    · cases h

theorem LR.one_rel {vs us : List Value} (h : LR A ψ vs us) : VR A ψ (one vs) (if h : us.toArray.size = 1 then us.toArray[0] else .tuple us.toArray) := by
  cases vs with
  | nil =>
    have : us = [] := List.eq_nil_of_length_eq_zero (by simpa using h.len)
    subst this
    exact .refl_undef
  | cons v r =>
    cases r with
    | nil =>
      have hl := h.len
      obtain ⟨u, rfl⟩ : ∃ u, us = [u] := List.length_eq_one_iff.1 (by simpa using hl)
      have := h.at_ 0
      simpa [one] using this
    | cons v2 r =>
      have hl := h.len
      have : ¬ us.toArray.size = 1 := by simp at hl ⊢; omega
      rw [dif_neg this]
      refine .tuple _ _ (by simpa using hl.symm) fun i => ?_
      simpa [Array.getD_eq_getD_getElem?, List.getD_eq_getElem?_getD] using h.at_ i

theorem runFn_ok {call : CallF} (hm : P.follows .mixedOrders = true) (hc : CallOK P call) {K : FuncId → List Bool} {fd lim N : Nat} {f : FuncId} {args : List Value} {ret : Value} {H' : Heap}
    (h : runFn P call K fd lim N f args H = some (ret, H')) : SmallRes P f args H ret H' := by
  unfold runFn at h
  split at h
  · rename_i fn hfn
    split at h
    · rename_i c hbody
      have main : ∀ (x : Ex) (e : List Value) (hp : Heap), (x = .normal ∨ x = .ret) → evCode P call (K f) fd lim H.length N c (args ++ List.replicate (fn.ntmps - args.length) undef) H = some (x, e, hp) →
          (evResultL P e hp fn.results.toList).map (fun vs => (one vs, hp)) = some (ret, H') → SmallRes P f args H ret H' := by
        intro x e hp hx hev hres F A ψ w args' hh hb hA hψ hl
        obtain ⟨vs, hvs, he⟩ := Option.map_eq_some_iff.1 hres
        cases he
        have hlen : args'.toArray.size = args.length := by simpa using hl.len
        refine calls_of_wp hfn hbody ?_
        refine evCode_ok hm hc c _ _ _ _ _ hev { F with ds := [] } A ψ _ w _ ⟨fun t => ?_, ?_, rfl, hh.ds []⟩ hb (fun id hid => hb id (by rw [← hA]; exact hid)) fun A' ψ' a' w' k1 k2 => ?_
        · have hrep : LR A ψ (List.replicate (fn.ntmps - args.length) undef) (List.replicate (fn.ntmps - args.length) undef) := ⟨rfl, fun i => by
            by_cases hi : i < fn.ntmps - args.length
            · simp only [List.getD_eq_getElem?_getD, List.getElem?_replicate, hi, if_true, Option.getD_some]; exact .refl_undef
            · simp only [List.getD_eq_getElem?_getD, List.getElem?_replicate, hi, if_false, Option.getD_none]; exact .poison _⟩
          have := (hl.append hrep).at_ t
          rw [hlen]
          have e2 : (args'.toArray ++ Array.replicate (fn.ntmps - args.length) undef).getD t undef = (args' ++ List.replicate (fn.ntmps - args.length) undef).getD t undef := by
            simp [Array.getD_eq_getD_getElem?, List.getD_eq_getElem?_getD, ← List.toArray_replicate]
          rw [e2]; exact this
        · have := hl.len; simp; omega
        · obtain ⟨us, r1, r2⟩ := results_rel _ _ hvs k1
          have hres' : (results fn a'.tmps).run P w' = .ok (if h : us.toArray.size = 1 then us.toArray[0] else .tuple us.toArray) w' := by
            unfold results
            rw [Array.mapM_eq_mapM_toList]
            simp only [Sem.run_bind, Sem.run_map]
            rw [r1 _ (fun _ => rfl) (fun _ _ => rfl)]
            rfl
          rcases hx with rfl | rfl
          · exact ⟨k1.defers, _, hres', _, A', ψ', rfl, k1.heap.of_ds, k2, r2.one_rel⟩
          · exact ⟨k1.defers, _, hres', _, A', ψ', rfl, k1.heap.of_ds, k2, r2.one_rel⟩
      split at h
      · rename_i e hp hev; exact main _ _ _ (.inl rfl) hev h
      · rename_i e hp hev; exact main _ _ _ (.inr rfl) hev h
      · cases h
    · cases h
  · cases h

/-- What comes back, and no more. -/
def tidy (n : Nat) (ret : Value) (H' : Heap) : Option (Value × Heap) :=
  match gc n [ret] H' with
  | some ([v], h) => some (v, h)
  | _ => none

abbrev Orc := List Value → Heap → Option (Value × Heap)

def OrcOK (P : Program) (O : FuncId → Option Orc) : Prop := ∀ f orc, O f = some orc → ∀ args H ret H', orc args H = some (ret, H') → SmallRes P f args H ret H'

/-- What comes back is numbered. -/
def newIds (H' : Heap) (k : Nat) (ret : Value) : List Nat := (reach H' 1000 (List.range k ++ idsV 4 ret) []).filter (fun id => decide (k ≤ id))

def wrapC (run : Orc) : List Value → Heap → Nat → Option Out := fun args H nid =>
  let ids := reach H 1000 (args.flatMap (idsV 4)) []
  match run (args.map (renV (pos ids) 4)) (resH H ids) with
  | some (ret, H') => if backOK H ids (newIds H' ids.length ret) H' then some (back H ids (newIds H' ids.length ret) nid ret H') else none
  | none => none

def evF (P : Program) (O : FuncId → Option Orc) (K : FuncId → List Bool) (fd lim N : Nat) : Nat → CallF
  | 0 => fun _ _ _ _ => none
  | n + 1 => fun f => match O f with
    | some orc => wrapC orc
    | none => wrapC (runFn P (evF P O K fd lim N n) K fd lim N f)

theorem evF_ok {O : FuncId → Option Orc} (hm : P.follows .mixedOrders = true) (hO : OrcOK P O) {K : FuncId → List Bool} {fd lim N : Nat} : ∀ n, CallOK P (evF P O K fd lim N n) := by
  have wrap : ∀ (run : Orc) (f : FuncId) (args : List Value) (H : Heap) (nid : Nat) (out : Out), (∀ args H ret H', run args H = some (ret, H') → SmallRes P f args H ret H') → wrapC run args H nid = some out → CallRes P f args H out := by
    intro run f args H nid out hrun h
    simp only [wrapC] at h
    split at h
    · rename_i ret H' hr
      split at h
      · rename_i hb
        cases h
        exact call_lift (hrun _ _ _ _ hr) hb
      · cases h
    · cases h
  intro n
  induction n with
  | zero => intro f args H nid out h; simp [evF] at h
  | succ n ih =>
    intro f args H nid out h
    simp only [evF] at h
    cases ho : O f with
    | some orc =>
      rw [ho] at h
      exact wrap orc f args H nid out (fun args H ret H' hr => hO f orc ho args H ret H' hr) h
    | none =>
      rw [ho] at h
      exact wrap _ f args H nid out (fun args H ret H' hr => runFn_ok hm ih hr) h

end
end
end Go.Vm
end
section
/- Fences; frames taken anew; iterators; the range over a function. -/
namespace Go.Vm
open Go.RowKit
noncomputable section

/-! ### The fence: every function; a frame of a function, or of a round -/
def fen (ro : Option Nat) : Fence := { fn := fun _ => True, depth := none, alive := false, round := ro }

theorem fen_room {ro : Option Nat} (n : Nat) : (fen ro).room n := fun _ h => by simp [fen] at h
theorem fen_depth {ro : Option Nat} {p : Prop} (h : (fen ro).depth.isSome = true) : p := by simp [fen] at h

section
variable {P : Program} {ro : Option Nat} {n : Nat}

theorem callsIn_fen {f : FuncId} {args : Array Value} {w : World} {R : Ending → World → Prop} : CallsIn (fen ro) n P f args w R ↔ Calls P f args w R :=
  (Iff.rfl : CallsIn (fen ro) n P f args w R ↔ CallsIn Fence.wide n P f args w R).trans callsIn_wide

theorem callsIn_any {ro' : Option Nat} {m : Nat} {f : FuncId} {args : Array Value} {w : World} {R : Ending → World → Prop} (h : CallsIn (fen ro) n P f args w R) : CallsIn (fen ro') m P f args w R :=
  callsIn_fen.2 (callsIn_fen.1 h)

theorem rowsIn_fen {row : String} {args : Array Value} {w : World} {R : Value → World → Prop} (h : Rows P row args w R) : RowsIn (fen ro) n P row args w R :=
  fun c cs _ => let ⟨v, w', r, s⟩ := h c cs; ⟨v, w', r, (stepsIn_wide (P := P)).2 s⟩

/-- Nothing but what goes on. -/
def onlyN (Q : Exit → Act → World → Prop) : Exit → Act → World → Prop
  | .normal, a, w => Q .normal a w
  | _, _, _ => False

theorem upon_in {o : Oper} {a : Act} {K : Act → World → Prop} {Q : Exit → Act → World → Prop} : ∀ {r : Result Next}, o.upon P a K Q r → o.uponIn (fen ro) n P a K Q r := by
  intro r h
  cases r with
  | ok x w' =>
    cases x <;> simp only [Oper.upon, Oper.uponIn] at h ⊢ <;>
      first
        | exact h
        | exact ⟨fun h => fen_depth h, callsIn_fen.2 (Calls.mono h fun e w'' he => by cases e <;> exact he)⟩
        | exact ⟨fun h => fen_depth h, rowsIn_fen h⟩
  | halt x w' => cases x <;> simp only [Oper.upon, Oper.uponIn] at h ⊢ <;> exact h

theorem oper_in {o : Oper} {a : Act} {w : World} {K : Act → World → Prop} {Q : Exit → Act → World → Prop} (hd : ro = none ∨ ∀ c, o.op ≠ .defer c) (h : o.wp P a w K Q) : o.wpIn (fen ro) n P a w K Q :=
  ⟨fun _ _ => trivial, by
    have : o.semAt (fen ro).round a.eval = execOp a.eval o := by
      rcases hd with rfl | hd
      · rfl
      · exact Oper.semAt_eq _ _ _ hd
    rw [this]; exact upon_in h⟩

theorem not_out {Q : Exit → Act → World → Prop} : ¬ LetsOut (onlyN Q) := fun ⟨_, _, h⟩ => h

def noDef (ops : List Oper) : Bool := ops.all fun o => match o.op with | .defer _ => false | _ => true

theorem noDef_spec {ops : List Oper} (h : noDef ops = true) : ∀ o ∈ ops, ∀ c, o.op ≠ .defer c := by
  intro o ho c hc
  have := List.all_eq_true.1 h o ho
  rw [hc] at this; cases this

theorem wpOp_in {ops : Array Oper} (hd : ro = none ∨ noDef ops.toList = true) {Q : Exit → Act → World → Prop} {i : Nat} {K K' : Act → World → Prop} {a : Act} {w : World} (hK : ∀ a w, K a w → K' a w)
    (h : wpOp P ops (onlyN Q) i K a w) : wpOpIn (fen ro) n P ops (onlyN Q) i K' a w := by
  unfold wpOp at h
  unfold wpOpIn
  cases ho : ops[i]? with
  | none => rw [ho] at h; exact hK _ _ h
  | some o =>
    rw [ho] at h
    simp only at h ⊢
    split
    · rename_i hw
      rw [if_pos hw] at h
      rcases h with h | ⟨_, h⟩
      · refine Oper.wpIn_mono hK (oper_in ?_ h)
        rcases hd with hd | hd
        · exact .inl hd
        · exact .inr (noDef_spec hd o (by
            have := Array.mem_of_getElem? ho
            simpa using this))
      · exact absurd h not_out
    · rename_i hw
      rw [if_neg hw] at h
      exact ⟨fun _ _ => trivial, hK _ _ h⟩

theorem wpAny_in {md : Region.Mode} {ops : Array Oper} (hd : ro = none ∨ noDef ops.toList = true) {Q : Exit → Act → World → Prop} : ∀ (fuel : Nat) (listed : Array Bool) (a : Act) (w : World),
    wpAny P md ops (onlyN Q) fuel listed a w → wpAnyIn (fen ro) n P md ops (onlyN Q) fuel listed a w
  | 0, _, _, _, h => h
  | fuel + 1, _listed, _a, _w, h => ⟨h.1, fun i hi => wpOp_in hd (fun a w => wpAny_in hd fuel _ a w) (h.2 i hi)⟩

theorem wpList_in {ops : Array Oper} {Q : Exit → Act → World → Prop} : ∀ (l : List Oper) (_ : ro = none ∨ noDef l = true) (a : Act) (w : World),
    wpList P ops (onlyN Q) l a w → wpListIn (fen ro) n P ops (onlyN Q) l a w
  | [], _, _, _, h => h
  | o :: r, hd, a, w, h => by
    have hr : ro = none ∨ noDef r = true := hd.imp id fun h => by simp only [noDef, List.all_cons, Bool.and_eq_true] at h; exact h.2
    simp only [wpList, wpListIn] at h ⊢
    split
    · rename_i hw
      rw [if_pos hw] at h
      rcases h with h | ⟨_, h⟩
      · exact Oper.wpIn_mono (fun a w => wpList_in r hr a w) (oper_in (hd.imp id fun h => noDef_spec h o (by simp)) h)
      · exact absurd h not_out
    · rename_i hw
      rw [if_neg hw] at h
      exact ⟨fun _ _ => trivial, wpList_in r hr _ _ h⟩

theorem onlyN_mono {c : Code} {Q : Exit → Act → World → Prop} {a : Act} {w : World} (h : c.wpIn (fen ro) n P (onlyN Q) a w) : c.wpIn (fen ro) n P Q a w :=
  wpIn_mono h fun e _ _ h => by cases e <;> first | exact h | exact h.elim
end

/-! ### Frames, taken anew -/
section
variable {P : Program} {F F' F'' : Fr P} {A A' : Nat → Prop} {ψ ψ' : Nat → Gh} {H H' : Heap} {w w' : World}

/-- The blocks that are its own. -/
def rwB (ψ : Nat → Gh) (H : Heap) : Nat → Prop := fun b => ∃ id o, rd H id = some o ∧ o.rw = true ∧ o.vd = false ∧ (ψ id).blk = b

def rebase (P : Program) (w : World) (ψ : Nat → Gh) (H : Heap) (A0 : Nat → Prop) (ψ0 : Nat → Gh) (ds : List Deferred) : Fr P := ⟨w, rwB ψ H, A0, ψ0, ds⟩

theorem rwB_own (h : HRel F A ψ H w) {b : Nat} (hb : rwB ψ H b) : F.w0.heap.size ≤ b ∨ F.S b := by
  obtain ⟨id, o, h1, h2, h3, rfl⟩ := hb
  exact h.own id o h1 h2 h3

theorem HRel.rebase (h : HRel F A ψ H w) {A0 : Nat → Prop} {ψ0 : Nat → Gh} {ds : List Deferred} (hA : ∀ id, A0 id → A id ∧ ψ id = ψ0 id) : HRel (rebase P w ψ H A0 ψ0 ds) A ψ H w where
  live := h.live
  inj := h.inj
  fr := ⟨rfl, rfl, rfl, Nat.le_refl _, fun _ _ _ => rfl, fun w' h1 h2 => h.fr.lay w' (fun k hk hS => by
    refine (h1 k (Nat.lt_of_lt_of_le hk h.fr.size) fun hb => ?_).trans (h.fr.block k hk hS)
    rcases rwB_own h hb with h | h
    · omega
    · exact hS h) (Nat.le_trans h.fr.size h2)⟩
  own id o h1 h2 h3 := .inr ⟨id, o, h1, h2, h3, rfl⟩
  old := hA

theorem HRel.unbase (h : HRel F A ψ H w) {A0 : Nat → Prop} {ψ0 : Nat → Gh} {ds : List Deferred} (h' : HRel (Vm.rebase P w ψ H A0 ψ0 ds) A' ψ' H' w') (hA : ∀ id, F.A0 id → A0 id ∧ ψ0 id = F.ψ0 id) : HRel F A' ψ' H' w' where
  live := h'.live
  inj := h'.inj
  fr := ⟨h'.fr.os.trans h.fr.os, h'.fr.tape.trans h.fr.tape, h'.fr.output.trans h.fr.output, Nat.le_trans h.fr.size h'.fr.size, fun k hk hS => by
    refine (h'.fr.block k (Nat.lt_of_lt_of_le hk h.fr.size) fun hb => ?_).trans (h.fr.block k hk hS)
    rcases rwB_own h hb with h | h
    · omega
    · exact hS h, h.fr.lay⟩
  own id o h1 h2 h0 := by
    rcases h'.own id o h1 h2 h0 with h3 | h3
    · exact .inl (Nat.le_trans h.fr.size h3)
    · exact rwB_own h h3
  old id hid := by
    obtain ⟨h1, h2⟩ := hA id hid
    obtain ⟨h3, h4⟩ := h'.old id h1
    exact ⟨h3, h4.trans h2⟩

/-- What is no cells and no walk's object is no object's block. -/
theorem HRel.not_block (h : HRel F A ψ H w) {l : Nat} {x : Obj} (hl : w.heap[l]? = some x) (h1 : x.isWalk = false) (h2 : ∀ c e f, x ≠ .cells c e f) {id : Nat} {o : AObj} (ho : rd H id = some o) (hv : o.vd = false) : (ψ id).blk ≠ l := by
  intro e
  obtain ⟨_, h3⟩ := (h.live id o ho).2.2 hv
  cases o with
  | row cells es more rw flat =>
    obtain ⟨arr, el, fz, h4, _⟩ := h3
    rw [e, hl] at h4; cases h4; exact h2 _ _ _ rfl
  | iter s pos =>
    obtain ⟨_, h4⟩ := h3
    rw [e, hl] at h4; cases h4; cases h1
  | smap es =>
    obtain ⟨_, arr, c, h4, _⟩ := h3
    rw [e, hl] at h4; cases h4; cases h1
  | imap es =>
    obtain ⟨_, arr, c, h4, _⟩ := h3
    rw [e, hl] at h4; cases h4; cases h1

theorem HRel.putObj (h : HRel F A ψ H w) {l : Nat} {x : Obj} (hl : w.heap[l]? = some x) (h1 : x.isWalk = false) (h2 : ∀ c e f, x ≠ .cells c e f) (hn : F.w0.heap.size ≤ l) (y : Obj) : HRel F A ψ H (w.putObj l y) where
  live id o ho := by
    obtain ⟨a, b, c⟩ := h.live id o ho
    exact ⟨a, b, fun hv => ⟨by simpa using (c hv).1, (c hv).2.mono (fun _ ha => ⟨ha, rfl⟩) (World.putObj_heap_other (h.not_block hl h1 h2 ho hv))⟩⟩
  inj := h.inj
  fr := ⟨h.fr.os, h.fr.tape, h.fr.output, by simpa using h.fr.size, fun k hk hS => (World.putObj_heap_other (by omega)).trans (h.fr.block k hk hS), h.fr.lay⟩
  own := h.own
  old := h.old

theorem HRel.below' (h : HRel F A ψ H w) (hb : Below w.heap.size w w') : HRel F A ψ H w' where
  live id o ho := by
    obtain ⟨h1, h2, h3⟩ := h.live id o ho
    exact ⟨h1, h2, fun hv => ⟨Nat.lt_of_lt_of_le (h3 hv).1 hb.size, (h3 hv).2.mono (fun _ ha => ⟨ha, rfl⟩) (hb.block _ (h3 hv).1)⟩⟩
  inj := h.inj
  fr := ⟨hb.os.trans h.fr.os, hb.tape.trans h.fr.tape, hb.output.trans h.fr.output, Nat.le_trans h.fr.size hb.size, fun k hk hs => (hb.block k (Nat.lt_of_lt_of_le hk h.fr.size)).trans (h.fr.block k hk hs), h.fr.lay⟩
  own := h.own
  old := h.old

/-- A block for deferred calls that nobody turns. -/
def Mk (F : Fr P) (D : Nat) : Prop := F.w0.heap[D]? = some (.deferred (some [])) ∧ ¬ F.S D
def mark (D : Nat) : Deferred := { target := .collected D, args := #[] }

/-- A frame that is another one's continuation. -/
structure Ext (F F' : Fr P) : Prop where
  back : ∀ {A ψ H w}, HRel F' A ψ H w → HRel F A ψ H w
  A0 : F'.A0 = F.A0
  size : F.w0.heap.size ≤ F'.w0.heap.size
  mks : ∀ D, Mk F D → Mk F' D
  ds : ∃ l : List Nat, F'.ds = l.map mark ++ F.ds ∧ l.Nodup ∧ ∀ D ∈ l, F.w0.heap.size ≤ D ∧ D < F'.w0.heap.size ∧ Mk F' D

theorem Ext.refl (F : Fr P) : Ext F F := ⟨id, rfl, Nat.le_refl _, fun _ h => h, [], by simp⟩

theorem Ext.trans (h : Ext F F') (k : Ext F' F'') : Ext F F'' := by
  refine ⟨fun x => h.back (k.back x), k.A0.trans h.A0, Nat.le_trans h.size k.size, fun D x => k.mks D (h.mks D x), ?_⟩
  obtain ⟨l, h1, h2, h3⟩ := h.ds
  obtain ⟨m, k1, k2, k3⟩ := k.ds
  refine ⟨m ++ l, by rw [k1, h1]; simp, ?_, fun D hD => ?_⟩
  · rw [List.nodup_append]
    exact ⟨k2, h2, fun x hx y hy e => by have := (k3 x hx).1; have := (h3 y hy).2.1; omega⟩
  · rcases List.mem_append.1 hD with hD | hD
    · obtain ⟨a, b, c⟩ := k3 D hD
      exact ⟨Nat.le_trans h.size a, b, c⟩
    · obtain ⟨a, b, c⟩ := h3 D hD
      exact ⟨a, Nat.lt_of_lt_of_le b k.size, k.mks D c⟩

/-- The same, and the very same where nothing marks it. -/
structure ExtP (pl : Bool) (F F' : Fr P) : Prop where
  x : Ext F F'
  e : pl = true → F' = F

theorem ExtP.refl (pl : Bool) (F : Fr P) : ExtP pl F F := ⟨Ext.refl F, fun _ => rfl⟩
theorem ExtP.trans {pl : Bool} (h : ExtP pl F F') (k : ExtP pl F' F'') : ExtP pl F F'' := ⟨h.x.trans k.x, fun e => (k.e e).trans (h.e e)⟩
theorem ExtP.weak {pl pl' : Bool} (hp : pl = true → pl' = true) (h : ExtP pl' F F') : ExtP pl F F' := ⟨h.x, fun e => h.e (hp e)⟩

/-- No deferred calls, no ranges over functions, no labels: what a round may hold. -/
def plainC : Code → Bool
  | .region _ ops _ => noDef ops.toList
  | .seq x y => plainC x && plainC y
  | .cond _ x y => plainC x && plainC y
  | .block _ c => plainC c
  | .loop c => plainC c
  | .skip => true
  | .label _ => true
  | .exit _ => true
  | .ret => true
  | _ => false

def GoesIn (ro : Option Nat) (P : Program) (base : Nat) (c : Code) (env : List Value) (H : Heap) (Q : Ex → List Value → Heap → Prop) : Prop :=
  ∀ (n : Nat) (F : Fr P) A ψ a w (R : Exit → Act → World → Prop), Rel F A ψ env H a w → (∀ id, A id → id < H.length) → (∀ id, F.A0 id → id < base) →
    (∀ x e h F' A' ψ' a' w', ExtP (plainC c) F F' → Q x e h → Rel F' A' ψ' e h a' w' → (∀ id, A' id → id < h.length) → R x.to a' w') → c.wpIn (fen ro) n P R a w

/-! ### Iterators -/
/-- What a round of another one's body leaves as it was. -/
structure KeepF (F : Fr P) (W W' : World) : Prop where
  os : W'.os = W.os
  tape : W'.tape = W.tape
  output : W'.output = W.output
  size : W.heap.size ≤ W'.heap.size
  block : ∀ b, b < F.w0.heap.size → ¬ F.S b → W'.heap[b]? = W.heap[b]?

theorem KeepF.refl (F : Fr P) (W : World) : KeepF F W W := ⟨rfl, rfl, rfl, Nat.le_refl _, fun _ _ _ => rfl⟩
theorem KeepF.trans {W1 W2 W3 : World} (h : KeepF F W1 W2) (k : KeepF F W2 W3) : KeepF F W1 W3 :=
  ⟨k.os.trans h.os, k.tape.trans h.tape, k.output.trans h.output, Nat.le_trans h.size k.size, fun b h1 h2 => (k.block b h1 h2).trans (h.block b h1 h2)⟩

def Abide (J : Nat → World → Prop) : Prop := ∀ i W W', J i W → Below W.heap.size W W' → J i W'

/-- An iterator: it visits N elements, the i-th of them el i. -/
def IterRes (P : Program) (gf : FuncId) (cap : List Value) (H : Heap) (N : Nat) (el : Nat → List Value) : Prop :=
  ∀ (F : Fr P) A ψ w cap', HRel F A ψ H w → F.w0 = w → (∀ id o, rd H id = some o → o.rw = false ∧ (o.vd = false → ¬ F.S (ψ id).blk)) → (∀ id, A id → id < H.length) → LR A ψ cap cap' →
    ∀ (n l : Nat) (J Jx : Nat → World → Prop) (W : World), KeepF F w W → Abide J → Abide Jx →
      (∀ i W1, J i W1 → KeepF F w W1 → i < N → YieldAt (fen none) n P l (el i).toArray W1 fun e W' =>
        (e = .returned (.bool true) ∧ J (i + 1) W' ∧ KeepF F W1 W') ∨ (e = .returned (.bool false) ∧ Jx i W' ∧ KeepF F W1 W')) →
      J 0 W → CallsIn (fen none) n P gf (.func (.yield l) #[] #[] :: cap').toArray W fun e W' =>
        (∃ v, e = .returned v) ∧ (J N W' ∨ ∃ i, i < N ∧ Jx i W')

structure It (P : Program) where
  gf : FuncId
  fn : List Value → Heap → Option (Nat × (Nat → List Value) × Prop)
  ok : ∀ {cap H N el vc}, fn cap H = some (N, el, vc) → vc → IterRes P gf cap H N el

def AObj.shut : AObj → AObj
  | .row cells es more _ flat => .row cells es more false flat
  | o => o

def sealH (l : List Nat) (H : Heap) : Heap := (List.range H.length).map fun id => if l.contains id then (rd H id).map AObj.shut else rd H id

theorem rd_len : ∀ (H : Heap) (i : Nat), H.length ≤ i → rd H i = none
  | [], _, _ => rfl
  | _ :: t, 0, h => by simp at h
  | _ :: t, n + 1, h => by rw [rd_cons]; exact rd_len t n (by simpa using h)

theorem seal_look {l : List Nat} {id : Nat} {o : AObj} (h : rd (sealH l H) id = some o) : ∃ o', rd H id = some o' ∧ (o = o' ∨ o = o'.shut) := by
  rw [sealH, rd_map] at h
  by_cases hi : id < H.length
  · rw [List.getElem?_eq_getElem (by simpa using hi)] at h
    simp only [List.getElem_range, Option.bind_some] at h
    split at h
    · obtain ⟨o', h1, h2⟩ := Option.map_eq_some_iff.1 h
      exact ⟨o', h1, .inr h2.symm⟩
    · exact ⟨o, h, .inl rfl⟩
  · rw [List.getElem?_eq_none (by simpa using hi)] at h
    cases h

theorem shut_vd (o : AObj) : o.shut.vd = o.vd := by
  cases o with
  | row cells es more rw flat => cases cells <;> rfl
  | _ => rfl

theorem seal_rw {o : AObj} (h : o.shut.rw = true) : o.rw = true := by cases o <;> first | rfl | (simp [AObj.shut, AObj.rw] at h)

theorem HRel.shut (h : HRel F A ψ H w) (l : List Nat) : HRel F A ψ (sealH l H) w := by
  have hrw : ∀ {o o' : AObj}, (o = o' ∨ o = o'.shut) → o.rw = true → o'.rw = true := fun h k => by
    rcases h with rfl | rfl
    · exact k
    · exact seal_rw k
  have hvd : ∀ {o o' : AObj}, (o = o' ∨ o = o'.shut) → o.vd = false → o'.vd = false := fun h k => by
    rcases h with rfl | rfl
    · exact k
    · rw [shut_vd] at k; exact k
  refine ⟨fun id o ho => ?_, fun i j oi oj hi hj hij hr hvi hvj => ?_, h.fr, fun id o ho hr hv => ?_, h.old⟩
  · obtain ⟨o', h1, h2⟩ := seal_look ho
    obtain ⟨k1, k2, k0⟩ := h.live id o' h1
    refine ⟨k1, by rcases h2 with rfl | rfl; exact k2; (cases o' <;> exact k2), fun hv => ⟨(k0 (hvd h2 hv)).1, ?_⟩⟩
    have k3 := (k0 (hvd h2 hv)).2
    rcases h2 with rfl | rfl
    · exact k3
    · cases o' with
      | row cells es more rw flat =>
        obtain ⟨arr, el, fz, a, b, c, d, e⟩ := k3
        exact ⟨arr, el, fz, a, b, c, (fun h => by cases h), e⟩
      | iter => exact k3
      | smap => exact k3
      | imap => exact k3
  · obtain ⟨oi', a1, a2⟩ := seal_look hi
    obtain ⟨oj', b1, b2⟩ := seal_look hj
    exact h.inj i j oi' oj' a1 b1 hij (hrw a2 hr) (hvd a2 hvi) (hvd b2 hvj)
  · obtain ⟨o', h1, h2⟩ := seal_look ho
    exact h.own id o' h1 (hrw h2 hr) (hvd h2 hv)

theorem seal_len (l : List Nat) (H : Heap) : (sealH l H).length = H.length := by simp [sealH]

def allSealed (H : Heap) : Bool := H.all fun o => match o with | some o => !o.rw | none => true

theorem rd_mem : ∀ {H : Heap} {id : Nat} {o : AObj}, rd H id = some o → some o ∈ H
  | [], _, _, h => by simp [rd_nil] at h
  | x :: t, 0, o, h => by rw [rd_cons0] at h; subst h; simp
  | x :: t, n + 1, o, h => by rw [rd_cons] at h; exact List.mem_cons_of_mem _ (rd_mem h)

theorem allSealed_spec (h : allSealed H = true) {id : Nat} {o : AObj} (ho : rd H id = some o) : o.rw = false := by
  have := List.all_eq_true.1 h _ (rd_mem ho)
  simpa using this

/-- The values of a round's parameters. -/
def setAll : List Tmp → List Value → List Value → List Value
  | p :: ps, v :: vs, E => setAll ps vs (st E p v)
  | _, _, E => E

def lowρ (k : Nat) (id : Nat) : Option Nat := if id < k then some id else none

end
end
end Go.Vm
end
section
/- The range over a function, walked. -/
namespace Go.Vm
open Go.RowKit
noncomputable section

section
variable {P : Program} {F : Fr P} {A A' : Nat → Prop} {ψ ψ' : Nat → Gh} {H H' : Heap} {env : List Value} {a : Act} {w w' : World}

theorem setAll_rel : ∀ (ps : List Tmp) (vs : List Value) {env : List Value} {a : Act}, Rel F A ψ env H a w → vs.all ground = true →
    Rel F A ψ (setAll ps vs env) H { a with tmps := (ps.zip vs).foldl (fun t p => t.setIfInBounds p.1 p.2) a.tmps } w
  | [], vs, env, a, hr, _ => by simpa [setAll] using hr
  | p :: ps, [], env, a, hr, _ => by simpa [setAll] using hr
  | p :: ps, v :: vs, env, a, hr, hv => by
    simp only [List.all_cons, Bool.and_eq_true] at hv
    have h1 := put_rel hr (VR.refl_ground (A := A) (ψ := ψ) hv.1) (some p)
    have := setAll_rel ps vs h1 hv.2
    simpa [setAll, put, Act.put] using this

theorem ext_rebase (h : HRel F A ψ H w) {D : Nat} (hD : F.w0.heap.size ≤ D) (hk : w.heap[D]? = some (.deferred (some []))) : Ext F (Vm.rebase P w ψ H F.A0 F.ψ0 (mark D :: F.ds)) := by
  refine ⟨fun h' => h.unbase h' (fun id hid => ⟨hid, rfl⟩), rfl, h.fr.size, fun D' hm => ⟨(h.fr.block D' (Array.getElem?_eq_some_iff.1 hm.1).1 hm.2).trans hm.1, fun hb => ?_⟩, [D], rfl, by simp, fun D' hD' => ?_⟩
  · obtain ⟨id, o, a, b, hv, c⟩ := hb
    exact h.not_block ((h.fr.block D' (Array.getElem?_eq_some_iff.1 hm.1).1 hm.2).trans hm.1) rfl (fun _ _ _ e => by cases e) a hv c
  · obtain rfl : D' = D := by simpa using hD'
    refine ⟨hD, (Array.getElem?_eq_some_iff.1 hk).1, hk, fun hb => ?_⟩
    obtain ⟨id, o, a, b, hv, c⟩ := hb
    exact h.not_block hk rfl (fun _ _ _ e => by cases e) a hv c

def gcH (k : Nat) (h : Heap) (K : Heap → Prop) : Prop :=
  match gc k [] h with
  | some (_, h') => K h'
  | none => False

def thenN (K : List Value → Heap → Prop) : Ex → List Value → Heap → Prop
  | .normal, e, h => K e h
  | _, _, _ => False

/-- How a round may end. -/
def rfPost (k : Nat) (Hp : Nat → Heap) (I : Nat → Prop) {σ : Type} (Hx : σ → Heap) (Ix : σ → Prop) (i : Nat) : Ex → List Value → Heap → Prop
  | .normal, _, h => gcH k h fun h => h = Hp (i + 1) ∧ I (i + 1)
  | .ret, _, h => gcH k h fun h => ∃ s, h = Hx s ∧ Ix s
  | .exit _, _, _ => False

theorem gcH_spec {k : Nat} {K : Heap → Prop} (h : gcH k H K) (hr : HRel F A ψ H w) (hb : ∀ id, F.A0 id → id < k) : ∃ A' ψ' H', HRel F A' ψ' H' w ∧ (∀ id, A' id → id < H'.length) ∧ K H' := by
  unfold gcH at h
  split at h
  · rename_i e h' hg
    have hrel : Rel F A ψ [] H ⟨#[], F.ds⟩ w := ⟨fun t => by simp; exact .poison _, by simp, rfl, hr⟩
    obtain ⟨A', ψ', r1, r2⟩ := gc_rel hg hrel hb
    exact ⟨A', ψ', h', r1.heap, r2, h⟩
  · exact h.elim

theorem callable_run {gf : Nat} (h : callable P gf = true) (args : Array Value) (w : World) : (callFunc gf args).run P w = .ok (.enter gf args) w := by
  unfold callable at h
  split at h
  · rename_i fn hfn
    simp only [Bool.and_eq_true, bne_iff_ne, ne_eq] at h
    have hb : fn.body ≠ none := by intro hh; simp [hh] at h
    simp [callFunc, hfn, hb, h.1]
  · cases h

set_option maxHeartbeats 1000000 in
theorem rangeFunc_ok {E : List Value} {g : Operand} {ps : Array Tmp} {assign body : Code} {base k : Nat} {Hp : Nat → Heap} {I : Nat → Prop} {σ : Type} {Hx : σ → Heap} {Ix : σ → Prop}
    {gf : Nat} {cap : Array Value} {N : Nat} {el : Nat → List Value}
    (hr : Rel F A ψ E (Hp 0) a w) (hb : ∀ id, A id → id < (Hp 0).length) (hF : ∀ id, F.A0 id → id < base) (hbk : base ≤ k)
    (hE : E.map (renV (lowρ k) 4) = E) (hg : ev E g = .func (.func gf) #[] cap) (hcall : callable P gf = true)
    {ids : List Nat} (hids : nodupB ids = true) (hseal : allSealed (resH (Hp 0) ids) = true)
    (hit : IterRes P gf (cap.toList.map (renV (pos ids) 4)) (resH (Hp 0) ids) N el)
    (hps : ∀ i, I i → i < N → (el i).length = ps.size ∧ (el i).all ground = true) (hI : I 0)
    {cA cB : List Value → Heap → (Ex → List Value → Heap → Prop) → Prop} (hA : ∀ l env H Q, cA env H Q → GoesIn (some l) P k assign env H Q) (hB : ∀ l env H Q, cB env H Q → GoesIn (some l) P k body env H Q)
    (hround : ∀ i, I i → i < N → cA (setAll ps.toList (el i) E) (Hp i) (thenN fun e h => cB e h (rfPost k Hp I Hx Ix i)))
    {R : Exit → Act → World → Prop} {n : Nat}
    (hdone : I N → ∀ F' A' ψ' a' w', Ext F F' → Rel F' A' ψ' E (Hp N) a' w' → (∀ id, A' id → id < (Hp N).length) → R .normal a' w')
    (hret : ∀ s, Ix s → ∀ F' A' ψ' a' w', Ext F F' → Rel F' A' ψ' E (Hx s) a' w' → (∀ id, A' id → id < (Hx s).length) → R .ret a' w') :
    (Code.rangeFunc g ps assign body).wpIn (fen none) n P R a w := by
  have hgv := hr.ev g
  rw [hg] at hgv
  obtain ⟨ys, vs, eg, l1, l2⟩ := hgv.func_inv
  have hys : ys = #[] := by
    apply Array.eq_empty_of_size_eq_zero
    simpa using l1.len
  subst hys
  refine wpIn_rangeFunc ?_
  intro fn _
  obtain ⟨rec, hrec⟩ : ∃ rec : LoopState → Option Code → Loop, rec = fun st pe => { state := st, pending := pe, fn, tmps := a.tmps, params := ps, assign, body, defers := w.heap.size } := ⟨_, rfl⟩
  obtain ⟨W1, hW1⟩ : ∃ W1, (w.alloc (.deferred (some []))).alloc (.loop (rec .ready none)) = W1 := ⟨_, rfl⟩
  have hL1 : W1.heap[w.heap.size + 1]? = some (.loop (rec .ready none)) := by
    rw [← hW1]; have := World.alloc_heap_new (w.alloc (.deferred (some []))) (.loop (rec .ready none)); rwa [World.size_alloc] at this
  have hK1 : W1.heap[w.heap.size]? = some (.deferred (some [])) := by
    rw [← hW1]; exact (Below.heap_alloc _ _ _ (by simp)).trans (World.alloc_heap_new w _)
  have hbel1 : Below w.heap.size w W1 := by
    rw [← hW1]; exact ((Below.refl _ w).alloc (Nat.le_refl _) _).alloc (by simp) _
  -- the rounds' frame
  obtain ⟨F1, hF1⟩ : ∃ F1, F1 = Vm.rebase P w ψ (Hp 0) (fun id => A id ∧ id < k) ψ [] := ⟨_, rfl⟩
  have h1 : HRel F1 A ψ (Hp 0) w := by rw [hF1]; exact hr.heap.rebase fun id h => ⟨h.1, rfl⟩
  have h1w : F1.w0 = w := by rw [hF1]; rfl
  have h1A : ∀ id, F1.A0 id ↔ (A id ∧ id < k) := fun id => by rw [hF1]; exact Iff.rfl
  have h1ψ : F1.ψ0 = ψ := by rw [hF1]; rfl
  have hslots : ∀ {A' : Nat → Prop} {ψ' : Nat → Gh} {H' : Heap} {W' : World}, HRel F1 A' ψ' H' W' → ∀ t, VR A' ψ' (E.getD t poi) (a.tmps.getD t undef) := by
    intro A' ψ' H' W' hh t
    have := map_getD (A' := A') (ψ' := ψ') (f := renV (lowρ k) 4) (l := E) (l' := a.tmps.toList) (fun i _ => renV_rel (A := A) (ψ := ψ) (fun id j ha hj => by
      unfold lowρ at hj
      split at hj
      · rename_i hlt
        cases hj
        have := hh.old id ((h1A id).2 ⟨ha, hlt⟩)
        rw [h1ψ] at this
        exact this
      · cases hj) 4 (by simpa [Array.getD_eq_getD_getElem?, List.getD_eq_getElem?_getD] using hr.slot i)) t
    rw [hE] at this
    simpa [Array.getD_eq_getD_getElem?, List.getD_eq_getElem?_getD] using this
  -- the iterator's frame
  obtain ⟨FI, hFI⟩ : ∃ FI, FI = Vm.rebase P w ψ (Hp 0) (fun _ => False) ψ [] := ⟨_, rfl⟩
  have hI0 : HRel FI A ψ (Hp 0) w := by rw [hFI]; exact hr.heap.rebase fun id h => h.elim
  have hIw : FI.w0 = w := by rw [hFI]; rfl
  have hres := res_rel hr.heap hids (F' := FI) hI0.fr (fun j id o _ h2 h3 h4 => hI0.own id o h2 h3 h4) (fun j hj => by rw [hFI] at hj; exact hj.elim)
  have hkeep : ∀ {A' A'' : Nat → Prop} {ψ' ψ'' : Nat → Gh} {H' H'' : Heap} {W W' : World}, HRel F1 A' ψ' H' W → HRel F1 A'' ψ'' H'' W' → W.heap.size ≤ W'.heap.size → KeepF FI W W' := by
    intro A' A'' ψ' ψ'' H' H'' W W' h h' hs
    refine ⟨h'.fr.os.trans h.fr.os.symm, h'.fr.tape.trans h.fr.tape.symm, h'.fr.output.trans h.fr.output.symm, hs, fun b hb hS => ?_⟩
    have e1 : F1.w0 = FI.w0 := by rw [h1w, hIw]
    have e2 : F1.S = FI.S := by rw [hF1, hFI]; rfl
    rw [h'.fr.block b (by rw [e1]; exact hb) (by rw [e2]; exact hS), h.fr.block b (by rw [e1]; exact hb) (by rw [e2]; exact hS)]
  have hcall1 := hit FI _ _ w vs.toList hres hIw (fun j o ho => by
      have h0 := allSealed_spec hseal ho
      refine ⟨h0, fun hvo hS => ?_⟩
      rw [resH, rd_map] at ho
      cases hi : ids[j]? with
      | none => simp [hi] at ho
      | some id =>
        simp only [hi, Option.bind_some] at ho
        obtain ⟨o2, k1, k2⟩ := Option.map_eq_some_iff.1 ho
        have hgj : ids.getD j 0 = id := by simp [List.getD_eq_getElem?_getD, hi]
        rw [hgj] at hS
        rw [hFI] at hS
        obtain ⟨id', o', q1, q2, q4, q3⟩ := hS
        rw [← k2, renO_vd] at hvo
        have hne : id' ≠ id := fun e => by
          rw [e] at q1; rw [k1] at q1; cases q1
          rw [← k2, renO_rw] at h0
          rw [h0] at q2; cases q2
        exact hr.heap.inj id' id o' o2 q1 k1 hne q2 q4 hvo q3)
    (fun j ⟨id, hj, _⟩ => by simpa [resH] using (List.getElem?_eq_some_iff.1 hj).1)
    (l2.ren (ρ := pos ids) fun id j ha hj => by
      have := pos_spec hj
      exact ⟨⟨id, this, ha⟩, by simp [List.getD_eq_getElem?_getD, this]⟩)
    (n - 1) (w.heap.size + 1)
    (fun i W => I i ∧ (∃ A' ψ', HRel F1 A' ψ' (Hp i) W ∧ ∀ id, A' id → id < (Hp i).length) ∧ W.heap[w.heap.size + 1]? = some (.loop (rec .ready none)) ∧ W.heap[w.heap.size]? = some (.deferred (some [])))
    (fun _ W => ∃ s, Ix s ∧ (∃ A' ψ', HRel F1 A' ψ' (Hx s) W ∧ ∀ id, A' id → id < (Hx s).length) ∧ W.heap[w.heap.size + 1]? = some (.loop (rec .done (some .ret))) ∧ W.heap[w.heap.size]? = some (.deferred (some [])))
    W1 ⟨hbel1.os, hbel1.tape, hbel1.output, hbel1.size, fun b hb _ => hbel1.block b (by rw [hIw] at hb; exact hb)⟩
    (fun i W W' ⟨q1, ⟨A', ψ', q2, q3⟩, q4, q5⟩ hb' => ⟨q1, ⟨A', ψ', q2.below' hb', q3⟩, (hb'.block _ (Array.getElem?_eq_some_iff.1 q4).1).trans q4, (hb'.block _ (Array.getElem?_eq_some_iff.1 q5).1).trans q5⟩)
    (fun i W W' ⟨s, q1, ⟨A', ψ', q2, q3⟩, q4, q5⟩ hb' => ⟨s, q1, ⟨A', ψ', q2.below' hb', q3⟩, (hb'.block _ (Array.getElem?_eq_some_iff.1 q4).1).trans q4, (hb'.block _ (Array.getElem?_eq_some_iff.1 q5).1).trans q5⟩)
    ?round ⟨hI, ⟨A, ψ, h1.below' hbel1, hb⟩, hL1, hK1⟩
  case round =>
    rintro i W ⟨hi, ⟨A1, ψ1, hh, hbd⟩, hl, hk⟩ _ hlt
    have hp := hps i hi hlt
    have hy := run_yield (P := P) (args := (el i).toArray) hl (by rw [hrec]; simp [hp.1])
    rw [hrec] at hy
    refine ⟨fn, _, assign, body, hy, roundIn_of_wpIn trivial ?_⟩
    have hh2 : HRel (Vm.rebase P W ψ1 (Hp i) (fun id => A1 id ∧ id < k) ψ1 []) A1 ψ1 (Hp i) W := hh.rebase fun id h => ⟨h.1, rfl⟩
    have rel2 := setAll_rel (F := Vm.rebase P W ψ1 (Hp i) (fun id => A1 id ∧ id < k) ψ1 []) (a := ⟨a.tmps, []⟩) ps.toList (el i) ⟨hslots hh, hr.len, rfl, hh2⟩ hp.2
    have hfold : (ps.zip (el i).toArray).foldl (fun t (p, v) => t.setIfInBounds p v) a.tmps = (ps.toList.zip (el i)).foldl (fun t p => t.setIfInBounds p.1 p.2) a.tmps := by
      rw [← Array.foldl_toList, Array.toList_zip]
    rw [hfold]
    refine hA (w.heap.size + 1) _ _ _ (hround i hi hlt) _ _ A1 ψ1 _ W _ rel2 hbd (fun id h => h.2) ?_
    rintro x e h F2' A2 ψ2 a2 W2 ext2 hx rel2' hbd2
    cases x with
    | exit id => exact hx.elim
    | ret => exact hx.elim
    | normal =>
    have h22 := ext2.x.back rel2'.heap
    have nb : ∀ {l : Nat} {x : Obj}, W.heap[l]? = some x → x.isWalk = false → (∀ c e f, x ≠ .cells c e f) → W2.heap[l]? = some x := fun hl k1 k2 =>
      (h22.fr.block _ (Array.getElem?_eq_some_iff.1 hl).1 (fun ⟨id, o, q1, _, q4, q3⟩ => hh.not_block hl k1 k2 q1 q4 q3)).trans hl
    have hold1 : ∀ id, F1.A0 id → (A1 id ∧ id < k) ∧ ψ1 id = F1.ψ0 id := fun id hid => ⟨⟨(hh.old id hid).1, ((h1A id).1 hid).2⟩, (hh.old id hid).2⟩
    have h12 : HRel F1 A2 ψ2 h W2 := hh.unbase h22 hold1
    have hL2 := nb hl rfl (fun _ _ _ e => by cases e)
    have hK2 := nb hk rfl (fun _ _ _ e => by cases e)
    refine ⟨_, run_beginRound hL2 (by rw [hrec]), ?_⟩
    obtain ⟨W3, hW3⟩ : ∃ W3, W3 = W2.putObj (w.heap.size + 1) (.loop { rec .ready none with state := .busy }) := ⟨_, rfl⟩
    rw [← hW3]
    have hL3 : W3.heap[w.heap.size + 1]? = some (.loop { rec .ready none with state := .busy }) := by rw [hW3]; exact World.putObj_heap_same (Array.getElem?_eq_some_iff.1 hL2).1
    have hK3 : W3.heap[w.heap.size]? = some (.deferred (some [])) := by rw [hW3]; exact (World.putObj_heap_other (by omega)).trans hK2
    have hs3 : W3.heap.size = W2.heap.size := by rw [hW3]; simp
    have h13 : HRel F1 A2 ψ2 h W3 := by rw [hW3]; exact h12.putObj hL2 rfl (fun _ _ _ e => by cases e) (by rw [h1w]; omega) _
    have h33 : HRel (Vm.rebase P W3 ψ2 h (fun id => A2 id ∧ id < k) ψ2 a2.defers) A2 ψ2 h W3 := h13.rebase fun id h => ⟨h.1, rfl⟩
    refine hB (w.heap.size + 1) _ _ _ hx _ _ A2 ψ2 a2 W3 _ ⟨rel2'.slot, rel2'.len, rfl, h33⟩ hbd2 (fun id h => h.2) ?_
    rintro x e' h' F3' A3 ψ3 a3 W4 ext3 hx3 rel3 hbd3
    have h34 := ext3.x.back rel3.heap
    have nb3 : ∀ {l : Nat} {x : Obj}, W3.heap[l]? = some x → x.isWalk = false → (∀ c e f, x ≠ .cells c e f) → W4.heap[l]? = some x := fun hl k1 k2 =>
      (h34.fr.block _ (Array.getElem?_eq_some_iff.1 hl).1 (fun ⟨id, o, q1, _, q4, q3⟩ => h13.not_block hl k1 k2 q1 q4 q3)).trans hl
    have hL4 := nb3 hL3 rfl (fun _ _ _ e => by cases e)
    have hK4 := nb3 hK3 rfl (fun _ _ _ e => by cases e)
    have h14 : HRel F1 A3 ψ3 h' W4 := h13.unbase h34 fun id hid => ⟨⟨(h13.old id hid).1, ((h1A id).1 hid).2⟩, (h13.old id hid).2⟩
    have fin : ∀ (jump : Option Code), (Instr.endRound (w.heap.size + 1) jump).run P W4 = .ok (.bool jump.isNone) (W4.putObj (w.heap.size + 1) (.loop (rec (if jump.isNone then .ready else .done) jump))) ∧
        (∀ {A5 ψ5 H5}, HRel F1 A5 ψ5 H5 W4 → HRel F1 A5 ψ5 H5 (W4.putObj (w.heap.size + 1) (.loop (rec (if jump.isNone then .ready else .done) jump)))) ∧
        (W4.putObj (w.heap.size + 1) (.loop (rec (if jump.isNone then .ready else .done) jump))).heap[w.heap.size + 1]? = some (.loop (rec (if jump.isNone then .ready else .done) jump)) ∧
        (W4.putObj (w.heap.size + 1) (.loop (rec (if jump.isNone then .ready else .done) jump))).heap[w.heap.size]? = some (.deferred (some [])) ∧
        KeepF FI W (W4.putObj (w.heap.size + 1) (.loop (rec (if jump.isNone then .ready else .done) jump))) := fun jump => by
      have hr1 := run_endRound (P := P) jump hL4
      have hput : ∀ {A5 ψ5 H5}, HRel F1 A5 ψ5 H5 W4 → HRel F1 A5 ψ5 H5 (W4.putObj (w.heap.size + 1) (.loop (rec (if jump.isNone then .ready else .done) jump))) := fun h5 =>
        h5.putObj hL4 rfl (fun _ _ _ e => by cases e) (by rw [h1w]; omega) _
      refine ⟨by rw [hrec] at hr1 ⊢; exact hr1, hput, World.putObj_heap_same (Array.getElem?_eq_some_iff.1 hL4).1, (World.putObj_heap_other (by omega)).trans hK4, hkeep hh (hput h14) ?_⟩
      have a1 := h22.fr.size
      have a2 := h34.fr.size
      simp only [Vm.rebase] at a1 a2
      simp only [World.putObj_size]
      omega
    cases x with
    | exit id => exact hx3.elim
    | normal =>
      obtain ⟨A5, ψ5, H5, q1, q2, rfl, q3⟩ := gcH_spec hx3 h14 (fun id hid => ((h1A id).1 hid).2)
      obtain ⟨f1, f2, f3, f4, f5⟩ := fin none
      exact ⟨_, _, f1, .inl ⟨rfl, ⟨q3, ⟨A5, ψ5, f2 q1, q2⟩, f3, f4⟩, f5⟩⟩
    | ret =>
      obtain ⟨A5, ψ5, H5, q1, q2, s, rfl, q3⟩ := gcH_spec hx3 h14 (fun id hid => ((h1A id).1 hid).2)
      obtain ⟨f1, f2, f3, f4, f5⟩ := fin (some .ret)
      exact ⟨_, _, f1, .inr ⟨rfl, ⟨s, q3, ⟨A5, ψ5, f2 q1, q2⟩, f3, f4⟩, f5⟩⟩
  have hlast : ∀ {A' : Nat → Prop} {ψ' : Nat → Gh} {H' : Heap} {W2 : World} {st : LoopState} {pe : Option Code}, HRel F1 A' ψ' H' W2 → W2.heap[w.heap.size + 1]? = some (.loop (rec st pe)) → W2.heap[w.heap.size]? = some (.deferred (some [])) → st ≠ .busy →
      ∃ W3, (Instr.endLoop (w.heap.size + 1)).run P W2 = .ok pe W3 ∧ ∃ F', Ext F F' ∧ Rel F' A' ψ' E H' { a with defers := [mark w.heap.size] ++ a.defers } W3 := by
    intro A' ψ' H' W2 st pe h2 hl hk hst
    have hrun := run_endLoop (P := P) hl (by rw [hrec]; exact hst)
    have hpe : (rec st pe).pending = pe := by rw [hrec]
    have hrun : (Instr.endLoop (w.heap.size + 1)).run P W2 = .ok pe (W2.putObj (w.heap.size + 1) (.loop { rec st pe with state := .exhausted })) := hrun.trans (congrArg (fun z => Result.ok z _) hpe)
    refine ⟨_, hrun, ?_⟩
    have h3 := h2.putObj hl rfl (fun _ _ _ e => by cases e) (by rw [h1w]; omega) (.loop { rec st pe with state := .exhausted })
    have hk3 : (W2.putObj (w.heap.size + 1) (.loop { rec st pe with state := .exhausted })).heap[w.heap.size]? = some (.deferred (some [])) := (World.putObj_heap_other (by omega)).trans hk
    have hFr : HRel F A' ψ' H' (W2.putObj (w.heap.size + 1) (.loop { rec st pe with state := .exhausted })) := hr.heap.unbase (A0 := fun id => A id ∧ id < k) (ψ0 := ψ) (ds := []) (by rw [hF1] at h3; exact h3) fun id hid =>
      ⟨⟨(hr.heap.old id hid).1, Nat.lt_of_lt_of_le (hF id hid) hbk⟩, (hr.heap.old id hid).2⟩
    refine ⟨Vm.rebase P _ ψ' H' F.A0 F.ψ0 (mark w.heap.size :: F.ds), ext_rebase hFr hr.heap.fr.size hk3, ⟨hslots h3, hr.len, ?_, hFr.rebase hFr.old⟩⟩
    simp [Vm.rebase, hr.defers]
  refine ⟨w.heap.size + 1, [{ target := .collected w.heap.size, args := #[] }], W1, { target := .fn (.func gf) vs, args := #[.func (.yield (w.heap.size + 1)) #[] #[]] }, W1, gf,
    #[.func (.yield (w.heap.size + 1)) #[] #[]] ++ vs, W1, ?_, ?_, ?_, ?_, fun h => fen_depth h, ?_⟩
  · rw [← hW1, hrec]; exact run_enterLoop_outer _ _ _ _ _
  · simp only [resolve, eg]
    simp [go_sem]
  · intro _ _; trivial
  · simp [invoke, go_sem, callable_run hcall]
  · have harr : (Value.func (.yield (w.heap.size + 1)) #[] #[] :: vs.toList).toArray = #[.func (.yield (w.heap.size + 1)) #[] #[]] ++ vs := by
      apply Array.ext'; simp
    rw [harr] at hcall1
    refine hcall1.mono ?_
    rintro e W2 ⟨⟨v, rfl⟩, (⟨hi, ⟨A', ψ', hh, hbd⟩, hl, hk⟩ | ⟨i, _, s, hs, ⟨A', ψ', hh, hbd⟩, hl, hk⟩)⟩
    · obtain ⟨W3, e1, F', e2, e3⟩ := hlast hh hl hk (by simp)
      exact ⟨none, W3, e1, hdone hi F' A' ψ' _ W3 e2 e3 hbd⟩
    · obtain ⟨W3, e1, F', e2, e3⟩ := hlast hh hl hk (by simp)
      exact ⟨some .ret, W3, e1, wpIn_ret (hret s hs F' A' ψ' _ W3 e2 e3 hbd)⟩

end
end
end Go.Vm
end
section
/- Lists of any length: a list without elements, whatever it is in the world, as a row without cells. -/
namespace Go.Vm
noncomputable section

section
variable {P : Program} {F : Fr P} {A : Nat → Prop} {ψ : Nat → Gh} {H : Heap} {env : List Value} {a : Act} {w : World}

theorem HRel.void (h : HRel F A ψ H w) {nid : Nat} (hn : ¬ A nid) (es : Nat) (m rw fl : Bool) :
    HRel F (fun id => A id ∨ id = nid) (upd ψ nid ⟨0, 0, 0, es⟩) (wr H nid (some (.row [] es m rw fl))) w := by
  have hag := mono_new (ψ := ψ) (g := ⟨0, 0, 0, es⟩) hn
  have hsame : ∀ id o, rd H id = some o → upd ψ nid ⟨0, 0, 0, es⟩ id = ψ id := fun id o he => (hag id (h.live id o he).1).2
  refine ⟨fun id o he => ?_, fun i j oi oj hi hj hij hrw hvi hvj => ?_, h.fr, fun id o he hrw hv => ?_, fun id ha => ?_⟩
  · rw [rd_wr] at he
    split at he
    · rename_i e; subst e; cases he
      exact ⟨.inr rfl, by simp [EsOK, upd], fun hv => by cases hv⟩
    · obtain ⟨h1, h2, h3⟩ := h.live id o he
      rw [hsame id o he]
      exact ⟨.inl h1, h2, fun hv => ⟨(h3 hv).1, (h3 hv).2.mono hag rfl⟩⟩
  · rw [rd_wr] at hi hj
    split at hi
    · cases hi; cases hvi
    · split at hj
      · cases hj; cases hvj
      · rw [hsame i oi hi, hsame j oj hj]
        exact h.inj i j oi oj hi hj hij hrw hvi hvj
  · rw [rd_wr] at he
    split at he
    · cases he; cases hv
    · rw [hsame id o he]; exact h.own id o he hrw hv
  · have ⟨h1, h2⟩ := h.old id ha
    exact ⟨(hag id h1).1, (hag id h1).2.trans h2⟩

/-- A value that is the empty list. -/
def emp : Value → Bool
  | .slice none 0 0 => true
  | .slice (some ⟨_, _, none⟩) 0 0 => true
  | _ => false

theorem emp_spec {v v' : Value} (he : emp v = true) (h : VR A ψ v v') : ∃ b, v' = .slice b 0 0 := by
  unfold emp at he
  split at he
  · exact ⟨none, h.of_atom rfl⟩
  · obtain ⟨_, b, c, rfl, _, _, h4⟩ := h.slice_inv
    rcases h4 with ⟨h | h, _⟩ | h | h
    · exact ⟨b, by rw [h.1]⟩
    · omega
    · exact ⟨b, by rw [h.2.2]⟩
    · exact absurd h (by decide)
  · cases he

theorem emp_list {v v' : Value} (he : emp v = true) (h : VR A ψ v v') {nid : Nat} {A' : Nat → Prop} {ψ' : Nat → Gh} (hA : A' nid) : VR A' ψ' (.slice (some ⟨nid, 0, none⟩) 0 0) v' := by
  obtain ⟨b, rfl⟩ := emp_spec he h
  exact .void _ _ _ hA

/-- Where a nil list stands that is to be a list like any other. -/
inductive Nl where
  | slot (t es : Nat)
  | part (t off es : Nat)
  | cell (id off es : Nat)
  | only (x : Nl)
  | stay
  | dul (id es k : Nat)
  | loos (t : Nat)

/-- Of each element the first k cells are let go. -/
def dull (es k : Nat) : Nat → List Value → List Value
  | _, [] => []
  | p, v :: r => (match Nat.blt (p % es) k with | true => poi | false => v) :: dull es k (p + 1) r

theorem dull_len (es k : Nat) : ∀ (l : List Value) (p : Nat), (dull es k p l).length = l.length
  | [], _ => rfl
  | _ :: r, p => by rw [dull, List.length_cons, List.length_cons, dull_len es k r]

theorem dull_get {A : Nat → Prop} {ψ : Nat → Gh} (es k : Nat) : ∀ (l : List Value) (p i : Nat) (v' : Value), VR A ψ (l.getD i poi) v' → VR A ψ ((dull es k p l).getD i poi) v'
  | [], _, _, _, h => h
  | v :: r, p, 0, v', h => by
    rw [dull]
    split
    · exact .poison _
    · exact h
  | v :: r, p, i + 1, v', h => by
    rw [dull]
    simp only [List.getD_cons_succ] at h ⊢
    exact dull_get es k r (p + 1) i v' h

/-- What stands there. -/
def nlAt : Nl → List Value → Heap → Value
  | .slot t _, env, _ => gt env t
  | .part t off _, env, _ => match gt env t with
    | .agg xs => xs.toList.getD off poi
    | _ => poi
  | .cell id off _, _, H => match rd H id with
    | some (.row cells _ _ _ _) => cells.getD off poi
    | _ => poi
  | .only x, env, H => nlAt x env H
  | .stay, _, _ => poi
  | .dul _ _ _, _, _ => poi
  | .loos _, _, _ => poi

/-- Nothing is let go, and nothing is numbered anew. -/
def isStay : List Nl → Bool
  | .stay :: _ => true
  | _ => false

def isNil : Value → Bool
  | .slice none _ _ => true
  | _ => false

def lv (H : Heap) : Value := .slice (some ⟨H.length, 0, none⟩) 0 0
def lo (es : Nat) : Option AObj := some (.row [] es true true true)

def lst1 : Nl → List Value → Heap → List Value × Heap
  | .slot t es, env, H => match emp (gt env t) with
    | true => (st env t (lv H), wr H H.length (lo es))
    | false => (env, H)
  | .part t off es, env, H => match gt env t with
    | .agg xs => match emp (xs.toList.getD off poi) with
      | true => (st env t (.agg (xs.toList.set off (lv H)).toArray), wr H H.length (lo es))
      | false => (env, H)
    | _ => (env, H)
  | .cell id off es, env, H => match rd H id with
    | some (.row cells e2 m rw _) => match emp (cells.getD off poi) with
      | true => (env, wr (wr H id (some (.row (cells.set off (lv H)) e2 m rw false))) H.length (lo es))
      | false => (env, H)
    | _ => (env, H)
  | .only x, env, H => match isNil (nlAt x env H) with
    | true => lst1 x env H
    | false => (env, H)
  | .stay, env, H => (env, H)
  | .dul id es k, env, H => match rd H id with
    | some (.row cells e2 m rw _) => (env, wr H id (some (.row (dull es k 0 cells) e2 m rw false)))
    | _ => (env, H)
  | .loos t, env, H => match gt env t with
    | .slice (some ⟨id, 0, none⟩) n c => match rd H id with
      | some (.row cells e2 false true fl) => match Nat.beq n c && Nat.blt 0 n && Nat.blt n big && Nat.beq cells.length (n * e2) && Nat.blt 0 e2 with
        | true => (st env t (.slice (some ⟨id, 0, none⟩) n 0), wr H id (some (.row cells e2 true true fl)))
        | false => (env, H)
      | _ => (env, H)
    | _ => (env, H)

theorem setl_get {l : List Value} {off : Nat} {v : Value} (i : Nat) (hne : emp (l.getD off poi) = true) : (l.set off v).getD i poi = if i = off then v else l.getD i poi := by
  have hlt : off < l.length := by
    rcases Nat.lt_or_ge off l.length with h | h
    · exact h
    · rw [List.getD_eq_getElem?_getD, List.getElem?_eq_none h] at hne
      cases hne
  by_cases e : i = off
  · subst e; simp [List.getD_eq_getElem?_getD, hlt]
  · rw [if_neg e]; simp [List.getD_eq_getElem?_getD, List.getElem?_set_ne (Ne.symm e)]

/-- The slots, and a slot turned. -/
theorem slot_turn {A' : Nat → Prop} {ψ' : Nat → Gh} {v : Value} {t : Nat} (hr : Rel F A ψ env H a w) (hag : ∀ id, A id → A' id ∧ ψ' id = ψ id) (hv : VR A' ψ' v (a.tmps.getD t undef)) (i : Nat) : VR A' ψ' ((st env t v).getD i poi) (a.tmps.getD i undef) := by
  rw [st_eq]
  by_cases e : i = t
  · subst e
    by_cases hlt : i < env.length
    · have : (env.set i v).getD i poi = v := by simp [List.getD_eq_getElem?_getD, hlt]
      rw [this]; exact hv
    · rw [List.set_eq_of_length_le (by omega)]
      exact (hr.slot i).mono hag
  · have : (env.set t v).getD i poi = env.getD i poi := by simp [List.getD_eq_getElem?_getD, List.getElem?_set_ne (Ne.symm e)]
    rw [this]
    exact (hr.slot i).mono hag

/-- A cell of a row said otherwise. -/
theorem HRel.recell {id : Nat} {cells cs : List Value} {e2 : Nat} {m rw fl : Bool} (h : HRel F A ψ H w) (hrd : rd H id = some (.row cells e2 m rw fl)) (hl : cs.length = cells.length)
    (hv : ∀ i v', i < cells.length → VR A ψ (cells.getD i poi) v' → VR A ψ (cs.getD i poi) v') : HRel F A ψ (wr H id (some (.row cs e2 m rw false))) w := by
  have hvd : (AObj.row cs e2 m rw false).vd = (AObj.row cells e2 m rw fl).vd := by
    cases cs <;> cases cells <;> first | rfl | (simp at hl)
  have look : ∀ {j o}, rd (wr H id (some (.row cs e2 m rw false))) j = some o → ∃ o', rd H j = some o' ∧ o.rw = o'.rw ∧ o.vd = o'.vd := fun {j o} hj => by
    rw [rd_wr] at hj
    split at hj
    · rename_i e; subst e; cases hj; exact ⟨_, hrd, rfl, hvd⟩
    · exact ⟨o, hj, rfl, rfl⟩
  refine ⟨fun j o hj => ?_, fun i j oi oj hi hj hij hrw hvi hvj => ?_, h.fr, fun j o hj hrw hv => ?_, h.old⟩
  · rw [rd_wr] at hj
    split at hj
    · rename_i e; subst e; cases hj
      obtain ⟨h1, h2, h3⟩ := h.live _ _ hrd
      refine ⟨h1, h2, fun hv' => ?_⟩
      rw [hvd] at hv'
      obtain ⟨h4, arr, el, fz, k1, k2, k3, k4, k5⟩ := h3 hv'
      refine ⟨h4, arr, el, fz, k1, k2, fun i hi => ?_, fun hr => ?_, fun hf => by cases hf⟩
      · rw [hl] at hi
        obtain ⟨v', q1, q2, q3⟩ := k3 i hi
        exact ⟨v', q1, q2, hv i v' hi q3⟩
      · obtain ⟨q1, q2, q3, q4⟩ := k4 hr
        exact ⟨q1, q2, q3, fun hm => by rw [hl]; exact q4 hm⟩
    · exact h.live j o hj
  · obtain ⟨oi', a1, a2, a3⟩ := look hi
    obtain ⟨oj', b1, b2, b3⟩ := look hj
    exact h.inj i j oi' oj' a1 b1 hij (by rw [← a2]; exact hrw) (by rw [← a3]; exact hvi) (by rw [← b3]; exact hvj)
  · obtain ⟨o', a1, a2, a3⟩ := look hj
    exact h.own j o' a1 (by rw [← a2]; exact hrw) (by rw [← a3]; exact hv)

/-- A row that may be longer than its cells. -/
theorem HRel.remore {id : Nat} {cells : List Value} {e2 : Nat} {m rw fl : Bool} (h : HRel F A ψ H w) (hrd : rd H id = some (.row cells e2 m rw fl)) : HRel F A ψ (wr H id (some (.row cells e2 true rw fl))) w := by
  have hvd : (AObj.row cells e2 true rw fl).vd = (AObj.row cells e2 m rw fl).vd := by cases cells <;> rfl
  have look : ∀ {j o}, rd (wr H id (some (.row cells e2 true rw fl))) j = some o → ∃ o', rd H j = some o' ∧ o.rw = o'.rw ∧ o.vd = o'.vd := fun {j o} hj => by
    rw [rd_wr] at hj
    split at hj
    · rename_i e; subst e; cases hj; exact ⟨_, hrd, rfl, hvd⟩
    · exact ⟨o, hj, rfl, rfl⟩
  refine ⟨fun j o hj => ?_, fun i j oi oj hi hj hij hrw hvi hvj => ?_, h.fr, fun j o hj hrw hv => ?_, h.old⟩
  · rw [rd_wr] at hj
    split at hj
    · rename_i e; subst e; cases hj
      obtain ⟨h1, h2, h3⟩ := h.live _ _ hrd
      refine ⟨h1, h2, fun hv' => ?_⟩
      rw [hvd] at hv'
      obtain ⟨h4, arr, el, fz, k1, k2, k3, k4, k5⟩ := h3 hv'
      refine ⟨h4, arr, el, fz, k1, k2, k3, fun hr => ?_, k5⟩
      obtain ⟨q1, q2, q3, q4⟩ := k4 hr
      exact ⟨q1, q2, q3, fun hm => by cases hm⟩
    · exact h.live j o hj
  · obtain ⟨oi', a1, a2, a3⟩ := look hi
    obtain ⟨oj', b1, b2, b3⟩ := look hj
    exact h.inj i j oi' oj' a1 b1 hij (by rw [← a2]; exact hrw) (by rw [← a3]; exact hvi) (by rw [← b3]; exact hvj)
  · obtain ⟨o', a1, a2, a3⟩ := look hj
    exact h.own j o' a1 (by rw [← a2]; exact hrw) (by rw [← a3]; exact hv)

theorem wr_comm {H : Heap} {i j : Nat} (hij : i ≠ j) (x y : Option AObj) (k : Nat) : rd (wr (wr H i x) j y) k = rd (wr (wr H j y) i x) k := by
  simp only [rd_wr]
  split <;> split <;> first | rfl | omega

theorem HRel.same_rd {H' : Heap} (h : HRel F A ψ H w) (hh : ∀ id, rd H' id = rd H id) : HRel F A ψ H' w :=
  ⟨fun id o hr => h.live id o (by rw [← hh]; exact hr), fun i j oi oj hi hj => h.inj i j oi oj (by rw [← hh]; exact hi) (by rw [← hh]; exact hj), h.fr, fun id o hr => h.own id o (by rw [← hh]; exact hr), h.old⟩

theorem lst1_rel (x : Nl) (hr : Rel F A ψ env H a w) (hb : ∀ id, A id → id < H.length) :
    ∃ A' ψ', Rel F A' ψ' (lst1 x env H).1 (lst1 x env H).2 a w ∧ ∀ id, A' id → id < (lst1 x env H).2.length := by
  have hn : ¬ A H.length := fun h => by have := hb _ h; omega
  have hag := fun es => mono_new (ψ := ψ) (g := ⟨0, 0, 0, es⟩) hn
  have hbd : ∀ (H2 : Heap) (es : Nat), H.length ≤ H2.length → ∀ id, (A id ∨ id = H.length) → id < (wr H2 H.length (lo es)).length := fun H2 es hl id hid => by
    obtain ⟨l1, l2⟩ := len_wr H2 H.length (lo es)
    rcases hid with h | rfl
    · have := hb id h; omega
    · exact l2
  induction x with
  | stay => exact ⟨A, ψ, hr, hb⟩
  | dul id es k =>
    simp only [lst1]
    split
    · rename_i cells e2 m rw fl hrd
      have h3 := hr.heap.recell (cs := dull es k 0 cells) hrd (dull_len es k cells 0) fun i v' _ hv => dull_get es k cells 0 i v' hv
      exact ⟨A, ψ, ⟨hr.slot, hr.len, hr.defers, h3⟩, fun id' hid => Nat.lt_of_lt_of_le (hb id' hid) (len_wr H id _).1⟩
    · exact ⟨A, ψ, hr, hb⟩
  | loos t =>
    simp only [lst1]
    split
    · rename_i id n c hg
      split
      · rename_i cells e2 fl hrd
        split
        · rename_i hc
          simp only [Bool.and_eq_true] at hc
          obtain ⟨⟨⟨⟨c1, c2⟩, c3⟩, c4⟩, c5⟩ := hc
          have c5 : 0 < e2 := Nat.le_of_ble_eq_true c5
          have c1 := Nat.eq_of_beq_eq_true c1
          have c2 : 0 < n := Nat.le_of_ble_eq_true c2
          have c3 : n < big := Nat.le_of_ble_eq_true c3
          have c4 := Nat.eq_of_beq_eq_true c4
          subst c1
          have hs := hr.slot t
          rw [← gt_eq, hg] at hs
          have hcells : cells ≠ [] := fun e => by
            rw [e] at c4
            have := Nat.mul_pos c2 c5
            simp at c4
            omega
          have hv : VR A ψ (.slice (some ⟨id, 0, none⟩) n 0) (a.tmps.getD t undef) := by
            generalize a.tmps.getD t undef = v' at hs
            cases hs with
            | atom _ h => cases h
            | slice id off len cap cap' hA hcap =>
              refine .slice _ _ _ _ _ hA (.inr ⟨rfl, c2, ?_⟩)
              rcases hcap with ⟨rfl, _⟩ | ⟨e, _⟩
              · refine ⟨Nat.le_refl _, ?_⟩
                obtain ⟨l1, l2, l3⟩ := hr.heap.live _ _ hrd
                have hes : (ψ id).es = e2 := l2
                rw [hes]
                have hvd : (AObj.row cells e2 false true fl).vd = false := by
                  cases cells with
                  | nil => exact absurd rfl hcells
                  | cons => rfl
                obtain ⟨_, arr, el, fz, k1, k2, k3, k4, k5⟩ := l3 hvd
                obtain ⟨_, _, _, q4⟩ := k4 rfl
                rw [q4 rfl, c4, Nat.zero_add]
              · omega
            | void => omega
            | view id off len c' a' hA hl ha => exact absurd c3 (Nat.lt_irrefl _)
          exact ⟨A, ψ, ⟨fun i => slot_turn hr (fun id h => ⟨h, rfl⟩) hv i, by rw [st_eq]; simpa using hr.len, hr.defers, hr.heap.remore hrd⟩, fun id' hid => Nat.lt_of_lt_of_le (hb id' hid) (len_wr H id _).1⟩
        · exact ⟨A, ψ, hr, hb⟩
      · exact ⟨A, ψ, hr, hb⟩
    · exact ⟨A, ψ, hr, hb⟩
  | only x ih =>
    simp only [lst1]
    split
    · exact ih
    · exact ⟨A, ψ, hr, hb⟩
  | slot t es =>
    simp only [lst1]
    split
    · rename_i he
      refine ⟨_, _, ⟨slot_turn (hr := hr) (hag es) (emp_list he (by have := hr.slot t; rw [← gt_eq] at this; exact this) (.inr rfl)), by rw [st_eq]; simpa using hr.len, hr.defers, hr.heap.void hn es true true true⟩, hbd H es (Nat.le_refl _)⟩
    · exact ⟨A, ψ, hr, hb⟩
  | part t off es =>
    simp only [lst1]
    split
    · rename_i xs hg
      split
      · rename_i he
        have hs := hr.slot t
        rw [← gt_eq, hg] at hs
        obtain ⟨ys, e1, hsz, h1, hh⟩ := hs.agg_inv
        refine ⟨_, _, ⟨slot_turn (hr := hr) (hag es) ?_, by rw [st_eq]; simpa using hr.len, hr.defers, hr.heap.void hn es true true true⟩, hbd H es (Nat.le_refl _)⟩
        rw [e1]
        refine .agg _ _ (by simpa using hsz) h1 fun i => ?_
        have e2 : (xs.toList.set off (lv H)).toArray.getD i poi = (xs.toList.set off (lv H)).getD i poi := by simp [Array.getD_eq_getD_getElem?, List.getD_eq_getElem?_getD]
        have e3 : ∀ j, xs.toList.getD j poi = xs.getD j poi := fun j => by simp [Array.getD_eq_getD_getElem?, List.getD_eq_getElem?_getD]
        rw [e2, setl_get i he]
        split
        · rename_i e; subst e
          have := hh i
          rw [← e3] at this
          exact emp_list he this (.inr rfl)
        · rw [e3]; exact (hh i).mono (hag es)
      · exact ⟨A, ψ, hr, hb⟩
    · exact ⟨A, ψ, hr, hb⟩
  | cell id off es =>
    simp only [lst1]
    split
    · rename_i cells e2 m rw fl hrd
      split
      · rename_i he
        have hv := hr.heap.void hn es true true true
        have hne : id ≠ H.length := fun e => by
          have := rd_lt _ _ _ hrd; omega
        have hrd2 : rd (wr H H.length (some (.row [] es true true true))) id = some (.row cells e2 m rw fl) := by rw [rd_wr, if_neg hne, hrd]
        have h3 := hv.recell (cs := cells.set off (lv H)) hrd2 (by simp) fun i v' hi hvi => by
          rw [setl_get i he]
          split
          · rename_i e; subst e
            exact emp_list he hvi (.inr rfl)
          · exact hvi
        refine ⟨_, _, ⟨fun t => (hr.slot t).mono (hag es), hr.len, hr.defers, h3.same_rd fun k => ?_⟩, hbd _ es (len_wr H id _).1⟩
        exact wr_comm hne _ _ k
      · exact ⟨A, ψ, hr, hb⟩
    · exact ⟨A, ψ, hr, hb⟩

def lst : List Nl → List Value → Heap → List Value × Heap
  | [], env, H => (env, H)
  | x :: r, env, H => lst r (lst1 x env H).1 (lst1 x env H).2

theorem lst1_len (x : Nl) (env : List Value) (H : Heap) : (lst1 x env H).1.length = env.length := by
  induction x with
  | slot t es => simp only [lst1]; split <;> simp [st_eq]
  | part t off es => simp only [lst1]; split; (split <;> simp [st_eq]); rfl
  | cell id off es => simp only [lst1]; split; (split <;> rfl); rfl
  | only x ih => simp only [lst1]; split; exact ih; rfl
  | stay => rfl
  | dul id es k => simp only [lst1]; split <;> rfl
  | loos t => simp only [lst1]; split; (split; (split; (simp [st_eq]); rfl); rfl); rfl

theorem lst_len : ∀ (l : List Nl) (env : List Value) (H : Heap), (lst l env H).1.length = env.length
  | [], _, _ => rfl
  | x :: r, env, H => (lst_len r _ _).trans (lst1_len x env H)

theorem lst_rel : ∀ (l : List Nl) {env : List Value} {H : Heap} {A : Nat → Prop} {ψ : Nat → Gh}, Rel F A ψ env H a w → (∀ id, A id → id < H.length) →
    ∃ A' ψ', Rel F A' ψ' (lst l env H).1 (lst l env H).2 a w ∧ ∀ id, A' id → id < (lst l env H).2.length
  | [], env, H, A, ψ, hr, hb => ⟨A, ψ, hr, hb⟩
  | x :: r, env, H, A, ψ, hr, hb => by
    obtain ⟨A1, ψ1, h1, h2⟩ := lst1_rel x hr hb
    exact lst_rel r h1 h2
end
end
end Go.Vm
end
section
/- Iterators with variables of their own: what they are. -/
namespace Go.Vm
open Go.RowKit
noncomputable section
namespace Ow
/-- The blocks of an iterator's own variables. -/
def ownB (ψ : Nat → Gh) (H : Heap) (b : Nat) : Prop := ∃ id o, rd H id = some o ∧ o.rw = true ∧ (ψ id).blk = b
structure BelowB (B : Nat → Prop) (n : Nat) (W W' : World) : Prop where
  os : W'.os = W.os
  tape : W'.tape = W.tape
  output : W'.output = W.output
  size : W.heap.size ≤ W'.heap.size
  block : ∀ j, j < n → ¬ B j → W'.heap[j]? = W.heap[j]?
def AbideB (B : Nat → Prop) (J : Nat → World → Prop) : Prop := ∀ i W W', J i W → BelowB B W.heap.size W W' → J i W'
def keepB (B : Nat → Prop) (W W' : World) : Prop := ∀ b, B b → W'.heap[b]? = W.heap[b]?
/-- An iterator whose captured rows that may be changed are its own. -/
def IterOwn (P : Program) (gf : FuncId) (cap : List Value) (H : Heap) (N : Nat) (el : Nat → List Value) : Prop :=
  ∀ (F : Fr P) A ψ w cap', HRel F A ψ H w → F.w0 = w → (∀ id o, rd H id = some o → o.rw = false → o.vd = false → ¬ F.S (ψ id).blk) → (∀ id, A id → id < H.length) → LR A ψ cap cap' →
    ∀ (n l : Nat) (J Jx : Nat → World → Prop) (W : World), KeepF F w W → keepB (ownB ψ H) w W → AbideB (ownB ψ H) J → AbideB (ownB ψ H) Jx →
      (∀ i W1, J i W1 → KeepF F w W1 → i < N → YieldAt (fen none) n P l (el i).toArray W1 fun e W' =>
        (e = .returned (.bool true) ∧ J (i + 1) W' ∧ KeepF F W1 W' ∧ keepB (ownB ψ H) W1 W') ∨ (e = .returned (.bool false) ∧ Jx i W' ∧ KeepF F W1 W' ∧ keepB (ownB ψ H) W1 W')) →
      J 0 W → CallsIn (fen none) n P gf (.func (.yield l) #[] #[] :: cap').toArray W fun e W' =>
        (∃ v, e = .returned v) ∧ (J N W' ∨ ∃ i, i < N ∧ Jx i W')
end Ow
/-- An iterator with variables of its own. -/
structure ItO (P : Program) where
  gf : FuncId
  fn : List Value → Heap → Option (Nat × (Nat → List Value) × Prop)
  ok : ∀ {cap H N el vc}, fn cap H = some (N, el, vc) → vc → Ow.IterOwn P gf cap H N el
end
end Go.Vm
end
section
/- The range over a function that has variables of its own, walked. -/
namespace Go.Vm
open Go.RowKit
noncomputable section
/-- Some rows are let go. -/
def killL (own : List Nat) (H : Heap) : Heap := (List.range H.length).map fun id => if own.contains id then none else rd H id
def allRW (H : Heap) : Bool := H.all fun o => match o with | some o => o.rw | none => true
def capW (own ids : List Nat) (H : Heap) : Bool := ids.all fun id => match rd H id with | some o => !o.rw || (own.contains id && !o.vd) | none => true
theorem killL_len (own : List Nat) (H : Heap) : (killL own H).length = H.length := by simp [killL]
theorem rd_killL {own : List Nat} {H : Heap} (id : Nat) : rd (killL own H) id = if own.contains id then none else rd H id := by
  rw [killL, rd_map]
  by_cases hi : id < H.length
  · rw [List.getElem?_eq_getElem (by simpa using hi)]; simp
  · rw [List.getElem?_eq_none (by simpa using hi), rd_len H id (by omega)]; split <;> rfl
theorem allRW_spec {H : Heap} (h : allRW H = true) {id : Nat} {o : AObj} (ho : rd H id = some o) : o.rw = true := List.all_eq_true.1 h _ (rd_mem ho)
theorem capW_spec {own ids : List Nat} {H : Heap} (h : capW own ids H = true) {id : Nat} {o : AObj} (hm : id ∈ ids) (ho : rd H id = some o) (hr : o.rw = true) : own.contains id = true ∧ o.vd = false := by
  have := List.all_eq_true.1 h _ hm
  rw [ho] at this
  simpa [hr] using this
section
variable {P : Program} {F : Fr P} {A A' : Nat → Prop} {ψ ψ' : Nat → Gh} {H H' : Heap} {env : List Value} {a : Act} {w w' : World}
theorem HRel.killL (h : HRel F A ψ H w) (own : List Nat) : HRel F A ψ (killL own H) w := by
  have g : ∀ {id o}, rd (Vm.killL own H) id = some o → rd H id = some o := fun {id o} ho => by
    rw [rd_killL] at ho; split at ho
    · cases ho
    · exact ho
  exact ⟨fun id o ho => h.live id o (g ho), fun i j oi oj hi hj => h.inj i j oi oj (g hi) (g hj), h.fr, fun id o ho => h.own id o (g ho), h.old⟩
theorem HRel.belowB {B : Nat → Prop} (h : HRel F A ψ H w) (hb : Ow.BelowB B w.heap.size w w') (hav : ∀ id o, rd H id = some o → o.vd = false → ¬ B (ψ id).blk) (hS : ∀ b, B b → F.S b) : HRel F A ψ H w' where
  live id o ho := by
    obtain ⟨h1, h2, h3⟩ := h.live id o ho
    exact ⟨h1, h2, fun hv => ⟨Nat.lt_of_lt_of_le (h3 hv).1 hb.size, (h3 hv).2.mono (fun _ ha => ⟨ha, rfl⟩) (hb.block _ (h3 hv).1 (hav id o ho hv))⟩⟩
  inj := h.inj
  fr := ⟨hb.os.trans h.fr.os, hb.tape.trans h.fr.tape, hb.output.trans h.fr.output, Nat.le_trans h.fr.size hb.size, fun k hk hs => (hb.block k (Nat.lt_of_lt_of_le hk h.fr.size) (fun h' => hs (hS k h'))).trans (h.fr.block k hk hs), h.fr.lay⟩
  own := h.own
  old := h.old
set_option maxHeartbeats 1000000 in
theorem rangeOwn_ok {own : List Nat} {H0 : Heap} {E : List Value} {g : Operand} {ps : Array Tmp} {assign body : Code} {base k : Nat} {Hp : Nat → Heap} {I : Nat → Prop} {σ : Type} {Hx : σ → Heap} {Ix : σ → Prop}
    {gf : Nat} {cap : Array Value} {N : Nat} {el : Nat → List Value}
    (hr : Rel F A ψ E H0 a w) (hb : ∀ id, A id → id < H0.length) (hH0 : Hp 0 = killL own H0) (hF : ∀ id, F.A0 id → id < base) (hbk : base ≤ k)
    (hE : E.map (renV (lowρ k) 4) = E) (hg : ev E g = .func (.func gf) #[] cap) (hcall : callable P gf = true)
    {ids : List Nat} (hids : nodupB ids = true) (hcap : capW own ids H0 = true) (hrw : ∀ i, i ≤ N → I i → allRW (Hp i) = true) (hrx : ∀ s, Ix s → allRW (Hx s) = true)
    (hit : Ow.IterOwn P gf (cap.toList.map (renV (pos ids) 4)) (resH H0 ids) N el)
    (hps : ∀ i, I i → i < N → (el i).length = ps.size ∧ (el i).all ground = true) (hI : I 0)
    {cA cB : List Value → Heap → (Ex → List Value → Heap → Prop) → Prop} (hA : ∀ l env H Q, cA env H Q → GoesIn (some l) P k assign env H Q) (hB2 : ∀ l env H Q, cB env H Q → GoesIn (some l) P k body env H Q)
    (hround : ∀ i, I i → i < N → cA (setAll ps.toList (el i) E) (Hp i) (thenN fun e h => cB e h (rfPost k Hp I Hx Ix i)))
    {R : Exit → Act → World → Prop} {n : Nat}
    (hdone : I N → ∀ F' A' ψ' a' w', Ext F F' → Rel F' A' ψ' E (Hp N) a' w' → (∀ id, A' id → id < (Hp N).length) → R .normal a' w')
    (hret : ∀ s, Ix s → ∀ F' A' ψ' a' w', Ext F F' → Rel F' A' ψ' E (Hx s) a' w' → (∀ id, A' id → id < (Hx s).length) → R .ret a' w') :
    (Code.rangeFunc g ps assign body).wpIn (fen none) n P R a w := by
  have hgv := hr.ev g
  rw [hg] at hgv
  obtain ⟨ys, vs, eg, l1, l2⟩ := hgv.func_inv
  have hys : ys = #[] := by
    apply Array.eq_empty_of_size_eq_zero
    simpa using l1.len
  subst hys
  refine wpIn_rangeFunc ?_
  intro fn _
  obtain ⟨rec, hrec⟩ : ∃ rec : LoopState → Option Code → Loop, rec = fun st pe => { state := st, pending := pe, fn, tmps := a.tmps, params := ps, assign, body, defers := w.heap.size } := ⟨_, rfl⟩
  obtain ⟨W1, hW1⟩ : ∃ W1, (w.alloc (.deferred (some []))).alloc (.loop (rec .ready none)) = W1 := ⟨_, rfl⟩
  have hL1 : W1.heap[w.heap.size + 1]? = some (.loop (rec .ready none)) := by
    rw [← hW1]; have := World.alloc_heap_new (w.alloc (.deferred (some []))) (.loop (rec .ready none)); rwa [World.size_alloc] at this
  have hK1 : W1.heap[w.heap.size]? = some (.deferred (some [])) := by
    rw [← hW1]; exact (Below.heap_alloc _ _ _ (by simp)).trans (World.alloc_heap_new w _)
  have hbel1 : Below w.heap.size w W1 := by
    rw [← hW1]; exact ((Below.refl _ w).alloc (Nat.le_refl _) _).alloc (by simp) _
  -- the rounds' frame
  obtain ⟨F1, hF1⟩ : ∃ F1, F1 = Vm.rebase P w ψ H0 (fun id => A id ∧ id < k) ψ [] := ⟨_, rfl⟩
  have h1 : HRel F1 A ψ (Hp 0) w := by rw [hF1, hH0]; exact (hr.heap.rebase fun id h => ⟨h.1, rfl⟩).killL own
  have h1w : F1.w0 = w := by rw [hF1]; rfl
  have h1A : ∀ id, F1.A0 id ↔ (A id ∧ id < k) := fun id => by rw [hF1]; exact Iff.rfl
  have h1ψ : F1.ψ0 = ψ := by rw [hF1]; rfl
  have hslots : ∀ {A' : Nat → Prop} {ψ' : Nat → Gh} {H' : Heap} {W' : World}, HRel F1 A' ψ' H' W' → ∀ t, VR A' ψ' (E.getD t poi) (a.tmps.getD t undef) := by
    intro A' ψ' H' W' hh t
    have := map_getD (A' := A') (ψ' := ψ') (f := renV (lowρ k) 4) (l := E) (l' := a.tmps.toList) (fun i _ => renV_rel (A := A) (ψ := ψ) (fun id j ha hj => by
      unfold lowρ at hj
      split at hj
      · rename_i hlt
        cases hj
        have := hh.old id ((h1A id).2 ⟨ha, hlt⟩)
        rw [h1ψ] at this
        exact this
      · cases hj) 4 (by simpa [Array.getD_eq_getD_getElem?, List.getD_eq_getElem?_getD] using hr.slot i)) t
    rw [hE] at this
    simpa [Array.getD_eq_getD_getElem?, List.getD_eq_getElem?_getD] using this
  -- the iterator's frame
  obtain ⟨FI, hFI⟩ : ∃ FI, FI = Vm.rebase P w ψ H0 (fun _ => False) ψ [] := ⟨_, rfl⟩
  have hI0 : HRel FI A ψ H0 w := by rw [hFI]; exact hr.heap.rebase fun id h => h.elim
  have hIw : FI.w0 = w := by rw [hFI]; rfl
  have hres := res_rel hr.heap hids (F' := FI) hI0.fr (fun j id o _ h2 h3 h4 => hI0.own id o h2 h3 h4) (fun j hj => by rw [hFI] at hj; exact hj.elim)
  have hkeep : ∀ {A' A'' : Nat → Prop} {ψ' ψ'' : Nat → Gh} {H' H'' : Heap} {W W' : World}, HRel F1 A' ψ' H' W → HRel F1 A'' ψ'' H'' W' → W.heap.size ≤ W'.heap.size → KeepF FI W W' := by
    intro A' A'' ψ' ψ'' H' H'' W W' h h' hs
    refine ⟨h'.fr.os.trans h.fr.os.symm, h'.fr.tape.trans h.fr.tape.symm, h'.fr.output.trans h.fr.output.symm, hs, fun b hb hS => ?_⟩
    have e1 : F1.w0 = FI.w0 := by rw [h1w, hIw]
    have e2 : F1.S = FI.S := by rw [hF1, hFI]; rfl
    rw [h'.fr.block b (by rw [e1]; exact hb) (by rw [e2]; exact hS), h.fr.block b (by rw [e1]; exact hb) (by rw [e2]; exact hS)]
  -- the iterator's own blocks
  obtain ⟨ψr, hψr⟩ : ∃ ψr : Nat → Gh, ψr = fun j => ψ (ids.getD j 0) := ⟨_, rfl⟩
  obtain ⟨B, hB⟩ : ∃ B, B = Ow.ownB ψr (resH H0 ids) := ⟨_, rfl⟩
  have hBo : ∀ {b}, B b → ∃ id o, rd H0 id = some o ∧ o.rw = true ∧ o.vd = false ∧ own.contains id = true ∧ (ψ id).blk = b := fun {b} hb' => by
    rw [hB] at hb'
    obtain ⟨j, o, q1, q2, q3⟩ := hb'
    rw [resH, rd_map] at q1
    cases hi : ids[j]? with
    | none => simp [hi] at q1
    | some id =>
      simp only [hi, Option.bind_some] at q1
      obtain ⟨o2, k1, k2⟩ := Option.map_eq_some_iff.1 q1
      have hgj : ids.getD j 0 = id := by simp [List.getD_eq_getElem?_getD, hi]
      rw [hψr] at q3
      simp only [hgj] at q3
      have hrw2 : o2.rw = true := by rw [← k2, renO_rw] at q2; exact q2
      have hc := capW_spec hcap (List.mem_of_getElem? hi) k1 hrw2
      exact ⟨id, o2, k1, hrw2, hc.2, hc.1, q3⟩
  have hBlt : ∀ {b}, B b → b < w.heap.size := fun {b} hb' => by
    obtain ⟨id, o, q1, q2, q3, q4, q5⟩ := hBo hb'
    rw [← q5]; exact ((hr.heap.live id o q1).2.2 q3).1
  have hBS : ∀ {b}, B b → F1.S b := fun {b} hb' => by
    obtain ⟨id, o, q1, q2, q3, q4, q5⟩ := hBo hb'
    rw [hF1]; exact ⟨id, o, q1, q2, q3, q5⟩
  have hcall1 := hit FI _ _ w vs.toList hres hIw (fun j o ho hf hvo hS => by
      rw [resH, rd_map] at ho
      cases hi : ids[j]? with
      | none => simp [hi] at ho
      | some id =>
        simp only [hi, Option.bind_some] at ho
        obtain ⟨o2, k1, k2⟩ := Option.map_eq_some_iff.1 ho
        have hgj : ids.getD j 0 = id := by simp [List.getD_eq_getElem?_getD, hi]
        rw [hgj] at hS
        rw [hFI] at hS
        obtain ⟨id', o', q1, q2, q4, q3⟩ := hS
        rw [← k2, renO_vd] at hvo
        have hne : id' ≠ id := fun e => by
          rw [e] at q1; rw [k1] at q1; cases q1
          rw [← k2, renO_rw] at hf
          rw [hf] at q2; cases q2
        exact hr.heap.inj id' id o' o2 q1 k1 hne q2 q4 hvo q3)
    (fun j ⟨id, hj, _⟩ => by simpa [resH] using (List.getElem?_eq_some_iff.1 hj).1)
    (l2.ren (ρ := pos ids) fun id j ha hj => by
      have := pos_spec hj
      exact ⟨⟨id, this, ha⟩, by simp [List.getD_eq_getElem?_getD, this]⟩)
    (n - 1) (w.heap.size + 1)
  rw [← hψr, ← hB] at hcall1
  have avoid0 : ∀ id o, rd (Hp 0) id = some o → o.vd = false → ¬ B (ψ id).blk := fun id o ho hv hb' => by
    rw [hH0, rd_killL] at ho
    split at ho
    · cases ho
    · rename_i hnc
      obtain ⟨id', o', q1, q2, q3, q4, q5⟩ := hBo hb'
      have hne : id' ≠ id := fun e => hnc (by rw [← e]; exact q4)
      exact hr.heap.inj id' id o' o q1 ho hne q2 q3 hv q5
  have hcall2 := hcall1
    (fun i W => I i ∧ (∃ A' ψ', HRel F1 A' ψ' (Hp i) W ∧ (∀ id, A' id → id < (Hp i).length) ∧ ∀ id o, rd (Hp i) id = some o → o.vd = false → ¬ B (ψ' id).blk) ∧ W.heap[w.heap.size + 1]? = some (.loop (rec .ready none)) ∧ W.heap[w.heap.size]? = some (.deferred (some [])))
    (fun _ W => ∃ s, Ix s ∧ (∃ A' ψ', HRel F1 A' ψ' (Hx s) W ∧ (∀ id, A' id → id < (Hx s).length) ∧ ∀ id o, rd (Hx s) id = some o → o.vd = false → ¬ B (ψ' id).blk) ∧ W.heap[w.heap.size + 1]? = some (.loop (rec .done (some .ret))) ∧ W.heap[w.heap.size]? = some (.deferred (some [])))
    W1 ⟨hbel1.os, hbel1.tape, hbel1.output, hbel1.size, fun b hb _ => hbel1.block b (by rw [hIw] at hb; exact hb)⟩
    (fun b hb' => hbel1.block b (hBlt hb'))
    (fun i W W' ⟨q1, ⟨A', ψ', q2, q3, q6⟩, q4, q5⟩ hb' => ⟨q1, ⟨A', ψ', q2.belowB hb' q6 (fun b h => hBS h), q3, q6⟩, (hb'.block _ (Array.getElem?_eq_some_iff.1 q4).1 (fun h => by have := hBlt h; omega)).trans q4, (hb'.block _ (Array.getElem?_eq_some_iff.1 q5).1 (fun h => by have := hBlt h; omega)).trans q5⟩)
    (fun i W W' ⟨s, q1, ⟨A', ψ', q2, q3, q6⟩, q4, q5⟩ hb' => ⟨s, q1, ⟨A', ψ', q2.belowB hb' q6 (fun b h => hBS h), q3, q6⟩, (hb'.block _ (Array.getElem?_eq_some_iff.1 q4).1 (fun h => by have := hBlt h; omega)).trans q4, (hb'.block _ (Array.getElem?_eq_some_iff.1 q5).1 (fun h => by have := hBlt h; omega)).trans q5⟩)
    ?round ⟨hI, ⟨A, ψ, h1.below' hbel1, fun id hid => by rw [hH0, killL_len]; exact hb id hid, avoid0⟩, hL1, hK1⟩
  case round =>
    rintro i W ⟨hi, ⟨A1, ψ1, hh, hbd, hav⟩, hl, hk⟩ hkW hlt
    have hp := hps i hi hlt
    have hy := run_yield (P := P) (args := (el i).toArray) hl (by rw [hrec]; simp [hp.1])
    rw [hrec] at hy
    refine ⟨fn, _, assign, body, hy, roundIn_of_wpIn trivial ?_⟩
    have hh2 : HRel (Vm.rebase P W ψ1 (Hp i) (fun id => A1 id ∧ id < k) ψ1 []) A1 ψ1 (Hp i) W := hh.rebase fun id h => ⟨h.1, rfl⟩
    have rel2 := setAll_rel (F := Vm.rebase P W ψ1 (Hp i) (fun id => A1 id ∧ id < k) ψ1 []) (a := ⟨a.tmps, []⟩) ps.toList (el i) ⟨hslots hh, hr.len, rfl, hh2⟩ hp.2
    have hfold : (ps.zip (el i).toArray).foldl (fun t (p, v) => t.setIfInBounds p v) a.tmps = (ps.toList.zip (el i)).foldl (fun t p => t.setIfInBounds p.1 p.2) a.tmps := by
      rw [← Array.foldl_toList, Array.toList_zip]
    rw [hfold]
    have hWs : w.heap.size ≤ W.heap.size := by have := hkW.size; exact this
    have nB1 : ∀ {b}, B b → ¬ rwB ψ1 (Hp i) b := fun {b} hb' ⟨id, o, q1, _, q4, q3⟩ => hav id o q1 q4 (by rw [q3]; exact hb')
    refine hA (w.heap.size + 1) _ _ _ (hround i hi hlt) _ _ A1 ψ1 _ W _ rel2 hbd (fun id h => h.2) ?_
    rintro x e h F2' A2 ψ2 a2 W2 ext2 hx rel2' hbd2
    cases x with
    | exit id => exact hx.elim
    | ret => exact hx.elim
    | normal =>
    have h22 := ext2.x.back rel2'.heap
    have nb : ∀ {l : Nat} {x : Obj}, W.heap[l]? = some x → x.isWalk = false → (∀ c e f, x ≠ .cells c e f) → W2.heap[l]? = some x := fun hl k1 k2 =>
      (h22.fr.block _ (Array.getElem?_eq_some_iff.1 hl).1 (fun ⟨id, o, q1, _, q4, q3⟩ => hh.not_block hl k1 k2 q1 q4 q3)).trans hl
    have kB2 : ∀ {b}, B b → W2.heap[b]? = W.heap[b]? := fun {b} hb' => h22.fr.block b (Nat.lt_of_lt_of_le (hBlt hb') hWs) (nB1 hb')
    have nB2 : ∀ {b}, B b → ¬ rwB ψ2 h b := fun {b} hb' ⟨id, o, q1, q2, q4, q3⟩ => by
      rcases h22.own id o q1 q2 q4 with h5 | h5
      · simp only [Vm.rebase] at h5
        have := hBlt hb'
        omega
      · rw [q3] at h5; exact nB1 hb' h5
    have hold1 : ∀ id, F1.A0 id → (A1 id ∧ id < k) ∧ ψ1 id = F1.ψ0 id := fun id hid => ⟨⟨(hh.old id hid).1, ((h1A id).1 hid).2⟩, (hh.old id hid).2⟩
    have h12 : HRel F1 A2 ψ2 h W2 := hh.unbase h22 hold1
    have hL2 := nb hl rfl (fun _ _ _ e => by cases e)
    have hK2 := nb hk rfl (fun _ _ _ e => by cases e)
    refine ⟨_, run_beginRound hL2 (by rw [hrec]), ?_⟩
    obtain ⟨W3, hW3⟩ : ∃ W3, W3 = W2.putObj (w.heap.size + 1) (.loop { rec .ready none with state := .busy }) := ⟨_, rfl⟩
    rw [← hW3]
    have hL3 : W3.heap[w.heap.size + 1]? = some (.loop { rec .ready none with state := .busy }) := by rw [hW3]; exact World.putObj_heap_same (Array.getElem?_eq_some_iff.1 hL2).1
    have hK3 : W3.heap[w.heap.size]? = some (.deferred (some [])) := by rw [hW3]; exact (World.putObj_heap_other (by omega)).trans hK2
    have hs3 : W3.heap.size = W2.heap.size := by rw [hW3]; simp
    have kB3 : ∀ {b}, B b → W3.heap[b]? = W2.heap[b]? := fun {b} hb' => by rw [hW3]; exact World.putObj_heap_other (by have := hBlt hb'; omega)
    have h13 : HRel F1 A2 ψ2 h W3 := by rw [hW3]; exact h12.putObj hL2 rfl (fun _ _ _ e => by cases e) (by rw [h1w]; omega) _
    have h33 : HRel (Vm.rebase P W3 ψ2 h (fun id => A2 id ∧ id < k) ψ2 a2.defers) A2 ψ2 h W3 := h13.rebase fun id h => ⟨h.1, rfl⟩
    refine hB2 (w.heap.size + 1) _ _ _ hx _ _ A2 ψ2 a2 W3 _ ⟨rel2'.slot, rel2'.len, rfl, h33⟩ hbd2 (fun id h => h.2) ?_
    rintro x e' h' F3' A3 ψ3 a3 W4 ext3 hx3 rel3 hbd3
    have h34 := ext3.x.back rel3.heap
    have nb3 : ∀ {l : Nat} {x : Obj}, W3.heap[l]? = some x → x.isWalk = false → (∀ c e f, x ≠ .cells c e f) → W4.heap[l]? = some x := fun hl k1 k2 =>
      (h34.fr.block _ (Array.getElem?_eq_some_iff.1 hl).1 (fun ⟨id, o, q1, _, q4, q3⟩ => h13.not_block hl k1 k2 q1 q4 q3)).trans hl
    have hL4 := nb3 hL3 rfl (fun _ _ _ e => by cases e)
    have hK4 := nb3 hK3 rfl (fun _ _ _ e => by cases e)
    have hs2 : W.heap.size ≤ W2.heap.size := by have := h22.fr.size; simpa only [Vm.rebase] using this
    have kB4 : ∀ {b}, B b → W4.heap[b]? = W3.heap[b]? := fun {b} hb' => h34.fr.block b (by simp only [Vm.rebase]; have := hBlt hb'; omega) (nB2 hb')
    have nB3 : ∀ {b}, B b → ∀ id o, rd h' id = some o → o.rw = true → o.vd = false → (ψ3 id).blk ≠ b := fun {b} hb' id o q1 q2 q4 q3 => by
      rcases h34.own id o q1 q2 q4 with h5 | h5
      · simp only [Vm.rebase] at h5
        have := hBlt hb'
        omega
      · rw [q3] at h5; exact nB2 hb' h5
    have h14 : HRel F1 A3 ψ3 h' W4 := h13.unbase h34 fun id hid => ⟨⟨(h13.old id hid).1, ((h1A id).1 hid).2⟩, (h13.old id hid).2⟩
    -- a frame that says that the own blocks are nobody else's
    obtain ⟨G, hG⟩ : ∃ G : Fr P, G = ⟨W4, fun b => ¬ B b ∧ (w.heap.size ≤ b ∨ F1.S b), F1.A0, F1.ψ0, []⟩ := ⟨_, rfl⟩
    have hG4 : HRel G A3 ψ3 h' W4 := by
      rw [hG]
      refine ⟨h14.live, h14.inj, ⟨rfl, rfl, rfl, Nat.le_refl _, fun _ _ _ => rfl, fun w' q1 q2 => ?_⟩, fun id o q1 q2 q3 => ?_, h14.old⟩
      · refine h14.fr.lay w' (fun b hb1 hb2 => ?_) (Nat.le_trans h14.fr.size q2)
        rw [h1w] at hb1
        rw [q1 b (by have := h14.fr.size; rw [h1w] at this; show b < W4.heap.size; omega) (fun ⟨_, h⟩ => by rcases h with h | h; omega; exact hb2 h)]
        exact h14.fr.block b (by rw [h1w]; exact hb1) hb2
      · refine .inr ⟨fun hb' => nB3 hb' id o q1 q2 q3 rfl, ?_⟩
        have := h14.own id o q1 q2 q3
        rw [h1w] at this
        exact this
    have back : ∀ {A5 ψ5 H5}, HRel G A5 ψ5 H5 W4 → allRW H5 = true → HRel F1 A5 ψ5 H5 W4 ∧ ∀ id o, rd H5 id = some o → o.vd = false → ¬ B (ψ5 id).blk := fun {A5 ψ5 H5} h5 hal => by
      rw [hG] at h5
      have hx5 : ∀ id o, rd H5 id = some o → o.rw = true → o.vd = false → ¬ B (ψ5 id).blk ∧ (w.heap.size ≤ (ψ5 id).blk ∨ F1.S (ψ5 id).blk) := fun id o q1 q2 q3 => by
        rcases h5.own id o q1 q2 q3 with h6 | h6
        · have := ((h5.live id o q1).2.2 q3).1
          simp only at h6
          omega
        · exact h6
      exact ⟨⟨h5.live, h5.inj, h14.fr, fun id o q1 q2 q3 => by rw [h1w]; exact (hx5 id o q1 q2 q3).2, h5.old⟩, fun id o q1 q3 => (hx5 id o q1 (allRW_spec hal q1) q3).1⟩
    have fin : ∀ (jump : Option Code), (Instr.endRound (w.heap.size + 1) jump).run P W4 = .ok (.bool jump.isNone) (W4.putObj (w.heap.size + 1) (.loop (rec (if jump.isNone then .ready else .done) jump))) ∧
        (∀ {A5 ψ5 H5}, HRel F1 A5 ψ5 H5 W4 → HRel F1 A5 ψ5 H5 (W4.putObj (w.heap.size + 1) (.loop (rec (if jump.isNone then .ready else .done) jump)))) ∧
        (W4.putObj (w.heap.size + 1) (.loop (rec (if jump.isNone then .ready else .done) jump))).heap[w.heap.size + 1]? = some (.loop (rec (if jump.isNone then .ready else .done) jump)) ∧
        (W4.putObj (w.heap.size + 1) (.loop (rec (if jump.isNone then .ready else .done) jump))).heap[w.heap.size]? = some (.deferred (some [])) ∧
        KeepF FI W (W4.putObj (w.heap.size + 1) (.loop (rec (if jump.isNone then .ready else .done) jump))) ∧
        Ow.keepB B W (W4.putObj (w.heap.size + 1) (.loop (rec (if jump.isNone then .ready else .done) jump))) := fun jump => by
      have hr1 := run_endRound (P := P) jump hL4
      have hput : ∀ {A5 ψ5 H5}, HRel F1 A5 ψ5 H5 W4 → HRel F1 A5 ψ5 H5 (W4.putObj (w.heap.size + 1) (.loop (rec (if jump.isNone then .ready else .done) jump))) := fun h5 =>
        h5.putObj hL4 rfl (fun _ _ _ e => by cases e) (by rw [h1w]; omega) _
      refine ⟨by rw [hrec] at hr1 ⊢; exact hr1, hput, World.putObj_heap_same (Array.getElem?_eq_some_iff.1 hL4).1, (World.putObj_heap_other (by omega)).trans hK4, hkeep hh (hput h14) ?_, fun b hb' => ?_⟩
      · have a1 := h22.fr.size
        have a2 := h34.fr.size
        simp only [Vm.rebase] at a1 a2
        simp only [World.putObj_size]
        omega
      · rw [World.putObj_heap_other (by have := hBlt hb'; omega), kB4 hb', kB3 hb', kB2 hb']
    cases x with
    | exit id => exact hx3.elim
    | normal =>
      obtain ⟨A5, ψ5, H5, q1, q2, rfl, q3⟩ := gcH_spec hx3 hG4 (fun id hid => by rw [hG] at hid; exact ((h1A id).1 hid).2)
      obtain ⟨q4, q5⟩ := back q1 (hrw (i + 1) hlt q3)
      obtain ⟨f1, f2, f3, f4, f5, f6⟩ := fin none
      exact ⟨_, _, f1, .inl ⟨rfl, ⟨q3, ⟨A5, ψ5, f2 q4, q2, q5⟩, f3, f4⟩, f5, f6⟩⟩
    | ret =>
      obtain ⟨A5, ψ5, H5, q1, q2, s, rfl, q3⟩ := gcH_spec hx3 hG4 (fun id hid => by rw [hG] at hid; exact ((h1A id).1 hid).2)
      obtain ⟨q4, q5⟩ := back q1 (hrx s q3)
      obtain ⟨f1, f2, f3, f4, f5, f6⟩ := fin (some .ret)
      exact ⟨_, _, f1, .inr ⟨rfl, ⟨s, q3, ⟨A5, ψ5, f2 q4, q2, q5⟩, f3, f4⟩, f5, f6⟩⟩
  have hlast : ∀ {A' : Nat → Prop} {ψ' : Nat → Gh} {H' : Heap} {W2 : World} {st : LoopState} {pe : Option Code}, HRel F1 A' ψ' H' W2 → W2.heap[w.heap.size + 1]? = some (.loop (rec st pe)) → W2.heap[w.heap.size]? = some (.deferred (some [])) → st ≠ .busy →
      ∃ W3, (Instr.endLoop (w.heap.size + 1)).run P W2 = .ok pe W3 ∧ ∃ F', Ext F F' ∧ Rel F' A' ψ' E H' { a with defers := [mark w.heap.size] ++ a.defers } W3 := by
    intro A' ψ' H' W2 st pe h2 hl hk hst
    have hrun := run_endLoop (P := P) hl (by rw [hrec]; exact hst)
    have hpe : (rec st pe).pending = pe := by rw [hrec]
    have hrun : (Instr.endLoop (w.heap.size + 1)).run P W2 = .ok pe (W2.putObj (w.heap.size + 1) (.loop { rec st pe with state := .exhausted })) := hrun.trans (congrArg (fun z => Result.ok z _) hpe)
    refine ⟨_, hrun, ?_⟩
    have h3 := h2.putObj hl rfl (fun _ _ _ e => by cases e) (by rw [h1w]; omega) (.loop { rec st pe with state := .exhausted })
    have hk3 : (W2.putObj (w.heap.size + 1) (.loop { rec st pe with state := .exhausted })).heap[w.heap.size]? = some (.deferred (some [])) := (World.putObj_heap_other (by omega)).trans hk
    have hFr : HRel F A' ψ' H' (W2.putObj (w.heap.size + 1) (.loop { rec st pe with state := .exhausted })) := hr.heap.unbase (A0 := fun id => A id ∧ id < k) (ψ0 := ψ) (ds := []) (by rw [hF1] at h3; exact h3) fun id hid =>
      ⟨⟨(hr.heap.old id hid).1, Nat.lt_of_lt_of_le (hF id hid) hbk⟩, (hr.heap.old id hid).2⟩
    refine ⟨Vm.rebase P _ ψ' H' F.A0 F.ψ0 (mark w.heap.size :: F.ds), ext_rebase hFr hr.heap.fr.size hk3, ⟨hslots h3, hr.len, ?_, hFr.rebase hFr.old⟩⟩
    simp [Vm.rebase, hr.defers]
  refine ⟨w.heap.size + 1, [{ target := .collected w.heap.size, args := #[] }], W1, { target := .fn (.func gf) vs, args := #[.func (.yield (w.heap.size + 1)) #[] #[]] }, W1, gf,
    #[.func (.yield (w.heap.size + 1)) #[] #[]] ++ vs, W1, ?_, ?_, ?_, ?_, fun h => fen_depth h, ?_⟩
  · rw [← hW1, hrec]; exact run_enterLoop_outer _ _ _ _ _
  · simp only [resolve, eg]
    simp [go_sem]
  · intro _ _; trivial
  · simp [invoke, go_sem, callable_run hcall]
  · have harr : (Value.func (.yield (w.heap.size + 1)) #[] #[] :: vs.toList).toArray = #[.func (.yield (w.heap.size + 1)) #[] #[]] ++ vs := by
      apply Array.ext'; simp
    rw [harr] at hcall2
    refine hcall2.mono ?_
    rintro e W2 ⟨⟨v, rfl⟩, (⟨hi, ⟨A', ψ', hh, hbd, _⟩, hl, hk⟩ | ⟨i, _, s, hs, ⟨A', ψ', hh, hbd, _⟩, hl, hk⟩)⟩
    · obtain ⟨W3, e1, F', e2, e3⟩ := hlast hh hl hk (by simp)
      exact ⟨none, W3, e1, hdone hi F' A' ψ' _ W3 e2 e3 hbd⟩
    · obtain ⟨W3, e1, F', e2, e3⟩ := hlast hh hl hk (by simp)
      exact ⟨some .ret, W3, e1, wpIn_ret (hret s hs F' A' ψ' _ W3 e2 e3 hbd)⟩

end
end
end Go.Vm
end
section
/- Iterators that lend a row of their own: what they are. -/
namespace Go.Vm
open Go.RowKit
noncomputable section
namespace Le
/-- A row that lies at a block. -/
def lent (b : Nat) (cells : List Value) (w : World) : Prop := ∃ arr el fz, w.heap[b]? = some (.cells arr el fz) ∧ (∀ i, i < cells.length → arr[i]? = some (cells.getD i poi)) ∧ ∀ v ∈ cells, atom v = true ∧ v.oneCell' = true
/-- An iterator that visits a row of its own N times; it is pl i at the i-th time. -/
def IterLent (P : Program) (gf : FuncId) (cap : List Value) (H : Heap) (N len : Nat) (pl : Nat → List Value) : Prop :=
  ∀ (F : Fr P) A ψ w cap', HRel F A ψ H w → F.w0 = w → (∀ id o, rd H id = some o → o.rw = false ∧ (o.vd = false → ¬ F.S (ψ id).blk)) → (∀ id, A id → id < H.length) → LR A ψ cap cap' →
    ∀ (n l : Nat) (J0 : World → Prop) (J : Nat → Nat → World → Prop) (Jx : Nat → World → Prop) (W : World), KeepF F w W →
      (∀ W W', J0 W → Below W.heap.size W W' → J0 W') → (∀ W W' b, J0 W → Below W.heap.size W W' → W.heap.size ≤ b → J b 0 W') →
      (∀ b i W W', J b i W → Ow.BelowB (fun x => x = b) W.heap.size W W' → J b i W') → (∀ b W W', Jx b W → Ow.BelowB (fun x => x = b) W.heap.size W W' → Jx b W') →
      (∀ b i W1 c, J b i W1 → KeepF F w W1 → i < N → lent b (pl i) W1 → len ≤ c → YieldAt (fen none) n P l #[.slice (some ⟨b, 0, none⟩) len c] W1 fun e W' =>
        (e = .returned (.bool true) ∧ J b (i + 1) W' ∧ KeepF F W1 W' ∧ W'.heap[b]? = W1.heap[b]?) ∨ (e = .returned (.bool false) ∧ Jx b W' ∧ KeepF F W1 W' ∧ W'.heap[b]? = W1.heap[b]?)) →
      J0 W → CallsIn (fen none) n P gf (.func (.yield l) #[] #[] :: cap').toArray W fun e W' =>
        (∃ v, e = .returned v) ∧ ((∃ b, J b N W') ∨ ∃ b, Jx b W')
end Le
/-- An iterator that lends a row of its own. -/
structure ItL (P : Program) where
  gf : FuncId
  fn : List Value → Heap → Option (Nat × Nat × (Nat → List Value) × Prop)
  ok : ∀ {cap H N len pl vc}, fn cap H = some (N, len, pl, vc) → vc → Le.IterLent P gf cap H N len pl
theorem rd_snoc (o : Option AObj) : ∀ (H : Heap) (id : Nat), rd (H ++ [o]) id = if id = H.length then o else rd H id
  | [], 0 => rfl
  | [], id + 1 => by rw [if_neg (by simp)]; rfl
  | a :: H, 0 => by rw [if_neg (by simp)]; rfl
  | a :: H, id + 1 => by
    rw [List.cons_append, rd_cons, rd_snoc o H id, rd_cons, List.length_cons]
    by_cases h : id = H.length
    · rw [if_pos h, if_pos (by omega)]
    · rw [if_neg h, if_neg (by omega)]
/-- Rows that nobody turns are the ones of the beginning. -/
def sameRO (k : Nat) (H0 H : Heap) : Prop := ∀ id o, rd H id = some o → o.rw = false → id < k ∧ rd H0 id = some o
section
variable {P : Program} {F : Fr P} {A A' : Nat → Prop} {ψ ψ' : Nat → Gh} {H H' : Heap} {env : List Value} {a : Act} {w w' : World}
theorem HRel.belowL {b : Nat} (h : HRel F A ψ H w) (hb : Ow.BelowB (fun x => x = b) w.heap.size w w') (hav : ∀ id o, rd H id = some o → o.vd = false → (ψ id).blk ≠ b) (hS : F.w0.heap.size ≤ b) : HRel F A ψ H w' where
  live id o ho := by
    obtain ⟨h1, h2, h3⟩ := h.live id o ho
    exact ⟨h1, h2, fun hv => ⟨Nat.lt_of_lt_of_le (h3 hv).1 hb.size, (h3 hv).2.mono (fun _ ha => ⟨ha, rfl⟩) (hb.block _ (h3 hv).1 (hav id o ho hv))⟩⟩
  inj := h.inj
  fr := ⟨hb.os.trans h.fr.os, hb.tape.trans h.fr.tape, hb.output.trans h.fr.output, Nat.le_trans h.fr.size hb.size, fun k hk hs => (hb.block k (Nat.lt_of_lt_of_le hk h.fr.size) (by omega)).trans (h.fr.block k hk hs), h.fr.lay⟩
  own := h.own
  old := h.old
/-- A row that is lent, beside. -/
theorem HRel.lend {b : Nat} {cells : List Value} (h : HRel F A ψ H w) (hb : ∀ id, A id → id < H.length) (hav : ∀ id o, rd H id = some o → o.vd = false → (ψ id).blk ≠ b) (hl : Le.lent b cells w) :
    HRel F (fun id => A id ∨ id = H.length) (fun id => if id = H.length then ⟨b, 0, 0, 1⟩ else ψ id) (H ++ [some (.row cells 1 false false true)]) w := by
  obtain ⟨arr, el, fz, l1, l2, l3⟩ := hl
  have lt : ∀ {id o}, rd H id = some o → id < H.length := fun {id o} ho => hb id (h.live id o ho).1
  have mono : ∀ id, A id → (A id ∨ id = H.length) ∧ (if id = H.length then (⟨b, 0, 0, 1⟩ : Gh) else ψ id) = ψ id := fun id ha => ⟨.inl ha, if_neg (by have := hb id ha; omega)⟩
  refine ⟨fun id o ho => ?_, fun i j oi oj hi hj hne r1 r2 r3 => ?_, h.fr, fun id o ho r1 r2 => ?_, fun id hid => ?_⟩
  · rw [rd_snoc] at ho
    by_cases e : id = H.length
    · rw [if_pos e] at ho
      cases ho
      subst e
      have eg : (if H.length = H.length then (⟨b, 0, 0, 1⟩ : Gh) else ψ H.length) = ⟨b, 0, 0, 1⟩ := if_pos rfl
      rw [eg]
      refine ⟨.inr rfl, rfl, fun _ => ⟨(Array.getElem?_eq_some_iff.1 l1).1, arr, el, fz, l1, rfl, fun i hi => ⟨_, by rw [Nat.zero_add]; exact l2 i hi, ?_, .atom _ ?_⟩, (fun h => by cases h), fun _ v hv => (l3 v hv).1⟩⟩
      · rw [List.getD_eq_getElem?_getD, List.getElem?_eq_getElem hi]; exact (l3 _ (List.getElem_mem hi)).2
      · rw [List.getD_eq_getElem?_getD, List.getElem?_eq_getElem hi]; exact (l3 _ (List.getElem_mem hi)).1
    · rw [if_neg e] at ho
      obtain ⟨h1, h2, h3⟩ := h.live id o ho
      simp only [if_neg e]
      exact ⟨.inl h1, h2, fun hv => ⟨(h3 hv).1, (h3 hv).2.mono mono rfl⟩⟩
  · rw [rd_snoc] at hi hj
    by_cases ei : i = H.length
    · rw [if_pos ei] at hi; cases hi; cases r1
    · rw [if_neg ei] at hi
      simp only [if_neg ei]
      by_cases ej : j = H.length
      · simp only [if_pos ej]; exact hav i oi hi r2
      · rw [if_neg ej] at hj
        simp only [if_neg ej]
        exact h.inj i j oi oj hi hj hne r1 r2 r3
  · rw [rd_snoc] at ho
    by_cases e : id = H.length
    · rw [if_pos e] at ho; cases ho; cases r1
    · rw [if_neg e] at ho
      simp only [if_neg e]
      exact h.own id o ho r1 r2
  · obtain ⟨h1, h2⟩ := h.old id hid
    exact ⟨.inl h1, (mono id h1).2.trans h2⟩
end
end
end Go.Vm
end
section
/- The range over a function that lends a row of its own, walked. -/
namespace Go.Vm
open Go.RowKit
noncomputable section
section
variable {P : Program} {F : Fr P} {A A' : Nat → Prop} {ψ ψ' : Nat → Gh} {H H' : Heap} {env : List Value} {a : Act} {w w' : World}
set_option maxHeartbeats 1000000 in
theorem rangeLent_ok {E : List Value} {g : Operand} {p : Tmp} {assign body : Code} {base k : Nat} {Hp : Nat → Heap} {I : Nat → Prop} {σ : Type} {Hx : σ → Heap} {Ix : σ → Prop}
    {gf : Nat} {cap : Array Value} {N len : Nat} {pl : Nat → List Value}
    (hr : Rel F A ψ E (Hp 0) a w) (hb : ∀ id, A id → id < (Hp 0).length) (hF : ∀ id, F.A0 id → id < base) (hbk : base ≤ k)
    (hE : E.map (renV (lowρ k) 4) = E) (hg : ev E g = .func (.func gf) #[] cap) (hcall : callable P gf = true)
    {ids : List Nat} (hids : nodupB ids = true) (hseal : allSealed (resH (Hp 0) ids) = true) (hrw : ∀ i, i ≤ N → I i → sameRO k (Hp 0) (Hp i)) (hrx : ∀ s, Ix s → sameRO k (Hp 0) (Hx s))
    (hit : Le.IterLent P gf (cap.toList.map (renV (pos ids) 4)) (resH (Hp 0) ids) N len pl)
    (hI : I 0)
    {cA cB : List Value → Heap → (Ex → List Value → Heap → Prop) → Prop} (hA : ∀ l env H Q, cA env H Q → GoesIn (some l) P k assign env H Q) (hB2 : ∀ l env H Q, cB env H Q → GoesIn (some l) P k body env H Q)
    (hround : ∀ i, I i → i < N → cA (setAll [p] [.slice (some ⟨(Hp i).length, 0, none⟩) len big] E) (Hp i ++ [some (.row (pl i) 1 false false true)]) (thenN fun e h => cB e h (rfPost k Hp I Hx Ix i)))
    {R : Exit → Act → World → Prop} {n : Nat}
    (hdone : I N → ∀ F' A' ψ' a' w', Ext F F' → Rel F' A' ψ' E (Hp N) a' w' → (∀ id, A' id → id < (Hp N).length) → R .normal a' w')
    (hret : ∀ s, Ix s → ∀ F' A' ψ' a' w', Ext F F' → Rel F' A' ψ' E (Hx s) a' w' → (∀ id, A' id → id < (Hx s).length) → R .ret a' w') :
    (Code.rangeFunc g #[p] assign body).wpIn (fen none) n P R a w := by
  have hgv := hr.ev g
  rw [hg] at hgv
  obtain ⟨ys, vs, eg, l1, l2⟩ := hgv.func_inv
  have hys : ys = #[] := by
    apply Array.eq_empty_of_size_eq_zero
    simpa using l1.len
  subst hys
  refine wpIn_rangeFunc ?_
  intro fn _
  obtain ⟨rec, hrec⟩ : ∃ rec : LoopState → Option Code → Loop, rec = fun st pe => { state := st, pending := pe, fn, tmps := a.tmps, params := #[p], assign, body, defers := w.heap.size } := ⟨_, rfl⟩
  obtain ⟨W1, hW1⟩ : ∃ W1, (w.alloc (.deferred (some []))).alloc (.loop (rec .ready none)) = W1 := ⟨_, rfl⟩
  have hL1 : W1.heap[w.heap.size + 1]? = some (.loop (rec .ready none)) := by
    rw [← hW1]; have := World.alloc_heap_new (w.alloc (.deferred (some []))) (.loop (rec .ready none)); rwa [World.size_alloc] at this
  have hK1 : W1.heap[w.heap.size]? = some (.deferred (some [])) := by
    rw [← hW1]; exact (Below.heap_alloc _ _ _ (by simp)).trans (World.alloc_heap_new w _)
  have hbel1 : Below w.heap.size w W1 := by
    rw [← hW1]; exact ((Below.refl _ w).alloc (Nat.le_refl _) _).alloc (by simp) _
  -- the rounds' frame
  obtain ⟨F1, hF1⟩ : ∃ F1, F1 = Vm.rebase P w ψ (Hp 0) (fun id => A id ∧ id < k) ψ [] := ⟨_, rfl⟩
  have h1 : HRel F1 A ψ (Hp 0) w := by rw [hF1]; exact hr.heap.rebase fun id h => ⟨h.1, rfl⟩
  have h1w : F1.w0 = w := by rw [hF1]; rfl
  have h1A : ∀ id, F1.A0 id ↔ (A id ∧ id < k) := fun id => by rw [hF1]; exact Iff.rfl
  have h1ψ : F1.ψ0 = ψ := by rw [hF1]; rfl
  have hslots : ∀ {A' : Nat → Prop} {ψ' : Nat → Gh} {H' : Heap} {W' : World}, HRel F1 A' ψ' H' W' → ∀ t, VR A' ψ' (E.getD t poi) (a.tmps.getD t undef) := by
    intro A' ψ' H' W' hh t
    have := map_getD (A' := A') (ψ' := ψ') (f := renV (lowρ k) 4) (l := E) (l' := a.tmps.toList) (fun i _ => renV_rel (A := A) (ψ := ψ) (fun id j ha hj => by
      unfold lowρ at hj
      split at hj
      · rename_i hlt
        cases hj
        have := hh.old id ((h1A id).2 ⟨ha, hlt⟩)
        rw [h1ψ] at this
        exact this
      · cases hj) 4 (by simpa [Array.getD_eq_getD_getElem?, List.getD_eq_getElem?_getD] using hr.slot i)) t
    rw [hE] at this
    simpa [Array.getD_eq_getD_getElem?, List.getD_eq_getElem?_getD] using this
  -- the iterator's frame
  obtain ⟨FI, hFI⟩ : ∃ FI, FI = Vm.rebase P w ψ (Hp 0) (fun _ => False) ψ [] := ⟨_, rfl⟩
  have hI0 : HRel FI A ψ (Hp 0) w := by rw [hFI]; exact hr.heap.rebase fun id h => h.elim
  have hIw : FI.w0 = w := by rw [hFI]; rfl
  have hres := res_rel hr.heap hids (F' := FI) hI0.fr (fun j id o _ h2 h3 h4 => hI0.own id o h2 h3 h4) (fun j hj => by rw [hFI] at hj; exact hj.elim)
  have hkeep : ∀ {A' A'' : Nat → Prop} {ψ' ψ'' : Nat → Gh} {H' H'' : Heap} {W W' : World}, HRel F1 A' ψ' H' W → HRel F1 A'' ψ'' H'' W' → W.heap.size ≤ W'.heap.size → KeepF FI W W' := by
    intro A' A'' ψ' ψ'' H' H'' W W' h h' hs
    refine ⟨h'.fr.os.trans h.fr.os.symm, h'.fr.tape.trans h.fr.tape.symm, h'.fr.output.trans h.fr.output.symm, hs, fun b hb hS => ?_⟩
    have e1 : F1.w0 = FI.w0 := by rw [h1w, hIw]
    have e2 : F1.S = FI.S := by rw [hF1, hFI]; rfl
    rw [h'.fr.block b (by rw [e1]; exact hb) (by rw [e2]; exact hS), h.fr.block b (by rw [e1]; exact hb) (by rw [e2]; exact hS)]
  have hcall1 := hit FI _ _ w vs.toList hres hIw (fun j o ho => by
      have h0 := allSealed_spec hseal ho
      refine ⟨h0, fun hvo hS => ?_⟩
      rw [resH, rd_map] at ho
      cases hi : ids[j]? with
      | none => simp [hi] at ho
      | some id =>
        simp only [hi, Option.bind_some] at ho
        obtain ⟨o2, k1, k2⟩ := Option.map_eq_some_iff.1 ho
        have hgj : ids.getD j 0 = id := by simp [List.getD_eq_getElem?_getD, hi]
        rw [hgj] at hS
        rw [hFI] at hS
        obtain ⟨id', o', q1, q2, q4, q3⟩ := hS
        rw [← k2, renO_vd] at hvo
        have hne : id' ≠ id := fun e => by
          rw [e] at q1; rw [k1] at q1; cases q1
          rw [← k2, renO_rw] at h0
          rw [h0] at q2; cases q2
        exact hr.heap.inj id' id o' o2 q1 k1 hne q2 q4 hvo q3)
    (fun j ⟨id, hj, _⟩ => by simpa [resH] using (List.getElem?_eq_some_iff.1 hj).1)
    (l2.ren (ρ := pos ids) fun id j ha hj => by
      have := pos_spec hj
      exact ⟨⟨id, this, ha⟩, by simp [List.getD_eq_getElem?_getD, this]⟩)
    (n - 1) (w.heap.size + 1)
    (fun W => (∃ A' ψ', HRel F1 A' ψ' (Hp 0) W ∧ ∀ id, A' id → id < (Hp 0).length) ∧ w.heap.size + 2 ≤ W.heap.size ∧ W.heap[w.heap.size + 1]? = some (.loop (rec .ready none)) ∧ W.heap[w.heap.size]? = some (.deferred (some [])))
    (fun b i W => I i ∧ (∃ A' ψ', HRel F1 A' ψ' (Hp i) W ∧ (∀ id, A' id → id < (Hp i).length) ∧ ∀ id o, rd (Hp i) id = some o → o.vd = false → (ψ' id).blk ≠ b) ∧ w.heap.size + 2 ≤ b ∧ W.heap[w.heap.size + 1]? = some (.loop (rec .ready none)) ∧ W.heap[w.heap.size]? = some (.deferred (some [])))
    (fun b W => ∃ s, Ix s ∧ (∃ A' ψ', HRel F1 A' ψ' (Hx s) W ∧ (∀ id, A' id → id < (Hx s).length) ∧ ∀ id o, rd (Hx s) id = some o → o.vd = false → (ψ' id).blk ≠ b) ∧ w.heap.size + 2 ≤ b ∧ W.heap[w.heap.size + 1]? = some (.loop (rec .done (some .ret))) ∧ W.heap[w.heap.size]? = some (.deferred (some [])))
    W1 ⟨hbel1.os, hbel1.tape, hbel1.output, hbel1.size, fun b hb _ => hbel1.block b (by rw [hIw] at hb; exact hb)⟩
    (fun W W' ⟨⟨A', ψ', q2, q3⟩, q6, q4, q5⟩ hb' => ⟨⟨A', ψ', q2.below' hb', q3⟩, Nat.le_trans q6 hb'.size, (hb'.block _ (Array.getElem?_eq_some_iff.1 q4).1).trans q4, (hb'.block _ (Array.getElem?_eq_some_iff.1 q5).1).trans q5⟩)
    (fun W W' b ⟨⟨A', ψ', q2, q3⟩, q6, q4, q5⟩ hb' hle => ⟨hI, ⟨A', ψ', q2.below' hb', q3, fun id o ho hv e => by have := ((q2.live id o ho).2.2 hv).1; omega⟩, Nat.le_trans q6 hle, (hb'.block _ (Array.getElem?_eq_some_iff.1 q4).1).trans q4, (hb'.block _ (Array.getElem?_eq_some_iff.1 q5).1).trans q5⟩)
    (fun b i W W' ⟨q1, ⟨A', ψ', q2, q3, q6⟩, q7, q4, q5⟩ hb' => ⟨q1, ⟨A', ψ', q2.belowL hb' q6 (by rw [h1w]; omega), q3, q6⟩, q7, (hb'.block _ (Array.getElem?_eq_some_iff.1 q4).1 (by omega)).trans q4, (hb'.block _ (Array.getElem?_eq_some_iff.1 q5).1 (by omega)).trans q5⟩)
    (fun b W W' ⟨s, q1, ⟨A', ψ', q2, q3, q6⟩, q7, q4, q5⟩ hb' => ⟨s, q1, ⟨A', ψ', q2.belowL hb' q6 (by rw [h1w]; omega), q3, q6⟩, q7, (hb'.block _ (Array.getElem?_eq_some_iff.1 q4).1 (by omega)).trans q4, (hb'.block _ (Array.getElem?_eq_some_iff.1 q5).1 (by omega)).trans q5⟩)
    ?round ⟨⟨A, ψ, h1.below' hbel1, hb⟩, by rw [← hW1]; simp, hL1, hK1⟩
  case round =>
    rintro b i W c ⟨hi, ⟨A0, ψ0, hh0, hbd0, hav0⟩, hbb, hl, hk⟩ hkW hlt hlent hlc
    have hy := run_yield (P := P) (args := #[Value.slice (some ⟨b, 0, none⟩) len c]) hl (by rw [hrec]; rfl)
    rw [hrec] at hy
    refine ⟨fn, _, assign, body, hy, roundIn_of_wpIn trivial ?_⟩
    have hbs : b < W.heap.size := by obtain ⟨arr, el, fz, l1, _⟩ := hlent; exact (Array.getElem?_eq_some_iff.1 l1).1
    have hh := hh0.lend hbd0 hav0 hlent
    obtain ⟨A1, hA1⟩ : ∃ A1 : Nat → Prop, A1 = fun id => A0 id ∨ id = (Hp i).length := ⟨_, rfl⟩
    obtain ⟨ψ1, hψ1⟩ : ∃ ψ1 : Nat → Gh, ψ1 = fun id => if id = (Hp i).length then ⟨b, 0, 0, 1⟩ else ψ0 id := ⟨_, rfl⟩
    rw [← hA1, ← hψ1] at hh
    have hbd : ∀ id, A1 id → id < (Hp i ++ [some (AObj.row (pl i) 1 false false true)]).length := fun id hid => by
      rw [hA1] at hid
      rw [List.length_append, List.length_singleton]
      rcases hid with hid | hid
      · have := hbd0 id hid; omega
      · omega
    have hh2 : HRel (Vm.rebase P W ψ1 (Hp i ++ [some (AObj.row (pl i) 1 false false true)]) (fun id => A1 id ∧ id < k) ψ1 []) A1 ψ1 (Hp i ++ [some (AObj.row (pl i) 1 false false true)]) W := hh.rebase fun id h => ⟨h.1, rfl⟩
    have hsl : VR A1 ψ1 (.slice (some ⟨(Hp i).length, 0, none⟩) len big) (.slice (some ⟨b, 0, none⟩) len c) := .view _ 0 len c _ (by rw [hA1]; exact .inr rfl) hlc (.inr (by rw [hψ1]; simp))
    have rel2 := put_rel (F := Vm.rebase P W ψ1 (Hp i ++ [some (AObj.row (pl i) 1 false false true)]) (fun id => A1 id ∧ id < k) ψ1 []) (a := ⟨a.tmps, []⟩) ⟨hslots hh, hr.len, rfl, hh2⟩ hsl (some p)
    have hfold : (#[p].zip #[Value.slice (some ⟨b, 0, none⟩) len c]).foldl (fun t (p, v) => t.setIfInBounds p v) a.tmps = a.tmps.setIfInBounds p (.slice (some ⟨b, 0, none⟩) len c) := by
      simp
    rw [hfold]
    have hWs : w.heap.size ≤ W.heap.size := by have := hkW.size; exact this
    have nB1 : ¬ rwB ψ1 (Hp i ++ [some (AObj.row (pl i) 1 false false true)]) b := fun ⟨id, o, q1, q2, q4, q3⟩ => by
      rw [rd_snoc] at q1
      by_cases e : id = (Hp i).length
      · rw [if_pos e] at q1; cases q1; cases q2
      · rw [if_neg e] at q1
        rw [hψ1] at q3
        simp only [if_neg e] at q3
        exact hav0 id o q1 q4 q3
    refine hA (w.heap.size + 1) _ _ _ (hround i hi hlt) _ _ A1 ψ1 _ W _ rel2 hbd (fun id h => h.2) ?_
    rintro x e h F2' A2 ψ2 a2 W2 ext2 hx rel2' hbd2
    cases x with
    | exit id => exact hx.elim
    | ret => exact hx.elim
    | normal =>
    have h22 := ext2.x.back rel2'.heap
    have nb : ∀ {l : Nat} {x : Obj}, W.heap[l]? = some x → x.isWalk = false → (∀ c e f, x ≠ .cells c e f) → W2.heap[l]? = some x := fun hl k1 k2 =>
      (h22.fr.block _ (Array.getElem?_eq_some_iff.1 hl).1 (fun ⟨id, o, q1, _, q4, q3⟩ => hh.not_block hl k1 k2 q1 q4 q3)).trans hl
    have kB2 : W2.heap[b]? = W.heap[b]? := h22.fr.block b hbs nB1
    have nB2 : ¬ rwB ψ2 h b := fun ⟨id, o, q1, q2, q4, q3⟩ => by
      rcases h22.own id o q1 q2 q4 with h5 | h5
      · simp only [Vm.rebase] at h5
        omega
      · rw [q3] at h5; exact nB1 h5
    have hold1 : ∀ id, F1.A0 id → (A1 id ∧ id < k) ∧ ψ1 id = F1.ψ0 id := fun id hid => ⟨⟨(hh.old id hid).1, ((h1A id).1 hid).2⟩, (hh.old id hid).2⟩
    have h12 : HRel F1 A2 ψ2 h W2 := hh.unbase h22 hold1
    have hL2 := nb hl rfl (fun _ _ _ e => by cases e)
    have hK2 := nb hk rfl (fun _ _ _ e => by cases e)
    refine ⟨_, run_beginRound hL2 (by rw [hrec]), ?_⟩
    obtain ⟨W3, hW3⟩ : ∃ W3, W3 = W2.putObj (w.heap.size + 1) (.loop { rec .ready none with state := .busy }) := ⟨_, rfl⟩
    rw [← hW3]
    have hL3 : W3.heap[w.heap.size + 1]? = some (.loop { rec .ready none with state := .busy }) := by rw [hW3]; exact World.putObj_heap_same (Array.getElem?_eq_some_iff.1 hL2).1
    have hK3 : W3.heap[w.heap.size]? = some (.deferred (some [])) := by rw [hW3]; exact (World.putObj_heap_other (by omega)).trans hK2
    have hs3 : W3.heap.size = W2.heap.size := by rw [hW3]; simp
    have kB3 : W3.heap[b]? = W2.heap[b]? := by rw [hW3]; exact World.putObj_heap_other (by omega)
    have h13 : HRel F1 A2 ψ2 h W3 := by rw [hW3]; exact h12.putObj hL2 rfl (fun _ _ _ e => by cases e) (by rw [h1w]; omega) _
    have h33 : HRel (Vm.rebase P W3 ψ2 h (fun id => A2 id ∧ id < k) ψ2 a2.defers) A2 ψ2 h W3 := h13.rebase fun id h => ⟨h.1, rfl⟩
    refine hB2 (w.heap.size + 1) _ _ _ hx _ _ A2 ψ2 a2 W3 _ ⟨rel2'.slot, rel2'.len, rfl, h33⟩ hbd2 (fun id h => h.2) ?_
    rintro x e' h' F3' A3 ψ3 a3 W4 ext3 hx3 rel3 hbd3
    have h34 := ext3.x.back rel3.heap
    have nb3 : ∀ {l : Nat} {x : Obj}, W3.heap[l]? = some x → x.isWalk = false → (∀ c e f, x ≠ .cells c e f) → W4.heap[l]? = some x := fun hl k1 k2 =>
      (h34.fr.block _ (Array.getElem?_eq_some_iff.1 hl).1 (fun ⟨id, o, q1, _, q4, q3⟩ => h13.not_block hl k1 k2 q1 q4 q3)).trans hl
    have hL4 := nb3 hL3 rfl (fun _ _ _ e => by cases e)
    have hK4 := nb3 hK3 rfl (fun _ _ _ e => by cases e)
    have hs2 : W.heap.size ≤ W2.heap.size := by have := h22.fr.size; simpa only [Vm.rebase] using this
    have kB4 : W4.heap[b]? = W3.heap[b]? := h34.fr.block b (by simp only [Vm.rebase]; omega) nB2
    have nB3 : ∀ id o, rd h' id = some o → o.rw = true → o.vd = false → (ψ3 id).blk ≠ b := fun id o q1 q2 q4 q3 => by
      rcases h34.own id o q1 q2 q4 with h5 | h5
      · simp only [Vm.rebase] at h5
        omega
      · rw [q3] at h5; exact nB2 h5
    have h14 : HRel F1 A3 ψ3 h' W4 := h13.unbase h34 fun id hid => ⟨⟨(h13.old id hid).1, ((h1A id).1 hid).2⟩, (h13.old id hid).2⟩
    -- a frame that says that the own blocks are nobody else's
    obtain ⟨G, hG⟩ : ∃ G : Fr P, G = ⟨W4, fun x => x ≠ b ∧ (w.heap.size ≤ x ∨ F1.S x), F1.A0, F1.ψ0, []⟩ := ⟨_, rfl⟩
    have hG4 : HRel G A3 ψ3 h' W4 := by
      rw [hG]
      refine ⟨h14.live, h14.inj, ⟨rfl, rfl, rfl, Nat.le_refl _, fun _ _ _ => rfl, fun w' q1 q2 => ?_⟩, fun id o q1 q2 q3 => ?_, h14.old⟩
      · refine h14.fr.lay w' (fun b hb1 hb2 => ?_) (Nat.le_trans h14.fr.size q2)
        rw [h1w] at hb1
        rw [q1 b (by have := h14.fr.size; rw [h1w] at this; show b < W4.heap.size; omega) (fun ⟨_, h⟩ => by rcases h with h | h; omega; exact hb2 h)]
        exact h14.fr.block b (by rw [h1w]; exact hb1) hb2
      · refine .inr ⟨fun hb' => nB3 id o q1 q2 q3 hb', ?_⟩
        have := h14.own id o q1 q2 q3
        rw [h1w] at this
        exact this
    have back : ∀ {A5 ψ5 H5}, HRel G A5 ψ5 H5 W4 → sameRO k (Hp 0) H5 → HRel F1 A5 ψ5 H5 W4 ∧ ∀ id o, rd H5 id = some o → o.vd = false → (ψ5 id).blk ≠ b := fun {A5 ψ5 H5} h5 hal => by
      rw [hG] at h5
      have hx5 : ∀ id o, rd H5 id = some o → o.rw = true → o.vd = false → (ψ5 id).blk ≠ b ∧ (w.heap.size ≤ (ψ5 id).blk ∨ F1.S (ψ5 id).blk) := fun id o q1 q2 q3 => by
        rcases h5.own id o q1 q2 q3 with h6 | h6
        · have := ((h5.live id o q1).2.2 q3).1
          simp only at h6
          omega
        · exact h6
      refine ⟨⟨h5.live, h5.inj, h14.fr, fun id o q1 q2 q3 => by rw [h1w]; exact (hx5 id o q1 q2 q3).2, h5.old⟩, fun id o q1 q3 => ?_⟩
      cases hrw' : o.rw with
      | true => exact (hx5 id o q1 hrw' q3).1
      | false =>
        obtain ⟨z1, z2⟩ := hal id o q1 hrw'
        obtain ⟨z3, _, z4⟩ := h1.live id o z2
        have z5 := (h5.old id ((h1A id).2 ⟨z3, z1⟩)).2
        have z6 := (z4 q3).1
        rw [z5]
        show (F1.ψ0 id).blk ≠ b
        rw [h1ψ]
        omega
    have fin : ∀ (jump : Option Code), (Instr.endRound (w.heap.size + 1) jump).run P W4 = .ok (.bool jump.isNone) (W4.putObj (w.heap.size + 1) (.loop (rec (if jump.isNone then .ready else .done) jump))) ∧
        (∀ {A5 ψ5 H5}, HRel F1 A5 ψ5 H5 W4 → HRel F1 A5 ψ5 H5 (W4.putObj (w.heap.size + 1) (.loop (rec (if jump.isNone then .ready else .done) jump)))) ∧
        (W4.putObj (w.heap.size + 1) (.loop (rec (if jump.isNone then .ready else .done) jump))).heap[w.heap.size + 1]? = some (.loop (rec (if jump.isNone then .ready else .done) jump)) ∧
        (W4.putObj (w.heap.size + 1) (.loop (rec (if jump.isNone then .ready else .done) jump))).heap[w.heap.size]? = some (.deferred (some [])) ∧
        KeepF FI W (W4.putObj (w.heap.size + 1) (.loop (rec (if jump.isNone then .ready else .done) jump))) ∧
        (W4.putObj (w.heap.size + 1) (.loop (rec (if jump.isNone then .ready else .done) jump))).heap[b]? = W.heap[b]? := fun jump => by
      have hr1 := run_endRound (P := P) jump hL4
      have hput : ∀ {A5 ψ5 H5}, HRel F1 A5 ψ5 H5 W4 → HRel F1 A5 ψ5 H5 (W4.putObj (w.heap.size + 1) (.loop (rec (if jump.isNone then .ready else .done) jump))) := fun h5 =>
        h5.putObj hL4 rfl (fun _ _ _ e => by cases e) (by rw [h1w]; omega) _
      refine ⟨by rw [hrec] at hr1 ⊢; exact hr1, hput, World.putObj_heap_same (Array.getElem?_eq_some_iff.1 hL4).1, (World.putObj_heap_other (by omega)).trans hK4, hkeep hh (hput h14) ?_, ?_⟩
      · have a1 := h22.fr.size
        have a2 := h34.fr.size
        simp only [Vm.rebase] at a1 a2
        simp only [World.putObj_size]
        omega
      · rw [World.putObj_heap_other (by omega), kB4, kB3, kB2]
    cases x with
    | exit id => exact hx3.elim
    | normal =>
      obtain ⟨A5, ψ5, H5, q1, q2, rfl, q3⟩ := gcH_spec hx3 hG4 (fun id hid => by rw [hG] at hid; exact ((h1A id).1 hid).2)
      obtain ⟨q4, q5⟩ := back q1 (hrw (i + 1) hlt q3)
      obtain ⟨f1, f2, f3, f4, f5, f6⟩ := fin none
      exact ⟨_, _, f1, .inl ⟨rfl, ⟨q3, ⟨A5, ψ5, f2 q4, q2, q5⟩, hbb, f3, f4⟩, f5, f6⟩⟩
    | ret =>
      obtain ⟨A5, ψ5, H5, q1, q2, s, rfl, q3⟩ := gcH_spec hx3 hG4 (fun id hid => by rw [hG] at hid; exact ((h1A id).1 hid).2)
      obtain ⟨q4, q5⟩ := back q1 (hrx s q3)
      obtain ⟨f1, f2, f3, f4, f5, f6⟩ := fin (some .ret)
      exact ⟨_, _, f1, .inr ⟨rfl, ⟨s, q3, ⟨A5, ψ5, f2 q4, q2, q5⟩, hbb, f3, f4⟩, f5, f6⟩⟩
  have hlast : ∀ {A' : Nat → Prop} {ψ' : Nat → Gh} {H' : Heap} {W2 : World} {st : LoopState} {pe : Option Code}, HRel F1 A' ψ' H' W2 → W2.heap[w.heap.size + 1]? = some (.loop (rec st pe)) → W2.heap[w.heap.size]? = some (.deferred (some [])) → st ≠ .busy →
      ∃ W3, (Instr.endLoop (w.heap.size + 1)).run P W2 = .ok pe W3 ∧ ∃ F', Ext F F' ∧ Rel F' A' ψ' E H' { a with defers := [mark w.heap.size] ++ a.defers } W3 := by
    intro A' ψ' H' W2 st pe h2 hl hk hst
    have hrun := run_endLoop (P := P) hl (by rw [hrec]; exact hst)
    have hpe : (rec st pe).pending = pe := by rw [hrec]
    have hrun : (Instr.endLoop (w.heap.size + 1)).run P W2 = .ok pe (W2.putObj (w.heap.size + 1) (.loop { rec st pe with state := .exhausted })) := hrun.trans (congrArg (fun z => Result.ok z _) hpe)
    refine ⟨_, hrun, ?_⟩
    have h3 := h2.putObj hl rfl (fun _ _ _ e => by cases e) (by rw [h1w]; omega) (.loop { rec st pe with state := .exhausted })
    have hk3 : (W2.putObj (w.heap.size + 1) (.loop { rec st pe with state := .exhausted })).heap[w.heap.size]? = some (.deferred (some [])) := (World.putObj_heap_other (by omega)).trans hk
    have hFr : HRel F A' ψ' H' (W2.putObj (w.heap.size + 1) (.loop { rec st pe with state := .exhausted })) := hr.heap.unbase (A0 := fun id => A id ∧ id < k) (ψ0 := ψ) (ds := []) (by rw [hF1] at h3; exact h3) fun id hid =>
      ⟨⟨(hr.heap.old id hid).1, Nat.lt_of_lt_of_le (hF id hid) hbk⟩, (hr.heap.old id hid).2⟩
    refine ⟨Vm.rebase P _ ψ' H' F.A0 F.ψ0 (mark w.heap.size :: F.ds), ext_rebase hFr hr.heap.fr.size hk3, ⟨hslots h3, hr.len, ?_, hFr.rebase hFr.old⟩⟩
    simp [Vm.rebase, hr.defers]
  refine ⟨w.heap.size + 1, [{ target := .collected w.heap.size, args := #[] }], W1, { target := .fn (.func gf) vs, args := #[.func (.yield (w.heap.size + 1)) #[] #[]] }, W1, gf,
    #[.func (.yield (w.heap.size + 1)) #[] #[]] ++ vs, W1, ?_, ?_, ?_, ?_, fun h => fen_depth h, ?_⟩
  · rw [← hW1, hrec]; exact run_enterLoop_outer _ _ _ _ _
  · simp only [resolve, eg]
    simp [go_sem]
  · intro _ _; trivial
  · simp [invoke, go_sem, callable_run hcall]
  · have harr : (Value.func (.yield (w.heap.size + 1)) #[] #[] :: vs.toList).toArray = #[.func (.yield (w.heap.size + 1)) #[] #[]] ++ vs := by
      apply Array.ext'; simp
    rw [harr] at hcall1
    refine hcall1.mono ?_
    rintro e W2 ⟨⟨v, rfl⟩, (⟨_, hi, ⟨A', ψ', hh, hbd, _⟩, _, hl, hk⟩ | ⟨_, s, hs, ⟨A', ψ', hh, hbd, _⟩, _, hl, hk⟩)⟩
    · obtain ⟨W3, e1, F', e2, e3⟩ := hlast hh hl hk (by simp)
      exact ⟨none, W3, e1, hdone hi F' A' ψ' _ W3 e2 e3 hbd⟩
    · obtain ⟨W3, e1, F', e2, e3⟩ := hlast hh hl hk (by simp)
      exact ⟨some .ret, W3, e1, wpIn_ret (hret s hs F' A' ψ' _ W3 e2 e3 hbd)⟩

end
end
end Go.Vm
end
