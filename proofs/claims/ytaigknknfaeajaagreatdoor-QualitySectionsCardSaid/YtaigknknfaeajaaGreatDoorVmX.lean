/- Lists of any length: a list without elements, whatever it is in the world, as a row without cells. -/
import Derived.Test.YtaigknknfaeajaaGreatDoorVmU
namespace Go.Vm
noncomputable section

section
variable {P : Program} {F : Fr P} {A : Nat → Prop} {ψ : Nat → Gh} {H : Heap} {env : List Value} {a : Act} {w : World}

theorem HRel.void (h : HRel F A ψ H w) {nid : Nat} (hn : ¬ A nid) (es : Nat) (m rw fl : Bool) :
    HRel F (fun id => A id ∨ id = nid) (upd ψ nid ⟨0, 0, 0, es⟩) (wr H nid (some (.row [] es m rw fl))) w := by
  have hag := mono_new (ψ := ψ) (g := ⟨0, 0, 0, es⟩) hn
  have hsame : ∀ id o, rd H id = some o → upd ψ nid ⟨0, 0, 0, es⟩ id = ψ id := fun id o he => (hag id (h.live id o he).1).2
  refine ⟨fun id o he => ?_, fun i j oi oj hi hj hij hrw hvi hvj => ?_, h.fr, fun id o he hrw hv => ?_, fun id ha => ?_⟩
  · rw [rd_wr] at he
    split at he
    · rename_i e; subst e; cases he
      exact ⟨.inr rfl, by simp [EsOK, upd], fun hv => by cases hv⟩
    · obtain ⟨h1, h2, h3⟩ := h.live id o he
      rw [hsame id o he]
      exact ⟨.inl h1, h2, fun hv => ⟨(h3 hv).1, (h3 hv).2.mono hag rfl⟩⟩
  · rw [rd_wr] at hi hj
    split at hi
    · cases hi; cases hvi
    · split at hj
      · cases hj; cases hvj
      · rw [hsame i oi hi, hsame j oj hj]
        exact h.inj i j oi oj hi hj hij hrw hvi hvj
  · rw [rd_wr] at he
    split at he
    · cases he; cases hv
    · rw [hsame id o he]; exact h.own id o he hrw hv
  · have ⟨h1, h2⟩ := h.old id ha
    exact ⟨(hag id h1).1, (hag id h1).2.trans h2⟩

/-- A value that is the empty list. -/
def emp : Value → Bool
  | .slice none 0 0 => true
  | .slice (some ⟨_, _, none⟩) 0 0 => true
  | _ => false

theorem emp_spec {v v' : Value} (he : emp v = true) (h : VR A ψ v v') : ∃ b, v' = .slice b 0 0 := by
  unfold emp at he
  split at he
  · exact ⟨none, h.of_atom rfl⟩
  · obtain ⟨_, b, c, rfl, _, _, h4⟩ := h.slice_inv
    rcases h4 with ⟨h | h, _⟩ | h | h
    · exact ⟨b, by rw [h.1]⟩
    · omega
    · exact ⟨b, by rw [h.2.2]⟩
    · exact absurd h (by decide)
  · cases he

theorem emp_list {v v' : Value} (he : emp v = true) (h : VR A ψ v v') {nid : Nat} {A' : Nat → Prop} {ψ' : Nat → Gh} (hA : A' nid) : VR A' ψ' (.slice (some ⟨nid, 0, none⟩) 0 0) v' := by
  obtain ⟨b, rfl⟩ := emp_spec he h
  exact .void _ _ _ hA

/-- Where a nil list stands that is to be a list like any other. -/
inductive Nl where
  | slot (t es : Nat)
  | part (t off es : Nat)
  | cell (id off es : Nat)

def lv (H : Heap) : Value := .slice (some ⟨H.length, 0, none⟩) 0 0
def lo (es : Nat) : Option AObj := some (.row [] es true true true)

def lst1 (x : Nl) (env : List Value) (H : Heap) : List Value × Heap :=
  match x with
  | .slot t es => match emp (gt env t) with
    | true => (st env t (lv H), wr H H.length (lo es))
    | false => (env, H)
  | .part t off es => match gt env t with
    | .agg xs => match emp (xs.toList.getD off poi) with
      | true => (st env t (.agg (xs.toList.set off (lv H)).toArray), wr H H.length (lo es))
      | false => (env, H)
    | _ => (env, H)
  | .cell id off es => match rd H id with
    | some (.row cells e2 m rw _) => match emp (cells.getD off poi) with
      | true => (env, wr (wr H id (some (.row (cells.set off (lv H)) e2 m rw false))) H.length (lo es))
      | false => (env, H)
    | _ => (env, H)

theorem setl_get {l : List Value} {off : Nat} {v : Value} (i : Nat) (hne : emp (l.getD off poi) = true) : (l.set off v).getD i poi = if i = off then v else l.getD i poi := by
  have hlt : off < l.length := by
    rcases Nat.lt_or_ge off l.length with h | h
    · exact h
    · rw [List.getD_eq_getElem?_getD, List.getElem?_eq_none h] at hne
      cases hne
  by_cases e : i = off
  · subst e; simp [List.getD_eq_getElem?_getD, hlt]
  · rw [if_neg e]; simp [List.getD_eq_getElem?_getD, List.getElem?_set_ne (Ne.symm e)]

/-- The slots, and a slot turned. -/
theorem slot_turn {A' : Nat → Prop} {ψ' : Nat → Gh} {v : Value} {t : Nat} (hr : Rel F A ψ env H a w) (hag : ∀ id, A id → A' id ∧ ψ' id = ψ id) (hv : VR A' ψ' v (a.tmps.getD t undef)) (i : Nat) : VR A' ψ' ((st env t v).getD i poi) (a.tmps.getD i undef) := by
  rw [st_eq]
  by_cases e : i = t
  · subst e
    by_cases hlt : i < env.length
    · have : (env.set i v).getD i poi = v := by simp [List.getD_eq_getElem?_getD, hlt]
      rw [this]; exact hv
    · rw [List.set_eq_of_length_le (by omega)]
      exact (hr.slot i).mono hag
  · have : (env.set t v).getD i poi = env.getD i poi := by simp [List.getD_eq_getElem?_getD, List.getElem?_set_ne (Ne.symm e)]
    rw [this]
    exact (hr.slot i).mono hag

/-- A cell of a row said otherwise. -/
theorem HRel.recell {id : Nat} {cells cs : List Value} {e2 : Nat} {m rw fl : Bool} (h : HRel F A ψ H w) (hrd : rd H id = some (.row cells e2 m rw fl)) (hl : cs.length = cells.length)
    (hv : ∀ i v', i < cells.length → VR A ψ (cells.getD i poi) v' → VR A ψ (cs.getD i poi) v') : HRel F A ψ (wr H id (some (.row cs e2 m rw false))) w := by
  have hvd : (AObj.row cs e2 m rw false).vd = (AObj.row cells e2 m rw fl).vd := by
    cases cs <;> cases cells <;> first | rfl | (simp at hl)
  have look : ∀ {j o}, rd (wr H id (some (.row cs e2 m rw false))) j = some o → ∃ o', rd H j = some o' ∧ o.rw = o'.rw ∧ o.vd = o'.vd := fun {j o} hj => by
    rw [rd_wr] at hj
    split at hj
    · rename_i e; subst e; cases hj; exact ⟨_, hrd, rfl, hvd⟩
    · exact ⟨o, hj, rfl, rfl⟩
  refine ⟨fun j o hj => ?_, fun i j oi oj hi hj hij hrw hvi hvj => ?_, h.fr, fun j o hj hrw hv => ?_, h.old⟩
  · rw [rd_wr] at hj
    split at hj
    · rename_i e; subst e; cases hj
      obtain ⟨h1, h2, h3⟩ := h.live _ _ hrd
      refine ⟨h1, h2, fun hv' => ?_⟩
      rw [hvd] at hv'
      obtain ⟨h4, arr, el, fz, k1, k2, k3, k4, k5⟩ := h3 hv'
      refine ⟨h4, arr, el, fz, k1, k2, fun i hi => ?_, fun hr => ?_, fun hf => by cases hf⟩
      · rw [hl] at hi
        obtain ⟨v', q1, q2, q3⟩ := k3 i hi
        exact ⟨v', q1, q2, hv i v' hi q3⟩
      · obtain ⟨q1, q2, q3, q4⟩ := k4 hr
        exact ⟨q1, q2, q3, fun hm => by rw [hl]; exact q4 hm⟩
    · exact h.live j o hj
  · obtain ⟨oi', a1, a2, a3⟩ := look hi
    obtain ⟨oj', b1, b2, b3⟩ := look hj
    exact h.inj i j oi' oj' a1 b1 hij (by rw [← a2]; exact hrw) (by rw [← a3]; exact hvi) (by rw [← b3]; exact hvj)
  · obtain ⟨o', a1, a2, a3⟩ := look hj
    exact h.own j o' a1 (by rw [← a2]; exact hrw) (by rw [← a3]; exact hv)

theorem wr_comm {H : Heap} {i j : Nat} (hij : i ≠ j) (x y : Option AObj) (k : Nat) : rd (wr (wr H i x) j y) k = rd (wr (wr H j y) i x) k := by
  simp only [rd_wr]
  split <;> split <;> first | rfl | omega

theorem HRel.same_rd {H' : Heap} (h : HRel F A ψ H w) (hh : ∀ id, rd H' id = rd H id) : HRel F A ψ H' w :=
  ⟨fun id o hr => h.live id o (by rw [← hh]; exact hr), fun i j oi oj hi hj => h.inj i j oi oj (by rw [← hh]; exact hi) (by rw [← hh]; exact hj), h.fr, fun id o hr => h.own id o (by rw [← hh]; exact hr), h.old⟩

theorem lst1_rel (x : Nl) (hr : Rel F A ψ env H a w) (hb : ∀ id, A id → id < H.length) :
    ∃ A' ψ', Rel F A' ψ' (lst1 x env H).1 (lst1 x env H).2 a w ∧ ∀ id, A' id → id < (lst1 x env H).2.length := by
  have hn : ¬ A H.length := fun h => by have := hb _ h; omega
  have hag := fun es => mono_new (ψ := ψ) (g := ⟨0, 0, 0, es⟩) hn
  have hbd : ∀ (H2 : Heap) (es : Nat), H.length ≤ H2.length → ∀ id, (A id ∨ id = H.length) → id < (wr H2 H.length (lo es)).length := fun H2 es hl id hid => by
    obtain ⟨l1, l2⟩ := len_wr H2 H.length (lo es)
    rcases hid with h | rfl
    · have := hb id h; omega
    · exact l2
  unfold lst1
  cases x with
  | slot t es =>
    simp only
    split
    · rename_i he
      refine ⟨_, _, ⟨slot_turn (hr := hr) (hag es) (emp_list he (by have := hr.slot t; rw [← gt_eq] at this; exact this) (.inr rfl)), by rw [st_eq]; simpa using hr.len, hr.defers, hr.heap.void hn es true true true⟩, hbd H es (Nat.le_refl _)⟩
    · exact ⟨A, ψ, hr, hb⟩
  | part t off es =>
    simp only
    split
    · rename_i xs hg
      split
      · rename_i he
        have hs := hr.slot t
        rw [← gt_eq, hg] at hs
        obtain ⟨ys, e1, hsz, h1, hh⟩ := hs.agg_inv
        refine ⟨_, _, ⟨slot_turn (hr := hr) (hag es) ?_, by rw [st_eq]; simpa using hr.len, hr.defers, hr.heap.void hn es true true true⟩, hbd H es (Nat.le_refl _)⟩
        rw [e1]
        refine .agg _ _ (by simpa using hsz) h1 fun i => ?_
        have e2 : (xs.toList.set off (lv H)).toArray.getD i poi = (xs.toList.set off (lv H)).getD i poi := by simp [Array.getD_eq_getD_getElem?, List.getD_eq_getElem?_getD]
        have e3 : ∀ j, xs.toList.getD j poi = xs.getD j poi := fun j => by simp [Array.getD_eq_getD_getElem?, List.getD_eq_getElem?_getD]
        rw [e2, setl_get i he]
        split
        · rename_i e; subst e
          have := hh i
          rw [← e3] at this
          exact emp_list he this (.inr rfl)
        · rw [e3]; exact (hh i).mono (hag es)
      · exact ⟨A, ψ, hr, hb⟩
    · exact ⟨A, ψ, hr, hb⟩
  | cell id off es =>
    simp only
    split
    · rename_i cells e2 m rw fl hrd
      split
      · rename_i he
        have hv := hr.heap.void hn es true true true
        have hne : id ≠ H.length := fun e => by
          have := rd_lt _ _ _ hrd; omega
        have hrd2 : rd (wr H H.length (some (.row [] es true true true))) id = some (.row cells e2 m rw fl) := by rw [rd_wr, if_neg hne, hrd]
        have h3 := hv.recell (cs := cells.set off (lv H)) hrd2 (by simp) fun i v' hi hvi => by
          rw [setl_get i he]
          split
          · rename_i e; subst e
            exact emp_list he hvi (.inr rfl)
          · exact hvi
        refine ⟨_, _, ⟨fun t => (hr.slot t).mono (hag es), hr.len, hr.defers, h3.same_rd fun k => ?_⟩, hbd _ es (len_wr H id _).1⟩
        exact wr_comm hne _ _ k
      · exact ⟨A, ψ, hr, hb⟩
    · exact ⟨A, ψ, hr, hb⟩

def lst : List Nl → List Value → Heap → List Value × Heap
  | [], env, H => (env, H)
  | x :: r, env, H => lst r (lst1 x env H).1 (lst1 x env H).2

theorem lst1_len (x : Nl) (env : List Value) (H : Heap) : (lst1 x env H).1.length = env.length := by
  unfold lst1
  cases x with
  | slot t es => simp only; split <;> simp [st_eq]
  | part t off es => simp only; split; (split <;> simp [st_eq]); rfl
  | cell id off es => simp only; split; (split <;> rfl); rfl

theorem lst_len : ∀ (l : List Nl) (env : List Value) (H : Heap), (lst l env H).1.length = env.length
  | [], _, _ => rfl
  | x :: r, env, H => (lst_len r _ _).trans (lst1_len x env H)

theorem lst_rel : ∀ (l : List Nl) {env : List Value} {H : Heap} {A : Nat → Prop} {ψ : Nat → Gh}, Rel F A ψ env H a w → (∀ id, A id → id < H.length) →
    ∃ A' ψ', Rel F A' ψ' (lst l env H).1 (lst l env H).2 a w ∧ ∀ id, A' id → id < (lst l env H).2.length
  | [], env, H, A, ψ, hr, hb => ⟨A, ψ, hr, hb⟩
  | x :: r, env, H, A, ψ, hr, hb => by
    obtain ⟨A1, ψ1, h1, h2⟩ := lst1_rel x hr hb
    exact lst_rel r h1 h2
end
end
end Go.Vm
