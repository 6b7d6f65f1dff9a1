/- Renaming of ids: into a small heap for a call, and back; collecting what is not reached. -/
import Derived.Test.YtaigknknfaeajaaGreatDoorVmK
namespace Go.Vm
noncomputable section

/-- A value under other ids; an id without a new name becomes unknown. -/
def renV (ρ : Nat → Option Nat) : Nat → Value → Value
  | 0, _ => poi
  | d + 1, v =>
    if atom v then v
    else match v with
      | .pointer (some ⟨id, off, none⟩) => match ρ id with | some j => .pointer (some ⟨j, off, none⟩) | none => poi
      | .map (some id) => match ρ id with | some j => .map (some j) | none => poi
      | .slice (some ⟨id, off, none⟩) len cap => match ρ id with | some j => .slice (some ⟨j, off, none⟩) len cap | none => poi
      | .slice none 0 1 => v
      | .agg xs => .agg (xs.toList.map (renV ρ d)).toArray
      | .tuple xs => if noPoi xs.toList then .tuple (xs.toList.map (renV ρ d)).toArray else poi
      | .func fn xs us => .func fn (xs.toList.map (renV ρ d)).toArray (us.toList.map (renV ρ d)).toArray
      | _ => poi

def renO (ρ : Nat → Option Nat) : AObj → AObj
  | .row cells es more rw flat => .row (if flat then cells else cells.map (renV ρ 4)) es more rw flat
  | o => o

theorem renO_vd (ρ : Nat → Option Nat) (o : AObj) : (renO ρ o).vd = o.vd := by
  cases o with
  | row cells es more rw flat => cases cells <;> cases flat <;> rfl
  | _ => rfl

theorem renO_es (ρ : Nat → Option Nat) {g : Gh} {o : AObj} (h : EsOK g o) : EsOK g (renO ρ o) := by cases o <;> exact h

theorem renO_rw (ρ : Nat → Option Nat) (o : AObj) : (renO ρ o).rw = o.rw := by cases o <;> rfl

section
variable {A A' : Nat → Prop} {ψ ψ' : Nat → Gh} {ρ : Nat → Option Nat}

theorem map_getD {f : Value → Value} {l : List Value} {l' : List Value} (h : ∀ i, i < l.length → VR A' ψ' (f (l.getD i poi)) (l'.getD i undef)) (i : Nat) :
    VR A' ψ' ((l.map f).getD i poi) (l'.getD i undef) := by
  by_cases hi : i < l.length
  · have := h i hi
    simpa [List.getD_eq_getElem?_getD, hi] using this
  · have e1 : (l.map f).getD i poi = poi := by simp [List.getD_eq_getElem?_getD, hi]
    rw [e1]; exact .poison _

theorem arr_map {f : Value → Value} {xs ys : Array Value} (hs : xs.size = ys.size) (h : ∀ i, VR A' ψ' (f (xs.getD i poi)) (ys.getD i undef)) (i : Nat) :
    VR A' ψ' ((xs.toList.map f).toArray.getD i poi) (ys.getD i undef) := by
  have := map_getD (A' := A') (ψ' := ψ') (f := f) (l := xs.toList) (l' := ys.toList) (fun i _ => by simpa [Array.getD_eq_getD_getElem?, List.getD_eq_getElem?_getD] using h i) i
  simpa [Array.getD_eq_getD_getElem?, List.getD_eq_getElem?_getD] using this

theorem renV_rel (hρ : ∀ id j, A id → ρ id = some j → A' j ∧ ψ' j = ψ id) : ∀ (d : Nat) {v v' : Value}, VR A ψ v v' → VR A' ψ' (renV ρ d v) v'
  | 0, _, _, _ => .poison _
  | d + 1, v, v', h => by
    unfold renV
    split
    · rename_i ha
      rw [h.of_atom ha]; exact .atom _ ha
    · rename_i hna
      cases h with
      | poison => simp [poi, noPoi]; exact .poison _
      | atom _ ha => exact absurd ha hna
      | ptr id off hA =>
        simp only
        split
        · rename_i j hj
          obtain ⟨h1, h2⟩ := hρ id j hA hj
          rw [← h2]; exact .ptr _ _ h1
        · exact .poison _
      | map id hA =>
        simp only
        split
        · rename_i j hj
          obtain ⟨h1, h2⟩ := hρ id j hA hj
          rw [← h2]; exact .map _ h1
        · exact .poison _
      | slice id off len cap cap' hA hc =>
        simp only
        split
        · rename_i j hj
          obtain ⟨h1, h2⟩ := hρ id j hA hj
          rw [← h2] at hc ⊢; exact .slice _ _ _ _ _ h1 hc
        · exact .poison _
      | void id off a hA =>
        simp only
        split
        · rename_i j hj
          exact .void _ _ _ (hρ id j hA hj).1
        · exact .poison _
      | view id off len c a hA hl ha =>
        simp only
        split
        · rename_i j hj
          obtain ⟨h1, h2⟩ := hρ id j hA hj
          exact .view _ _ _ _ _ h1 hl (by rw [h2]; exact ha)
        · exact .poison _
      | empty a c => exact .empty a c
      | agg xs ys hs h1 h => exact .agg _ _ (by simp [hs]) h1 (arr_map hs fun i => renV_rel hρ d (h i))
      | tuple xs ys hs h =>
        simp only
        split
        · exact .tuple _ _ (by simp [hs]) (arr_map hs fun i => renV_rel hρ d (h i))
        · exact .poison _
      | func fn xs ys us vs hs ht h k => exact .func _ _ _ _ _ (by simp [hs]) (by simp [ht]) (arr_map hs fun i => renV_rel hρ d (h i)) (arr_map ht fun i => renV_rel hρ d (k i))

theorem renO_rel (hρ : ∀ id j, A id → ρ id = some j → A' j ∧ ψ' j = ψ id) {g : Gh} {w : World} {o : AObj} (h : ORel A ψ g w o) : ORel A' ψ' g w (renO ρ o) := by
  cases o with
  | iter s pos => exact h
  | smap es => exact h
  | row cells es more rw flat =>
    obtain ⟨arr, el, fz, h1, h2, h3, h4, h5⟩ := h
    cases flat with
    | true =>
      refine ⟨arr, el, fz, h1, h2, fun i hi => ?_, h4, h5⟩
      simp only [if_true] at hi ⊢
      obtain ⟨v', e1, e2, e3⟩ := h3 i hi
      have ha : atom (cells.getD i poi) = true := by
        have : cells.getD i poi ∈ cells := by simp [List.getD_eq_getElem?_getD, hi]
        exact h5 rfl _ this
      refine ⟨v', e1, e2, ?_⟩
      rw [e3.of_atom ha]; exact .atom _ ha
    | false =>
      refine ⟨arr, el, fz, h1, h2, fun i hi => ?_, fun hrw => ?_, fun hf => by cases hf⟩
      · simp only [Bool.false_eq_true, if_false, List.length_map] at hi ⊢
        obtain ⟨v', e1, e2, e3⟩ := h3 i hi
        refine ⟨v', e1, e2, ?_⟩
        have e4 : (cells.map (renV ρ 4)).getD i poi = renV ρ 4 (cells.getD i poi) := by simp [List.getD_eq_getElem?_getD, hi]
        rw [e4]; exact renV_rel hρ 4 e3
      · obtain ⟨q1, q2, q3, q4⟩ := h4 hrw
        exact ⟨q1, q2, q3, fun hm => by simpa using q4 hm⟩

theorem LR.ren (hρ : ∀ id j, A id → ρ id = some j → A' j ∧ ψ' j = ψ id) {l l' : List Value} (h : LR A ψ l l') : LR A' ψ' (l.map (renV ρ 4)) l' :=
  ⟨by simp [h.len], map_getD fun i _ => renV_rel hρ 4 (h.at_ i)⟩
end

/-- The place of an id in a list. -/
def pos : List Nat → Nat → Option Nat
  | [], _ => none
  | x :: r, id => if x == id then some 0 else (pos r id).map (· + 1)

def nodupB : List Nat → Bool
  | [] => true
  | x :: r => !(r.contains x) && nodupB r

theorem pos_spec : ∀ {l : List Nat} {id j : Nat}, pos l id = some j → l[j]? = some id
  | [], _, _, h => by simp [pos] at h
  | x :: r, id, j, h => by
    simp only [pos] at h
    split at h
    · rename_i he; cases h; simp at he; simp [he]
    · obtain ⟨k, hk, rfl⟩ := Option.map_eq_some_iff.1 h
      simpa using pos_spec hk

theorem nodup_inj : ∀ {l : List Nat}, nodupB l = true → ∀ {i j x : Nat}, l[i]? = some x → l[j]? = some x → i = j
  | [], _, _, _, _, h, _ => by simp at h
  | y :: r, hn, i, j, x, hi, hj => by
    simp only [nodupB, Bool.and_eq_true, Bool.not_eq_true'] at hn
    cases i with
    | zero =>
      cases j with
      | zero => rfl
      | succ j =>
        simp at hi hj; subst hi
        have : y ∈ r := List.mem_of_getElem? hj
        have h2 := hn.1
        rw [← List.contains_iff_mem] at this
        rw [this] at h2; cases h2
    | succ i =>
      cases j with
      | zero =>
        simp at hi hj; subst hj
        have : y ∈ r := List.mem_of_getElem? hi
        have h2 := hn.1
        rw [← List.contains_iff_mem] at this
        rw [this] at h2; cases h2
      | succ j => simp at hi hj; rw [nodup_inj hn.2 hi hj]

/-- The part of a heap with these ids, which are numbered anew. -/
def resH (H : Heap) (ids : List Nat) : Heap := ids.map fun id => (rd H id).map (renO (pos ids))

theorem rd_map {f : Nat → Option AObj} : ∀ (ids : List Nat) (j : Nat), rd (ids.map f) j = (ids[j]?).bind f
  | [], _ => rfl
  | _ :: _, 0 => rfl
  | _ :: r, j + 1 => by rw [List.map_cons, rd_cons, rd_map r j]; simp

theorem res_rel {P : Program} {F : Fr P} {A : Nat → Prop} {ψ : Nat → Gh} {H : Heap} {w : World} {ids : List Nat} (h : HRel F A ψ H w) (hn : nodupB ids = true) {F' : Fr P} (hF : F'.ok w)
    (hown : ∀ (j id : Nat) (o : AObj), ids[j]? = some id → rd H id = some o → o.rw = true → o.vd = false → F'.w0.heap.size ≤ (ψ id).blk ∨ F'.S (ψ id).blk)
    (hold : ∀ (j : Nat), F'.A0 j → ∃ id : Nat, ids[j]? = some id ∧ A id ∧ ψ id = F'.ψ0 j) :
    HRel F' (fun j => ∃ id : Nat, ids[j]? = some id ∧ A id) (fun j => ψ (ids.getD j 0)) (resH H ids) w := by
  have hg : ∀ {j id : Nat}, ids[j]? = some id → ids.getD j 0 = id := fun h => by simp [List.getD_eq_getElem?_getD, h]
  have hρ : ∀ id j, A id → pos ids id = some j → (∃ id : Nat, ids[j]? = some id ∧ A id) ∧ ψ (ids.getD j 0) = ψ id := fun id j ha hj => by
    have := pos_spec hj
    exact ⟨⟨id, this, ha⟩, by rw [hg this]⟩
  have look : ∀ {j : Nat} {o : AObj}, rd (resH H ids) j = some o → ∃ (id : Nat) (o' : AObj), ids[j]? = some id ∧ rd H id = some o' ∧ o = renO (pos ids) o' := fun {j o} hj => by
    rw [resH, rd_map] at hj
    cases hi : ids[j]? with
    | none => simp [hi] at hj
    | some id =>
      simp only [hi, Option.bind_some] at hj
      obtain ⟨o', h1, h2⟩ := Option.map_eq_some_iff.1 hj
      exact ⟨id, o', rfl, h1, h2.symm⟩
  refine ⟨fun j o hj => ?_, fun i j oi oj hi hj hij hrw hvi hvj => ?_, hF, fun j o hj hrw hv => ?_, fun j hj => ?_⟩
  · obtain ⟨id, o', h1, h2, rfl⟩ := look hj
    obtain ⟨l1, l2, l3⟩ := h.live id o' h2
    simp only [hg h1]
    exact ⟨⟨id, h1, l1⟩, renO_es _ l2, fun hv => by rw [renO_vd] at hv; exact ⟨(l3 hv).1, renO_rel hρ (l3 hv).2⟩⟩
  · obtain ⟨a, oa, a1, a2, rfl⟩ := look hi
    obtain ⟨b, ob, b1, b2, rfl⟩ := look hj
    simp only [hg a1, hg b1]
    rw [renO_rw] at hrw
    rw [renO_vd] at hvi hvj
    exact h.inj a b oa ob a2 b2 (fun e => hij (nodup_inj hn a1 (by rw [e]; exact b1))) hrw hvi hvj
  · obtain ⟨id, o', h1, h2, rfl⟩ := look hj
    simp only [hg h1]
    rw [renO_rw] at hrw
    rw [renO_vd] at hv
    exact hown j id o' h1 h2 hrw hv
  · obtain ⟨id, h1, h2, h3⟩ := hold j hj
    simp only [hg h1]
    exact ⟨⟨id, h1, h2⟩, h3⟩

/-- Small: a function's run from a heap of its own, ids from 0 on. -/
def SmallRes (P : Program) (f : FuncId) (args : List Value) (H : Heap) (ret : Value) (H' : Heap) : Prop :=
  ∀ (F : Fr P) A ψ w args', HRel F A ψ H w → (∀ id, A id → id < H.length) → F.A0 = A → F.ψ0 = ψ → LR A ψ args args' →
    Calls P f args'.toArray w (fun e w' => ∃ v' A' ψ', e = .returned v' ∧ HRel F A' ψ' H' w' ∧ (∀ id, A' id → id < H'.length) ∧ VR A' ψ' ret v')

/-- Names for what comes back. -/
def backρ (ids new : List Nat) (nid : Nat) (j : Nat) : Option Nat := if j < ids.length then ids[j]? else (pos new j).map (nid + ·)

def back (H : Heap) (ids new : List Nat) (nid : Nat) (ret : Value) (H' : Heap) : Out :=
  ⟨renV (backρ ids new nid) 4 ret,
   (ids.zipIdx.filterMap fun (id, j) => match rd H id with
      | some o => if o.rw then some (id, (rd H' j).map (renO (backρ ids new nid))) else none
      | none => none) ++ (new.zipIdx.map fun (j, k) => (nid + k, (rd H' j).map (renO (backρ ids new nid)))),
   ids, (List.range new.length).map (nid + ·)⟩

end
end Go.Vm
