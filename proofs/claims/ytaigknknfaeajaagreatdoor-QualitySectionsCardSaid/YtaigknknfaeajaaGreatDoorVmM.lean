/- From a function's own small heap to its caller's. -/
import Derived.Test.YtaigknknfaeajaaGreatDoorVmL
namespace Go.Vm
noncomputable section

theorem rd_ap_mem : ∀ (δ : Delta) (H : Heap) (i : Nat) (o : Option AObj), (∀ p ∈ δ, p.1 = i → p.2 = o) → (∃ p ∈ δ, p.1 = i) → rd (ap H δ) i = o
  | [], _, _, _, _, h => by obtain ⟨_, h, _⟩ := h; cases h
  | (k, x) :: r, H, i, o, h, hex => by
    simp only [ap]
    by_cases hr : ∃ p ∈ r, p.1 = i
    · exact rd_ap_mem r _ i o (fun p hp => h p (by simp [hp])) hr
    · obtain ⟨p, hp, e⟩ := hex
      rcases List.mem_cons.1 hp with rfl | hp
      · simp only at e; subst e
        rw [rd_ap_out r _ k (fun hm => hr (by obtain ⟨q, hq, e⟩ := List.mem_map.1 hm; exact ⟨q, hq, e⟩)), rd_wr, if_pos rfl]
        exact h (k, x) (by simp) rfl
      · exact absurd ⟨p, hp, e⟩ hr

/-- The checks on what comes back. -/
def backOK (H : Heap) (ids new : List Nat) (H' : Heap) : Bool :=
  nodupB ids && ids.all (fun id => (rd H id).isSome) && nodupB new && new.all (fun j => decide (ids.length ≤ j) && (match rd H' j with | some o => o.rw | none => true)) &&
    (ids.zipIdx.all fun (id, j) => match rd H id with
      | some o => !o.rw || (match rd H' j with | some o' => o'.rw | none => true)
      | none => true)

theorem call_lift {P : Program} {f : FuncId} {args : List Value} {H : Heap} {ids new : List Nat} {ret : Value} {H' : Heap} {nid : Nat}
    (hs : SmallRes P f (args.map (renV (pos ids) 4)) (resH H ids) ret H') (hok : backOK H ids new H' = true) : CallRes P f args H (back H ids new nid ret H') := by
  simp only [backOK, Bool.and_eq_true, List.all_eq_true, decide_eq_true_eq] at hok
  obtain ⟨⟨⟨⟨hn, hlive⟩, hnn⟩, hnew⟩, hids⟩ := hok
  intro F A ψ H1 w args' hh hl hD hnu
  have hD' : ∀ id ∈ ids, rd H1 id = rd H id := hD
  have hres : resH H ids = resH H1 ids := List.map_congr_left fun id hid => by rw [hD' id hid]
  rw [hres] at hs
  have hobj : ∀ id ∈ ids, ∃ o, rd H1 id = some o := fun id hid => by
    have := hlive id hid
    rw [← hD' id hid] at this
    exact Option.isSome_iff_exists.1 this
  have hAids : ∀ (j id : Nat), ids[j]? = some id → A id := fun j id h => by
    obtain ⟨o, ho⟩ := hobj id (List.mem_of_getElem? h)
    exact (hh.live id o ho).1
  have hgd : ∀ {j id : Nat}, ids[j]? = some id → ids.getD j 0 = id := fun h => by simp [List.getD_eq_getElem?_getD, h]
  let S' : Nat → Prop := fun b => ∃ id o, id ∈ ids ∧ rd H1 id = some o ∧ o.rw = true ∧ o.vd = false ∧ (ψ id).blk = b
  let F' : Fr P := ⟨w, S', fun j => ∃ id : Nat, ids[j]? = some id ∧ A id, fun j => ψ (ids.getD j 0), []⟩
  have hF' : F'.ok w := ⟨rfl, rfl, rfl, Nat.le_refl _, fun _ _ _ => rfl, fun w' h1 h2 => hh.fr.lay w' (fun k hk hs => by
    refine (h1 k (Nat.lt_of_lt_of_le hk hh.fr.size) fun hS' => ?_).trans (hh.fr.block k hk hs)
    obtain ⟨id, o, _, k2, k3, k5, k4⟩ := hS'
    rcases hh.own id o k2 k3 k5 with h | h
    · rw [k4] at h; omega
    · rw [k4] at h; exact hs h) (Nat.le_trans hh.fr.size h2)⟩
  have hr0 := res_rel (F' := F') hh hn hF' (fun j id o h1 h2 h3 h4 => .inr ⟨id, o, List.mem_of_getElem? h1, h2, h3, h4, rfl⟩) (fun j hj => by
    obtain ⟨id, h1, h2⟩ := hj
    exact ⟨id, h1, h2, by show ψ id = ψ (ids.getD j 0); rw [hgd h1]⟩)
  have hl0 : LR (fun j => ∃ id : Nat, ids[j]? = some id ∧ A id) (fun j => ψ (ids.getD j 0)) (args.map (renV (pos ids) 4)) args' := hl.ren fun id j ha hj => by
    have := pos_spec hj
    exact ⟨⟨id, this, ha⟩, by rw [hgd this]⟩
  refine (hs F' _ _ w args' hr0 (fun j hj => ?_) rfl rfl hl0).mono ?_
  · obtain ⟨id, h1, _⟩ := hj
    have := (List.getElem?_eq_some_iff.1 h1).1
    simpa [resH] using this
  rintro e w' ⟨v', A', ψ', rfl, hh', hb', hv'⟩
  -- the names
  have hmemnu : ∀ id, id ∈ (List.range new.length).map (nid + ·) ↔ ∃ m, m < new.length ∧ id = nid + m := fun id => by
    simp only [List.mem_map, List.mem_range]
    exact ⟨fun ⟨m, h1, h2⟩ => ⟨m, h1, h2.symm⟩, fun ⟨m, h1, h2⟩ => ⟨m, h1, h2.symm⟩⟩
  let ψ2 : Nat → Gh := fun id => if nid ≤ id ∧ id - nid < new.length then ψ' (new.getD (id - nid) 0) else ψ id
  have hψA : ∀ id, A id → ψ2 id = ψ id := fun id ha => by
    have : ¬ (nid ≤ id ∧ id - nid < new.length) := fun hc => hnu id ((hmemnu id).2 ⟨id - nid, hc.2, by omega⟩) ha
    simp only [ψ2, if_neg this]
  have hψn : ∀ (m j : Nat), new[m]? = some j → ψ2 (nid + m) = ψ' j := fun m j hm => by
    have hlt := (List.getElem?_eq_some_iff.1 hm).1
    have : nid ≤ nid + m ∧ nid + m - nid < new.length := ⟨by omega, by omega⟩
    simp only [ψ2, if_pos this]
    rw [show nid + m - nid = m by omega]
    congr 1
    simp [List.getD_eq_getElem?_getD, hm]
  have hold : ∀ (j id : Nat), ids[j]? = some id → A' j ∧ ψ' j = ψ id := fun j id h => by
    have := hh'.old j ⟨id, h, hAids j id h⟩
    exact ⟨this.1, by rw [this.2]; show ψ (ids.getD j 0) = ψ id; rw [hgd h]⟩
  have hρ : ∀ j k, A' j → backρ ids new nid j = some k → (A k ∨ k ∈ (List.range new.length).map (nid + ·)) ∧ ψ2 k = ψ' j := fun j k ha hk => by
    simp only [backρ] at hk
    split at hk
    · have hA := hAids j k hk
      exact ⟨.inl hA, by rw [hψA k hA, (hold j k hk).2]⟩
    · obtain ⟨m, hm, rfl⟩ := Option.map_eq_some_iff.1 hk
      have := pos_spec hm
      exact ⟨.inr ((hmemnu _).2 ⟨m, (List.getElem?_eq_some_iff.1 this).1, rfl⟩), hψn m j this⟩
  refine ⟨v', ψ2, rfl, ?_, hψA, renV_rel hρ 4 hv'⟩
  -- the heap
  have hkeys1 : ∀ p ∈ (back H ids new nid ret H').δ, (∃ (j : Nat) (o : AObj), ids[j]? = some p.1 ∧ rd H1 p.1 = some o ∧ o.rw = true ∧ p.2 = (rd H' j).map (renO (backρ ids new nid))) ∨
      ∃ m j : Nat, new[m]? = some j ∧ p.1 = nid + m ∧ p.2 = (rd H' j).map (renO (backρ ids new nid)) := fun p hp => by
    simp only [back, List.mem_append, List.mem_filterMap, List.mem_map] at hp
    rcases hp with ⟨⟨id, j⟩, hm, h1⟩ | ⟨⟨j, k⟩, hm, h1⟩
    · have hj : ids[j]? = some id := List.mem_zipIdx_iff_getElem?.1 hm
      have hid : id ∈ ids := List.mem_of_getElem? hj
      simp only at h1
      split at h1
      · rename_i o ho
        split at h1
        · rename_i hrw
          cases h1
          exact .inl ⟨j, o, hj, by rw [hD' id hid]; exact ho, hrw, rfl⟩
        · cases h1
      · cases h1
    · have hj : new[k]? = some j := List.mem_zipIdx_iff_getElem?.1 hm
      cases h1
      exact .inr ⟨k, j, hj, rfl, rfl⟩
  have hnotnu : ∀ {j id m : Nat}, ids[j]? = some id → m < new.length → id ≠ nid + m := fun {j id m} h hm e => hnu id ((hmemnu id).2 ⟨m, hm, e⟩) (hAids j id h)
  have hnew_at : ∀ (m j : Nat), new[m]? = some j → rd (ap H1 (back H ids new nid ret H').δ) (nid + m) = (rd H' j).map (renO (backρ ids new nid)) := fun m j hm => by
    refine rd_ap_mem _ _ _ _ (fun p hp he => ?_) ⟨(nid + m, (rd H' j).map (renO (backρ ids new nid))), ?_, rfl⟩
    · rcases hkeys1 p hp with ⟨j', o, h1, _, _, _⟩ | ⟨m', j', h1, h2, h3⟩
      · exact absurd he (hnotnu h1 (List.getElem?_eq_some_iff.1 hm).1)
      · have : m' = m := by omega
        subst this
        rw [hm] at h1; cases h1; exact h3
    · simp only [back, List.mem_append, List.mem_map]
      exact .inr ⟨(j, m), List.mem_zipIdx_iff_getElem?.2 hm, rfl⟩
  have hids_at : ∀ (j id : Nat) (o : AObj), ids[j]? = some id → rd H1 id = some o → o.rw = true → rd (ap H1 (back H ids new nid ret H').δ) id = (rd H' j).map (renO (backρ ids new nid)) := fun j id o h1 h2 h3 => by
    refine rd_ap_mem _ _ _ _ (fun p hp he => ?_) ⟨(id, (rd H' j).map (renO (backρ ids new nid))), ?_, rfl⟩
    · rcases hkeys1 p hp with ⟨j', o', k1, _, _, k4⟩ | ⟨m', j', k1, k2, _⟩
      · rw [he] at k1
        have := nodup_inj hn h1 k1
        subst this; exact k4
      · exact absurd (he.symm.trans k2) (hnotnu h1 (List.getElem?_eq_some_iff.1 k1).1)
    · simp only [back, List.mem_append, List.mem_filterMap]
      refine .inl ⟨(id, j), List.mem_zipIdx_iff_getElem?.2 h1, ?_⟩
      rw [hD' id (List.mem_of_getElem? h1)] at h2
      simp [h2, h3]
  have hrest : ∀ id, (∀ m, m < new.length → id ≠ nid + m) → (∀ (j : Nat) (o : AObj), ids[j]? = some id → rd H1 id = some o → o.rw = false) → rd (ap H1 (back H ids new nid ret H').δ) id = rd H1 id := fun id h1 h2 => by
    refine rd_ap_out _ _ _ fun hm => ?_
    obtain ⟨p, hp, rfl⟩ := List.mem_map.1 hm
    rcases hkeys1 p hp with ⟨j', o, k1, k2, k3, _⟩ | ⟨m', j', k1, k2, _⟩
    · have := h2 j' o k1 k2; rw [k3] at this; cases this
    · exact h1 m' (List.getElem?_eq_some_iff.1 k1).1 k2
  have look : ∀ {id : Nat} {o : AObj}, rd (ap H1 (back H ids new nid ret H').δ) id = some o →
      (∃ (j : Nat) (o' : AObj), rd H' j = some o' ∧ o = renO (backρ ids new nid) o' ∧ ψ2 id = ψ' j ∧ (A id ∨ id ∈ (List.range new.length).map (nid + ·)) ∧ o.rw = true ∧ ((∃ m, new[m]? = some j ∧ id = nid + m) ∨ ids[j]? = some id)) ∨
      (rd H1 id = some o ∧ (∀ (j : Nat), ids[j]? = some id → o.rw = false)) := fun {id o} ho => by
    by_cases hc1 : ∃ m, m < new.length ∧ id = nid + m
    · obtain ⟨m, hm, rfl⟩ := hc1
      have hj : new[m]? = some new[m] := List.getElem?_eq_getElem hm
      rw [hnew_at m _ hj] at ho
      obtain ⟨o', h1, h2⟩ := Option.map_eq_some_iff.1 ho
      refine .inl ⟨_, o', h1, h2.symm, hψn m _ hj, .inr ((hmemnu _).2 ⟨m, hm, rfl⟩), ?_, .inl ⟨m, hj, rfl⟩⟩
      have := (hnew _ (List.getElem_mem hm)).2
      rw [h1] at this
      rw [← h2, renO_rw]; exact this
    · by_cases hc2 : ∃ (j : Nat) (o0 : AObj), ids[j]? = some id ∧ rd H1 id = some o0 ∧ o0.rw = true
      · obtain ⟨j, o0, k1, k2, k3⟩ := hc2
        rw [hids_at j id o0 k1 k2 k3] at ho
        obtain ⟨o', h1, h2⟩ := Option.map_eq_some_iff.1 ho
        have hA := hAids j id k1
        refine .inl ⟨j, o', h1, h2.symm, by rw [hψA id hA, (hold j id k1).2], .inl hA, ?_, .inr k1⟩
        have := hids (id, j) (List.mem_zipIdx_iff_getElem?.2 k1)
        rw [hD' id (List.mem_of_getElem? k1)] at k2
        simp only [k2, k3, Bool.not_true, Bool.false_or, h1] at this
        rw [← h2, renO_rw]; exact this
      · have hno : ∀ (j : Nat) (o : AObj), ids[j]? = some id → rd H1 id = some o → o.rw = false := fun j o h1 h2 => by
          cases hr : o.rw with
          | false => rfl
          | true => exact absurd ⟨j, o, h1, h2, hr⟩ hc2
        rw [hrest id (fun m hm e => hc1 ⟨m, hm, e⟩) hno] at ho
        exact .inr ⟨ho, fun j hj => hno j o hj ho⟩
  have hS'blk : ∀ {id : Nat} {o : AObj}, rd H1 id = some o → o.vd = false → (∀ (j : Nat), ids[j]? = some id → o.rw = false) → ¬ S' (ψ id).blk := fun {id o} h1 hv h2 hS => by
    obtain ⟨id2, o2, k1, k2, k3, k5, k4⟩ := hS
    by_cases e : id2 = id
    · subst e
      rw [h1] at k2; cases k2
      obtain ⟨j, hj, e⟩ := List.mem_iff_getElem.1 k1
      have := h2 j (by rw [← e]; exact List.getElem?_eq_getElem hj)
      rw [k3] at this; cases this
    · exact hh.inj id2 id o2 o k2 h1 e k3 k5 hv k4
  have hnear : ∀ {id : Nat} {o : AObj} {b : Nat}, rd H1 id = some o → o.vd = false → (∀ (j : Nat), ids[j]? = some id → o.rw = false) → (w.heap.size ≤ b ∨ S' b) → b ≠ (ψ id).blk := fun {id o b} h1 hv h2 hb e => by
    subst e
    rcases hb with hb | hb
    · have := ((hh.live id o h1).2.2 hv).1; omega
    · exact hS'blk h1 hv h2 hb
  have hown' : ∀ b, (w.heap.size ≤ b ∨ S' b) → F.w0.heap.size ≤ b ∨ F.S b := fun b hb => by
    rcases hb with hb | ⟨id2, o2, k1, k2, k3, k5, k4⟩
    · exact .inl (Nat.le_trans hh.fr.size hb)
    · rw [← k4]; exact hh.own id2 o2 k2 k3 k5
  have hψ1 : ∀ {id : Nat} {o : AObj}, rd H1 id = some o → ψ2 id = ψ id := fun {id o} h => hψA id (hh.live id o h).1
  refine ⟨fun id o ho => ?_, fun i j oi oj hi hj hij hrw hvi hvj => ?_, ?_, fun id o ho hrw hv => ?_, fun id ha => ?_⟩
  · rcases look ho with ⟨j, o', h1, rfl, h3, h4, _, _⟩ | ⟨h1, h2⟩
    · obtain ⟨l1, l2, l3⟩ := hh'.live j o' h1
      rw [h3]
      exact ⟨h4, renO_es _ l2, fun hv => by rw [renO_vd] at hv; exact ⟨(l3 hv).1, renO_rel hρ (l3 hv).2⟩⟩
    · obtain ⟨l1, l2, l3⟩ := hh.live id o h1
      rw [hψ1 h1]
      refine ⟨.inl l1, l2, fun hv => ⟨Nat.lt_of_lt_of_le (l3 hv).1 hh'.fr.size, (l3 hv).2.mono (fun k hk => ⟨.inl hk, hψA k hk⟩) ?_⟩⟩
      exact hh'.fr.block _ (l3 hv).1 (hS'blk h1 hv h2)
  · rcases look hi with ⟨ji, o1, a1, rfl, a3, a4, a5, a6⟩ | ⟨a1, a2⟩ <;> rcases look hj with ⟨jj, o2, b1, rfl, b3, b4, b5, b6⟩ | ⟨b1, b2⟩
    · rw [a3, b3]
      rw [renO_rw] at hrw
      rw [renO_vd] at hvi hvj
      refine hh'.inj ji jj o1 o2 a1 b1 (fun e => hij ?_) hrw hvi hvj
      subst e
      rcases a6 with ⟨m, m1, rfl⟩ | a6 <;> rcases b6 with ⟨m', m2, rfl⟩ | b6
      · rw [nodup_inj hnn m1 m2]
      · have := (hnew _ (List.mem_of_getElem? m1)).1
        have := (List.getElem?_eq_some_iff.1 b6).1
        omega
      · have := (hnew _ (List.mem_of_getElem? m2)).1
        have := (List.getElem?_eq_some_iff.1 a6).1
        omega
      · rw [a6] at b6; cases b6; rfl
    · rw [a3, hψ1 b1]
      rw [renO_rw] at hrw
      rw [renO_vd] at hvi
      exact hnear b1 hvj b2 (hh'.own ji o1 a1 hrw hvi)
    · rw [b3, hψ1 a1]
      rw [renO_rw] at b5
      rw [renO_vd] at hvj
      exact fun e => hnear a1 hvi a2 (hh'.own jj o2 b1 b5 hvj) e.symm
    · rw [hψ1 a1, hψ1 b1]
      exact hh.inj i j oi oj a1 b1 hij hrw hvi hvj
  · have k := hh'.fr
    exact ⟨k.os.trans hh.fr.os, k.tape.trans hh.fr.tape, k.output.trans hh.fr.output, Nat.le_trans hh.fr.size k.size, fun b hb hS => by
      rw [k.block b (Nat.lt_of_lt_of_le hb hh.fr.size) (fun hS2 => by rcases hown' b (.inr hS2) with h | h; omega; exact hS h)]
      exact hh.fr.block b hb hS, hh.fr.lay⟩
  · rcases look ho with ⟨j, o', h1, rfl, h3, h4, _, _⟩ | ⟨h1, h2⟩
    · rw [h3]
      rw [renO_rw] at hrw
      rw [renO_vd] at hv
      exact hown' _ (hh'.own j o' h1 hrw hv)
    · rw [hψ1 h1]; exact hh.own id o h1 hrw hv
  · obtain ⟨h1, h2⟩ := hh.old id ha
    exact ⟨.inl h1, (hψA id h1).trans h2⟩

end
end Go.Vm
