/- What a function only reads stays the caller's own. -/
import Derived.Test.YtaigknknfaeajaaGreatDoorVmT
import Derived.Test.YtaigknknfaeajaaGreatDoorVmY
namespace Go.Vm
noncomputable section

def regainH (l : List Nat) (H H' : Heap) : Heap := (List.range H'.length).map fun id => if l.contains id then rd H id else rd H' id

def regainOK (l : List Nat) (H H' : Heap) : Bool :=
  decide (H.length ≤ H'.length) && (List.range H'.length).all fun j =>
    match rd H' j with
    | none => true
    | some o => l.contains j || (o.rw && (decide (H.length ≤ j) || (rd H j).isSome))

theorem rd_regain {l : List Nat} {H H' : Heap} (hle : H.length ≤ H'.length) (j : Nat) : rd (regainH l H H') j = if l.contains j then rd H j else rd H' j := by
  rw [regainH, rd_map]
  by_cases hj : j < H'.length
  · rw [List.getElem?_eq_getElem (by simpa using hj)]
    simp
  · rw [List.getElem?_eq_none (by simpa using hj)]
    split
    · exact (rd_len H j (by omega)).symm
    · exact (rd_len H' j (by omega)).symm

theorem rd_seal {l : List Nat} {H : Heap} (j : Nat) : rd (sealH l H) j = if l.contains j then (rd H j).map AObj.shut else rd H j := by
  rw [sealH, rd_map]
  by_cases hj : j < H.length
  · rw [List.getElem?_eq_getElem (by simpa using hj)]
    simp
  · rw [List.getElem?_eq_none (by simpa using hj), rd_len H j (by omega)]
    split <;> rfl

def allRows (l : List Nat) (H : Heap) : Bool := l.all fun j => match rd H j with | some (.row _ _ _ _ _) => true | _ => false

theorem regain {P : Program} {f : FuncId} {args : List Value} {H H' : Heap} {ret : Value} (l : List Nat) (hs : SmallRes P f args (sealH l H) ret H') (hr : allRows l H = true) (hc : regainOK l H H' = true) :
    SmallRes P f args H ret (regainH l H H') := by
  simp only [regainOK, Bool.and_eq_true, decide_eq_true_eq, List.all_eq_true, List.mem_range] at hc
  obtain ⟨hle, hobj⟩ := hc
  intro F A ψ w args' hh hb hA hψ hl
  have h2 : HRel F A ψ (sealH l H) w := hh.shut l
  obtain ⟨F2, hF2⟩ : ∃ F2, F2 = Vm.rebase P w ψ (sealH l H) A ψ [] := ⟨_, rfl⟩
  have h3 : HRel F2 A ψ (sealH l H) w := by rw [hF2]; exact h2.rebase fun id h => ⟨h, rfl⟩
  have hlH : ∀ id o, l.contains id = true → rd H id = some o → (∃ cs es m rw fl, o = .row cs es m rw fl) := fun id o hid ho => by
    have := List.all_eq_true.1 hr id (by simpa using hid)
    rw [ho] at this
    cases o with
    | row cs es m rw fl => exact ⟨cs, es, m, rw, fl, rfl⟩
    | iter => cases this
    | smap => cases this
  -- a sealed object's block is nobody's to turn
  have hns : ∀ id o, l.contains id = true → rd H id = some o → o.rw = true → o.vd = false → ¬ F2.S (ψ id).blk := fun id o hid ho hrw hv hS => by
    rw [hF2] at hS
    obtain ⟨j, oj, q1, q2, q6, q3⟩ := hS
    rw [rd_seal] at q1
    split at q1
    · obtain ⟨o', q4, q5⟩ := Option.map_eq_some_iff.1 q1
      rename_i hj
      obtain ⟨cs, es, m, rw, fl, rfl⟩ := hlH j o' hj q4
      rw [← q5] at q2
      cases q2
    · rename_i hj
      have hne : id ≠ j := fun e => hj (by rw [← e]; exact hid)
      exact hh.inj id j o oj ho q1 hne hrw hv q6 q3.symm
  refine (hs F2 A ψ w args' h3 (fun id h => by rw [seal_len]; exact hb id h) (by rw [hF2]; rfl) (by rw [hF2]; rfl) hl).mono ?_
  rintro e w' ⟨v', A', ψ', rfl, k1, k2, k3⟩
  have hold : ∀ id, A id → A' id ∧ ψ' id = ψ id := fun id hid => by
    have := k1.old id (by rw [hF2]; exact hid)
    rw [hF2] at this
    exact this
  have k4 : HRel F A' ψ' H' w' := h2.unbase (A0 := A) (ψ0 := ψ) (ds := []) (by rw [hF2] at k1; exact k1) fun id hid => by
    have := hh.old id hid
    exact this
  refine ⟨v', A', ψ', rfl, ⟨fun id o ho => ?_, fun i j oi oj hi hj hij hrw hvi hvj => ?_, k4.fr, fun id o ho hrw hv => ?_, k4.old⟩, fun id hid => by simpa [regainH] using k2 id hid, k3⟩
  · rw [rd_regain hle] at ho
    split at ho
    · rename_i hid
      obtain ⟨a1, a0, a4⟩ := hh.live id o ho
      obtain ⟨b1, b2⟩ := hold id a1
      have hsz : w.heap.size ≤ w'.heap.size := by have := k1.fr.size; rw [hF2] at this; exact this
      refine ⟨b1, by rw [b2]; exact a0, fun hv => ?_⟩
      obtain ⟨a2, a3⟩ := a4 hv
      refine ⟨by rw [b2]; omega, ?_⟩
      rw [b2]
      by_cases hrw : o.rw = true
      · exact a3.mono (fun id' h => hold id' h) ((k1.fr.block _ (by rw [hF2]; exact a2) (hns id o hid ho hrw hv)).trans (by rw [hF2]; rfl))
      · -- it was not its own
        have ho' : rd (sealH l H) id = some o := by
          rw [rd_seal, if_pos hid, ho]
          obtain ⟨cs, es, m, rw, fl, rfl⟩ := hlH id o hid ho
          cases rw with
          | true => exact absurd rfl hrw
          | false => rfl
        have hS : ¬ F2.S (ψ id).blk := fun hS => by
          rw [hF2] at hS
          obtain ⟨j, oj, q1, q2, q6, q3⟩ := hS
          by_cases e : j = id
          · subst e; rw [ho'] at q1; cases q1; exact hrw q2
          · exact h3.inj j id oj o q1 ho' e q2 q6 hv q3
        exact a3.mono (fun id' h => hold id' h) ((k1.fr.block _ (by rw [hF2]; exact a2) hS).trans (by rw [hF2]; rfl))
    · exact k4.live id o ho
  · rw [rd_regain hle] at hi hj
    have old : ∀ {i o}, rd H i = some o → ψ' i = ψ i := fun {i o} h => (hold i (hh.live i o h).1).2
    -- what lies outside
    have out : ∀ {i j oi oj}, l.contains i = true → rd H i = some oi → ¬ l.contains j = true → rd H' j = some oj → i ≠ j → (oi.rw = true ∨ oj.rw = true) → oi.vd = false → oj.vd = false → (ψ' i).blk ≠ (ψ' j).blk := by
      intro i j oi oj hli hi hlj hj hij hrw hvi hvj
      rw [old hi]
      have hlt : j < H'.length := rd_lt _ _ _ hj
      have hob := hobj j hlt
      rw [hj] at hob
      have hlj' : l.contains j = false := by simpa using hlj
      simp only [hlj', Bool.false_or, Bool.and_eq_true] at hob
      have hrwj := hob.1
      intro e
      rcases k1.own j oj hj hrwj hvj with h | h
      · have := ((hh.live i oi hi).2.2 hvi).1
        rw [← e] at h
        rw [hF2] at h
        simp only [Vm.rebase] at h
        omega
      · rw [← e] at h
        by_cases hr : oi.rw = true
        · exact hns i oi hli hi hr hvi h
        · have ho' : rd (sealH l H) i = some oi := by
            rw [rd_seal, if_pos hli, hi]
            obtain ⟨cs, es, m, rw, fl, rfl⟩ := hlH i oi hli hi
            cases rw with
            | true => exact absurd rfl hr
            | false => rfl
          rw [hF2] at h
          obtain ⟨j2, oj2, q1, q2, q6, q3⟩ := h
          by_cases e2 : j2 = i
          · subst e2; rw [ho'] at q1; cases q1; exact hr q2
          · exact h3.inj j2 i oj2 oi q1 ho' e2 q2 q6 hvi q3
    split at hi <;> split at hj
    · rw [old hi, old hj]
      exact hh.inj i j oi oj hi hj hij hrw hvi hvj
    · rename_i hli hlj
      exact out hli hi hlj hj hij (.inl hrw) hvi hvj
    · rename_i hli hlj
      exact fun e => out hlj hj hli hi (Ne.symm hij) (.inr hrw) hvj hvi e.symm
    · exact k4.inj i j oi oj hi hj hij hrw hvi hvj
  · rw [rd_regain hle] at ho
    split at ho
    · rw [(hold id (hh.live id o ho).1).2]; exact hh.own id o ho hrw hv
    · exact k4.own id o ho hrw hv

end
end Go.Vm
