/- Iterators whose states name the function that they call. -/
import Derived.Test.YtaigknknfaeajaaGreatDoorZD
namespace Go.Vm
open Go.RowKit
noncomputable section
section
variable (P : Program) (call : CallF) (hz : Nat → Ys P) (Hc : Heap) (N : Nat) (el : Nat → List Value)
/-- An iterator's function. -/
def iterZ (f : FuncId) (cap : List Value) : Prop :=
  match P.funcs[f]? with
  | some fn =>
    match fn.body with
    | some c => ∀ l : Nat, codeY P call (hz l) l Hc N el c 0 false ((.func (.yield l) #[] #[] :: cap) ++ List.replicate (fn.ntmps - (cap.length + 1)) undef) Hc fun x i st e h =>
      match x with
      | .normal => finY P N fn.results.toList i st e h
      | .ret => finY P N fn.results.toList i st e h
      | _ => False
    | none => False
  | none => False
end
section
variable {P : Program} {call : CallF} {hz : Nat → Ys P} {Hc : Heap} {N : Nat} {el : Nat → List Value}
theorem iterZ_ok (hm : P.follows .mixedOrders = true) (hc : CallOK P call) {f : FuncId} {cap : List Value} (h : iterZ P call hz Hc N el f cap) : IterRes P f cap Hc N el := by
  unfold iterZ at h
  split at h
  · rename_i fn hfn
    split at h
    · rename_i c hbody
      intro F A ψ w cap' hh hw hs hb hl n l J Jx W hk hJ hJx hy hJ0
      have hh' : HRel F (fun id => id < Hc.length) ψ Hc w := ⟨fun id o ho => by
        obtain ⟨a, b, c⟩ := hh.live id o ho
        exact ⟨hb id a, b, fun hv => ⟨(c hv).1, (c hv).2.mono (fun id ha => ⟨hb id ha, rfl⟩) rfl⟩⟩, hh.inj, hh.fr, hh.own, fun id hid => ⟨hb id (hh.old id hid).1, (hh.old id hid).2⟩⟩
      have hbase : Base F w ψ Hc := ⟨by
        refine ⟨hh'.live, hh'.inj, hh'.fr, hh'.own, hh'.old⟩, hw, hs⟩
      have hlen : ((.func (.yield l) #[] #[] :: cap') : List Value).toArray.size = cap.length + 1 := by simpa using hl.len
      refine callsIn_any (ro := none) (m := n) (callsIn_of_wp_marks (F := fen none) (n := n) hfn hbody trivial ?_)
      have hlr : LR (fun id => id < Hc.length) ψ (.func (.yield l) #[] #[] :: cap) (.func (.yield l) #[] #[] :: cap') := ⟨by simp [hl.len], fun i => by
        cases i with
        | zero => exact .func _ #[] #[] #[] #[] rfl rfl (fun i => by simp [Array.getD]; exact .poison _) (fun i => by simp [Array.getD]; exact .poison _)
        | succ i => exact (hl.at_ i).mono fun id ha => ⟨hb id ha, rfl⟩⟩
      refine codeY_ok hm hc c _ _ _ _ _ (h l) n F w ψ J Jx hbase hJ hJx hy ⟨W, fun _ => False, fun id => id < Hc.length, ψ, []⟩ _ ψ _ W _ ⟨rfl, rfl, rfl, rfl, hk, fun _ => hJ0, fun h => by cases h⟩ ⟨fun t => ?_, ?_, rfl, hbase.at_ hk⟩ (fun id h => h) fun x i st e h' F' A' ψ' a' w' k00 k0 k1 k2 => ?_
      · have hrep : LR (fun id => id < Hc.length) ψ (List.replicate (fn.ntmps - (cap.length + 1)) undef) (List.replicate (fn.ntmps - (cap.length + 1)) undef) := ⟨rfl, fun i => by
          by_cases hi : i < fn.ntmps - (cap.length + 1)
          · simp only [List.getD_eq_getElem?_getD, List.getElem?_replicate, hi, if_true, Option.getD_some]; exact .refl_undef
          · simp only [List.getD_eq_getElem?_getD, List.getElem?_replicate, hi, if_false, Option.getD_none]; exact .poison _⟩
        have := (hlr.append hrep).at_ t
        rw [hlen]
        have e2 : ((.func (.yield l) #[] #[] :: cap' : List Value).toArray ++ Array.replicate (fn.ntmps - (cap.length + 1)) undef).getD t undef = ((.func (.yield l) #[] #[] :: cap' : List Value) ++ List.replicate (fn.ntmps - (cap.length + 1)) undef).getD t undef := by
          simp [Array.getD_eq_getD_getElem?, List.getD_eq_getElem?_getD, ← List.toArray_replicate]
        rw [e2]; exact this
      · have := hl.len; simp; omega
      · have hd : a'.defers = [] := by rw [k1.defers, k00.ds]
        have fin : finY P N fn.results.toList i st e h' → LeavesInM (fen none) n P fn a'.tmps (fun e W' => (∃ v, e = .returned v) ∧ (J N W' ∨ ∃ i, i < N ∧ Jx i W')) a'.defers .returning w' := by
          intro hfin
          rw [hd]
          unfold finY at hfin
          split at hfin
          · rename_i vs hvs
            obtain ⟨us, r1, r2⟩ := results_rel _ _ hvs k1
            have hres' : (results fn a'.tmps).run P w' = .ok (if h : us.toArray.size = 1 then us.toArray[0] else .tuple us.toArray) w' := by
              unfold results
              rw [Array.mapM_eq_mapM_toList]
              simp only [Sem.run_bind, Sem.run_map]
              rw [r1 _ (fun _ => rfl) (fun _ _ => rfl)]
              rfl
            refine ⟨_, hres', ⟨_, rfl⟩, ?_⟩
            have hbel := k00.below k1.heap
            cases st with
            | true => exact .inr ⟨i, hfin.out, hJx i _ _ (k00.Jx rfl) hbel⟩
            | false =>
              have := hfin.out
              subst this
              exact .inl (hJ i _ _ (k00.J rfl) hbel)
          · exact hfin.elim
        cases x with
        | normal => exact fin k0
        | ret => exact fin k0
        | exit id => exact k0.elim
    · exact h.elim
  · exact h.elim
end
end
end Go.Vm
