/- Operations on values that are not known, each with its condition. -/
import Derived.Test.YtaigknknfaeajaaGreatDoorVmP
namespace Go.Vm
noncomputable section

/-- An element's address. -/
def fIa (P : Program) (o : Oper) (env : List Value) (_ : Heap) : Option (Out × Prop) :=
  match o.op with
  | .indexAddr t x i =>
    match P.underlying t, ev env x, ev env i with
    | some (.array len elem), .pointer (some ⟨id, off, none⟩), .int _ n =>
      match P.info? elem with
      | some inf => some (⟨.pointer (some ⟨id, off + n.toNat * inf.size, none⟩), [], [], []⟩, 0 ≤ n ∧ n < len)
      | none => none
    | some (.slice elem), .slice (some ⟨id, off, none⟩) len _, .int _ n =>
      match P.info? elem with
      | some inf => some (⟨.pointer (some ⟨id, off + n.toNat * inf.size, none⟩), [], [], []⟩, 0 ≤ n ∧ n < len)
      | none => none
    | _, _, _ => none
  | _ => none

def hIa (P : Program) : Hint P where
  fn := fIa P
  ok := by
    intro o env H out vc h hv
    unfold fIa at h
    split at h
    · rename_i t x i ho
      refine indexAddr_ok ho ?_
      unfold evIndexAddr
      split at h
      · rename_i h1 h2 h3
        rw [h1, h2, h3]
        simp only
        split at h
        · rename_i inf hi
          rw [hi]; cases h
          simp only
          rw [if_pos hv]
        · cases h
      · rename_i h1 h2 h3
        rw [h1, h2, h3]
        simp only
        split at h
        · rename_i inf hi
          rw [hi]; cases h
          simp only
          rw [if_pos hv]
        · cases h
      · cases h
    · cases h

/-- A cell, or a row of cells, of a list that is not known. -/
def fLd (P : Program) (g : Nat → Value) (o : Oper) (env : List Value) (H : Heap) : Option (Out × Prop) :=
  match o.op with
  | .load t x =>
    match ev env x with
    | .pointer (some ⟨id, off, none⟩) =>
      match rd H id with
      | some (.row cells _ _ _ _) => some (⟨g off, [], [id], []⟩, evPart P t cells off = some (g off))
      | _ => none
    | _ => none
  | _ => none

def hLd (P : Program) (g : Nat → Value) : Hint P where
  fn := fLd P g
  ok := by
    intro o env H out vc h hv
    unfold fLd at h
    split at h
    · rename_i t x ho
      refine load_ok ho ?_
      unfold evLoad
      split at h
      · rename_i id off hx
        rw [hx]
        simp only
        split at h
        · rename_i hr
          rw [hr]; cases h
          simp only [hv, Option.map_some]
        · cases h
      · cases h
    · cases h

/-- A quotient or a remainder. -/
def fDv (o : Oper) (env : List Value) (_ : Heap) : Option (Out × Prop) :=
  match o.op with
  | .binOp .quo _ x y _ =>
    match ev env x, ev env y with
    | .int k a, .int k' b => if k = k' then some (⟨.int k (k.wrap (a.tdiv b)), [], [], []⟩, b ≠ 0) else none
    | _, _ => none
  | .binOp .rem _ x y _ =>
    match ev env x, ev env y with
    | .int k a, .int k' b => if k = k' then some (⟨.int k (a.tmod b), [], [], []⟩, b ≠ 0) else none
    | _, _ => none
  | _ => none

def hDv (P : Program) : Hint P where
  fn := fDv
  ok := by
    intro o env H out vc h hv
    unfold fDv at h
    split at h
    · rename_i t x y yt ho
      refine bin_ok ho ?_
      unfold evBin
      split at h
      · rename_i h1 h2
        rw [h1, h2]
        simp only
        split at h
        · rename_i hk; cases h
          rw [if_pos hk]
          simp [evInt, if_neg hv]
        · cases h
      · cases h
    · rename_i t x y yt ho
      refine bin_ok ho ?_
      unfold evBin
      split at h
      · rename_i h1 h2
        rw [h1, h2]
        simp only
        split at h
        · rename_i hk; cases h
          rw [if_pos hk]
          simp [evInt, if_neg hv]
        · cases h
      · cases h
    · cases h

/-- Any operation but a call: its answer is given. -/
def hEv (P : Program) (g : List Value → Heap → Option Out) : Hint P where
  fn o env H := match g env H with
    | some out => some (out, evOp P env H H.length o = some out)
    | none => none
  ok := by
    intro o env H out vc h hv
    split at h
    · cases h; exact evOp_ok hv
    · cases h

abbrev OrcV := List Value → Heap → Option (Value × Heap × Prop)

/-- A call whose answer stands under a condition. -/
def fCa (P : Program) (g : FuncId) (R : OrcV) (o : Oper) (env : List Value) (H : Heap) : Option (Out × Prop) :=
  match o.op with
  | .call ⟨.value f, args, _⟩ =>
    match ev env f with
    | .func (.func g') first cap =>
      if g' = g then
        if callable P g = true then
          let ar := first.toList ++ args.toList.map (ev env) ++ cap.toList
          let ids := reach H 1000 (ar.flatMap (idsV 4)) []
          match R (ar.map (renV (pos ids) 4)) (resH H ids) with
          | some (ret, H', vc) => if backOK H ids (newIds H' ids.length ret) H' = true then some (back H ids (newIds H' ids.length ret) H.length ret H', vc) else none
          | none => none
        else none
      else none
    | _ => none
  | _ => none

def hCa (P : Program) (g : FuncId) (R : OrcV) (hR : ∀ args H ret H' vc, R args H = some (ret, H', vc) → vc → SmallRes P g args H ret H') : Hint P where
  fn := fCa P g R
  ok := by
    intro o env H out vc h hv
    unfold fCa at h
    split at h
    · rename_i f args ts ho
      split at h
      · rename_i g' first cap hf
        split at h
        · rename_i hg
          subst hg
          split at h
          · rename_i hcall
            simp only at h
            split at h
            · rename_i ret H' vc' hr
              split at h
              · rename_i hb
                cases h
                classical
                have hres := call_lift (nid := H.length) (hR _ _ _ _ _ hr hv) hb
                generalize back H (reach H 1000 (List.flatMap (idsV 4) (first.toList ++ List.map (ev env) args.toList ++ cap.toList)) []) _ H.length ret H' = out at *
                refine evStep_ok (call := fun g a h n => if g = g' ∧ a = first.toList ++ args.toList.map (ev env) ++ cap.toList ∧ h = H ∧ n = H.length then some out else none) ?_ (nid := H.length) ?_
                · intro g a h n out' hh
                  simp only at hh
                  split at hh
                  · rename_i hk
                    obtain ⟨rfl, rfl, rfl, rfl⟩ := hk
                    cases hh
                    exact hres
                  · cases hh
                · unfold evStep
                  simp only [ho, hf, hcall, if_true]
                  simp
              · cases h
            · cases h
          · cases h
        · cases h
      · cases h
    · cases h

/-- Quotients and remainders under their condition. -/
def auDv (P : Program) (o : Oper) : Option (Hint P) :=
  match o.op with
  | .binOp .quo _ _ _ _ | .binOp .rem _ _ _ _ => some (hDv P)
  | _ => none

end
end Go.Vm
