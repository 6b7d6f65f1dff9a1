/- From a contract to a statement: the call returns true, and what it was given reads as it did. -/
import Derived.Test.YtaigknknfaeajaaGreatDoorVmR
import Derived.ProofKit
import Derived.Carry
namespace Go.Vm
open Go.ChangeShapes Go.WideShapes Go.ChangeAt Go.RowKit

theorem trodAll_stays {H : Type} {enc : TypeId × Value → H} {P : Program} (hl : laidOutB P = true) {W W' : World} (hb : Below W.heap.size W W') :
    ∀ (ts : List TypeId) (vs : List Value) (ds : List (DataW H)) (ps : List MemPlace), (∀ t ∈ ts, P.readableRec t = true ∧ t < P.types.size) →
      DataW.TrodAll enc P W 0 (fun _ => true) true ts vs ds ps → (∀ x ∈ ps, x.block < W.heap.size) →
      DataW.TrodAll enc P W' 0 (fun b => decide (b < W.heap.size)) true ts vs ds ps
  | [], vs, ds, ps, _, h, _ => by
    obtain ⟨rfl, rfl, rfl⟩ := trodAll_nil h
    exact (by first | rfl | exact ⟨rfl, rfl⟩)
  | t :: ts, vs, ds, ps, ht, h, hlt => by
    obtain ⟨v, vs1, d, ds1, a, b, rfl, rfl, rfl, h1, h2⟩ := trodAll_cons h
    have ht1 := ht t (by simp)
    exact ⟨a, b, Below.trod hl ht1.1 ht1.2 h1 hb fun x hx => hlt x (by simp [hx]), trodAll_stays hl hb ts vs1 ds1 b (fun u hu => ht u (by simp [hu])) h2 (fun x hx => hlt x (by simp [hx])), rfl⟩

theorem post_true {H : Type} {enc : TypeId × Value → H} {P : Program} {f : Func} {s : ChangeSpec} {apart : Bool} {W W' : World} {args : Array Value} {ds : List (DataW H)} {before : List MemPlace} {tb : TypeId}
    (hW : DataW.Whole enc P f.params.toList s.vars apart W args.toList ds [] before) (hv : s.vars = []) (hl : laidOutB P = true) (hp : ∀ t ∈ f.params.toList, P.readableRec t = true ∧ t < P.types.size)
    (hr : f.resultTypes = #[tb]) (hb : P.underlying tb = some .bool) (hs : s.fn H (ds ++ []) = { results := [.lit (.bool true)], args := ds }) (hbel : Below W.heap.size W W') :
    s.post enc P f apart true false false W args (.bool true) W' := by
  have hW' := hW
  obtain ⟨p, q, hA, hV, rfl, hfz, hnd⟩ := hW
  rw [hv] at hV
  obtain ⟨_, rfl⟩ := trodVars_none hV
  have hlt : ∀ x ∈ p, x.block < W.heap.size := fun x hx => hW'.lt x (by simp [hx])
  refine ⟨ds, [], p ++ [], [], p, [], hW', ?_, ?_, ?_, hbel.frame _, fun h => by cases h⟩
  · rw [hs, hr]
    exact trodAll_mk1 (shut_bool hb true)
  · rw [hs]
    exact trodAll_stays hl hbel _ _ _ _ hp hA hlt
  · rw [hs, hv]
    rfl

theorem below_of {P : Program} {F : Fr P} {A : Nat → Prop} {ψ : Nat → Gh} {H : Heap} {w : World} (h : HRel F A ψ H w) (hS : ∀ k, ¬ F.S k) : Below F.w0.heap.size F.w0 w :=
  ⟨h.fr.os, h.fr.tape, h.fr.output, h.fr.size, fun k hk => h.fr.block k hk (hS k)⟩

/-- A world as it stands: nothing may turn. -/
def still (P : Program) (W : World) (A : Nat → Prop) (ψ : Nat → Gh) : Fr P := ⟨W, fun _ => False, A, ψ, []⟩

theorem TabIs_blocks {P : Program} {W w' : World} {name : String} {k : IntKind} {zs : List Int} (h : Lib.TabIs P W name k zs) (hb : ∀ j, j < W.heap.size → w'.heap[j]? = W.heap[j]?) : Lib.TabIs P w' name k zs := by
  unfold Lib.TabIs World.var? at *
  cases hg : P.globalNamed name with
  | none => simp [hg] at h
  | some g =>
    simp only [hg, Option.bind_some] at h ⊢
    have hlt : g < W.heap.size := by
      rcases Nat.lt_or_ge g W.heap.size with h' | h'
      · exact h'
      · rw [Array.getElem?_eq_none h'] at h; simp at h
    rw [hb g hlt]
    exact h

theorem still_ok {P : Program} {W : World} (hL : lays P W) (A : Nat → Prop) (ψ : Nat → Gh) : (still P W A ψ).ok W :=
  ⟨rfl, rfl, rfl, Nat.le_refl _, fun _ _ _ => rfl, fun w' h1 _ hn => TabIs_blocks (hL hn) (fun j hj => h1 j hj (fun h => h))⟩

theorem calls_true {P : Program} {f : FuncId} {args : List Value} {H H' : Heap} (hs : SmallRes P f args H (.bool true) H') {W : World} {args' : List Value} {A : Nat → Prop} {ψ : Nat → Gh}
    (hh : HRel (still P W A ψ) A ψ H W) (hb : ∀ id, A id → id < H.length) (hl : LR A ψ args args') :
    Calls P f args'.toArray W fun e W' => e = .returned (.bool true) ∧ Below W.heap.size W W' := by
  refine (hs (still P W A ψ) A ψ W args' hh hb rfl rfl hl).mono ?_
  rintro e w' ⟨v', A', ψ', rfl, k1, k2, k3⟩
  have := k3.of_atom rfl
  subst this
  exact ⟨rfl, below_of k1 (fun k hk => hk)⟩

/-- Nothing of the heap is looked at. -/
theorem calls_true0 {P : Program} {f : FuncId} {args : List Value} {H' : Heap} (hs : SmallRes P f args [] (.bool true) H') {W : World} (hL : lays P W) {args' : List Value}
    (hl : LR (fun _ => False) (fun _ => ⟨0, 0, 0, 0⟩) args args') : Calls P f args'.toArray W fun e W' => e = .returned (.bool true) ∧ Below W.heap.size W W' :=
  calls_true hs (A := fun _ => False) (ψ := fun _ => ⟨0, 0, 0, 0⟩)
    ⟨fun id o h => by simp [rd_nil] at h, fun i j oi oj h => by simp [rd_nil] at h, still_ok hL _ _, fun id o h => by simp [rd_nil] at h, fun id h => h.elim⟩ (fun id h => h.elim) hl

theorem LR.ground {A : Nat → Prop} {ψ : Nat → Gh} {l : List Value} (h : l.all ground = true) : LR A ψ l l := by
  refine ⟨rfl, fun i => ?_⟩
  by_cases hi : i < l.length
  · have e1 : l.getD i poi = l[i] := by simp [List.getD_eq_getElem?_getD, hi]
    have e2 : l.getD i undef = l[i] := by simp [List.getD_eq_getElem?_getD, hi]
    rw [e1, e2]
    exact .refl_ground (List.all_eq_true.1 h _ (List.getElem_mem _))
  · have e1 : l.getD i poi = poi := by simp [List.getD_eq_getElem?_getD, hi]
    rw [e1]; exact .poison _

/-- What was there is there still: the relation stands. -/
theorem HRel.below {P : Program} {F : Fr P} {A : Nat → Prop} {ψ : Nat → Gh} {H : Heap} {w w' : World} (h : HRel F A ψ H w) (hb : Below w.heap.size w w') : HRel F A ψ H w' where
  live id o ho := by
    obtain ⟨h1, h2, h3⟩ := h.live id o ho
    exact ⟨h1, h2, fun hv => ⟨Nat.lt_of_lt_of_le (h3 hv).1 hb.size, (h3 hv).2.mono (fun _ ha => ⟨ha, rfl⟩) (hb.block _ (h3 hv).1)⟩⟩
  inj := h.inj
  fr := ⟨hb.os.trans h.fr.os, hb.tape.trans h.fr.tape, hb.output.trans h.fr.output, Nat.le_trans h.fr.size hb.size, fun k hk hs => (hb.block k (Nat.lt_of_lt_of_le hk h.fr.size)).trans (h.fr.block k hk hs), h.fr.lay⟩
  own := h.own
  old := h.old

/-- A contract of the kit's, taken over: what it hands back is plain, and nothing that was there turns. -/
theorem small_of_calls {P : Program} {f : FuncId} {args : List Value} {H : Heap} {ret : Value} (hg : ground ret = true)
    (h : ∀ (F : Fr P) (A : Nat → Prop) (ψ : Nat → Gh) (w : World) (args' : List Value), HRel F A ψ H w → LR A ψ args args' → Calls P f args'.toArray w fun e w' => e = .returned ret ∧ Below w.heap.size w w') :
    SmallRes P f args H ret H := by
  intro F A ψ w args' hh hb hA hψ hl
  refine (h F A ψ w args' hh hl).mono ?_
  rintro e w' ⟨rfl, hw⟩
  exact ⟨ret, A, ψ, rfl, hh.below hw, hb, .refl_ground hg⟩
end Go.Vm
