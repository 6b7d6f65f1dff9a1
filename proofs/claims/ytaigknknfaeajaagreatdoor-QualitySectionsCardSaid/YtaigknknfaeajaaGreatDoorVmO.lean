/- Fences; frames taken anew; iterators; the range over a function. -/
import Derived.Test.YtaigknknfaeajaaGreatDoorVmN
import Derived.RangeFuncLeaves
import Derived.RangeFuncSeq
import Derived.OrdersIn
import Derived.TacticsIn
import Derived.LoopNIn
namespace Go.Vm
open Go.RowKit
noncomputable section

/-! ### The fence: every function; a frame of a function, or of a round -/
def fen (ro : Option Nat) : Fence := { fn := fun _ => True, depth := none, alive := false, round := ro }

theorem fen_room {ro : Option Nat} (n : Nat) : (fen ro).room n := fun _ h => by simp [fen] at h
theorem fen_depth {ro : Option Nat} {p : Prop} (h : (fen ro).depth.isSome = true) : p := by simp [fen] at h

section
variable {P : Program} {ro : Option Nat} {n : Nat}

theorem callsIn_fen {f : FuncId} {args : Array Value} {w : World} {R : Ending → World → Prop} : CallsIn (fen ro) n P f args w R ↔ Calls P f args w R :=
  (Iff.rfl : CallsIn (fen ro) n P f args w R ↔ CallsIn Fence.wide n P f args w R).trans callsIn_wide

theorem callsIn_any {ro' : Option Nat} {m : Nat} {f : FuncId} {args : Array Value} {w : World} {R : Ending → World → Prop} (h : CallsIn (fen ro) n P f args w R) : CallsIn (fen ro') m P f args w R :=
  callsIn_fen.2 (callsIn_fen.1 h)

theorem rowsIn_fen {row : String} {args : Array Value} {w : World} {R : Value → World → Prop} (h : Rows P row args w R) : RowsIn (fen ro) n P row args w R :=
  fun c cs _ => let ⟨v, w', r, s⟩ := h c cs; ⟨v, w', r, (stepsIn_wide (P := P)).2 s⟩

/-- Nothing but what goes on. -/
def onlyN (Q : Exit → Act → World → Prop) : Exit → Act → World → Prop
  | .normal, a, w => Q .normal a w
  | _, _, _ => False

theorem upon_in {o : Oper} {a : Act} {K : Act → World → Prop} {Q : Exit → Act → World → Prop} : ∀ {r : Result Next}, o.upon P a K Q r → o.uponIn (fen ro) n P a K Q r := by
  intro r h
  cases r with
  | ok x w' =>
    cases x <;> simp only [Oper.upon, Oper.uponIn] at h ⊢ <;>
      first
        | exact h
        | exact ⟨fun h => fen_depth h, callsIn_fen.2 (Calls.mono h fun e w'' he => by cases e <;> exact he)⟩
        | exact ⟨fun h => fen_depth h, rowsIn_fen h⟩
  | halt x w' => cases x <;> simp only [Oper.upon, Oper.uponIn] at h ⊢ <;> exact h

theorem oper_in {o : Oper} {a : Act} {w : World} {K : Act → World → Prop} {Q : Exit → Act → World → Prop} (hd : ro = none ∨ ∀ c, o.op ≠ .defer c) (h : o.wp P a w K Q) : o.wpIn (fen ro) n P a w K Q :=
  ⟨fun _ _ => trivial, by
    have : o.semAt (fen ro).round a.eval = execOp a.eval o := by
      rcases hd with rfl | hd
      · rfl
      · exact Oper.semAt_eq _ _ _ hd
    rw [this]; exact upon_in h⟩

theorem not_out {Q : Exit → Act → World → Prop} : ¬ LetsOut (onlyN Q) := fun ⟨_, _, h⟩ => h

def noDef (ops : List Oper) : Bool := ops.all fun o => match o.op with | .defer _ => false | _ => true

theorem noDef_spec {ops : List Oper} (h : noDef ops = true) : ∀ o ∈ ops, ∀ c, o.op ≠ .defer c := by
  intro o ho c hc
  have := List.all_eq_true.1 h o ho
  rw [hc] at this; cases this

theorem wpOp_in {ops : Array Oper} (hd : ro = none ∨ noDef ops.toList = true) {Q : Exit → Act → World → Prop} {i : Nat} {K K' : Act → World → Prop} {a : Act} {w : World} (hK : ∀ a w, K a w → K' a w)
    (h : wpOp P ops (onlyN Q) i K a w) : wpOpIn (fen ro) n P ops (onlyN Q) i K' a w := by
  unfold wpOp at h
  unfold wpOpIn
  cases ho : ops[i]? with
  | none => rw [ho] at h; exact hK _ _ h
  | some o =>
    rw [ho] at h
    simp only at h ⊢
    split
    · rename_i hw
      rw [if_pos hw] at h
      rcases h with h | ⟨_, h⟩
      · refine Oper.wpIn_mono hK (oper_in ?_ h)
        rcases hd with hd | hd
        · exact .inl hd
        · exact .inr (noDef_spec hd o (by
            have := Array.mem_of_getElem? ho
            simpa using this))
      · exact absurd h not_out
    · rename_i hw
      rw [if_neg hw] at h
      exact ⟨fun _ _ => trivial, hK _ _ h⟩

theorem wpAny_in {md : Region.Mode} {ops : Array Oper} (hd : ro = none ∨ noDef ops.toList = true) {Q : Exit → Act → World → Prop} : ∀ (fuel : Nat) (listed : Array Bool) (a : Act) (w : World),
    wpAny P md ops (onlyN Q) fuel listed a w → wpAnyIn (fen ro) n P md ops (onlyN Q) fuel listed a w
  | 0, _, _, _, h => h
  | fuel + 1, listed, a, w, h => ⟨h.1, fun i hi => wpOp_in hd (fun a w => wpAny_in hd fuel _ a w) (h.2 i hi)⟩

theorem wpList_in {ops : Array Oper} {Q : Exit → Act → World → Prop} : ∀ (l : List Oper) (_ : ro = none ∨ noDef l = true) (a : Act) (w : World),
    wpList P ops (onlyN Q) l a w → wpListIn (fen ro) n P ops (onlyN Q) l a w
  | [], _, _, _, h => h
  | o :: r, hd, a, w, h => by
    have hr : ro = none ∨ noDef r = true := hd.imp id fun h => by simp only [noDef, List.all_cons, Bool.and_eq_true] at h; exact h.2
    simp only [wpList, wpListIn] at h ⊢
    split
    · rename_i hw
      rw [if_pos hw] at h
      rcases h with h | ⟨_, h⟩
      · exact Oper.wpIn_mono (fun a w => wpList_in r hr a w) (oper_in (hd.imp id fun h => noDef_spec h o (by simp)) h)
      · exact absurd h not_out
    · rename_i hw
      rw [if_neg hw] at h
      exact ⟨fun _ _ => trivial, wpList_in r hr _ _ h⟩

theorem onlyN_mono {c : Code} {Q : Exit → Act → World → Prop} {a : Act} {w : World} (h : c.wpIn (fen ro) n P (onlyN Q) a w) : c.wpIn (fen ro) n P Q a w :=
  wpIn_mono h fun e _ _ h => by cases e <;> first | exact h | exact h.elim
end

/-! ### Frames, taken anew -/
section
variable {P : Program} {F F' F'' : Fr P} {A A' : Nat → Prop} {ψ ψ' : Nat → Gh} {H H' : Heap} {w w' : World}

/-- The blocks that are its own. -/
def rwB (ψ : Nat → Gh) (H : Heap) : Nat → Prop := fun b => ∃ id o, rd H id = some o ∧ o.rw = true ∧ o.vd = false ∧ (ψ id).blk = b

def rebase (P : Program) (w : World) (ψ : Nat → Gh) (H : Heap) (A0 : Nat → Prop) (ψ0 : Nat → Gh) (ds : List Deferred) : Fr P := ⟨w, rwB ψ H, A0, ψ0, ds⟩

theorem rwB_own (h : HRel F A ψ H w) {b : Nat} (hb : rwB ψ H b) : F.w0.heap.size ≤ b ∨ F.S b := by
  obtain ⟨id, o, h1, h2, h3, rfl⟩ := hb
  exact h.own id o h1 h2 h3

theorem HRel.rebase (h : HRel F A ψ H w) {A0 : Nat → Prop} {ψ0 : Nat → Gh} {ds : List Deferred} (hA : ∀ id, A0 id → A id ∧ ψ id = ψ0 id) : HRel (rebase P w ψ H A0 ψ0 ds) A ψ H w where
  live := h.live
  inj := h.inj
  fr := ⟨rfl, rfl, rfl, Nat.le_refl _, fun _ _ _ => rfl, fun w' h1 h2 => h.fr.lay w' (fun k hk hS => by
    refine (h1 k (Nat.lt_of_lt_of_le hk h.fr.size) fun hb => ?_).trans (h.fr.block k hk hS)
    rcases rwB_own h hb with h | h
    · omega
    · exact hS h) (Nat.le_trans h.fr.size h2)⟩
  own id o h1 h2 h3 := .inr ⟨id, o, h1, h2, h3, rfl⟩
  old := hA

theorem HRel.unbase (h : HRel F A ψ H w) {A0 : Nat → Prop} {ψ0 : Nat → Gh} {ds : List Deferred} (h' : HRel (Vm.rebase P w ψ H A0 ψ0 ds) A' ψ' H' w') (hA : ∀ id, F.A0 id → A0 id ∧ ψ0 id = F.ψ0 id) : HRel F A' ψ' H' w' where
  live := h'.live
  inj := h'.inj
  fr := ⟨h'.fr.os.trans h.fr.os, h'.fr.tape.trans h.fr.tape, h'.fr.output.trans h.fr.output, Nat.le_trans h.fr.size h'.fr.size, fun k hk hS => by
    refine (h'.fr.block k (Nat.lt_of_lt_of_le hk h.fr.size) fun hb => ?_).trans (h.fr.block k hk hS)
    rcases rwB_own h hb with h | h
    · omega
    · exact hS h, h.fr.lay⟩
  own id o h1 h2 h0 := by
    rcases h'.own id o h1 h2 h0 with h3 | h3
    · exact .inl (Nat.le_trans h.fr.size h3)
    · exact rwB_own h h3
  old id hid := by
    obtain ⟨h1, h2⟩ := hA id hid
    obtain ⟨h3, h4⟩ := h'.old id h1
    exact ⟨h3, h4.trans h2⟩

/-- What is no cells and no walk's object is no object's block. -/
theorem HRel.not_block (h : HRel F A ψ H w) {l : Nat} {x : Obj} (hl : w.heap[l]? = some x) (h1 : x.isWalk = false) (h2 : ∀ c e f, x ≠ .cells c e f) {id : Nat} {o : AObj} (ho : rd H id = some o) (hv : o.vd = false) : (ψ id).blk ≠ l := by
  intro e
  obtain ⟨_, h3⟩ := (h.live id o ho).2.2 hv
  cases o with
  | row cells es more rw flat =>
    obtain ⟨arr, el, fz, h4, _⟩ := h3
    rw [e, hl] at h4; cases h4; exact h2 _ _ _ rfl
  | iter s pos =>
    obtain ⟨_, h4⟩ := h3
    rw [e, hl] at h4; cases h4; cases h1
  | smap es =>
    obtain ⟨_, arr, c, h4, _⟩ := h3
    rw [e, hl] at h4; cases h4; cases h1

theorem HRel.putObj (h : HRel F A ψ H w) {l : Nat} {x : Obj} (hl : w.heap[l]? = some x) (h1 : x.isWalk = false) (h2 : ∀ c e f, x ≠ .cells c e f) (hn : F.w0.heap.size ≤ l) (y : Obj) : HRel F A ψ H (w.putObj l y) where
  live id o ho := by
    obtain ⟨a, b, c⟩ := h.live id o ho
    exact ⟨a, b, fun hv => ⟨by simpa using (c hv).1, (c hv).2.mono (fun _ ha => ⟨ha, rfl⟩) (World.putObj_heap_other (h.not_block hl h1 h2 ho hv))⟩⟩
  inj := h.inj
  fr := ⟨h.fr.os, h.fr.tape, h.fr.output, by simpa using h.fr.size, fun k hk hS => (World.putObj_heap_other (by omega)).trans (h.fr.block k hk hS), h.fr.lay⟩
  own := h.own
  old := h.old

theorem HRel.below' (h : HRel F A ψ H w) (hb : Below w.heap.size w w') : HRel F A ψ H w' where
  live id o ho := by
    obtain ⟨h1, h2, h3⟩ := h.live id o ho
    exact ⟨h1, h2, fun hv => ⟨Nat.lt_of_lt_of_le (h3 hv).1 hb.size, (h3 hv).2.mono (fun _ ha => ⟨ha, rfl⟩) (hb.block _ (h3 hv).1)⟩⟩
  inj := h.inj
  fr := ⟨hb.os.trans h.fr.os, hb.tape.trans h.fr.tape, hb.output.trans h.fr.output, Nat.le_trans h.fr.size hb.size, fun k hk hs => (hb.block k (Nat.lt_of_lt_of_le hk h.fr.size)).trans (h.fr.block k hk hs), h.fr.lay⟩
  own := h.own
  old := h.old

/-- A block for deferred calls that nobody turns. -/
def Mk (F : Fr P) (D : Nat) : Prop := F.w0.heap[D]? = some (.deferred (some [])) ∧ ¬ F.S D
def mark (D : Nat) : Deferred := { target := .collected D, args := #[] }

/-- A frame that is another one's continuation. -/
structure Ext (F F' : Fr P) : Prop where
  back : ∀ {A ψ H w}, HRel F' A ψ H w → HRel F A ψ H w
  A0 : F'.A0 = F.A0
  size : F.w0.heap.size ≤ F'.w0.heap.size
  mks : ∀ D, Mk F D → Mk F' D
  ds : ∃ l : List Nat, F'.ds = l.map mark ++ F.ds ∧ l.Nodup ∧ ∀ D ∈ l, F.w0.heap.size ≤ D ∧ D < F'.w0.heap.size ∧ Mk F' D

theorem Ext.refl (F : Fr P) : Ext F F := ⟨id, rfl, Nat.le_refl _, fun _ h => h, [], by simp⟩

theorem Ext.trans (h : Ext F F') (k : Ext F' F'') : Ext F F'' := by
  refine ⟨fun x => h.back (k.back x), k.A0.trans h.A0, Nat.le_trans h.size k.size, fun D x => k.mks D (h.mks D x), ?_⟩
  obtain ⟨l, h1, h2, h3⟩ := h.ds
  obtain ⟨m, k1, k2, k3⟩ := k.ds
  refine ⟨m ++ l, by rw [k1, h1]; simp, ?_, fun D hD => ?_⟩
  · rw [List.nodup_append]
    exact ⟨k2, h2, fun x hx y hy e => by have := (k3 x hx).1; have := (h3 y hy).2.1; omega⟩
  · rcases List.mem_append.1 hD with hD | hD
    · obtain ⟨a, b, c⟩ := k3 D hD
      exact ⟨Nat.le_trans h.size a, b, c⟩
    · obtain ⟨a, b, c⟩ := h3 D hD
      exact ⟨a, Nat.lt_of_lt_of_le b k.size, k.mks D c⟩

/-- The same, and the very same where nothing marks it. -/
structure ExtP (pl : Bool) (F F' : Fr P) : Prop where
  x : Ext F F'
  e : pl = true → F' = F

theorem ExtP.refl (pl : Bool) (F : Fr P) : ExtP pl F F := ⟨Ext.refl F, fun _ => rfl⟩
theorem ExtP.trans {pl : Bool} (h : ExtP pl F F') (k : ExtP pl F' F'') : ExtP pl F F'' := ⟨h.x.trans k.x, fun e => (k.e e).trans (h.e e)⟩
theorem ExtP.weak {pl pl' : Bool} (hp : pl = true → pl' = true) (h : ExtP pl' F F') : ExtP pl F F' := ⟨h.x, fun e => h.e (hp e)⟩

/-- No deferred calls, no ranges over functions, no labels: what a round may hold. -/
def plainC : Code → Bool
  | .region _ ops _ => noDef ops.toList
  | .seq x y => plainC x && plainC y
  | .cond _ x y => plainC x && plainC y
  | .block _ c => plainC c
  | .loop c => plainC c
  | .skip => true
  | .label _ => true
  | .exit _ => true
  | .ret => true
  | _ => false

def GoesIn (ro : Option Nat) (P : Program) (base : Nat) (c : Code) (env : List Value) (H : Heap) (Q : Ex → List Value → Heap → Prop) : Prop :=
  ∀ (n : Nat) (F : Fr P) A ψ a w (R : Exit → Act → World → Prop), Rel F A ψ env H a w → (∀ id, A id → id < H.length) → (∀ id, F.A0 id → id < base) →
    (∀ x e h F' A' ψ' a' w', ExtP (plainC c) F F' → Q x e h → Rel F' A' ψ' e h a' w' → (∀ id, A' id → id < h.length) → R x.to a' w') → c.wpIn (fen ro) n P R a w

/-! ### Iterators -/
/-- What a round of another one's body leaves as it was. -/
structure KeepF (F : Fr P) (W W' : World) : Prop where
  os : W'.os = W.os
  tape : W'.tape = W.tape
  output : W'.output = W.output
  size : W.heap.size ≤ W'.heap.size
  block : ∀ b, b < F.w0.heap.size → ¬ F.S b → W'.heap[b]? = W.heap[b]?

theorem KeepF.refl (F : Fr P) (W : World) : KeepF F W W := ⟨rfl, rfl, rfl, Nat.le_refl _, fun _ _ _ => rfl⟩
theorem KeepF.trans {W1 W2 W3 : World} (h : KeepF F W1 W2) (k : KeepF F W2 W3) : KeepF F W1 W3 :=
  ⟨k.os.trans h.os, k.tape.trans h.tape, k.output.trans h.output, Nat.le_trans h.size k.size, fun b h1 h2 => (k.block b h1 h2).trans (h.block b h1 h2)⟩

def Abide (J : Nat → World → Prop) : Prop := ∀ i W W', J i W → Below W.heap.size W W' → J i W'

/-- An iterator: it visits N elements, the i-th of them el i. -/
def IterRes (P : Program) (gf : FuncId) (cap : List Value) (H : Heap) (N : Nat) (el : Nat → List Value) : Prop :=
  ∀ (F : Fr P) A ψ w cap', HRel F A ψ H w → F.w0 = w → (∀ id o, rd H id = some o → o.rw = false ∧ (o.vd = false → ¬ F.S (ψ id).blk)) → (∀ id, A id → id < H.length) → LR A ψ cap cap' →
    ∀ (n l : Nat) (J Jx : Nat → World → Prop) (W : World), KeepF F w W → Abide J → Abide Jx →
      (∀ i W1, J i W1 → KeepF F w W1 → i < N → YieldAt (fen none) n P l (el i).toArray W1 fun e W' =>
        (e = .returned (.bool true) ∧ J (i + 1) W' ∧ KeepF F W1 W') ∨ (e = .returned (.bool false) ∧ Jx i W' ∧ KeepF F W1 W')) →
      J 0 W → CallsIn (fen none) n P gf (.func (.yield l) #[] #[] :: cap').toArray W fun e W' =>
        (∃ v, e = .returned v) ∧ (J N W' ∨ ∃ i, i < N ∧ Jx i W')

structure It (P : Program) where
  gf : FuncId
  fn : List Value → Heap → Option (Nat × (Nat → List Value) × Prop)
  ok : ∀ {cap H N el vc}, fn cap H = some (N, el, vc) → vc → IterRes P gf cap H N el

def AObj.shut : AObj → AObj
  | .row cells es more _ flat => .row cells es more false flat
  | o => o

def sealH (l : List Nat) (H : Heap) : Heap := (List.range H.length).map fun id => if l.contains id then (rd H id).map AObj.shut else rd H id

theorem rd_len : ∀ (H : Heap) (i : Nat), H.length ≤ i → rd H i = none
  | [], _, _ => rfl
  | _ :: t, 0, h => by simp at h
  | _ :: t, n + 1, h => by rw [rd_cons]; exact rd_len t n (by simpa using h)

theorem seal_look {l : List Nat} {id : Nat} {o : AObj} (h : rd (sealH l H) id = some o) : ∃ o', rd H id = some o' ∧ (o = o' ∨ o = o'.shut) := by
  rw [sealH, rd_map] at h
  by_cases hi : id < H.length
  · rw [List.getElem?_eq_getElem (by simpa using hi)] at h
    simp only [List.getElem_range, Option.bind_some] at h
    split at h
    · obtain ⟨o', h1, h2⟩ := Option.map_eq_some_iff.1 h
      exact ⟨o', h1, .inr h2.symm⟩
    · exact ⟨o, h, .inl rfl⟩
  · rw [List.getElem?_eq_none (by simpa using hi)] at h
    cases h

theorem shut_vd (o : AObj) : o.shut.vd = o.vd := by
  cases o with
  | row cells es more rw flat => cases cells <;> rfl
  | _ => rfl

theorem seal_rw {o : AObj} (h : o.shut.rw = true) : o.rw = true := by cases o <;> first | rfl | (simp [AObj.shut, AObj.rw] at h)

theorem HRel.shut (h : HRel F A ψ H w) (l : List Nat) : HRel F A ψ (sealH l H) w := by
  have hrw : ∀ {o o' : AObj}, (o = o' ∨ o = o'.shut) → o.rw = true → o'.rw = true := fun h k => by
    rcases h with rfl | rfl
    · exact k
    · exact seal_rw k
  have hvd : ∀ {o o' : AObj}, (o = o' ∨ o = o'.shut) → o.vd = false → o'.vd = false := fun h k => by
    rcases h with rfl | rfl
    · exact k
    · rw [shut_vd] at k; exact k
  refine ⟨fun id o ho => ?_, fun i j oi oj hi hj hij hr hvi hvj => ?_, h.fr, fun id o ho hr hv => ?_, h.old⟩
  · obtain ⟨o', h1, h2⟩ := seal_look ho
    obtain ⟨k1, k2, k0⟩ := h.live id o' h1
    refine ⟨k1, by rcases h2 with rfl | rfl; exact k2; (cases o' <;> exact k2), fun hv => ⟨(k0 (hvd h2 hv)).1, ?_⟩⟩
    have k3 := (k0 (hvd h2 hv)).2
    rcases h2 with rfl | rfl
    · exact k3
    · cases o' with
      | row cells es more rw flat =>
        obtain ⟨arr, el, fz, a, b, c, d, e⟩ := k3
        exact ⟨arr, el, fz, a, b, c, (fun h => by cases h), e⟩
      | iter => exact k3
      | smap => exact k3
  · obtain ⟨oi', a1, a2⟩ := seal_look hi
    obtain ⟨oj', b1, b2⟩ := seal_look hj
    exact h.inj i j oi' oj' a1 b1 hij (hrw a2 hr) (hvd a2 hvi) (hvd b2 hvj)
  · obtain ⟨o', h1, h2⟩ := seal_look ho
    exact h.own id o' h1 (hrw h2 hr) (hvd h2 hv)

theorem seal_len (l : List Nat) (H : Heap) : (sealH l H).length = H.length := by simp [sealH]

def allSealed (H : Heap) : Bool := H.all fun o => match o with | some o => !o.rw | none => true

theorem rd_mem : ∀ {H : Heap} {id : Nat} {o : AObj}, rd H id = some o → some o ∈ H
  | [], _, _, h => by simp [rd_nil] at h
  | x :: t, 0, o, h => by rw [rd_cons0] at h; subst h; simp
  | x :: t, n + 1, o, h => by rw [rd_cons] at h; exact List.mem_cons_of_mem _ (rd_mem h)

theorem allSealed_spec (h : allSealed H = true) {id : Nat} {o : AObj} (ho : rd H id = some o) : o.rw = false := by
  have := List.all_eq_true.1 h _ (rd_mem ho)
  simpa using this

/-- The values of a round's parameters. -/
def setAll : List Tmp → List Value → List Value → List Value
  | p :: ps, v :: vs, E => setAll ps vs (st E p v)
  | _, _, E => E

def lowρ (k : Nat) (id : Nat) : Option Nat := if id < k then some id else none

end
end
end Go.Vm
