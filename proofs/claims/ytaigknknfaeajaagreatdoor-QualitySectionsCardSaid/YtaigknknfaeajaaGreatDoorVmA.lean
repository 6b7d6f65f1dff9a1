/- The abstract state: values with ids for blocks, a heap of known cells, and how it stands to a real world. -/
import Derived.Deep.AppendSrc
import Derived.Deep.MidRow
import Derived.Deep.Upon
import Derived.KernelRfl
import Derived.Orders
import Derived.Scope
import Derived.Lib.LaidTab
import Derived.Lib.ItoaNum
namespace Go.Vm
noncomputable section

/-- Where an id lies: block, first cell, cells in all, cells of an element. -/
structure Gh where
  blk : Nat
  off : Nat
  tot : Nat
  es : Nat

inductive AObj where
  | row (cells : List Value) (es : Nat) (more rw flat : Bool)
  | iter (s : ByteArray) (pos : Nat)
  | smap (es : List (ByteArray × Value))

abbrev Heap := List (Option AObj)

/-- Written by the recursors themselves: the kernel runs them. -/
def wr (H : Heap) : Nat → Option AObj → Heap :=
  List.rec (motive := fun _ => Nat → Option AObj → Heap)
    (fun i o => Nat.rec (motive := fun _ => Heap) [o] (fun _ ih => none :: ih) i)
    (fun h t ih i o => Nat.rec (motive := fun _ => Heap) (o :: t) (fun n _ => h :: ih n o) i) H

def rd (H : Heap) : Nat → Option AObj :=
  List.rec (motive := fun _ => Nat → Option AObj) (fun _ => none) (fun o _ ih i => Nat.rec (motive := fun _ => Option AObj) o (fun n _ => ih n) i) H

def gt (env : List Value) : Nat → Value :=
  List.rec (motive := fun _ => Nat → Value) (fun _ => .tuple #[.tuple #[]]) (fun v _ ih i => Nat.rec (motive := fun _ => Value) v (fun n _ => ih n) i) env

def st (env : List Value) : Nat → Value → List Value :=
  List.rec (motive := fun _ => Nat → Value → List Value) (fun _ _ => []) (fun h t ih i v => Nat.rec (motive := fun _ => List Value) (v :: t) (fun n _ => h :: ih n v) i) env

theorem wr_nil0 (o : Option AObj) : wr [] 0 o = [o] := rfl
theorem wr_nil (n : Nat) (o : Option AObj) : wr [] (n + 1) o = none :: wr [] n o := rfl
theorem wr_cons0 (h : Option AObj) (t : Heap) (o : Option AObj) : wr (h :: t) 0 o = o :: t := rfl
theorem wr_cons (h : Option AObj) (t : Heap) (n : Nat) (o : Option AObj) : wr (h :: t) (n + 1) o = h :: wr t n o := rfl
theorem rd_nil (n : Nat) : rd [] n = none := rfl
theorem rd_cons0 (o : Option AObj) (t : Heap) : rd (o :: t) 0 = o := rfl
theorem rd_cons (o : Option AObj) (t : Heap) (n : Nat) : rd (o :: t) (n + 1) = rd t n := rfl
theorem gt_cons0 (v : Value) (t : List Value) : gt (v :: t) 0 = v := rfl
theorem gt_cons (v : Value) (t : List Value) (n : Nat) : gt (v :: t) (n + 1) = gt t n := rfl
theorem st_cons0 (v u : Value) (t : List Value) : st (v :: t) 0 u = u :: t := rfl
theorem st_cons (v u : Value) (t : List Value) (n : Nat) : st (v :: t) (n + 1) u = v :: st t n u := rfl

theorem st_eq : ∀ (env : List Value) (i : Nat) (v : Value), st env i v = env.set i v
  | [], i, v => by cases i <;> rfl
  | h :: t, 0, v => rfl
  | h :: t, n + 1, v => by rw [st_cons, st_eq t n v]; rfl

theorem rd_wr : ∀ (H : Heap) (i : Nat) (o : Option AObj) (j : Nat), rd (wr H i o) j = if j = i then o else rd H j
  | [], 0, o, 0 => rfl
  | [], 0, o, j + 1 => by simp [wr_nil0, rd_cons, rd_nil]
  | [], n + 1, o, 0 => by simp [wr_nil, rd_cons0, rd_nil]
  | [], n + 1, o, j + 1 => by simp [wr_nil, rd_cons, rd_nil, rd_wr [] n o j]
  | _ :: t, 0, o, 0 => by simp [wr_cons0, rd_cons0]
  | _ :: t, 0, o, j + 1 => by simp [wr_cons0, rd_cons]
  | _ :: t, n + 1, o, 0 => by simp [wr_cons, rd_cons0]
  | _ :: t, n + 1, o, j + 1 => by simp [wr_cons, rd_cons, rd_wr t n o j]

theorem len_wr : ∀ (H : Heap) (i : Nat) (o : Option AObj), H.length ≤ (wr H i o).length ∧ i < (wr H i o).length
  | [], 0, o => by simp [wr_nil0]
  | [], n + 1, o => by have := len_wr [] n o; simp [wr_nil]; omega
  | _ :: t, 0, o => by simp [wr_cons0]
  | _ :: t, n + 1, o => by have := len_wr t n o; simp [wr_cons]; omega

theorem rd_lt : ∀ (H : Heap) (i : Nat) (o : AObj), rd H i = some o → i < H.length
  | [], _, _, h => by simp [rd_nil] at h
  | _ :: t, 0, _, _ => by simp
  | _ :: t, n + 1, o, h => by have := rd_lt t n o h; simp; omega

/-- A value that is not known. -/
def poi : Value := .tuple #[.tuple #[]]

theorem gt_eq : ∀ (env : List Value) (t : Nat), gt env t = env.getD t poi
  | [], _ => rfl
  | _ :: _, 0 => rfl
  | _ :: r, n + 1 => by rw [gt_cons, gt_eq r n]; simp

/-- One cell, no address in it. -/
def atom : Value → Bool
  | .bool _ | .int _ _ | .float _ _ | .complex _ _ _ | .string _ | .pointer none | .slice none 0 0 | .map none | .nilFunc | .nilIface => true
  | .func (.func _) f c => f.toList.isEmpty && c.toList.isEmpty
  | _ => false

def ground1 : Value → Bool
  | .agg cs => cs.toList.all atom
  | v => atom v

def ground : Value → Bool
  | .tuple vs => !vs.toList.isEmpty && vs.toList.all ground1
  | v => ground1 v

/-- Capacities: known, or 0 for 'not known'. -/
def CapRel (g : Gh) (off len cap cap' : Nat) : Prop := (cap' = cap ∧ len ≤ cap) ∨ (cap = 0 ∧ 0 < len ∧ len ≤ cap' ∧ off + cap' * g.es = g.tot)

/-- No known capacity, and none that is asked of it: what is only looked at. -/
def big : Nat := 18446744073709551616

/-- An abstract value and a real one. -/
inductive VR (A : Nat → Prop) (ψ : Nat → Gh) : Value → Value → Prop
  | poison (v : Value) : VR A ψ poi v
  | atom (v : Value) (h : atom v = true) : VR A ψ v v
  | ptr (id off : Nat) (h : A id) : VR A ψ (.pointer (some ⟨id, off, none⟩)) (.pointer (some ⟨(ψ id).blk, (ψ id).off + off, none⟩))
  | map (id : Nat) (h : A id) : VR A ψ (.map (some id)) (.map (some (ψ id).blk))
  | slice (id off len cap cap' : Nat) (h : A id) (hc : CapRel (ψ id) off len cap cap') :
      VR A ψ (.slice (some ⟨id, off, none⟩) len cap) (.slice (some ⟨(ψ id).blk, (ψ id).off + off, none⟩) len cap')
  | void (id off : Nat) (a : Option Addr) (h : A id) : VR A ψ (.slice (some ⟨id, off, none⟩) 0 0) (.slice a 0 0)
  | view (id off len c : Nat) (a : Option Addr) (h : A id) (hl : len ≤ c) (ha : len = 0 ∨ a = some ⟨(ψ id).blk, (ψ id).off + off, none⟩) : VR A ψ (.slice (some ⟨id, off, none⟩) len big) (.slice a len c)
  | empty (a : Option Addr) (c : Nat) : VR A ψ (.slice none 0 1) (.slice a 0 c)
  | agg (xs ys : Array Value) (hs : xs.size = ys.size) (h1 : ∀ y ∈ ys, y.oneCell' = true) (h : ∀ i, VR A ψ (xs.getD i poi) (ys.getD i undef)) : VR A ψ (.agg xs) (.agg ys)
  | tuple (xs ys : Array Value) (hs : xs.size = ys.size) (h : ∀ i, VR A ψ (xs.getD i poi) (ys.getD i undef)) : VR A ψ (.tuple xs) (.tuple ys)
  | func (fn : Fn) (xs ys us vs : Array Value) (hs : xs.size = ys.size) (ht : us.size = vs.size) (h : ∀ i, VR A ψ (xs.getD i poi) (ys.getD i undef))
      (k : ∀ i, VR A ψ (us.getD i poi) (vs.getD i undef)) : VR A ψ (.func fn xs us) (.func fn ys vs)

theorem VR.mono {A A' : Nat → Prop} {ψ ψ' : Nat → Gh} (hA : ∀ id, A id → A' id ∧ ψ' id = ψ id) {v v' : Value} (h : VR A ψ v v') : VR A' ψ' v v' := by
  induction h with
  | poison v => exact .poison v
  | atom v h => exact .atom v h
  | ptr id off h => have := (hA id h).2; rw [← this]; exact .ptr id off (hA id h).1
  | map id h => have := (hA id h).2; rw [← this]; exact .map id (hA id h).1
  | slice id off len cap cap' h hc => have := (hA id h).2; rw [← this] at hc ⊢; exact .slice id off len cap cap' (hA id h).1 hc
  | void id off a h => exact .void id off a (hA id h).1
  | view id off len c a h hl ha => exact .view id off len c a (hA id h).1 hl (by rw [(hA id h).2]; exact ha)
  | empty a c => exact .empty a c
  | agg xs ys hs h1 h ih => exact .agg xs ys hs h1 ih
  | tuple xs ys hs h ih => exact .tuple xs ys hs ih
  | func fn xs ys us vs hs ht h k ih ik => exact .func fn xs ys us vs hs ht ih ik

theorem not_atom_poi : atom poi = false := rfl

/-- What an atom stands for. -/
theorem VR.of_atom {A : Nat → Prop} {ψ : Nat → Gh} {v v' : Value} (h : VR A ψ v v') (ha : Vm.atom v = true) : v' = v := by
  cases h with
  | poison => simp [Vm.atom, poi] at ha
  | atom => rfl
  | ptr => simp [Vm.atom] at ha
  | map => simp [Vm.atom] at ha
  | slice => simp [Vm.atom] at ha
  | void => simp [Vm.atom] at ha
  | view => simp [Vm.atom] at ha
  | empty => simp [Vm.atom] at ha
  | agg => simp [Vm.atom] at ha
  | tuple => simp [Vm.atom] at ha
  | func fn xs ys us vs hs ht _ _ =>
    cases fn <;> simp [Vm.atom] at ha
    obtain ⟨rfl, rfl⟩ := ha
    have h1 : ys = #[] := by apply Array.eq_empty_of_size_eq_zero; simpa using hs.symm
    have h2 : vs = #[] := by apply Array.eq_empty_of_size_eq_zero; simpa using ht.symm
    rw [h1, h2]

theorem arr_ext {xs ys : Array Value} (hs : xs.size = ys.size) (h : ∀ i, i < xs.size → ys.getD i undef = xs.getD i poi) : ys = xs := by
  apply Array.ext hs.symm
  intro i h1 h2
  have := h i h2
  simpa [Array.getD, h1, h2] using this

theorem VR.of_ground1 {A : Nat → Prop} {ψ : Nat → Gh} {v v' : Value} (h : VR A ψ v v') (hg : ground1 v = true) : v' = v := by
  cases hv : v with
  | agg cs =>
    subst hv
    simp only [ground1, List.all_eq_true] at hg
    cases h with
    | atom _ ha => rfl
    | agg xs ys hs h1 hh =>
      congr 1
      refine arr_ext hs fun i hi => ?_
      have hi' : cs.getD i poi = cs[i] := by simp [Array.getD, hi]
      exact (hh i).of_atom (by rw [hi']; exact hg _ (by simp))
  | _ => subst hv; exact h.of_atom (by simpa [ground1] using hg)

theorem VR.of_ground {A : Nat → Prop} {ψ : Nat → Gh} {v v' : Value} (h : VR A ψ v v') (hg : ground v = true) : v' = v := by
  cases hv : v with
  | tuple vs =>
    subst hv
    simp only [ground, Bool.and_eq_true, List.all_eq_true] at hg
    cases h with
    | poison => simp [ground1, Vm.atom] at hg
    | atom _ ha => rfl
    | tuple xs ys hs hh =>
      congr 1
      refine arr_ext hs fun i hi => ?_
      have hi' : vs.getD i poi = vs[i] := by simp [Array.getD, hi]
      exact (hh i).of_ground1 (by rw [hi']; exact hg.2 _ (by simp))
  | _ => subst hv; exact h.of_ground1 (by simpa [ground] using hg)

theorem VR.refl_ground1 {A : Nat → Prop} {ψ : Nat → Gh} {v : Value} (hg : ground1 v = true) : VR A ψ v v := by
  cases hv : v with
  | agg cs =>
    subst hv
    simp only [ground1, List.all_eq_true] at hg
    refine .agg cs cs rfl (fun y hy => ?_) fun i => ?_
    · have := hg y (by simpa using hy)
      cases y <;> simp_all [Vm.atom, Value.oneCell']
    · by_cases hi : i < cs.size
      · have h1 : cs.getD i poi = cs[i] := by simp [Array.getD, hi]
        have h2 : cs.getD i undef = cs[i] := by simp [Array.getD, hi]
        rw [h1, h2]; exact .atom _ (hg _ (by simp))
      · have h1 : cs.getD i poi = poi := by simp [Array.getD, hi]
        rw [h1]; exact .poison _
  | _ => subst hv; exact .atom _ (by simpa [ground1] using hg)

theorem VR.refl_ground {A : Nat → Prop} {ψ : Nat → Gh} {v : Value} (hg : ground v = true) : VR A ψ v v := by
  cases hv : v with
  | tuple cs =>
    subst hv
    simp only [ground, Bool.and_eq_true, List.all_eq_true] at hg
    refine .tuple cs cs rfl fun i => ?_
    by_cases hi : i < cs.size
    · have h1 : cs.getD i poi = cs[i] := by simp [Array.getD, hi]
      have h2 : cs.getD i undef = cs[i] := by simp [Array.getD, hi]
      rw [h1, h2]; exact .refl_ground1 (hg.2 _ (by simp))
    · have h1 : cs.getD i poi = poi := by simp [Array.getD, hi]
      rw [h1]; exact .poison _
  | _ => subst hv; exact .refl_ground1 (by simpa [ground] using hg)

theorem VR.refl_undef {A : Nat → Prop} {ψ : Nat → Gh} : VR A ψ undef undef := .tuple #[] #[] rfl fun i => by simp [Array.getD]; exact .poison _

/-- A value that can be stored: not a tuple. -/
def okv : Value → Bool
  | .tuple _ => false
  | _ => true

/-- The cells of a value that can be stored. -/
theorem VR.cells {A : Nat → Prop} {ψ : Nat → Gh} {v v' : Value} (h : VR A ψ v v') (hk : okv v = true) :
    v'.cells.size = v.cells.size ∧ (∀ y ∈ v'.cells, y.oneCell' = true) ∧ ∀ i, VR A ψ (v.cells.getD i poi) (v'.cells.getD i undef) := by
  have one : ∀ {u u' : Value}, VR A ψ u u' → u.cells = #[u] → u'.cells = #[u'] → u'.oneCell' = true →
      u'.cells.size = u.cells.size ∧ (∀ y ∈ u'.cells, y.oneCell' = true) ∧ ∀ i, VR A ψ (u.cells.getD i poi) (u'.cells.getD i undef) := by
    intro u u' hu h1 h2 h3
    rw [h1, h2]
    refine ⟨rfl, by simpa using h3, fun i => ?_⟩
    cases i with
    | zero => simpa [Array.getD] using hu
    | succ n => simp [Array.getD]; exact .poison _
  cases h with
  | poison => simp [okv, poi] at hk
  | atom v ha => cases v <;> first | (simp [Vm.atom] at ha; done) | exact one (.atom _ ha) rfl rfl rfl
  | ptr id off h => exact one (.ptr id off h) rfl rfl rfl
  | map id h => exact one (.map id h) rfl rfl rfl
  | slice id off len cap cap' h hc => exact one (.slice id off len cap cap' h hc) rfl rfl rfl
  | void id off a h => exact one (.void id off a h) rfl rfl rfl
  | view id off len c a h hl ha => exact one (.view id off len c a h hl ha) rfl rfl rfl
  | empty a c => exact one (.empty a c) rfl rfl rfl
  | agg xs ys hs h1 h => exact ⟨hs.symm, h1, h⟩
  | tuple => simp [okv] at hk
  | func fn xs ys us vs hs ht h k => exact one (.func fn xs ys us vs hs ht h k) rfl rfl rfl

theorem VR.one {A : Nat → Prop} {ψ : Nat → Gh} {v v' : Value} (h : VR A ψ v v') (hk : okv v = true) (ho : v.oneCell' = true) : v'.oneCell' = true := by
  cases h with
  | poison => simp [okv, poi] at hk
  | agg => simp [Value.oneCell'] at ho
  | tuple => simp [okv] at hk
  | atom => exact ho
  | _ => rfl

/-! ### The frame and the relation -/
/-- What the world's own tables hold. -/
def lays (P : Program) (w : World) : Prop := P.globalNamed "internal/strconv.uint64pow10" ≠ none → Lib.TabIs P w "internal/strconv.uint64pow10" .u64 Lib.pow10Tab

/-- What must not turn: the world at the beginning, but for the blocks of S. -/
structure Fr (P : Program) where
  w0 : World
  S : Nat → Prop
  A0 : Nat → Prop
  ψ0 : Nat → Gh
  ds : List Deferred

structure Fr.ok {P : Program} (F : Fr P) (w : World) : Prop where
  os : w.os = F.w0.os
  tape : w.tape = F.w0.tape
  output : w.output = F.w0.output
  size : F.w0.heap.size ≤ w.heap.size
  block : ∀ k, k < F.w0.heap.size → ¬ F.S k → w.heap[k]? = F.w0.heap[k]?
  lay : ∀ w' : World, (∀ k, k < F.w0.heap.size → ¬ F.S k → w'.heap[k]? = F.w0.heap[k]?) → F.w0.heap.size ≤ w'.heap.size → lays P w'

def AObj.rw : AObj → Bool
  | .row _ _ _ rw _ => rw
  | .iter _ _ => true
  | .smap _ => true

def ORel (A : Nat → Prop) (ψ : Nat → Gh) (g : Gh) (w : World) : AObj → Prop
  | .row cells es more rw flat => ∃ arr el fz, w.heap[g.blk]? = some (.cells arr el fz) ∧ g.es = es ∧
      (∀ i, i < cells.length → ∃ v', arr[g.off + i]? = some v' ∧ v'.oneCell' = true ∧ VR A ψ (cells.getD i poi) v') ∧
      (rw = true → g.off = 0 ∧ fz = (0, 0) ∧ arr.size = g.tot ∧ (more = false → g.tot = cells.length)) ∧
      (flat = true → ∀ v ∈ cells, atom v = true)
  | .iter s pos => g.off = 0 ∧ w.heap[g.blk]? = some (.stringIter s pos)
  | .smap es => g.off = 0 ∧ ∃ arr clock, w.heap[g.blk]? = some (.map arr clock) ∧ arr.toList.map (fun e => (e.key, e.val)) = es.map (fun p => (Value.string p.1, p.2)) ∧ ∀ p ∈ es, atom p.2 = true

/-- A row without cells: nothing of it need lie anywhere. -/
def AObj.vd : AObj → Bool
  | .row [] _ _ _ _ => true
  | _ => false

theorem vd_row {cells : List Value} {es : Nat} {more rw flat : Bool} (h : 0 < cells.length) : (AObj.row cells es more rw flat).vd = false := by
  cases cells with
  | nil => simp at h
  | cons => rfl

def EsOK (g : Gh) : AObj → Prop
  | .row _ es _ _ _ => g.es = es
  | _ => True

structure HRel {P : Program} (F : Fr P) (A : Nat → Prop) (ψ : Nat → Gh) (H : Heap) (w : World) : Prop where
  live : ∀ id o, rd H id = some o → A id ∧ EsOK (ψ id) o ∧ (o.vd = false → (ψ id).blk < w.heap.size ∧ ORel A ψ (ψ id) w o)
  inj : ∀ i j oi oj, rd H i = some oi → rd H j = some oj → i ≠ j → oi.rw = true → oi.vd = false → oj.vd = false → (ψ i).blk ≠ (ψ j).blk
  fr : F.ok w
  own : ∀ id o, rd H id = some o → o.rw = true → o.vd = false → F.w0.heap.size ≤ (ψ id).blk ∨ F.S (ψ id).blk
  old : ∀ id, F.A0 id → A id ∧ ψ id = F.ψ0 id

theorem HRel.ds {P : Program} {F : Fr P} {A : Nat → Prop} {ψ : Nat → Gh} {H : Heap} {w : World} (h : HRel F A ψ H w) (d : List Deferred) : HRel (P := P) { F with ds := d } A ψ H w :=
  ⟨h.live, h.inj, ⟨h.fr.os, h.fr.tape, h.fr.output, h.fr.size, h.fr.block, h.fr.lay⟩, h.own, h.old⟩
theorem HRel.of_ds {P : Program} {F : Fr P} {A : Nat → Prop} {ψ : Nat → Gh} {H : Heap} {w : World} {d : List Deferred} (h : HRel (P := P) { F with ds := d } A ψ H w) : HRel F A ψ H w :=
  ⟨h.live, h.inj, ⟨h.fr.os, h.fr.tape, h.fr.output, h.fr.size, h.fr.block, h.fr.lay⟩, h.own, h.old⟩

structure Rel {P : Program} (F : Fr P) (A : Nat → Prop) (ψ : Nat → Gh) (env : List Value) (H : Heap) (a : Act) (w : World) : Prop where
  slot : ∀ t, VR A ψ (env.getD t poi) (a.tmps.getD t undef)
  len : env.length ≤ a.tmps.size
  defers : a.defers = F.ds
  heap : HRel F A ψ H w

/-- An operand, read. -/
def ev (env : List Value) : Operand → Value
  | .tmp t => gt env t
  | .const v => if ground v then v else poi
  | .global _ => poi
  | .func f => .func (.func f) #[] #[]

theorem Rel.ev {P : Program} {F : Fr P} {A : Nat → Prop} {ψ : Nat → Gh} {env : List Value} {H : Heap} {a : Act} {w : World} (h : Rel F A ψ env H a w) (x : Operand) : VR A ψ (ev env x) (a.eval x) := by
  cases x with
  | tmp t => rw [Vm.ev, gt_eq]; exact h.slot t
  | const v =>
    simp only [Vm.ev, Act.eval]
    split
    · exact .refl_ground ‹_›
    · exact .poison _
  | global g => exact .poison _
  | func f => exact .atom _ rfl

def put (env : List Value) (dst : Option Tmp) (v : Value) : List Value :=
  match dst with
  | some d => st env d v
  | none => env

theorem put_some (env : List Value) (d : Tmp) (v : Value) : put env (some d) v = env.set d v := st_eq _ _ _

theorem put_rel {P : Program} {F : Fr P} {A : Nat → Prop} {ψ : Nat → Gh} {env : List Value} {H : Heap} {a : Act} {w : World} (h : Rel F A ψ env H a w) {v v' : Value} (hv : VR A ψ v v') (dst : Option Tmp) :
    Rel F A ψ (put env dst v) H (a.put dst v') w := by
  cases dst with
  | none => exact h
  | some d =>
    refine ⟨fun t => ?_, by simpa [put_some, Act.put] using h.len, h.defers, h.heap⟩
    simp only [put_some, Act.put]
    by_cases hd : d < env.length
    · have hd' : d < a.tmps.size := Nat.lt_of_lt_of_le hd h.len
      by_cases ht : d = t
      · subst ht
        have e1 : (env.set d v).getD d poi = v := by simp [List.getD, hd]
        have e2 : (a.tmps.setIfInBounds d v').getD d undef = v' := by simp [Array.getD, hd']
        rw [e1, e2]; exact hv
      · have e1 : (env.set d v).getD t poi = env.getD t poi := by simp [List.getD, List.getElem?_set_ne ht]
        have e2 : (a.tmps.setIfInBounds d v').getD t undef = a.tmps.getD t undef := by
          simp [Array.getD_eq_getD_getElem?, Array.getElem?_setIfInBounds_ne ht]
        rw [e1, e2]; exact h.slot t
    · have e0 : env.set d v = env := by rw [List.set_eq_of_length_le (Nat.le_of_not_lt hd)]
      rw [e0]
      by_cases ht : d = t
      · subst ht
        have e1 : env.getD d poi = poi := by simp [List.getD, List.getElem?_eq_none (Nat.le_of_not_lt hd)]
        rw [e1]; exact .poison _
      · have e2 : (a.tmps.setIfInBounds d v').getD t undef = a.tmps.getD t undef := by
          simp [Array.getD_eq_getD_getElem?, Array.getElem?_setIfInBounds_ne ht]
        rw [e2]; exact h.slot t

end
end Go.Vm
