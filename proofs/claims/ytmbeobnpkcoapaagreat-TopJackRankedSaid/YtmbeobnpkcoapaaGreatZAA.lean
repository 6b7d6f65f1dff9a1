/- Parts of the proof: VmA, VmB, VmC, VmD, VmE, VmF, VmG, VmH, VmI, VmJ. -/
import Derived.Deep.AppendSrc
import Derived.Deep.MidRow
import Derived.Deep.Upon
import Derived.KernelRfl
import Derived.Orders
import Derived.Scope
import Derived.Lib.LaidTab
import Derived.Lib.ItoaNum
import Derived.Laws.MakeOwn
import Derived.Tactics
section
/- The abstract state: values with ids for blocks, a heap of known cells, and how it stands to a real world. -/
namespace Go.Vm
noncomputable section

/-- Where an id lies: block, first cell, cells in all, cells of an element. -/
structure Gh where
  blk : Nat
  off : Nat
  tot : Nat
  es : Nat

inductive AObj where
  | row (cells : List Value) (es : Nat) (more rw flat : Bool)
  | iter (s : ByteArray) (pos : Nat)
  | smap (es : List (ByteArray × Value))
  | imap (es : List (Int × Value))

abbrev Heap := List (Option AObj)

/-- Written by the recursors themselves: the kernel runs them. -/
def wr (H : Heap) : Nat → Option AObj → Heap :=
  List.rec (motive := fun _ => Nat → Option AObj → Heap)
    (fun i o => Nat.rec (motive := fun _ => Heap) [o] (fun _ ih => none :: ih) i)
    (fun h t ih i o => Nat.rec (motive := fun _ => Heap) (o :: t) (fun n _ => h :: ih n o) i) H

def rd (H : Heap) : Nat → Option AObj :=
  List.rec (motive := fun _ => Nat → Option AObj) (fun _ => none) (fun o _ ih i => Nat.rec (motive := fun _ => Option AObj) o (fun n _ => ih n) i) H

def gt (env : List Value) : Nat → Value :=
  List.rec (motive := fun _ => Nat → Value) (fun _ => .tuple #[.tuple #[]]) (fun v _ ih i => Nat.rec (motive := fun _ => Value) v (fun n _ => ih n) i) env

def st (env : List Value) : Nat → Value → List Value :=
  List.rec (motive := fun _ => Nat → Value → List Value) (fun _ _ => []) (fun h t ih i v => Nat.rec (motive := fun _ => List Value) (v :: t) (fun n _ => h :: ih n v) i) env

theorem wr_nil0 (o : Option AObj) : wr [] 0 o = [o] := rfl
theorem wr_nil (n : Nat) (o : Option AObj) : wr [] (n + 1) o = none :: wr [] n o := rfl
theorem wr_cons0 (h : Option AObj) (t : Heap) (o : Option AObj) : wr (h :: t) 0 o = o :: t := rfl
theorem wr_cons (h : Option AObj) (t : Heap) (n : Nat) (o : Option AObj) : wr (h :: t) (n + 1) o = h :: wr t n o := rfl
theorem rd_nil (n : Nat) : rd [] n = none := rfl
theorem rd_cons0 (o : Option AObj) (t : Heap) : rd (o :: t) 0 = o := rfl
theorem rd_cons (o : Option AObj) (t : Heap) (n : Nat) : rd (o :: t) (n + 1) = rd t n := rfl
theorem gt_cons (v : Value) (t : List Value) (n : Nat) : gt (v :: t) (n + 1) = gt t n := rfl
theorem st_cons (v u : Value) (t : List Value) (n : Nat) : st (v :: t) (n + 1) u = v :: st t n u := rfl

theorem st_eq : ∀ (env : List Value) (i : Nat) (v : Value), st env i v = env.set i v
  | [], i, v => by cases i <;> rfl
  | h :: t, 0, v => rfl
  | h :: t, n + 1, v => by rw [st_cons, st_eq t n v]; rfl

theorem rd_wr : ∀ (H : Heap) (i : Nat) (o : Option AObj) (j : Nat), rd (wr H i o) j = if j = i then o else rd H j
  | [], 0, o, 0 => rfl
  | [], 0, o, j + 1 => by simp [wr_nil0, rd_cons, rd_nil]
  | [], n + 1, o, 0 => by simp [wr_nil, rd_cons0, rd_nil]
  | [], n + 1, o, j + 1 => by simp [wr_nil, rd_cons, rd_nil, rd_wr [] n o j]
  | _ :: t, 0, o, 0 => by simp [wr_cons0, rd_cons0]
  | _ :: t, 0, o, j + 1 => by simp [wr_cons0, rd_cons]
  | _ :: t, n + 1, o, 0 => by simp [wr_cons, rd_cons0]
  | _ :: t, n + 1, o, j + 1 => by simp [wr_cons, rd_cons, rd_wr t n o j]

theorem len_wr : ∀ (H : Heap) (i : Nat) (o : Option AObj), H.length ≤ (wr H i o).length ∧ i < (wr H i o).length
  | [], 0, o => by simp [wr_nil0]
  | [], n + 1, o => by have := len_wr [] n o; simp [wr_nil]; omega
  | _ :: t, 0, o => by simp [wr_cons0]
  | _ :: t, n + 1, o => by have := len_wr t n o; simp [wr_cons]; omega

theorem rd_lt : ∀ (H : Heap) (i : Nat) (o : AObj), rd H i = some o → i < H.length
  | [], _, _, h => by simp [rd_nil] at h
  | _ :: t, 0, _, _ => by simp
  | _ :: t, n + 1, o, h => by have := rd_lt t n o h; simp; omega

/-- A value that is not known. -/
def poi : Value := .tuple #[.tuple #[]]

theorem gt_eq : ∀ (env : List Value) (t : Nat), gt env t = env.getD t poi
  | [], _ => rfl
  | _ :: _, 0 => rfl
  | _ :: r, n + 1 => by rw [gt_cons, gt_eq r n]; simp

/-- One cell, no address in it. -/
def atom : Value → Bool
  | .bool _ | .int _ _ | .float _ _ | .complex _ _ _ | .string _ | .pointer none | .slice none 0 0 | .map none | .nilFunc | .nilIface => true
  | .func (.func _) f c => f.toList.isEmpty && c.toList.isEmpty
  | _ => false

def ground1 : Value → Bool
  | .agg cs => cs.toList.all atom
  | v => atom v

def ground : Value → Bool
  | .tuple vs => !vs.toList.isEmpty && vs.toList.all ground1
  | v => ground1 v

/-- Capacities: known, or 0 for 'not known'. -/
def CapRel (g : Gh) (off len cap cap' : Nat) : Prop := (cap' = cap ∧ len ≤ cap) ∨ (cap = 0 ∧ 0 < len ∧ len ≤ cap' ∧ off + cap' * g.es = g.tot)

/-- No known capacity, and none that is asked of it: what is only looked at. -/
def big : Nat := 18446744073709551616

/-- An abstract value and a real one. -/
inductive VR (A : Nat → Prop) (ψ : Nat → Gh) : Value → Value → Prop
  | poison (v : Value) : VR A ψ poi v
  | atom (v : Value) (h : atom v = true) : VR A ψ v v
  | ptr (id off : Nat) (h : A id) : VR A ψ (.pointer (some ⟨id, off, none⟩)) (.pointer (some ⟨(ψ id).blk, (ψ id).off + off, none⟩))
  | map (id : Nat) (h : A id) : VR A ψ (.map (some id)) (.map (some (ψ id).blk))
  | slice (id off len cap cap' : Nat) (h : A id) (hc : CapRel (ψ id) off len cap cap') :
      VR A ψ (.slice (some ⟨id, off, none⟩) len cap) (.slice (some ⟨(ψ id).blk, (ψ id).off + off, none⟩) len cap')
  | void (id off : Nat) (a : Option Addr) (h : A id) : VR A ψ (.slice (some ⟨id, off, none⟩) 0 0) (.slice a 0 0)
  | view (id off len c : Nat) (a : Option Addr) (h : A id) (hl : len ≤ c) (ha : len = 0 ∨ a = some ⟨(ψ id).blk, (ψ id).off + off, none⟩) : VR A ψ (.slice (some ⟨id, off, none⟩) len big) (.slice a len c)
  | empty (a : Option Addr) (c : Nat) : VR A ψ (.slice none 0 1) (.slice a 0 c)
  | agg (xs ys : Array Value) (hs : xs.size = ys.size) (h1 : ∀ y ∈ ys, y.oneCell' = true) (h : ∀ i, VR A ψ (xs.getD i poi) (ys.getD i undef)) : VR A ψ (.agg xs) (.agg ys)
  | tuple (xs ys : Array Value) (hs : xs.size = ys.size) (h : ∀ i, VR A ψ (xs.getD i poi) (ys.getD i undef)) : VR A ψ (.tuple xs) (.tuple ys)
  | func (fn : Fn) (xs ys us vs : Array Value) (hs : xs.size = ys.size) (ht : us.size = vs.size) (h : ∀ i, VR A ψ (xs.getD i poi) (ys.getD i undef))
      (k : ∀ i, VR A ψ (us.getD i poi) (vs.getD i undef)) : VR A ψ (.func fn xs us) (.func fn ys vs)

theorem VR.mono {A A' : Nat → Prop} {ψ ψ' : Nat → Gh} (hA : ∀ id, A id → A' id ∧ ψ' id = ψ id) {v v' : Value} (h : VR A ψ v v') : VR A' ψ' v v' := by
  induction h with
  | poison v => exact .poison v
  | atom v h => exact .atom v h
  | ptr id off h => have := (hA id h).2; rw [← this]; exact .ptr id off (hA id h).1
  | map id h => have := (hA id h).2; rw [← this]; exact .map id (hA id h).1
  | slice id off len cap cap' h hc => have := (hA id h).2; rw [← this] at hc ⊢; exact .slice id off len cap cap' (hA id h).1 hc
  | void id off a h => exact .void id off a (hA id h).1
  | view id off len c a h hl ha => exact .view id off len c a (hA id h).1 hl (by rw [(hA id h).2]; exact ha)
  | empty a c => exact .empty a c
  | agg xs ys hs h1 h ih => exact .agg xs ys hs h1 ih
  | tuple xs ys hs h ih => exact .tuple xs ys hs ih
  | func fn xs ys us vs hs ht h k ih ik => exact .func fn xs ys us vs hs ht ih ik

/-- What an atom stands for. -/
theorem VR.of_atom {A : Nat → Prop} {ψ : Nat → Gh} {v v' : Value} (h : VR A ψ v v') (ha : Vm.atom v = true) : v' = v := by
  cases h with
  | poison => simp [Vm.atom, poi] at ha
  | atom => rfl
  | ptr => simp [Vm.atom] at ha
  | map => simp [Vm.atom] at ha
  | slice => simp [Vm.atom] at ha
  | void => simp [Vm.atom] at ha
  | view => simp [Vm.atom] at ha
  | empty => simp [Vm.atom] at ha
  | agg => simp [Vm.atom] at ha
  | tuple => simp [Vm.atom] at ha
  | func fn xs ys us vs hs ht _ _ =>
    cases fn <;> simp [Vm.atom] at ha
    obtain ⟨rfl, rfl⟩ := ha
    have h1 : ys = #[] := by apply Array.eq_empty_of_size_eq_zero; simpa using hs.symm
    have h2 : vs = #[] := by apply Array.eq_empty_of_size_eq_zero; simpa using ht.symm
    rw [h1, h2]

theorem arr_ext {xs ys : Array Value} (hs : xs.size = ys.size) (h : ∀ i, i < xs.size → ys.getD i undef = xs.getD i poi) : ys = xs := by
  apply Array.ext hs.symm
  intro i h1 h2
  have := h i h2
  simpa [Array.getD, h1, h2] using this

theorem VR.of_ground1 {A : Nat → Prop} {ψ : Nat → Gh} {v v' : Value} (h : VR A ψ v v') (hg : ground1 v = true) : v' = v := by
  cases hv : v with
  | agg cs =>
    subst hv
    simp only [ground1, List.all_eq_true] at hg
    cases h with
    | atom _ ha => rfl
    | agg xs ys hs h1 hh =>
      congr 1
      refine arr_ext hs fun i hi => ?_
      have hi' : cs.getD i poi = cs[i] := by simp [Array.getD, hi]
      exact (hh i).of_atom (by rw [hi']; exact hg _ (by simp))
  | _ => subst hv; exact h.of_atom (by simpa [ground1] using hg)

theorem VR.of_ground {A : Nat → Prop} {ψ : Nat → Gh} {v v' : Value} (h : VR A ψ v v') (hg : ground v = true) : v' = v := by
  cases hv : v with
  | tuple vs =>
    subst hv
    simp only [ground, Bool.and_eq_true, List.all_eq_true] at hg
    cases h with
    | poison => simp [ground1, Vm.atom] at hg
    | atom _ ha => rfl
    | tuple xs ys hs hh =>
      congr 1
      refine arr_ext hs fun i hi => ?_
      have hi' : vs.getD i poi = vs[i] := by simp [Array.getD, hi]
      exact (hh i).of_ground1 (by rw [hi']; exact hg.2 _ (by simp))
  | _ => subst hv; exact h.of_ground1 (by simpa [ground] using hg)

theorem VR.refl_ground1 {A : Nat → Prop} {ψ : Nat → Gh} {v : Value} (hg : ground1 v = true) : VR A ψ v v := by
  cases hv : v with
  | agg cs =>
    subst hv
    simp only [ground1, List.all_eq_true] at hg
    refine .agg cs cs rfl (fun y hy => ?_) fun i => ?_
    · have := hg y (by simpa using hy)
      cases y <;> simp_all [Vm.atom, Value.oneCell']
    · by_cases hi : i < cs.size
      · have h1 : cs.getD i poi = cs[i] := by simp [Array.getD, hi]
        have h2 : cs.getD i undef = cs[i] := by simp [Array.getD, hi]
        rw [h1, h2]; exact .atom _ (hg _ (by simp))
      · have h1 : cs.getD i poi = poi := by simp [Array.getD, hi]
        rw [h1]; exact .poison _
  | _ => subst hv; exact .atom _ (by simpa [ground1] using hg)

theorem VR.refl_ground {A : Nat → Prop} {ψ : Nat → Gh} {v : Value} (hg : ground v = true) : VR A ψ v v := by
  cases hv : v with
  | tuple cs =>
    subst hv
    simp only [ground, Bool.and_eq_true, List.all_eq_true] at hg
    refine .tuple cs cs rfl fun i => ?_
    by_cases hi : i < cs.size
    · have h1 : cs.getD i poi = cs[i] := by simp [Array.getD, hi]
      have h2 : cs.getD i undef = cs[i] := by simp [Array.getD, hi]
      rw [h1, h2]; exact .refl_ground1 (hg.2 _ (by simp))
    · have h1 : cs.getD i poi = poi := by simp [Array.getD, hi]
      rw [h1]; exact .poison _
  | _ => subst hv; exact .refl_ground1 (by simpa [ground] using hg)

theorem VR.refl_undef {A : Nat → Prop} {ψ : Nat → Gh} : VR A ψ undef undef := .tuple #[] #[] rfl fun i => by simp [Array.getD]; exact .poison _

/-- A value that can be stored: not a tuple. -/
def okv : Value → Bool
  | .tuple _ => false
  | _ => true

/-- The cells of a value that can be stored. -/
theorem VR.cells {A : Nat → Prop} {ψ : Nat → Gh} {v v' : Value} (h : VR A ψ v v') (hk : okv v = true) :
    v'.cells.size = v.cells.size ∧ (∀ y ∈ v'.cells, y.oneCell' = true) ∧ ∀ i, VR A ψ (v.cells.getD i poi) (v'.cells.getD i undef) := by
  have one : ∀ {u u' : Value}, VR A ψ u u' → u.cells = #[u] → u'.cells = #[u'] → u'.oneCell' = true →
      u'.cells.size = u.cells.size ∧ (∀ y ∈ u'.cells, y.oneCell' = true) ∧ ∀ i, VR A ψ (u.cells.getD i poi) (u'.cells.getD i undef) := by
    intro u u' hu h1 h2 h3
    rw [h1, h2]
    refine ⟨rfl, by simpa using h3, fun i => ?_⟩
    cases i with
    | zero => simpa [Array.getD] using hu
    | succ n => simp [Array.getD]; exact .poison _
  cases h with
  | poison => simp [okv, poi] at hk
  | atom v ha => cases v <;> first | (simp [Vm.atom] at ha; done) | exact one (.atom _ ha) rfl rfl rfl
  | ptr id off h => exact one (.ptr id off h) rfl rfl rfl
  | map id h => exact one (.map id h) rfl rfl rfl
  | slice id off len cap cap' h hc => exact one (.slice id off len cap cap' h hc) rfl rfl rfl
  | void id off a h => exact one (.void id off a h) rfl rfl rfl
  | view id off len c a h hl ha => exact one (.view id off len c a h hl ha) rfl rfl rfl
  | empty a c => exact one (.empty a c) rfl rfl rfl
  | agg xs ys hs h1 h => exact ⟨hs.symm, h1, h⟩
  | tuple => simp [okv] at hk
  | func fn xs ys us vs hs ht h k => exact one (.func fn xs ys us vs hs ht h k) rfl rfl rfl

theorem VR.one {A : Nat → Prop} {ψ : Nat → Gh} {v v' : Value} (h : VR A ψ v v') (hk : okv v = true) (ho : v.oneCell' = true) : v'.oneCell' = true := by
  cases h with
  | poison => simp [okv, poi] at hk
  | agg => simp [Value.oneCell'] at ho
  | tuple => simp [okv] at hk
  | atom => exact ho
  | _ => rfl

/-! ### The frame and the relation -/
/-- What the world's own tables hold. -/
def lays (P : Program) (w : World) : Prop := P.globalNamed "internal/strconv.uint64pow10" ≠ none → Lib.TabIs P w "internal/strconv.uint64pow10" .u64 Lib.pow10Tab

/-- What must not turn: the world at the beginning, but for the blocks of S. -/
structure Fr (P : Program) where
  w0 : World
  S : Nat → Prop
  A0 : Nat → Prop
  ψ0 : Nat → Gh
  ds : List Deferred

structure Fr.ok {P : Program} (F : Fr P) (w : World) : Prop where
  os : w.os = F.w0.os
  tape : w.tape = F.w0.tape
  output : w.output = F.w0.output
  size : F.w0.heap.size ≤ w.heap.size
  block : ∀ k, k < F.w0.heap.size → ¬ F.S k → w.heap[k]? = F.w0.heap[k]?
  lay : ∀ w' : World, (∀ k, k < F.w0.heap.size → ¬ F.S k → w'.heap[k]? = F.w0.heap[k]?) → F.w0.heap.size ≤ w'.heap.size → lays P w'

def AObj.rw : AObj → Bool
  | .row _ _ _ rw _ => rw
  | .iter _ _ => true
  | .smap _ => true
  | .imap _ => true

def ORel (A : Nat → Prop) (ψ : Nat → Gh) (g : Gh) (w : World) : AObj → Prop
  | .row cells es more rw flat => ∃ arr el fz, w.heap[g.blk]? = some (.cells arr el fz) ∧ g.es = es ∧
      (∀ i, i < cells.length → ∃ v', arr[g.off + i]? = some v' ∧ v'.oneCell' = true ∧ VR A ψ (cells.getD i poi) v') ∧
      (rw = true → g.off = 0 ∧ fz = (0, 0) ∧ arr.size = g.tot ∧ (more = false → g.tot = cells.length)) ∧
      (flat = true → ∀ v ∈ cells, atom v = true)
  | .iter s pos => g.off = 0 ∧ w.heap[g.blk]? = some (.stringIter s pos)
  | .smap es => g.off = 0 ∧ ∃ arr clock, w.heap[g.blk]? = some (.map arr clock) ∧ arr.toList.map (fun e => (e.key, e.val)) = es.map (fun p => (Value.string p.1, p.2)) ∧ ∀ p ∈ es, atom p.2 = true
  | .imap es => g.off = 0 ∧ ∃ arr clock, w.heap[g.blk]? = some (.map arr clock) ∧ arr.toList.map (fun e => (e.key, e.val)) = es.map (fun p => (Value.int .i64 p.1, p.2)) ∧ ∀ p ∈ es, atom p.2 = true

/-- A row without cells: nothing of it need lie anywhere. -/
def AObj.vd : AObj → Bool
  | .row [] _ _ _ _ => true
  | _ => false

theorem vd_row {cells : List Value} {es : Nat} {more rw flat : Bool} (h : 0 < cells.length) : (AObj.row cells es more rw flat).vd = false := by
  cases cells with
  | nil => simp at h
  | cons => rfl

def EsOK (g : Gh) : AObj → Prop
  | .row _ es _ _ _ => g.es = es
  | _ => True

structure HRel {P : Program} (F : Fr P) (A : Nat → Prop) (ψ : Nat → Gh) (H : Heap) (w : World) : Prop where
  live : ∀ id o, rd H id = some o → A id ∧ EsOK (ψ id) o ∧ (o.vd = false → (ψ id).blk < w.heap.size ∧ ORel A ψ (ψ id) w o)
  inj : ∀ i j oi oj, rd H i = some oi → rd H j = some oj → i ≠ j → oi.rw = true → oi.vd = false → oj.vd = false → (ψ i).blk ≠ (ψ j).blk
  fr : F.ok w
  own : ∀ id o, rd H id = some o → o.rw = true → o.vd = false → F.w0.heap.size ≤ (ψ id).blk ∨ F.S (ψ id).blk
  old : ∀ id, F.A0 id → A id ∧ ψ id = F.ψ0 id

theorem HRel.ds {P : Program} {F : Fr P} {A : Nat → Prop} {ψ : Nat → Gh} {H : Heap} {w : World} (h : HRel F A ψ H w) (d : List Deferred) : HRel (P := P) { F with ds := d } A ψ H w :=
  ⟨h.live, h.inj, ⟨h.fr.os, h.fr.tape, h.fr.output, h.fr.size, h.fr.block, h.fr.lay⟩, h.own, h.old⟩
theorem HRel.of_ds {P : Program} {F : Fr P} {A : Nat → Prop} {ψ : Nat → Gh} {H : Heap} {w : World} {d : List Deferred} (h : HRel (P := P) { F with ds := d } A ψ H w) : HRel F A ψ H w :=
  ⟨h.live, h.inj, ⟨h.fr.os, h.fr.tape, h.fr.output, h.fr.size, h.fr.block, h.fr.lay⟩, h.own, h.old⟩

structure Rel {P : Program} (F : Fr P) (A : Nat → Prop) (ψ : Nat → Gh) (env : List Value) (H : Heap) (a : Act) (w : World) : Prop where
  slot : ∀ t, VR A ψ (env.getD t poi) (a.tmps.getD t undef)
  len : env.length ≤ a.tmps.size
  defers : a.defers = F.ds
  heap : HRel F A ψ H w

/-- An operand, read. -/
def ev (env : List Value) : Operand → Value
  | .tmp t => gt env t
  | .const v => if ground v then v else poi
  | .global _ => poi
  | .func f => .func (.func f) #[] #[]

theorem Rel.ev {P : Program} {F : Fr P} {A : Nat → Prop} {ψ : Nat → Gh} {env : List Value} {H : Heap} {a : Act} {w : World} (h : Rel F A ψ env H a w) (x : Operand) : VR A ψ (ev env x) (a.eval x) := by
  cases x with
  | tmp t => rw [Vm.ev, gt_eq]; exact h.slot t
  | const v =>
    simp only [Vm.ev, Act.eval]
    split
    · exact .refl_ground ‹_›
    · exact .poison _
  | global g => exact .poison _
  | func f => exact .atom _ rfl

def put (env : List Value) (dst : Option Tmp) (v : Value) : List Value :=
  match dst with
  | some d => st env d v
  | none => env

theorem put_some (env : List Value) (d : Tmp) (v : Value) : put env (some d) v = env.set d v := st_eq _ _ _

theorem put_rel {P : Program} {F : Fr P} {A : Nat → Prop} {ψ : Nat → Gh} {env : List Value} {H : Heap} {a : Act} {w : World} (h : Rel F A ψ env H a w) {v v' : Value} (hv : VR A ψ v v') (dst : Option Tmp) :
    Rel F A ψ (put env dst v) H (a.put dst v') w := by
  cases dst with
  | none => exact h
  | some d =>
    refine ⟨fun t => ?_, by simpa [put_some, Act.put] using h.len, h.defers, h.heap⟩
    simp only [put_some, Act.put]
    by_cases hd : d < env.length
    · have hd' : d < a.tmps.size := Nat.lt_of_lt_of_le hd h.len
      by_cases ht : d = t
      · subst ht
        have e1 : (env.set d v).getD d poi = v := by simp [List.getD, hd]
        have e2 : (a.tmps.setIfInBounds d v').getD d undef = v' := by simp [Array.getD, hd']
        rw [e1, e2]; exact hv
      · have e1 : (env.set d v).getD t poi = env.getD t poi := by simp [List.getD, List.getElem?_set_ne ht]
        have e2 : (a.tmps.setIfInBounds d v').getD t undef = a.tmps.getD t undef := by
          simp [Array.getD_eq_getD_getElem?, Array.getElem?_setIfInBounds_ne ht]
        rw [e1, e2]; exact h.slot t
    · have e0 : env.set d v = env := by rw [List.set_eq_of_length_le (Nat.le_of_not_lt hd)]
      rw [e0]
      by_cases ht : d = t
      · subst ht
        have e1 : env.getD d poi = poi := by simp [List.getD, List.getElem?_eq_none (Nat.le_of_not_lt hd)]
        rw [e1]; exact .poison _
      · have e2 : (a.tmps.setIfInBounds d v').getD t undef = a.tmps.getD t undef := by
          simp [Array.getD_eq_getD_getElem?, Array.getElem?_setIfInBounds_ne ht]
        rw [e2]; exact h.slot t

end
end Go.Vm
end
section
/- Steps of the heap relation, and the operations one by one. -/
namespace Go.Vm
noncomputable section

def upd (ψ : Nat → Gh) (i : Nat) (g : Gh) : Nat → Gh := fun j => if j = i then g else ψ j

abbrev Delta := List (Nat × Option AObj)

def ap : Heap → Delta → Heap
  | H, [] => H
  | H, (i, o) :: r => ap (wr H i o) r

structure Out where
  v : Value
  δ : Delta
  D : List Nat
  nu : List Nat

theorem ORel.mono {A A' : Nat → Prop} {ψ ψ' : Nat → Gh} (hA : ∀ id, A id → A' id ∧ ψ' id = ψ id) {g : Gh} {w w' : World} (hw : w'.heap[g.blk]? = w.heap[g.blk]?) {o : AObj} (h : ORel A ψ g w o) : ORel A' ψ' g w' o := by
  cases o with
  | iter s pos => simpa [ORel, hw] using h
  | smap es => simpa [ORel, hw] using h
  | imap es => simpa [ORel, hw] using h
  | row cells es more rw flat =>
    obtain ⟨arr, el, fz, h1, h2, h3, h4, h5⟩ := h
    refine ⟨arr, el, fz, by rw [hw]; exact h1, h2, fun i hi => ?_, h4, h5⟩
    obtain ⟨v', e1, e2, e3⟩ := h3 i hi
    exact ⟨v', e1, e2, e3.mono hA⟩

/-- The streams and the other blocks stand. -/
structure SameBut (w w' : World) (b : Nat) : Prop where
  os : w'.os = w.os
  tape : w'.tape = w.tape
  output : w'.output = w.output
  size : w.heap.size ≤ w'.heap.size
  block : ∀ k, k < w.heap.size → k ≠ b → w'.heap[k]? = w.heap[k]?

theorem SameBut.ok {P : Program} {F : Fr P} {w w' : World} {b : Nat} (h : SameBut w w' b) (hF : F.ok w) (hb : F.w0.heap.size ≤ b ∨ F.S b) : F.ok w' :=
  ⟨h.os.trans hF.os, h.tape.trans hF.tape, h.output.trans hF.output, Nat.le_trans hF.size h.size, fun k hk hs => by
    rw [h.block k (Nat.lt_of_lt_of_le hk hF.size) (fun e => by subst e; rcases hb with hb | hb; omega; exact hs hb)]
    exact hF.block k hk hs, hF.lay⟩

theorem SameBut.alloc (w : World) (c : Obj) : SameBut w (w.alloc c) w.heap.size :=
  ⟨rfl, rfl, rfl, by simp, fun k hk _ => by
    show (w.heap.push c)[k]? = _
    rw [Array.getElem?_push, if_neg (by omega)]⟩

theorem SameBut.drew_alloc (w : World) (c : Obj) : SameBut w (w.drew.alloc c) w.heap.size :=
  have h := SameBut.alloc w.drew c
  ⟨h.os, h.tape, h.output, h.size, h.block⟩

theorem HRel.alike {P : Program} {F : Fr P} {A : Nat → Prop} {ψ : Nat → Gh} {H : Heap} {w w' : World} (h : HRel F A ψ H w) (h1 : w'.heap = w.heap) (h2 : w'.os = w.os) (h3 : w'.tape = w.tape) (h4 : w'.output = w.output) : HRel F A ψ H w' :=
  ⟨fun id o ho => by
    obtain ⟨a, e, b⟩ := h.live id o ho
    exact ⟨a, e, fun hv => ⟨by rw [h1]; exact (b hv).1, (b hv).2.mono (fun _ ha => ⟨ha, rfl⟩) (by rw [h1])⟩⟩, h.inj, ⟨h2.trans h.fr.os, h3.trans h.fr.tape, h4.trans h.fr.output, by rw [h1]; exact h.fr.size, fun k hk hs => by rw [h1]; exact h.fr.block k hk hs, h.fr.lay⟩, h.own, h.old⟩

/-- A new id for a block that no live id has. -/
theorem HRel.adopt {P : Program} {F : Fr P} {A : Nat → Prop} {ψ : Nat → Gh} {H : Heap} {w w' : World} {b : Nat} (h : HRel F A ψ H w) (hw : SameBut w w' b) (hb : b < w'.heap.size)
    {nid : Nat} (hn : ¬ A nid) (hfree : ∀ j oj, rd H j = some oj → oj.vd = false → (ψ j).blk ≠ b) (hown : F.w0.heap.size ≤ b ∨ F.S b) {g : Gh} (hg : g.blk = b) {o : AObj} (hes : EsOK g o)
    (ho : ORel (fun id => A id ∨ id = nid) (upd ψ nid g) g w' o) :
    HRel F (fun id => A id ∨ id = nid) (upd ψ nid g) (wr H nid (some o)) w' := by
  have hag : ∀ id, A id → (A id ∨ id = nid) ∧ upd ψ nid g id = ψ id := fun id ha => ⟨.inl ha, by
    have : id ≠ nid := fun e => hn (by rw [← e]; exact ha)
    simp [upd, this]⟩
  have hsame : ∀ id o', rd H id = some o' → upd ψ nid g id = ψ id := fun id o' he => (hag id (h.live id o' he).1).2
  have hnn : rd H nid = none := by
    cases he : rd H nid with
    | none => rfl
    | some o' => exact absurd (h.live _ _ he).1 hn
  have hup : upd ψ nid g nid = g := by simp [upd]
  refine ⟨fun id o' he => ?_, fun i j oi oj hi hj hij hrw hvi hvj => ?_, hw.ok h.fr hown, fun id o' he hrw hv => ?_, fun id ha => ?_⟩
  · rw [rd_wr] at he
    split at he
    · rename_i e; subst e
      cases he
      exact ⟨.inr rfl, by rw [hup]; exact hes, fun _ => ⟨by rw [hup, hg]; exact hb, by rw [hup]; exact ho⟩⟩
    · obtain ⟨h1, h2, h3⟩ := h.live id o' he
      rw [hsame id o' he]
      exact ⟨.inl h1, h2, fun hv => ⟨Nat.lt_of_lt_of_le (h3 hv).1 hw.size, (h3 hv).2.mono hag (hw.block _ (h3 hv).1 (hfree id o' he hv))⟩⟩
  · rw [rd_wr] at hi hj
    split at hi <;> split at hj
    · omega
    · rename_i e _; subst e
      rw [hup, hsame j oj hj, hg]
      exact fun e => hfree j oj hj hvj e.symm
    · rename_i _ e; subst e
      rw [hup, hsame i oi hi, hg]
      exact fun e => hfree i oi hi hvi e
    · rw [hsame i oi hi, hsame j oj hj]
      exact h.inj i j oi oj hi hj hij hrw hvi hvj
  · rw [rd_wr] at he
    split at he
    · rename_i e; subst e; rw [hup, hg]; exact hown
    · rw [hsame id o' he]; exact h.own id o' he hrw hv
  · have ⟨h1, h2⟩ := h.old id ha
    exact ⟨(hag id h1).1, (hag id h1).2.trans h2⟩

/-- A block of its own turns. -/
theorem HRel.update {P : Program} {F : Fr P} {A : Nat → Prop} {ψ : Nat → Gh} {H : Heap} {w w' : World} {id : Nat} {o o' : AObj} (h : HRel F A ψ H w) (hr : rd H id = some o) (hrw : o.rw = true) (hvo : o.vd = false) (hes : EsOK (ψ id) o')
    (hw : SameBut w w' (ψ id).blk) (ho : ORel A ψ (ψ id) w' o') : HRel F A ψ (wr H id (some o')) w' := by
  have hl := h.live id o hr
  refine ⟨fun j oj he => ?_, fun i j oi oj hi hj hij hrwi hvi hvj => ?_, hw.ok h.fr (h.own id o hr hrw hvo), fun j oj he hrwj hvj => ?_, h.old⟩
  · rw [rd_wr] at he
    split at he
    · rename_i e; subst e; cases he
      exact ⟨hl.1, hes, fun _ => ⟨Nat.lt_of_lt_of_le (hl.2.2 hvo).1 hw.size, ho⟩⟩
    · rename_i hne
      obtain ⟨h1, h2, h3⟩ := h.live j oj he
      exact ⟨h1, h2, fun hv => ⟨Nat.lt_of_lt_of_le (h3 hv).1 hw.size, (h3 hv).2.mono (fun _ ha => ⟨ha, rfl⟩) (hw.block _ (h3 hv).1 (fun e => h.inj id j o oj hr he (Ne.symm hne) hrw hvo hv e.symm))⟩⟩
  · rw [rd_wr] at hi hj
    split at hi <;> split at hj
    · omega
    · rename_i e _; subst e; exact h.inj i j o oj hr hj hij hrw hvo hvj
    · rename_i _ e; subst e; exact fun e => h.inj j i o oi hr hi (Ne.symm hij) hrw hvo hvi e.symm
    · exact h.inj i j oi oj hi hj hij hrwi hvi hvj
  · rw [rd_wr] at he
    split at he
    · rename_i e; subst e; exact h.own j o hr hrw hvo
    · exact h.own j oj he hrwj hvj

/-- An id dies. -/
theorem HRel.kill {P : Program} {F : Fr P} {A : Nat → Prop} {ψ : Nat → Gh} {H : Heap} {w : World} (h : HRel F A ψ H w) (id : Nat) : HRel F A ψ (wr H id none) w := by
  refine ⟨fun j oj he => ?_, fun i j oi oj hi hj hij hrwi hvi hvj => ?_, h.fr, fun j oj he hrwj hvj => ?_, h.old⟩
  · rw [rd_wr] at he; split at he; cases he; exact h.live j oj he
  · rw [rd_wr] at hi hj
    split at hi; cases hi
    split at hj; cases hj
    exact h.inj i j oi oj hi hj hij hrwi hvi hvj
  · rw [rd_wr] at he; split at he; cases he; exact h.own j oj he hrwj hvj

/-! ### What an operation does -/
def StepOK (P : Program) (o : Oper) (env : List Value) (H : Heap) (out : Out) : Prop :=
  ∀ (F : Fr P) A ψ env1 H1 a w, Rel F A ψ env1 H1 a w → (∀ x ∈ o.op.operands, ev env1 x = ev env x) → (∀ id ∈ out.D, rd H1 id = rd H id) → (∀ id ∈ out.nu, ¬ A id) →
    ∀ (K : Act → World → Prop) (Q : Exit → Act → World → Prop),
      (∀ ψ1 a1 w1, Rel F (fun id => A id ∨ id ∈ out.nu) ψ1 (put env1 o.dst out.v) (ap H1 out.δ) a1 w1 → K a1 w1) → o.wp P a w K Q

def pureRun {α : Type} (P : Program) : Sem α → Option α
  | .pure a => some a
  | .program k => pureRun P (k P)
  | .mark _ k => pureRun P k
  | _ => none

theorem pureRun_run {α : Type} (P : Program) (w : World) : ∀ (s : Sem α) (a : α), pureRun P s = some a → s.run P w = .ok a w := by
  intro s
  induction s with
  | pure a => intro b h; simp [pureRun] at h; subst h; rfl
  | program k ih => intro b h; exact ih P b h
  | mark m k ih => intro b h; exact ih b h
  | _ => intro b h; simp [pureRun] at h

theorem A_nil {P : Program} {F : Fr P} {A : Nat → Prop} {ψ : Nat → Gh} {env : List Value} {H : Heap} {a : Act} {w : World} (h : Rel F A ψ env H a w) : Rel F (fun id => A id ∨ id ∈ ([] : List Nat)) ψ env H a w := by
  have : (fun id => A id ∨ id ∈ ([] : List Nat)) = A := by funext id; simp
  rw [this]; exact h

/-- An operation that yields a value and leaves memory alone. -/
theorem StepOK.value {P : Program} {o : Oper} {env : List Value} {H : Heap} {v : Value} {D : List Nat}
    (h : ∀ (F : Fr P) A ψ env1 H1 a w, Rel F A ψ env1 H1 a w → (∀ x ∈ o.op.operands, ev env1 x = ev env x) → (∀ id ∈ D, rd H1 id = rd H id) →
      ∃ v', (execOp a.eval o).run P w = .ok (.value v') w ∧ VR A ψ v v') : StepOK P o env H ⟨v, [], D, []⟩ := by
  intro F A ψ env1 H1 a w hr he hD _ K Q hK
  obtain ⟨v', h1, h2⟩ := h F A ψ env1 H1 a w hr he hD
  unfold Oper.wp
  rw [h1]
  exact hK ψ _ _ (A_nil (put_rel hr h2 o.dst))

/-- The operands are known: the model itself says what comes out. -/
def noSel : Op → Bool
  | .select _ _ => false
  | _ => true

def evGround (P : Program) (env : List Value) (o : Oper) : Option Out :=
  if o.op.operands.toList.all (fun x => ground (ev env x)) && noSel o.op then
    match pureRun P (execOp (ev env) o) with
    | some (.value v) => if ground v then some ⟨v, [], [], []⟩ else none
    | _ => none
  else none

theorem evGround_ok {P : Program} {env : List Value} {H : Heap} {o : Oper} {out : Out} (h : evGround P env o = some out) : StepOK P o env H out := by
  unfold evGround at h
  split at h
  · rename_i hg
    simp only [Bool.and_eq_true, List.all_eq_true] at hg
    obtain ⟨hg, hs⟩ := hg
    split at h
    · rename_i v hv
      split at h
      · rename_i hgv
        cases h
        refine StepOK.value fun F A ψ env1 H1 a w hr he _ => ⟨v, ?_, .refl_ground hgv⟩
        have : execOp a.eval o = execOp (ev env) o := execOp_congr o (by intro cs b e; simp [e, noSel] at hs) fun x hx => by
          have h1 := hr.ev x
          rw [he x hx] at h1
          exact h1.of_ground (hg x (by simpa using hx))
        rw [this]
        exact pureRun_run P w _ _ hv
      · cases h
    · cases h
  · cases h

end
end Go.Vm
end
section
/- The operations that read, or only compute addresses. -/
namespace Go.Vm
noncomputable section

/-- Not the unknown value. -/
def noPoi : List Value → Bool
  | [.tuple _] => false
  | _ => true

section inv
variable {A : Nat → Prop} {ψ : Nat → Gh}
theorem VR.ptr_inv {id off : Nat} {v' : Value} (h : VR A ψ (.pointer (some ⟨id, off, none⟩)) v') : A id ∧ v' = .pointer (some ⟨(ψ id).blk, (ψ id).off + off, none⟩) := by
  cases h with
  | atom _ h => simp [Vm.atom] at h
  | ptr _ _ h => exact ⟨h, rfl⟩
theorem VR.map_inv {id : Nat} {v' : Value} (h : VR A ψ (.map (some id)) v') : A id ∧ v' = .map (some (ψ id).blk) := by
  cases h with
  | atom _ h => simp [Vm.atom] at h
  | map _ h => exact ⟨h, rfl⟩
theorem VR.slice_inv {id off len cap : Nat} {v' : Value} (h : VR A ψ (.slice (some ⟨id, off, none⟩) len cap) v') :
    A id ∧ ∃ a cap', v' = .slice a len cap' ∧ len ≤ cap' ∧ (len = 0 ∨ a = some ⟨(ψ id).blk, (ψ id).off + off, none⟩) ∧
      ((CapRel (ψ id) off len cap cap' ∧ a = some ⟨(ψ id).blk, (ψ id).off + off, none⟩) ∨ (len = 0 ∧ cap = 0 ∧ cap' = 0) ∨ cap = big) := by
  cases h with
  | atom _ h => simp [Vm.atom] at h
  | slice _ _ _ _ c h hc => exact ⟨h, _, c, rfl, by rcases hc with hc | hc <;> omega, .inr rfl, .inl ⟨hc, rfl⟩⟩
  | void _ _ a h => exact ⟨h, a, 0, rfl, Nat.le_refl _, .inl rfl, .inr (.inl ⟨rfl, rfl, rfl⟩)⟩
  | view _ _ _ c a h hl ha => exact ⟨h, a, c, rfl, hl, ha, .inr (.inr rfl)⟩
theorem VR.agg_inv {xs : Array Value} {v' : Value} (h : VR A ψ (.agg xs) v') :
    ∃ ys, v' = .agg ys ∧ xs.size = ys.size ∧ (∀ y ∈ ys, y.oneCell' = true) ∧ ∀ i, VR A ψ (xs.getD i poi) (ys.getD i undef) := by
  cases h with
  | atom _ h => simp [Vm.atom] at h
  | agg _ ys hs h1 h => exact ⟨ys, rfl, hs, h1, h⟩
theorem VR.tuple_inv {xs : Array Value} {v' : Value} (h : VR A ψ (.tuple xs) v') (h2 : noPoi xs.toList = true) :
    ∃ ys, v' = .tuple ys ∧ xs.size = ys.size ∧ ∀ i, VR A ψ (xs.getD i poi) (ys.getD i undef) := by
  cases h with
  | poison => simp [noPoi] at h2
  | atom _ h => simp [Vm.atom] at h
  | tuple _ ys hs h => exact ⟨ys, rfl, hs, h⟩
theorem VR.nil_inv {len cap : Nat} {v' : Value} (h : VR A ψ (.slice none len cap) v') : len = 0 ∧ ∃ a c, v' = .slice a 0 c ∧ (cap ≠ 1 → a = none ∧ c = 0 ∧ cap = 0) := by
  cases h with
  | atom _ h =>
    simp only [Vm.atom] at h
    split at h <;> simp_all
  | empty a c => exact ⟨rfl, a, c, rfl, fun h => absurd rfl h⟩
theorem VR.slice_len {sa : Option Addr} {n c : Nat} {v' : Value} (h : VR A ψ (.slice sa n c) v') : ∃ a' c', v' = .slice a' n c' := by
  cases h with
  | atom _ _ => exact ⟨_, _, rfl⟩
  | slice id off len cap cap' h hc => exact ⟨_, _, rfl⟩
  | void id off a h => exact ⟨_, _, rfl⟩
  | view id off len c a h hl ha => exact ⟨_, _, rfl⟩
  | empty a c => exact ⟨_, _, rfl⟩
end inv

section
variable {P : Program} {o : Oper} {env env1 : List Value} {H H1 : Heap} {F : Fr P} {A : Nat → Prop} {ψ : Nat → Gh} {a : Act} {w : World}

theorem opd (hr : Rel F A ψ env1 H1 a w) (he : ∀ x ∈ o.op.operands, ev env1 x = ev env x) {x : Operand} (hx : x ∈ o.op.operands) : VR A ψ (ev env x) (a.eval x) := by
  rw [← he x hx]; exact hr.ev x

theorem move_ok {x : Operand} (ho : o.op = .move x ∨ o.op = .assign x) : StepOK P o env H ⟨ev env x, [], [], []⟩ :=
  StepOK.value fun F A ψ env1 H1 a w hr he _ => ⟨a.eval x, by rcases ho with ho | ho <;> simp [execOp, ho], opd hr he (by rcases ho with ho | ho <;> simp [ho, Op.operands])⟩

def evPick (env : List Value) (c x y : Operand) : Option Out :=
  match ev env c with
  | .bool true => some ⟨ev env x, [], [], []⟩
  | .bool false => some ⟨ev env y, [], [], []⟩
  | _ => none

theorem pick_ok {c x y : Operand} {out : Out} (ho : o.op = .pick c x y) (h : evPick env c x y = some out) : StepOK P o env H out := by
  unfold evPick at h
  split at h <;> rename_i hc <;> cases h
  all_goals
    refine StepOK.value fun F A ψ env1 H1 a w hr he _ => ?_
    have h1 := opd hr he (x := c) (by simp [ho, Op.operands])
    rw [hc] at h1
    have h2 := h1.of_atom rfl
  · exact ⟨a.eval x, by simp [execOp, ho, h2, asBool], opd hr he (by simp [ho, Op.operands])⟩
  · exact ⟨a.eval y, by simp [execOp, ho, h2, asBool], opd hr he (by simp [ho, Op.operands])⟩

def evExtract (v : Value) (ix : Nat) : Option Out :=
  match v with
  | .tuple vs => if noPoi vs.toList then (match vs.toList[ix]? with | some v => some ⟨v, [], [], []⟩ | none => none) else none
  | _ => none

theorem getD_toList {vs : Array Value} {ix : Nat} {v d : Value} (h : vs.toList[ix]? = some v) : ix < vs.size ∧ vs.getD ix d = v := by
  have : vs[ix]? = some v := by simpa using h
  obtain ⟨hlt, he⟩ := Array.getElem?_eq_some_iff.1 this
  exact ⟨hlt, by simp [Array.getD, hlt, he]⟩

theorem extract_ok {x : Operand} {ix : Nat} {out : Out} (ho : o.op = .extract x ix) (h : evExtract (ev env x) ix = some out) : StepOK P o env H out := by
  unfold evExtract at h
  split at h
  · rename_i vs hv
    split at h
    · rename_i h2
      split at h
      · rename_i v hix
        cases h
        refine StepOK.value fun F A ψ env1 H1 a w hr he _ => ?_
        have h1 := opd hr he (x := x) (by simp [ho, Op.operands])
        rw [hv] at h1
        obtain ⟨ys, e1, e2, e3⟩ := h1.tuple_inv h2
        obtain ⟨hlt, hd⟩ := getD_toList (d := poi) hix
        have hlt' : ix < ys.size := by omega
        refine ⟨ys[ix], by simp [execOp, ho, e1, Instr.extract, hlt'], ?_⟩
        have := e3 ix
        rw [hd] at this
        simpa [Array.getD, hlt'] using this
      · cases h
    · cases h
  · cases h

theorem run_isAgg' {t : TypeId} {d : TypeDesc} (hu : P.underlying t = some d) (w : World) : (isAgg t).run P w = .ok d.isRow w := by
  unfold isAgg
  rw [Sem.run_bind, run_underlying hu w]
  cases d <;> simp

/-- A part of known cells. -/
def evPart (P : Program) (t : TypeId) (cs : List Value) (off : Nat) : Option Value :=
  match P.underlying t, P.info? t with
  | some d, some i =>
    if d.isRow then (if off + i.size ≤ cs.length then some (.agg ((cs.drop off).take i.size).toArray) else none)
    else cs[off]?
  | _, _ => none

theorem extract_rel {xs ys : Array Value} (hs : xs.size = ys.size) (h1 : ∀ y ∈ ys, y.oneCell' = true) (h : ∀ i, VR A ψ (xs.getD i poi) (ys.getD i undef)) (off n : Nat) (hn : off + n ≤ xs.size) :
    VR A ψ (.agg ((xs.toList.drop off).take n).toArray) (.agg (ys.extract off (off + n))) := by
  refine .agg _ _ (by simp; omega) (fun y hy => h1 y ?_) fun i => ?_
  · obtain ⟨j, hj, e⟩ := Array.mem_iff_getElem.1 hy
    rw [← e]
    simp
  · by_cases hi : i < n
    · have e1 : (((xs.toList.drop off).take n).toArray).getD i poi = xs.getD (off + i) poi := by
        simp [Array.getD_eq_getD_getElem?, hi]
      have e2 : (ys.extract off (off + n)).getD i undef = ys.getD (off + i) undef := by
        simp [Array.getD_eq_getD_getElem?, Array.getElem?_extract]
        rw [if_pos (by omega)]
      rw [e1, e2]; exact h _
    · have e1 : (((xs.toList.drop off).take n).toArray).getD i poi = poi := by
        simp [Array.getD_eq_getD_getElem?, List.getElem?_take, hi]
      rw [e1]; exact .poison _

theorem part_rel {t : TypeId} {xs ys : Array Value} {off : Nat} {v : Value} (hp : evPart P t xs.toList off = some v) (hs : xs.size = ys.size) (h1 : ∀ y ∈ ys, y.oneCell' = true)
    (h : ∀ i, VR A ψ (xs.getD i poi) (ys.getD i undef)) (w : World) : ∃ v', (part t ys off).run P w = .ok v' w ∧ VR A ψ v v' := by
  unfold evPart at hp
  split at hp
  · rename_i d i hu hi
    split at hp
    · rename_i hrow
      split at hp
      · rename_i hle
        cases hp
        exact ⟨_, by simp [part, run_isAgg' hu, hrow, sizeOf, typeInfo, hi], extract_rel hs h1 h off i.size (by simpa using hle)⟩
      · cases hp
    · rename_i hrow
      obtain ⟨hlt, hd⟩ := getD_toList (d := poi) hp
      have hlt' : off < ys.size := by omega
      have := h off
      rw [hd] at this
      refine ⟨ys[off], ?_, by simpa [Array.getD, hlt'] using this⟩
      have hrow' : d.isRow = false := by simpa using hrow
      simp [part, run_isAgg' hu, hrow', hlt']
  · cases hp

def evField (P : Program) (t : TypeId) (x : Value) (f : Nat) : Option Out :=
  match P.underlying t, x with
  | some (.struct fields), .agg cs =>
    match fields.toList[f]? with
    | some fd => (evPart P fd.type cs.toList fd.offset).map fun v => ⟨v, [], [], []⟩
    | none => none
  | _, _ => none

theorem field_ok {t : TypeId} {x : Operand} {f : Nat} {out : Out} (ho : o.op = .field t x f) (h : evField P t (ev env x) f = some out) : StepOK P o env H out := by
  unfold evField at h
  split at h
  · rename_i fields cs hu hv
    split at h
    · rename_i fd hf
      obtain ⟨v, hp, rfl⟩ := Option.map_eq_some_iff.1 h
      refine StepOK.value fun F A ψ env1 H1 a w hr he _ => ?_
      have h1 := opd hr he (x := x) (by simp [ho, Op.operands])
      rw [hv] at h1
      obtain ⟨ys, e1, e2, e3, e4⟩ := h1.agg_inv
      obtain ⟨v', k1, k2⟩ := part_rel hp e2 e3 e4 w
      have hf' : fields[f]? = some fd := by simpa using hf
      exact ⟨v', by simp [execOp, ho, e1, Instr.field, run_underlying hu, hf', asAgg, k1], k2⟩
    · cases h
  · cases h

def evIndex (P : Program) (t : TypeId) (x i : Value) : Option Out :=
  match P.underlying t, x, i with
  | some (.array len elem), .agg cs, .int _ n =>
    match P.info? elem with
    | some inf => if 0 ≤ n ∧ n < len then (evPart P elem cs.toList (n.toNat * inf.size)).map fun v => ⟨v, [], [], []⟩ else none
    | none => none
  | _, _, _ => none

theorem index_ok {t : TypeId} {x i : Operand} {out : Out} (ho : o.op = .index t x i) (h : evIndex P t (ev env x) (ev env i) = some out) : StepOK P o env H out := by
  unfold evIndex at h
  split at h
  · rename_i len elem cs k n hu hv hi
    split at h
    · rename_i inf hinf
      split at h
      · rename_i hn
        obtain ⟨v, hp, rfl⟩ := Option.map_eq_some_iff.1 h
        refine StepOK.value fun F A ψ env1 H1 a w hr he _ => ?_
        have h1 := opd hr he (x := x) (by simp [ho, Op.operands])
        have h2 := opd hr he (x := i) (by simp [ho, Op.operands])
        rw [hv] at h1
        rw [hi] at h2
        have h3 := h2.of_atom rfl
        obtain ⟨ys, e1, e2, e3, e4⟩ := h1.agg_inv
        obtain ⟨v', k1, k2⟩ := part_rel hp e2 e3 e4 w
        exact ⟨v', by simp [execOp, ho, e1, h3, Instr.index, asIntOf, run_underlying hu, hn, sizeOf, typeInfo, hinf, k1], k2⟩
      · cases h
    · cases h
  · cases h

/-- The cells of a live row, in the world. -/
theorem row_cells {cells : List Value} {es : Nat} {more rw flat : Bool} {id : Nat} (hh : HRel F A ψ H1 w) (hr : rd H1 id = some (.row cells es more rw flat)) :
    ∀ i, i < cells.length → ∃ v', w.cell? ⟨(ψ id).blk, (ψ id).off + i, none⟩ = some v' ∧ v'.oneCell' = true ∧ VR A ψ (cells.getD i poi) v' := by
  intro i hi
  obtain ⟨_, arr, el, fz, h1, _, h3, _⟩ := (hh.live id _ hr).2.2 (vd_row (by omega))
  obtain ⟨v', e1, e2, e3⟩ := h3 i hi
  exact ⟨v', by simp [World.cell?, h1, e1], e2, e3⟩

/-- A range of them, as a list. -/
theorem row_range {cells : List Value} {es : Nat} {more rw flat : Bool} {id : Nat} (hh : HRel F A ψ H1 w) (hr : rd H1 id = some (.row cells es more rw flat)) (off n : Nat) (hn : off + n ≤ cells.length) :
    ∃ vs : List Value, vs.length = n ∧ (∀ v ∈ vs, v.oneCell' = true) ∧ w.rangeAt (ψ id).blk ((ψ id).off + off) vs ∧ ∀ i, VR A ψ (((cells.drop off).take n).getD i poi) (vs.getD i undef) := by
  have hc := row_cells hh hr
  let vs := (List.range n).map fun i => (w.cell? ⟨(ψ id).blk, (ψ id).off + (off + i), none⟩).getD undef
  have hget : ∀ i, i < n → ∃ v', vs[i]? = some v' ∧ w.cell? ⟨(ψ id).blk, (ψ id).off + (off + i), none⟩ = some v' ∧ v'.oneCell' = true ∧ VR A ψ (cells.getD (off + i) poi) v' := by
    intro i hi
    obtain ⟨v', e1, e2, e3⟩ := hc (off + i) (by omega)
    exact ⟨v', by simp [vs, hi, e1], e1, e2, e3⟩
  refine ⟨vs, by simp [vs], fun v hv => ?_, fun j v hj => ?_, fun i => ?_⟩
  · obtain ⟨i, hi, e⟩ := List.mem_iff_getElem.1 hv
    obtain ⟨v', e1, _, e2, _⟩ := hget i (by simpa [vs] using hi)
    rw [List.getElem?_eq_getElem hi] at e1
    cases e1; rw [← e]; exact e2
  · have hj' : j < n := by
      have := (List.getElem?_eq_some_iff.1 hj).1
      simpa [vs] using this
    obtain ⟨v', e1, e2, _⟩ := hget j hj'
    rw [hj] at e1; cases e1
    rw [← e2]; simp [Nat.add_assoc]
  · by_cases hi : i < n
    · obtain ⟨v', e1, _, _, e3⟩ := hget i hi
      have h1 : ((cells.drop off).take n).getD i poi = cells.getD (off + i) poi := by
        simp [List.getD_eq_getElem?_getD, hi]
      have h2 : vs.getD i undef = v' := by simp [List.getD_eq_getElem?_getD, e1]
      rw [h1, h2]; exact e3
    · have h1 : ((cells.drop off).take n).getD i poi = poi := by
        simp [List.getD_eq_getElem?_getD, List.getElem?_take, hi]
      rw [h1]; exact .poison _

def evLoad (P : Program) (H : Heap) (t : TypeId) (v : Value) : Option Out :=
  match v with
  | .pointer (some ⟨id, off, none⟩) =>
    match rd H id with
    | some (.row cells _ _ _ _) => (evPart P t cells off).map fun v => ⟨v, [], [id], []⟩
    | _ => none
  | _ => none

theorem load_ok {t : TypeId} {x : Operand} {out : Out} (ho : o.op = .load t x) (h : evLoad P H t (ev env x) = some out) : StepOK P o env H out := by
  unfold evLoad at h
  split at h
  · rename_i id off hv
    split at h
    · rename_i cells es more rw flat hrd
      obtain ⟨v, hp, rfl⟩ := Option.map_eq_some_iff.1 h
      refine StepOK.value fun F A ψ env1 H1 a w hr he hD => ?_
      have h1 := opd hr he (x := x) (by simp [ho, Op.operands])
      rw [hv] at h1
      obtain ⟨_, e1⟩ := h1.ptr_inv
      have hrd1 : rd H1 id = some (.row cells es more rw flat) := by rw [hD id (by simp), hrd]
      unfold evPart at hp
      split at hp
      · rename_i d i hu hi
        split at hp
        · rename_i hrow
          split at hp
          · rename_i hle
            cases hp
            obtain ⟨vs, k1, k2, k3, k4⟩ := row_range hr.heap hrd1 off i.size hle
            refine ⟨.agg vs.toArray, ?_, .agg _ _ (by simp [k1]; omega) (by simpa using k2) fun j => by simpa [Array.getD_eq_getD_getElem?, List.getD_eq_getElem?_getD] using k4 j⟩
            have := run_loadAt_mid w (ψ id).blk ((ψ id).off + off) t vs d k3 hu hrow (by simp [hi, k1])
            simp [execOp, ho, e1, this]
          · cases hp
        · rename_i hrow
          have hlt := (List.getElem?_eq_some_iff.1 hp).1
          obtain ⟨v', k1, k2, k3⟩ := row_cells hr.heap hrd1 off hlt
          have hrow' : d.isRow = false := by simpa using hrow
          have hg : cells.getD off poi = v := by simp [List.getD_eq_getElem?_getD, hp]
          rw [hg] at k3
          exact ⟨v', by simp [execOp, ho, e1, Instr.loadAt, Instr.sureAddr, loadVar, run_isAgg' hu, hrow', k1], k3⟩
      · cases hp
    · cases h
  · cases h

def evFieldAddr (P : Program) (t : TypeId) (x : Value) (f : Nat) : Option Out :=
  match P.underlying t, x with
  | some (.struct fields), .pointer (some ⟨id, off, none⟩) =>
    match fields.toList[f]? with
    | some fd => match P.info? fd.type with
      | some i => if i.size = 0 then none else some ⟨.pointer (some ⟨id, off + fd.offset, none⟩), [], [], []⟩
      | none => none
    | none => none
  | _, _ => none

theorem fieldAddr_ok {t : TypeId} {x : Operand} {f : Nat} {out : Out} (ho : o.op = .fieldAddr t x f) (h : evFieldAddr P t (ev env x) f = some out) : StepOK P o env H out := by
  unfold evFieldAddr at h
  split at h
  · rename_i fields id off hu hv
    split at h
    · rename_i fd hf
      split at h
      · rename_i i hi
        split at h
        · cases h
        · rename_i hz
          cases h
          refine StepOK.value fun F A ψ env1 H1 a w hr he _ => ?_
          have h1 := opd hr he (x := x) (by simp [ho, Op.operands])
          rw [hv] at h1
          obtain ⟨hA, e1⟩ := h1.ptr_inv
          have hf' : fields[f]? = some fd := by simpa using hf
          refine ⟨.pointer (some ⟨(ψ id).blk, (ψ id).off + (off + fd.offset), none⟩), ?_, .ptr _ _ hA⟩
          simp [execOp, ho, e1, Instr.fieldAt, run_underlying hu, hf', Instr.sureAddr, fieldPlace, sizeOf, typeInfo, hi, hz, Addr.add_mid, Nat.add_assoc]
      · cases h
    · cases h
  · cases h

def evIndexAddr (P : Program) (t : TypeId) (x i : Value) : Option Out :=
  match P.underlying t, x, i with
  | some (.array len elem), .pointer (some ⟨id, off, none⟩), .int _ n =>
    match P.info? elem with
    | some inf => if 0 ≤ n ∧ n < len then some ⟨.pointer (some ⟨id, off + n.toNat * inf.size, none⟩), [], [], []⟩ else none
    | none => none
  | some (.slice elem), .slice (some ⟨id, off, none⟩) len _, .int _ n =>
    match P.info? elem with
    | some inf => if 0 ≤ n ∧ n < len then some ⟨.pointer (some ⟨id, off + n.toNat * inf.size, none⟩), [], [], []⟩ else none
    | none => none
  | _, _, _ => none

theorem indexAddr_ok {t : TypeId} {x i : Operand} {out : Out} (ho : o.op = .indexAddr t x i) (h : evIndexAddr P t (ev env x) (ev env i) = some out) : StepOK P o env H out := by
  unfold evIndexAddr at h
  split at h
  · rename_i len elem id off k n hu hv hi
    split at h
    · rename_i inf hinf
      split at h
      · rename_i hn
        cases h
        refine StepOK.value fun F A ψ env1 H1 a w hr he _ => ?_
        have h1 := opd hr he (x := x) (by simp [ho, Op.operands])
        have h2 := opd hr he (x := i) (by simp [ho, Op.operands])
        rw [hv] at h1; rw [hi] at h2
        have h3 := h2.of_atom rfl
        obtain ⟨hA, e1⟩ := h1.ptr_inv
        refine ⟨.pointer (some ⟨(ψ id).blk, (ψ id).off + (off + n.toNat * inf.size), none⟩), ?_, .ptr _ _ hA⟩
        simp [execOp, ho, e1, h3, Instr.indexAt, asIntOf, run_underlying hu, Instr.sureAddr, hn, sizeOf, typeInfo, hinf, Addr.add_mid, Nat.add_assoc]
      · cases h
    · cases h
  · rename_i elem id off len cap k n hu hv hi
    split at h
    · rename_i inf hinf
      split at h
      · rename_i hn
        cases h
        refine StepOK.value fun F A ψ env1 H1 a w hr he _ => ?_
        have h1 := opd hr he (x := x) (by simp [ho, Op.operands])
        have h2 := opd hr he (x := i) (by simp [ho, Op.operands])
        rw [hv] at h1; rw [hi] at h2
        have h3 := h2.of_atom rfl
        obtain ⟨hA, ad, cap', e1, _, e0, _⟩ := h1.slice_inv
        obtain rfl := e0.resolve_left (by omega)
        refine ⟨.pointer (some ⟨(ψ id).blk, (ψ id).off + (off + n.toNat * inf.size), none⟩), ?_, .ptr _ _ hA⟩
        simp [execOp, ho, e1, h3, Instr.indexAt, asIntOf, run_underlying hu, hn, sizeOf, typeInfo, hinf, Addr.add_mid, Nat.add_assoc]
      · cases h
    · cases h
  · cases h

/-- The length. -/
def evLen (P : Program) (t : TypeId) (x : Value) : Option Out :=
  match P.underlying t, x with
  | some (.slice _), .slice _ n _ => some ⟨goInt n, [], [], []⟩
  | some .string, .string s => some ⟨goInt s.size, [], [], []⟩
  | some (.array n _), _ => some ⟨goInt n, [], [], []⟩
  | _, _ => none

theorem len_ok {t : TypeId} {x : Operand} {ts : Array TypeId} {out : Out} (ho : o.op = .call ⟨.builtin .len, #[x], ts⟩) (ht : ts.toList.head? = some t) (h : evLen P t (ev env x) = some out) : StepOK P o env H out := by
  have ht' : ts[0]? = some t := by rw [← ht]; cases ts with | mk l => cases l <;> simp
  unfold evLen at h
  split at h
  · rename_i e sa n c hu hv
    cases h
    refine StepOK.value fun F A ψ env1 H1 a w hr he _ => ?_
    have h1 := opd hr he (x := x) (by simp [ho, Op.operands, Call.operands])
    rw [hv] at h1
    refine ⟨goInt n, ?_, .atom _ rfl⟩
    obtain ⟨a', c', e1⟩ := h1.slice_len
    simp [execOp, ho, resolve, invoke, builtin, Builtin.len_, ht', e1, run_underlying hu]
  · rename_i s hu hv
    cases h
    refine StepOK.value fun F A ψ env1 H1 a w hr he _ => ?_
    have h1 := opd hr he (x := x) (by simp [ho, Op.operands, Call.operands])
    rw [hv] at h1
    have e1 := h1.of_atom rfl
    exact ⟨goInt s.size, by simp [execOp, ho, resolve, invoke, builtin, Builtin.len_, ht', e1, run_underlying hu], .atom _ rfl⟩
  · rename_i n e hu
    cases h
    refine StepOK.value fun F A ψ env1 H1 a w hr he _ => ?_
    exact ⟨goInt n, by simp [execOp, ho, resolve, invoke, builtin, Builtin.len_, ht', run_underlying hu], .atom _ rfl⟩
  · cases h

def evMakeFunc (fn : Fn) (env : List Value) (fs cs : Array Operand) : Option Out :=
  some ⟨.func fn (fs.toList.map (ev env)).toArray (cs.toList.map (ev env)).toArray, [], [], []⟩

theorem map_rel {xs : Array Operand} (h : ∀ x ∈ xs, VR A ψ (ev env x) (a.eval x)) (i : Nat) : VR A ψ (((xs.toList.map (ev env)).toArray).getD i poi) ((xs.map a.eval).getD i undef) := by
  by_cases hi : i < xs.size
  · have e1 : ((xs.toList.map (ev env)).toArray).getD i poi = ev env xs[i] := by simp [Array.getD_eq_getD_getElem?, hi]
    have e2 : (xs.map a.eval).getD i undef = a.eval xs[i] := by simp [Array.getD_eq_getD_getElem?, hi]
    rw [e1, e2]; exact h _ (by simp)
  · have e1 : ((xs.toList.map (ev env)).toArray).getD i poi = poi := by simp [Array.getD_eq_getD_getElem?, hi]
    rw [e1]; exact .poison _

theorem makeFunc_ok {fn : Fn} {fs cs : Array Operand} {out : Out} (ho : o.op = .makeFunc fn fs cs) (h : evMakeFunc fn env fs cs = some out) : StepOK P o env H out := by
  cases h
  refine StepOK.value fun F A ψ env1 H1 a w hr he _ => ⟨.func fn (fs.map a.eval) (cs.map a.eval), by simp [execOp, ho, Instr.makeFunc], ?_⟩
  refine .func _ _ _ _ _ (by simp) (by simp) (map_rel fun x hx => opd hr he (by simp [ho, Op.operands, hx])) (map_rel fun x hx => opd hr he (by simp [ho, Op.operands, hx]))

end
end
end Go.Vm
end
section
/- The operations that make or write memory. -/
namespace Go.Vm
noncomputable section

section
variable {P : Program} {o : Oper} {env env1 : List Value} {H H1 : Heap} {F : Fr P} {A : Nat → Prop} {ψ : Nat → Gh} {a : Act} {w : World}

theorem Rel.push {w1 : World} {nid : Nat} {g : Gh} {ob : AObj} (hr : Rel F A ψ env1 H1 a w) (hw : SameBut w w1 w.heap.size) (hlt : w.heap.size < w1.heap.size) (hn : ¬ A nid) (hg : g.blk = w.heap.size)
    (ho : ORel (fun id => A id ∨ id = nid) (upd ψ nid g) g w1 ob) {v v' : Value} (hv : VR (fun id => A id ∨ id = nid) (upd ψ nid g) v v') (dst : Option Tmp) (hes : EsOK g ob := by first | exact rfl | exact trivial) :
    Rel F (fun id => A id ∨ id ∈ [nid]) (upd ψ nid g) (put env1 dst v) (wr H1 nid (some ob)) (a.put dst v') w1 := by
  have hA : (fun id => A id ∨ id ∈ [nid]) = (fun id => A id ∨ id = nid) := by funext id; simp
  rw [hA]
  have hag : ∀ id, A id → (A id ∨ id = nid) ∧ upd ψ nid g id = ψ id := fun id ha => ⟨.inl ha, by
    have : id ≠ nid := fun e => hn (by rw [← e]; exact ha)
    simp [upd, this]⟩
  refine put_rel ⟨fun t => (hr.slot t).mono hag, hr.len, hr.defers, ?_⟩ hv dst
  exact hr.heap.adopt hw hlt hn (fun j oj hj hv e => by have := ((hr.heap.live j oj hj).2.2 hv).1; omega) (.inl hr.heap.fr.size) hg hes ho

theorem VR.new_ptr {nid : Nat} {g : Gh} (hg : g.off = 0) : VR (fun id => A id ∨ id = nid) (upd ψ nid g) (.pointer (some ⟨nid, 0, none⟩)) (.pointer (some ⟨g.blk, 0, none⟩)) := by
  have := VR.ptr (A := fun id => A id ∨ id = nid) (ψ := upd ψ nid g) nid 0 (.inr rfl)
  simpa [upd, hg] using this

theorem VR.new_slice {nid : Nat} {g : Gh} (hg : g.off = 0) {len cap cap' : Nat} (hc : CapRel g 0 len cap cap') :
    VR (fun id => A id ∨ id = nid) (upd ψ nid g) (.slice (some ⟨nid, 0, none⟩) len cap) (.slice (some ⟨g.blk, 0, none⟩) len cap') := by
  have := VR.slice (A := fun id => A id ∨ id = nid) (ψ := upd ψ nid g) nid 0 len cap cap' (.inr rfl) (by simpa [upd] using hc)
  simpa [upd, hg] using this

theorem alloc_get (w : World) (c : Obj) : (w.alloc c).heap[w.heap.size]? = some c := by
  show (w.heap.push c)[w.heap.size]? = _
  simp

theorem mono_new {nid : Nat} {g : Gh} (hn : ¬ A nid) : ∀ id, A id → (A id ∨ id = nid) ∧ upd ψ nid g id = ψ id := fun id ha => ⟨.inl ha, by
    have : id ≠ nid := fun e => hn (by rw [← e]; exact ha)
    simp [upd, this]⟩

theorem ORel.new {A' : Nat → Prop} {ψ' : Nat → Gh} {w1 : World} {b es : Nat} {cells : List Value} {arr : Array Value} {el : TypeId} {more flat : Bool} (hb : w1.heap[b]? = some (.cells arr el (0, 0)))
    (hs : if more then cells.length ≤ arr.size else arr.size = cells.length) (hc : ∀ i, i < cells.length → ∃ v', arr[i]? = some v' ∧ v'.oneCell' = true ∧ VR A' ψ' (cells.getD i poi) v')
    (hf : flat = true → ∀ v ∈ cells, atom v = true) : ORel A' ψ' ⟨b, 0, arr.size, es⟩ w1 (.row cells es more true flat) :=
  ⟨arr, el, (0, 0), hb, rfl, by simpa using hc, fun _ => ⟨rfl, rfl, rfl, fun hm => by simpa [hm] using hs⟩, hf⟩

/-- Cells and cells. -/
structure CR (A : Nat → Prop) (ψ : Nat → Gh) (xs ys : Array Value) : Prop where
  size : xs.size = ys.size
  one : ∀ y ∈ ys, y.oneCell' = true
  at_ : ∀ i, VR A ψ (xs.getD i poi) (ys.getD i undef)

theorem CR.of_cells {v v' : Value} (h : VR A ψ v v') (hk : okv v = true) : CR A ψ v.cells v'.cells := by
  obtain ⟨h1, h2, h3⟩ := h.cells hk
  exact ⟨h1.symm, h2, h3⟩

theorem CR.get {A' : Nat → Prop} {ψ' : Nat → Gh} {xs ys : Array Value} (h : CR A' ψ' xs ys) : ∀ i, i < xs.toList.length → ∃ v', ys[i]? = some v' ∧ v'.oneCell' = true ∧ VR A' ψ' (xs.toList.getD i poi) v' := by
  intro i hi
  have hi' : i < ys.size := by have := h.size; simp at hi; omega
  refine ⟨ys[i], by simp [hi'], h.one _ (by simp), ?_⟩
  have := h.at_ i
  have e1 : xs.toList.getD i poi = xs.getD i poi := by simp [Array.getD_eq_getD_getElem?, List.getD_eq_getElem?_getD]
  rw [e1]
  simpa [Array.getD, hi'] using this

theorem CR.mono {A' : Nat → Prop} {ψ' : Nat → Gh} (hA : ∀ id, A id → A' id ∧ ψ' id = ψ id) {xs ys : Array Value} (h : CR A ψ xs ys) : CR A' ψ' xs ys :=
  ⟨h.size, h.one, fun i => (h.at_ i).mono hA⟩

theorem CR.refl {v : Value} (hg : ground1 v = true) : CR A ψ v.cells v.cells := by
  refine CR.of_cells (.refl_ground1 hg) ?_
  cases v <;> simp_all [okv, ground1, Vm.atom]

def evAlloc (P : Program) (nid : Nat) (t : TypeId) : Option Out :=
  match P.info? t with
  | some i => match i.zero with
    | some z => if ground1 z then some ⟨.pointer (some ⟨nid, 0, none⟩), [(nid, some (.row z.cells.toList 0 false true true))], [], [nid]⟩ else none
    | none => none
  | none => none

theorem flat_zero {z : Value} (hg : ground1 z = true) : ∀ v ∈ z.cells.toList, atom v = true := by
  intro v hv
  cases hz : z with
  | agg cs => subst hz; simp only [ground1, List.all_eq_true] at hg; exact hg v hv
  | _ => subst hz; simp only [Value.cells, List.mem_cons, List.not_mem_nil, or_false] at hv; subst hv; simpa [ground1] using hg

theorem alloc_ok {t : TypeId} {nid : Nat} {out : Out} (ho : o.op = .alloc t) (h : evAlloc P nid t = some out) : StepOK P o env H out := by
  unfold evAlloc at h
  split at h
  · rename_i i hi
    split at h
    · rename_i z hz
      split at h
      · rename_i hg
        cases h
        intro F A ψ env1 H1 a w hr he hD hn K Q hK
        have hn' : ¬ A nid := hn _ (List.mem_singleton_self _)
        unfold Oper.wp
        have hrun : (execOp a.eval o).run P w = .ok (.value (.pointer (some ⟨w.heap.size, 0, none⟩))) (w.alloc (.cells z.cells t)) := by
          simp [execOp, ho, Instr.alloc, zeroValue, typeInfo, hi, hz, newVar, newRow]
        rw [hrun]
        have hc : CR (fun id => A id ∨ id = nid) (upd ψ nid ⟨w.heap.size, 0, z.cells.size, 0⟩) z.cells z.cells := CR.refl hg
        exact hK _ _ _ (hr.push (SameBut.alloc w _) (by simp) hn' rfl
          (ORel.new (el := t) (arr := z.cells) (b := w.heap.size) (alloc_get _ _) (by simp) hc.get (fun _ => flat_zero hg)) (VR.new_ptr rfl) o.dst)
      · cases h
    · cases h
  · cases h

def evBox (nid : Nat) (v : Value) : Option Out :=
  if okv v then some ⟨.pointer (some ⟨nid, 0, none⟩), [(nid, some (.row v.cells.toList 0 false true (v.cells.toList.all atom)))], [], [nid]⟩ else none

theorem box_ok {t : TypeId} {x : Operand} {nid : Nat} {out : Out} (ho : o.op = .box t x) (h : evBox nid (ev env x) = some out) : StepOK P o env H out := by
  unfold evBox at h
  split at h
  · rename_i hk
    cases h
    intro F A ψ env1 H1 a w hr he hD hn K Q hK
    have hn' : ¬ A nid := hn _ (List.mem_singleton_self _)
    have h1 := opd hr he (x := x) (by simp [ho, Op.operands])
    unfold Oper.wp
    have hrun : (execOp a.eval o).run P w = .ok (.value (.pointer (some ⟨w.heap.size, 0, none⟩))) (w.alloc (.cells (a.eval x).cells t)) := by
      simp [execOp, ho, Instr.box, newVar, newRow]
    rw [hrun]
    have hc := (CR.of_cells h1 hk).mono (mono_new (ψ := ψ) (g := ⟨w.heap.size, 0, (a.eval x).cells.size, 0⟩) hn')
    exact hK _ _ _ (hr.push (SameBut.alloc w _) (by simp) hn' rfl
      (ORel.new (el := t) (arr := (a.eval x).cells) (b := w.heap.size) (alloc_get _ _) (by simpa using hc.size.symm) hc.get (fun hf => List.all_eq_true.1 hf)) (VR.new_ptr rfl) o.dst)
  · cases h

/-! ### Stores -/
def splice (cells : List Value) (off : Nat) (cs : List Value) : List Value := cells.take off ++ (cs ++ cells.drop (off + cs.length))

theorem splice_len {cells : List Value} {off : Nat} {cs : List Value} (h : off + cs.length ≤ cells.length) : (splice cells off cs).length = cells.length := by
  simp [splice]; omega

theorem splice_get {cells : List Value} {off : Nat} {cs : List Value} (h : off + cs.length ≤ cells.length) (i : Nat) :
    (splice cells off cs).getD i poi = if off ≤ i ∧ i < off + cs.length then cs.getD (i - off) poi else cells.getD i poi := by
  simp only [splice, List.getD_eq_getElem?_getD]
  by_cases h1 : i < off
  · rw [List.getElem?_append_left (by simp; omega), if_neg (by omega), List.getElem?_take, if_pos h1]
  · rw [List.getElem?_append_right (by simp; omega)]
    have hl : (List.take off cells).length = off := by simp; omega
    rw [hl]
    by_cases h2 : i < off + cs.length
    · rw [List.getElem?_append_left (by omega), if_pos ⟨by omega, h2⟩]
    · rw [List.getElem?_append_right (by omega), if_neg (by omega), List.getElem?_drop]
      congr 2; omega

theorem splice_mem {cells : List Value} {off : Nat} {cs : List Value} {v : Value} (h : v ∈ splice cells off cs) : v ∈ cells ∨ v ∈ cs := by
  simp only [splice, List.mem_append] at h
  rcases h with h | h | h
  · exact .inl (List.mem_of_mem_take h)
  · exact .inr h
  · exact .inl (List.mem_of_mem_drop h)

/-- What 'setCells' makes of a block. -/
theorem setCells_block {b : Nat} : ∀ (vs : List Value) (off : Nat) (w : World) (arr : Array Value) (el : TypeId) (fz : Nat × Nat), w.heap[b]? = some (.cells arr el fz) → off + vs.length ≤ arr.size →
    ∃ arr', (w.setCells b off vs).heap[b]? = some (.cells arr' el fz) ∧ arr'.size = arr.size ∧ ∀ i, arr'[i]? = if off ≤ i ∧ i < off + vs.length then vs[i - off]? else arr[i]?
  | [], off, w, arr, el, fz, h, _ => ⟨arr, h, rfl, fun i => by simp [show ¬ (off ≤ i ∧ i < off) by omega]⟩
  | v :: r, off, w, arr, el, fz, h, hl => by
    have hb : b < w.heap.size := by
      rcases Nat.lt_or_ge b w.heap.size with hb | hb
      · exact hb
      · simp [Array.getElem?_eq_none hb] at h
    have h1 : (w.setCell ⟨b, off, none⟩ v).heap[b]? = some (.cells (arr.setIfInBounds off v) el fz) := by
      simp [World.setCell, Array.getElem?_modify, h]
    obtain ⟨arr', e1, e2, e3⟩ := setCells_block r (off + 1) _ _ el fz h1 (by simp at hl ⊢; omega)
    refine ⟨arr', e1, by simpa using e2, fun i => ?_⟩
    rw [e3 i]
    simp only [List.length_cons] at hl ⊢
    by_cases c1 : off + 1 ≤ i ∧ i < off + 1 + r.length
    · rw [if_pos c1, if_pos (by omega)]
      obtain ⟨j, rfl⟩ : ∃ j, i = off + 1 + j := ⟨i - (off + 1), by omega⟩
      simp [show off + 1 + j - (off + 1) = j by omega, show off + 1 + j - off = j + 1 by omega]
    · rw [if_neg c1]
      by_cases c2 : i = off
      · subst c2
        rw [if_pos (by omega)]
        simp [show i < arr.size by omega]
      · rw [if_neg (by omega), Array.getElem?_setIfInBounds_ne (by omega)]

theorem setCells_same {b : Nat} (vs : List Value) (off : Nat) (w : World) : SameBut w (w.setCells b off vs) b := by
  have tape : ∀ (vs : List Value) (off : Nat) (w : World), (w.setCells b off vs).tape = w.tape := by
    intro vs
    induction vs with
    | nil => intro _ _; rfl
    | cons v r ih => intro off w; exact ih _ _
  have size : ∀ (vs : List Value) (off : Nat) (w : World), (w.setCells b off vs).heap.size = w.heap.size := by
    intro vs
    induction vs with
    | nil => intro _ _; rfl
    | cons v r ih => intro off w; show ((w.setCell _ v).setCells b (off + 1) r).heap.size = _; rw [ih]; simp [World.setCell]
  exact ⟨World.os_setCells _ _ _ _, tape _ _ _, World.output_setCells _ _ _ _, by rw [size]; exact Nat.le_refl _, fun k hk hne => World.heap_setCells_other w b off vs hk hne⟩

/-- A row of its own, written. -/
theorem write_row {cells : List Value} {es : Nat} {more flat : Bool} {id off : Nat} {cs vs : List Value} (hh : HRel F A ψ H1 w) (hrd : rd H1 id = some (.row cells es more true flat))
    (hl : off + cs.length ≤ cells.length) (hne : 0 < cs.length) (hlen : vs.length = cs.length) (h1 : ∀ v ∈ vs, v.oneCell' = true) (hv : ∀ i, VR A ψ (cs.getD i poi) (vs.getD i undef)) :
    (∀ j, j < vs.length → (w.cell? ⟨(ψ id).blk, off + j, none⟩).isSome = true) ∧ (∀ j, j < vs.length → w.frozen? ⟨(ψ id).blk, off + j, none⟩ = false) ∧ (ψ id).off = 0 ∧
    HRel F A ψ (wr H1 id (some (.row (splice cells off cs) es more true (flat && cs.all atom)))) (w.setCells (ψ id).blk off vs) := by
  have hvd : (AObj.row cells es more true flat).vd = false := vd_row (by omega)
  obtain ⟨hA, _, hl0⟩ := hh.live id _ hrd
  obtain ⟨hlt, arr, el, fz, k1, k2, k3, k4, k5⟩ := hl0 hvd
  obtain ⟨m1, rfl, m3, m4⟩ := k4 rfl
  have hsz : cells.length ≤ arr.size := by
    rcases Nat.eq_zero_or_pos cells.length with h0 | h0
    · omega
    · obtain ⟨v', e, _⟩ := k3 (cells.length - 1) (by omega)
      rw [m1] at e
      have := (Array.getElem?_eq_some_iff.1 e).1
      omega
  have hin : off + vs.length ≤ arr.size := by omega
  refine ⟨fun j hj => ?_, fun j hj => ?_, m1, ?_⟩
  · simp [World.cell?, k1, show off + j < arr.size by omega]
  · simp [World.frozen?, k1]
  · obtain ⟨arr', e1, e2, e3⟩ := setCells_block vs off w arr el (0, 0) k1 hin
    refine hh.update hrd rfl hvd k2 (setCells_same vs off w) ?_
    refine ⟨arr', el, (0, 0), e1, k2, fun i hi => ?_, fun _ => ⟨m1, rfl, by rw [e2]; exact m3, fun hm => by rw [splice_len hl]; exact m4 hm⟩, fun hf v hv' => ?_⟩
    · rw [splice_len hl] at hi
      rw [m1, Nat.zero_add, e3 i, splice_get hl, hlen]
      split
      · rename_i hc
        have hj : i - off < vs.length := by omega
        refine ⟨vs[i - off], by simp [hj], h1 _ (by simp), ?_⟩
        have := hv (i - off)
        simpa [List.getD_eq_getElem?_getD, hj] using this
      · obtain ⟨v', f1, f2, f3⟩ := k3 i hi
        rw [m1, Nat.zero_add] at f1
        exact ⟨v', f1, f2, f3⟩
    · simp only [Bool.and_eq_true, List.all_eq_true] at hf
      rcases splice_mem hv' with hm | hm
      · exact k5 hf.1 v hm
      · exact hf.2 v hm

def evStore (P : Program) (H : Heap) (t : TypeId) (x v : Value) : Option Out :=
  match x with
  | .pointer (some ⟨id, off, none⟩) =>
    match rd H id, P.info? t with
    | some (.row cells es more true flat), some i =>
      if okv v && decide (v.cells.toList.length = i.size) && decide (off + v.cells.toList.length ≤ cells.length) && decide (0 < v.cells.toList.length) then
        some ⟨undef, [(id, some (.row (splice cells off v.cells.toList) es more true (flat && v.cells.toList.all atom)))], [id], []⟩
      else none
    | _, _ => none
  | _ => none

theorem Rel.heap_step {w1 : World} {H2 : Heap} (hr : Rel F A ψ env1 H1 a w) (h : HRel F A ψ H2 w1) {v v' : Value} (hv : VR A ψ v v') (dst : Option Tmp) : Rel F A ψ (put env1 dst v) H2 (a.put dst v') w1 :=
  put_rel ⟨hr.slot, hr.len, hr.defers, h⟩ hv dst

theorem store_ok {t : TypeId} {x y : Operand} {out : Out} (ho : o.op = .store t x y) (h : evStore P H t (ev env x) (ev env y) = some out) : StepOK P o env H out := by
  unfold evStore at h
  split at h
  · rename_i id off hv
    split at h
    · rename_i cells es more flat i hrd hi
      split at h
      · rename_i hcond
        simp only [Bool.and_eq_true, decide_eq_true_eq] at hcond
        obtain ⟨⟨⟨hk, hsz⟩, hle⟩, hne⟩ := hcond
        cases h
        intro F A ψ env1 H1 a w hr he hD hn K Q hK
        have h1 := opd hr he (x := x) (by simp [ho, Op.operands])
        have h2 := opd hr he (x := y) (by simp [ho, Op.operands])
        rw [hv] at h1
        obtain ⟨hA, e1⟩ := h1.ptr_inv
        have hrd1 : rd H1 id = some (.row cells es more true flat) := by rw [hD id (by simp), hrd]
        have hc := CR.of_cells h2 hk
        have hs : (a.eval y).cells.toList.length = (ev env y).cells.toList.length := by simpa using hc.size.symm
        obtain ⟨k1, k2, k3, k4⟩ := write_row (off := off) (cs := (ev env y).cells.toList) (vs := (a.eval y).cells.toList) hr.heap hrd1 hle hne hs (by simpa using hc.one)
          (fun j => by simpa [Array.getD_eq_getD_getElem?, List.getD_eq_getElem?_getD] using hc.at_ j)
        unfold Oper.wp
        have hst := run_storeCells_cells (P := P) (ψ id).blk off (a.eval y).cells.toList 0 w (by simpa using k1) (by simpa using k2) (by simpa using hc.one)
        simp only [Nat.add_zero] at hst
        have hrun : (execOp a.eval o).run P w = .ok .skip (w.setCells (ψ id).blk off (a.eval y).cells.toList) := by
          have hs' : (a.eval y).cells.size = i.size := by simpa using hs.trans hsz
          simp [execOp, ho, e1, k3, Instr.storeAt, Instr.sureAddr, storeVar, sizeOf, typeInfo, hi, hs', hst]
        rw [hrun]
        have := hr.heap_step (H2 := _) k4 (v := undef) .refl_undef o.dst
        exact hK ψ _ _ (A_nil this)
      · cases h
    · cases h
  · cases h

end
end
end Go.Vm
end
section
/- build, buildSlice, makeSlice, slice. -/
namespace Go.Vm
noncomputable section

section
variable {P : Program} {o : Oper} {env env1 : List Value} {H H1 : Heap} {F : Fr P} {A : Nat → Prop} {ψ : Nat → Gh} {a : Act} {w : World}

theorem CR.set {xs ys : Array Value} (h : CR A ψ xs ys) {c c' : Value} (hc : VR A ψ c c') (h1 : c'.oneCell' = true) (k : Nat) : CR A ψ (xs.setIfInBounds k c) (ys.setIfInBounds k c') := by
  refine ⟨by simpa using h.size, fun y hy => ?_, fun i => ?_⟩
  · rcases Array.mem_or_eq_of_mem_setIfInBounds hy with hm | hm
    · exact h.one y hm
    · rw [hm]; exact h1
  · by_cases hk : k < xs.size
    · have hk' : k < ys.size := by have := h.size; omega
      by_cases e : k = i
      · subst e; simpa [Array.getD_eq_getD_getElem?, hk, hk'] using hc
      · simpa [Array.getD_eq_getD_getElem?, Array.getElem?_setIfInBounds_ne e] using h.at_ i
    · have hk' : ¬ k < ys.size := by have := h.size; omega
      have e1 : xs.setIfInBounds k c = xs := by simp [Array.setIfInBounds, hk]
      have e2 : ys.setIfInBounds k c' = ys := by simp [Array.setIfInBounds, hk']
      rw [e1, e2]; exact h.at_ i

theorem CR.fold (off : Nat) : ∀ (cs cs' : List Value) (k : Nat), cs.length = cs'.length → (∀ i, VR A ψ (cs.getD i poi) (cs'.getD i undef)) → (∀ y ∈ cs', y.oneCell' = true) → ∀ xs ys : Array Value, CR A ψ xs ys →
    CR A ψ ((cs.zipIdx k).foldl (fun cs p => cs.setIfInBounds (off + p.2) p.1) xs) ((cs'.zipIdx k).foldl (fun cs p => cs.setIfInBounds (off + p.2) p.1) ys)
  | [], [], _, _, _, _, _, _, h => h
  | c :: cs, c' :: cs', k, hl, hv, h1, xs, ys, h => by
    simp only [List.zipIdx_cons, List.foldl_cons]
    refine CR.fold off cs cs' (k + 1) (by simpa using hl) (fun i => by simpa using hv (i + 1)) (fun y hy => h1 y (by simp [hy])) _ _ (h.set (by simpa using hv 0) (h1 _ (by simp)) _)
  | [], _ :: _, _, h, _, _, _, _, _ => by simp at h
  | _ :: _, [], _, h, _, _, _, _, _ => by simp at h

theorem fill_rel (place : Nat → Option (Nat × Nat)) : ∀ (ps qs : List (Nat × Value)), ps.length = qs.length → (∀ (i : Nat) (p q : Nat × Value), ps[i]? = some p → qs[i]? = some q → p.1 = q.1 ∧ okv p.2 = true ∧ VR A ψ p.2 q.2) →
    ∀ (xs ys : Array Value), CR A ψ xs ys → ∀ r, Instr.fill place xs ps = some r → ∃ r', Instr.fill place ys qs = some r' ∧ CR A ψ r r'
  | [], [], _, _, xs, ys, h, r, hr => by simp [Instr.fill] at hr ⊢; subst hr; exact h
  | p :: ps, q :: qs, hl, hpq, xs, ys, h, r, hr => by
    obtain ⟨h1, h2, h3⟩ := hpq 0 p q (by simp) (by simp)
    obtain ⟨i, v⟩ := p
    obtain ⟨j, u⟩ := q
    simp only at h1 h2 h3
    subst h1
    have hc := CR.of_cells h3 h2
    simp only [Instr.fill] at hr ⊢
    cases hp : place i with
    | none => simp [hp] at hr
    | some sz =>
      obtain ⟨off, size⟩ := sz
      simp only [hp] at hr ⊢
      by_cases hcond : (decide (v.cells.size ≠ size) || decide (off + v.cells.size > xs.size)) = true
      · rw [if_pos hcond] at hr; cases hr
      · rw [if_neg hcond] at hr
        have hcond' : ¬ (decide (u.cells.size ≠ size) || decide (off + u.cells.size > ys.size)) = true := by rw [← hc.size, ← h.size]; exact hcond
        rw [if_neg hcond']
        refine fill_rel place ps qs (by simpa using hl) (fun k p q hp hq => hpq (k + 1) p q (by simpa using hp) (by simpa using hq)) _ _ ?_ r hr
        have := CR.fold (A := A) (ψ := ψ) off v.cells.toList u.cells.toList 0 (by simpa using hc.size) (fun i => by simpa [Array.getD_eq_getD_getElem?, List.getD_eq_getElem?_getD] using hc.at_ i) (by simpa using hc.one) xs ys h
        rw [← Array.foldl_toList, ← Array.foldl_toList, Array.toList_zipIdx, Array.toList_zipIdx]
        exact this
  | [], _ :: _, h, _, _, _, _, _, _ => by simp at h
  | _ :: _, [], h, _, _, _, _, _, _ => by simp at h

def vparts (env : List Value) (ps : Array (Nat × Operand)) : List (Nat × Value) := ps.toList.map fun p => (p.1, ev env p.2)

theorem parts_rel {ps : Array (Nat × Operand)} (hr : Rel F A ψ env1 H1 a w) (he : ∀ x ∈ ps.toList.map (·.2), ev env1 x = ev env x) (hk : (vparts env ps).all (fun p => okv p.2) = true) :
    (vparts env ps).length = (ps.map fun (i, x) => (i, a.eval x)).toList.length ∧ ∀ (i : Nat) (p q : Nat × Value), (vparts env ps)[i]? = some p → (ps.map fun (i, x) => (i, a.eval x)).toList[i]? = some q → p.1 = q.1 ∧ okv p.2 = true ∧ VR A ψ p.2 q.2 := by
  refine ⟨by simp [vparts], fun i p q hp hq => ?_⟩
  have hp' := hp
  simp only [vparts, List.getElem?_map, Option.map_eq_some_iff] at hp
  obtain ⟨x, hx, rfl⟩ := hp
  have hx' : ps[i]? = some x := by simpa using hx
  simp [hx'] at hq
  subst hq
  refine ⟨rfl, (List.all_eq_true.1 hk) _ (List.mem_of_getElem? hp'), ?_⟩
  have hm : x.2 ∈ ps.toList.map (·.2) := List.mem_map.2 ⟨x, List.mem_of_getElem? hx, rfl⟩
  show VR A ψ (ev env x.2) _
  rw [← he _ hm]
  exact hr.ev x.2

/-- Where the fields lie. -/
def places (P : Program) : List Field → Option (List (Nat × Nat))
  | [] => some []
  | f :: r => match P.info? f.type, places P r with
    | some i, some l => some ((f.offset, i.size) :: l)
    | _, _ => none

theorem run_places (w : World) : ∀ (fs : List Field) (l : List (Nat × Nat)), places P fs = some l → (fs.mapM (m := Sem) fun f => do pure (f.offset, ← sizeOf f.type)).run P w = .ok l w
  | [], l, h => by simp [places] at h; subst h; simp
  | f :: r, l, h => by
    simp only [places] at h
    split at h
    · rename_i i l' hi hl
      cases h
      have h2 := run_places w r l' hl
      have h1 : (do pure (f.offset, ← sizeOf f.type) : Sem (Nat × Nat)).run P w = .ok (f.offset, i.size) w := by simp [sizeOf, typeInfo, hi]
      rw [List.mapM_cons, Sem.run_bind, h1, Result.andThen_ok, Sem.run_bind, h2]
      rfl
    · cases h

def evBuild (P : Program) (env : List Value) (t : TypeId) (ps : Array (Nat × Operand)) : Option Out :=
  match P.underlying t, P.info? t with
  | some (.struct fields), some i =>
    match i.zero, places P fields.toList with
    | some z, some pl =>
      if ground1 z && (vparts env ps).all (fun p => okv p.2) then (Instr.fill (fun k => pl[k]?) z.cells (vparts env ps)).map fun r => ⟨.agg r, [], [], []⟩ else none
    | _, _ => none
  | some (.array _ elem), some i =>
    match i.zero, P.info? elem with
    | some z, some ie =>
      if ground1 z && (vparts env ps).all (fun p => okv p.2) then (Instr.fill (fun k => some (k * ie.size, ie.size)) z.cells (vparts env ps)).map fun r => ⟨.agg r, [], [], []⟩ else none
    | _, _ => none
  | _, _ => none

theorem build_ok {t : TypeId} {ps : Array (Nat × Operand)} {out : Out} (ho : o.op = .build t ps) (h : evBuild P env t ps = some out) : StepOK P o env H out := by
  unfold evBuild at h
  split at h
  · rename_i fields i hu hi
    split at h
    · rename_i z pl hz hpl
      split at h
      · rename_i hcond
        simp only [Bool.and_eq_true] at hcond
        obtain ⟨hg, hk⟩ := hcond
        obtain ⟨r, hf, rfl⟩ := Option.map_eq_some_iff.1 h
        refine StepOK.value fun F A ψ env1 H1 a w hr he _ => ?_
        obtain ⟨hl, hp⟩ := parts_rel hr (fun x hx => he x (by simpa [ho, Op.operands] using hx)) hk
        obtain ⟨r', e1, e2⟩ := fill_rel _ _ _ hl hp _ _ (CR.refl hg) r hf
        refine ⟨.agg r', ?_, .agg _ _ e2.size e2.one e2.at_⟩
        have hpl' : (fields.mapM (m := Sem) fun f => do pure (f.offset, ← sizeOf f.type)).run P w = .ok pl.toArray w := by
          have := run_places (P := P) w fields.toList pl hpl
          rw [Array.mapM_eq_mapM_toList]
          simp only [Sem.run_map, this, Result.andThen_ok]
        have e1' : Instr.fill (fun x => pl.toArray[x]?) z.cells (ps.map fun (i, x) => (i, a.eval x)).toList = some r' := by
          rw [← e1]; congr 1; funext k; simp
        simp only [execOp, ho, Instr.build, zeroValue, typeInfo, Sem.run_bind, run_program, Result.andThen_ok, hi, Sem.run_pure, hz, run_underlying hu, hpl', e1']
      · cases h
    · cases h
  · rename_i n elem i hu hi
    split at h
    · rename_i z ie hz hie
      split at h
      · rename_i hcond
        simp only [Bool.and_eq_true] at hcond
        obtain ⟨hg, hk⟩ := hcond
        obtain ⟨r, hf, rfl⟩ := Option.map_eq_some_iff.1 h
        refine StepOK.value fun F A ψ env1 H1 a w hr he _ => ?_
        obtain ⟨hl, hp⟩ := parts_rel hr (fun x hx => he x (by simpa [ho, Op.operands] using hx)) hk
        obtain ⟨r', e1, e2⟩ := fill_rel _ _ _ hl hp _ _ (CR.refl hg) r hf
        refine ⟨.agg r', ?_, .agg _ _ e2.size e2.one e2.at_⟩
        simp only [execOp, ho, Instr.build, zeroValue, typeInfo, sizeOf, Sem.run_bind, run_program, Result.andThen_ok, hi, hie, Sem.run_pure, hz, run_underlying hu, e1]
      · cases h
    · cases h
  · cases h

/-- Zero cells, n of them. -/
def zrow (z : Array Value) (n : Nat) : Array Value := (Array.range n).map (z[· % z.size]!)

theorem zrow_atoms {z : Value} (hg : ground1 z = true) (n : Nat) (hz : z.cells.size ≠ 0) : ∀ v ∈ zrow z.cells n, atom v = true := by
  intro v hv
  obtain ⟨i, hi, rfl⟩ := Array.mem_map.1 hv
  have hlt : i % z.cells.size < z.cells.size := Nat.mod_lt _ (by omega)
  rw [getElem!_pos z.cells _ hlt]
  exact flat_zero hg _ (by simp)

theorem CR.atoms {xs : Array Value} (h : ∀ v ∈ xs, atom v = true) : CR A ψ xs xs := by
  refine ⟨rfl, fun y hy => ?_, fun i => ?_⟩
  · have := h y hy
    cases y <;> simp_all [Vm.atom, Value.oneCell']
  · by_cases hi : i < xs.size
    · have e1 : xs.getD i poi = xs[i] := by simp [Array.getD, hi]
      have e2 : xs.getD i undef = xs[i] := by simp [Array.getD, hi]
      rw [e1, e2]; exact .atom _ (h _ (by simp))
    · have e1 : xs.getD i poi = poi := by simp [Array.getD, hi]
      rw [e1]; exact .poison _

def evBuildSlice (P : Program) (env : List Value) (nid : Nat) (t : TypeId) (n : Nat) (ps : Array (Nat × Operand)) : Option Out :=
  match P.underlying t with
  | some (.slice elem) =>
    match P.info? elem with
    | some ie =>
      match ie.zero with
      | some z =>
        if ground1 z && (vparts env ps).all (fun p => okv p.2) && decide (n * ie.size ≤ 2 ^ 24) && decide (z.cells.size ≠ 0) then
          match Instr.fill (fun k => some (k * ie.size, ie.size)) (zrow z.cells (n * ie.size)) (vparts env ps) with
          | some r => some ⟨.slice (some ⟨nid, 0, none⟩) n n, [(nid, some (.row r.toList ie.size false true (r.toList.all atom)))], [], [nid]⟩
          | none => none
        else none
      | none => none
    | none => none
  | _ => none

theorem buildSlice_ok {t : TypeId} {n nid : Nat} {ps : Array (Nat × Operand)} {out : Out} (ho : o.op = .buildSlice t n ps) (h : evBuildSlice P env nid t n ps = some out) : StepOK P o env H out := by
  unfold evBuildSlice at h
  split at h
  · rename_i elem hu
    split at h
    · rename_i ie hie
      split at h
      · rename_i z hz
        split at h
        · rename_i hcond
          simp only [Bool.and_eq_true, decide_eq_true_eq] at hcond
          obtain ⟨⟨⟨hg, hk⟩, h24⟩, hzc⟩ := hcond
          split at h
          · rename_i r hf
            cases h
            intro F A ψ env1 H1 a w hr he hD hn K Q hK
            have hn' : ¬ A nid := hn _ (List.mem_singleton_self _)
            obtain ⟨hl, hp⟩ := parts_rel hr (fun x hx => he x (by simpa [ho, Op.operands] using hx)) hk
            obtain ⟨r', e1, e2⟩ := fill_rel _ _ _ hl hp _ _ (CR.atoms (zrow_atoms hg _ hzc)) r hf
            unfold Oper.wp
            have hrun : (execOp a.eval o).run P w = .ok (.value (.slice (some ⟨w.heap.size, 0, none⟩) n n)) (w.alloc (.cells r' elem)) := by
              have h24' : ¬ n * ie.size > 2 ^ 24 := by omega
              by_cases h0 : n * ie.size = 0
              · have e1' : Instr.fill (fun i => some (i * ie.size, ie.size)) ((Array.range (n * ie.size)).map fun x => (#[] : Array Value)[x % (#[] : Array Value).size]!) (ps.map fun (i, x) => (i, a.eval x)).toList = some r' := by
                  rw [← e1]; congr 1; rw [h0]; simp [zrow]
                simp only [execOp, ho, Instr.buildSlice, zeroValue, typeInfo, sizeOf, Sem.run_bind, run_program, Result.andThen_ok, hie, Sem.run_pure, run_underlying hu, if_neg h24', if_pos h0, e1', newRow, run_newObj]
                rfl
              · simp only [execOp, ho, Instr.buildSlice, zeroValue, typeInfo, sizeOf, Sem.run_bind, run_program, Result.andThen_ok, hie, Sem.run_pure, hz, run_underlying hu, if_neg h24', if_neg h0, newRow]
                have e1' : Instr.fill (fun i => some (i * ie.size, ie.size)) ((Array.range (n * ie.size)).map fun x => z.cells[x % z.cells.size]!) (ps.map fun (i, x) => (i, a.eval x)).toList = some r' := e1
                simp only [e1', Sem.run_bind, run_newObj, Result.andThen_ok, Sem.run_pure]
                rfl
            rw [hrun]
            have hc := e2.mono (mono_new (ψ := ψ) (g := ⟨w.heap.size, 0, r'.size, ie.size⟩) hn')
            exact hK _ _ _ (hr.push (SameBut.alloc w _) (by simp) hn' rfl
              (ORel.new (el := elem) (arr := r') (b := w.heap.size) (alloc_get _ _) (by simpa using hc.size.symm) hc.get (fun hf => List.all_eq_true.1 hf)) (VR.new_slice rfl (.inl ⟨rfl, Nat.le_refl _⟩)) o.dst)
          · cases h
        · cases h
      · cases h
    · cases h
  · cases h

def evMakeSlice (P : Program) (nid : Nat) (t : TypeId) (l c : Value) : Option Out :=
  match P.underlying t, l, c with
  | some (.slice elem), .int _ l, .int _ c =>
    match P.info? elem with
    | some ie =>
      match ie.zero with
      | some z =>
        if ground1 z && decide (0 ≤ l ∧ l ≤ c ∧ c ≤ 9223372036854775807 ∧ ie.bytes * c ≤ 2 ^ 48) && decide (z.cells.size ≠ 0) then
          some ⟨.slice (some ⟨nid, 0, none⟩) l.toNat c.toNat, [(nid, some (.row (zrow z.cells (c.toNat * ie.size)).toList ie.size false true true))], [], [nid]⟩
        else none
      | none => none
    | none => none
  | _, _, _ => none

theorem wrap_i64 {n : Int} (h0 : 0 ≤ n) (h1 : n ≤ 9223372036854775807) : IntKind.i64.wrap n = n := by
  rw [IntKind.wrap_i64]; omega

theorem makeSlice_ok {t : TypeId} {nid : Nat} {x y : Operand} {out : Out} (ho : o.op = .makeSlice t x y) (h : evMakeSlice P nid t (ev env x) (ev env y) = some out) : StepOK P o env H out := by
  unfold evMakeSlice at h
  split at h
  · rename_i elem kl l kc c hu hl hc
    split at h
    · rename_i ie hie
      split at h
      · rename_i z hz
        split at h
        · rename_i hcond
          simp only [Bool.and_eq_true, decide_eq_true_eq] at hcond
          obtain ⟨⟨hg, h0, h1, h2, h3⟩, hzc⟩ := hcond
          cases h
          intro F A ψ env1 H1 a w hr he hD hn K Q hK
          have hn' : ¬ A nid := hn _ (List.mem_singleton_self _)
          have q1 := opd hr he (x := x) (by simp [ho, Op.operands])
          have q2 := opd hr he (x := y) (by simp [ho, Op.operands])
          rw [hl] at q1; rw [hc] at q2
          have r1 := q1.of_atom rfl
          have r2 := q2.of_atom rfl
          have w1 := wrap_i64 h0 (by omega)
          have w2 := wrap_i64 (n := c) (by omega) h2
          unfold Oper.wp
          have hrun : (execOp a.eval o).run P w = .ok (.value (.slice (some ⟨w.heap.size, 0, none⟩) l.toNat c.toNat)) (w.alloc (.cells (zrow z.cells (c.toNat * ie.size)) elem)) := by
            have := run_make (P := P) w t elem ie z hu hie hz kl kc l c h0 h1 (by omega) h2
            simp [execOp, ho, r1, r2, this]
            rfl
          rw [hrun]
          have hat := zrow_atoms hg (c.toNat * ie.size) hzc
          have hcr : CR (fun id => A id ∨ id = nid) (upd ψ nid ⟨w.heap.size, 0, (zrow z.cells (c.toNat * ie.size)).size, ie.size⟩) (zrow z.cells (c.toNat * ie.size)) (zrow z.cells (c.toNat * ie.size)) := CR.atoms hat
          exact hK _ _ _ (hr.push (SameBut.alloc w _) (by simp) hn' rfl
            (ORel.new (el := elem) (arr := zrow z.cells (c.toNat * ie.size)) (b := w.heap.size) (alloc_get _ _) (by simp) hcr.get (fun _ v hv => hat v (by simpa using hv))) (VR.new_slice rfl (.inl ⟨rfl, by omega⟩)) o.dst)
        · cases h
      · cases h
    · cases h
  · cases h

end
end
end Go.Vm
end
section
/- slice expressions, append, copy, ranging over a string. -/
namespace Go.Vm
noncomputable section

section
variable {P : Program} {o : Oper} {env env1 : List Value} {H H1 : Heap} {F : Fr P} {A : Nat → Prop} {ψ : Nat → Gh} {a : Act} {w : World}

def natOf : Value → Option Nat
  | .int _ n => if 0 ≤ n then some n.toNat else none
  | _ => none

/-- A bound, or what stands for it. -/
def bval (env : List Value) (d : Nat) : Option Operand → Option Nat
  | none => some d
  | some x => natOf (ev env x)

theorem bval_spec {x : Option Operand} {d n : Nat} (hr : Rel F A ψ env1 H1 a w) (he : ∀ y, x = some y → ev env1 y = ev env y) (h : bval env d x = some n) :
    (x.map a.eval = none ∧ n = d) ∨ ∃ k m, x.map a.eval = some (.int k m) ∧ 0 ≤ m ∧ m.toNat = n := by
  cases x with
  | none => simp [bval] at h; exact .inl ⟨rfl, h.symm⟩
  | some y =>
    simp only [bval, natOf] at h
    split at h
    · rename_i k m hv
      split at h
      · rename_i h0
        cases h
        have := hr.ev y
        rw [he y rfl, hv] at this
        exact .inr ⟨k, m, by simp [this.of_atom rfl], h0, rfl⟩
      · cases h
    · cases h

theorem run_bounds (isSlice : Bool) (len cap : Nat) (low high max : Option Value) (l h m : Nat) (hm : (max = none ∧ m = cap) ∨ ∃ k n, max = some (.int k n) ∧ 0 ≤ n ∧ n.toNat = m) (hmc : m ≤ cap)
    (hh : (high = none ∧ h = len ∧ max = none) ∨ ∃ k n, high = some (.int k n) ∧ 0 ≤ n ∧ n.toNat = h) (hhm : h ≤ m)
    (hl : (low = none ∧ l = 0) ∨ ∃ k n, low = some (.int k n) ∧ 0 ≤ n ∧ n.toNat = l) (hlh : l ≤ h) (w : World) :
    (Instr.sliceBounds isSlice len cap low high max).run P w = .ok (l, h, m) w := by
  have sb : ∀ (k : IntKind) (n : Int) (y : Nat) (c : BoundsCode), 0 ≤ n → n.toNat ≤ y → (Instr.sliceBound (.int k n) y c).run P w = .ok n.toNat w := fun k n y c h0 h1 => by
    have : n ≤ (y : Int) := by omega
    simp [Instr.sliceBound, asIntOf, h0, this]
  rcases hm with ⟨rfl, rfl⟩ | ⟨km, nm, rfl, m0, rfl⟩ <;> rcases hh with ⟨rfl, rfl, hx⟩ | ⟨kh, nh, rfl, h0, rfl⟩ <;> rcases hl with ⟨rfl, rfl⟩ | ⟨kl, nl, rfl, l0, rfl⟩ <;>
    first
      | (cases hx; done)
      | simp [Instr.sliceBounds, *]

theorem Addr_ite (b o l s : Nat) (c : Prop) [Decidable c] : (if c then (⟨b, o, none⟩ : Addr) else (⟨b, o, none⟩ : Addr).add (l * s)) = ⟨b, if c then o else o + l * s, none⟩ := by
  split <;> simp [Addr.add_mid]

/-- A slice expression. -/
def evSlice (P : Program) (env : List Value) (H : Heap) (t : TypeId) (x : Value) (lo hi mx : Option Operand) : Option Out :=
  match P.underlying t, x with
  | some (.array n elem), .pointer (some ⟨id, off, none⟩) =>
    match P.info? elem, bval env n mx, bval env n hi, bval env 0 lo with
    | some ie, some m, some h, some l =>
      if m ≤ n ∧ h ≤ m ∧ l ≤ h ∧ (mx = none ∨ hi ≠ none) then some ⟨.slice (some ⟨id, if m = l then off else off + l * ie.size, none⟩) (h - l) (m - l), [], [], []⟩ else none
    | _, _, _, _ => none
  | some (.slice elem), .slice (some ⟨id, off, none⟩) len cap =>
    match P.info? elem, bval env cap mx, bval env len hi, bval env 0 lo with
    | some ie, some m, some h, some l =>
        if cap = big then
        if mx = none ∧ h ≤ len ∧ l ≤ h then some ⟨.slice (some ⟨id, off + l * ie.size, none⟩) (h - l) big, [], [], []⟩ else none
      else if cap ≠ 0 ∨ len = 0 then
        if m ≤ cap ∧ h ≤ m ∧ l ≤ h ∧ (mx = none ∨ hi ≠ none) then some ⟨.slice (some ⟨id, if m = l then off else off + l * ie.size, none⟩) (h - l) (m - l), [], [], []⟩ else none
      else if mx = none then
        match rd H id with
        | some (.row _ es _ _ _) =>
          if es = ie.size ∧ h ≤ len ∧ l < h then some ⟨.slice (some ⟨id, off + l * ie.size, none⟩) (h - l) 0, [], [id], []⟩
          else if h ≤ len ∧ l = h then some ⟨.slice none 0 1, [], [], []⟩ else none
        | _ => none
      else if m ≤ len ∧ h ≤ m ∧ l ≤ h ∧ hi ≠ none then some ⟨.slice (some ⟨id, if m = l then off else off + l * ie.size, none⟩) (h - l) (m - l), [], [], []⟩ else none
    | _, _, _, _ => none
  | some (.slice elem), .slice none 0 cap =>
    match P.info? elem, bval env 0 mx, bval env 0 hi, bval env 0 lo with
    | some _, some 0, some 0, some 0 => if mx = none ∨ hi ≠ none then some ⟨.slice none 0 cap, [], [], []⟩ else none
    | _, _, _, _ => none
  | _, _ => none

theorem opt_hi {x : Option Operand} {y : Option Operand} (h : y = none ∨ x ≠ none) (hx : x.map a.eval = none) : y.map a.eval = none := by
  rcases h with h | h
  · rw [h]; rfl
  · cases x <;> simp_all

/-- A part of a slice, only to be looked at. -/
theorem slice_view {t elem : TypeId} {x : Operand} {lo hi : Option Operand} {id off len cap l hh : Nat} {ie : TypeInfo} (ho : o.op = .slice t x lo hi none) (hu : P.underlying t = some (.slice elem)) (hv : ev env x = .slice (some ⟨id, off, none⟩) len cap) (hie : P.info? elem = some ie)
    (hhi : bval env len hi = some hh) (hlo : bval env 0 lo = some l) (h1 : hh ≤ len) (h2 : l ≤ hh) : StepOK P o env H ⟨.slice (some ⟨id, off + l * ie.size, none⟩) (hh - l) big, [], [], []⟩ := by
  have hops : ∀ y, (y = x ∨ lo = some y ∨ hi = some y) → y ∈ o.op.operands := by
    intro y hy
    simp only [ho, Op.operands]
    rcases hy with rfl | rfl | rfl <;> simp
  refine StepOK.value fun F A ψ env1 H1 a w hr he _ => ?_
  have hx := opd hr he (x := x) (hops _ (.inl rfl))
  rw [hv] at hx
  obtain ⟨hA, ad, cap', e1, hle, e0, _⟩ := hx.slice_inv
  have b2 := bval_spec hr (fun y hy => he y (hops y (.inr (.inr hy)))) hhi
  have b3 := bval_spec hr (fun y hy => he y (hops y (.inr (.inl hy)))) hlo
  have hb := run_bounds (P := P) true len cap' (lo.map a.eval) (hi.map a.eval) none l hh cap' (.inl ⟨rfl, rfl⟩) (Nat.le_refl _) (b2.imp_left fun h => ⟨h.1, h.2, rfl⟩) (by omega) b3 (by omega) w
  refine ⟨.slice (if cap' = l then ad else ad.map (·.add (l * ie.size))) (hh - l) (cap' - l), ?_, .view _ _ _ _ _ hA (by omega) ?_⟩
  · simp [execOp, ho, e1, Instr.sliceAt, Instr.slice, run_underlying hu, hb, sizeOf, typeInfo, hie]
  · rcases Nat.eq_zero_or_pos (hh - l) with h0 | h0
    · exact .inl h0
    · refine .inr ?_
      have had := e0.resolve_left (by omega)
      rw [if_neg (by omega), had]
      simp [Addr.add_mid, Nat.add_assoc]

theorem slice_ok {t : TypeId} {x : Operand} {lo hi mx : Option Operand} {out : Out} (ho : o.op = .slice t x lo hi mx) (h : evSlice P env H t (ev env x) lo hi mx = some out) : StepOK P o env H out := by
  have hops : ∀ y, (y = x ∨ lo = some y ∨ hi = some y ∨ mx = some y) → y ∈ o.op.operands := by
    intro y hy
    simp only [ho, Op.operands]
    rcases hy with rfl | rfl | rfl | rfl <;> simp
  unfold evSlice at h
  split at h
  · rename_i n elem id off hu hv
    split at h
    · rename_i ie m hh l hie hm hhi hlo
      split at h
      · rename_i hc
        cases h
        refine StepOK.value fun F A ψ env1 H1 a w hr he _ => ?_
        have h1 := opd hr he (x := x) (hops _ (.inl rfl))
        rw [hv] at h1
        obtain ⟨hA, e1⟩ := h1.ptr_inv
        have b1 := bval_spec hr (fun y hy => he y (hops y (.inr (.inr (.inr hy))))) hm
        have b2 := bval_spec hr (fun y hy => he y (hops y (.inr (.inr (.inl hy))))) hhi
        have b3 := bval_spec hr (fun y hy => he y (hops y (.inr (.inl hy)))) hlo
        have hb := run_bounds (P := P) false n n (lo.map a.eval) (hi.map a.eval) (mx.map a.eval) l hh m b1 hc.1 (b2.imp_left fun h => ⟨h.1, h.2, opt_hi hc.2.2.2 h.1⟩) hc.2.1 b3 hc.2.2.1 w
        refine ⟨.slice (some ⟨(ψ id).blk, (ψ id).off + (if m = l then off else off + l * ie.size), none⟩) (hh - l) (m - l), ?_, .slice _ _ _ _ _ hA (.inl ⟨rfl, by omega⟩)⟩
        simp [execOp, ho, e1, Instr.sliceAt, run_underlying hu, Instr.sureAddr, hb, sizeOf, typeInfo, hie, Addr_ite]
        split <;> simp [Nat.add_assoc]
      · cases h
    · cases h
  · rename_i elem id off len cap hu hv
    split at h
    · rename_i ie m hh l hie hm hhi hlo
      split at h
      · rename_i hbig
        split at h
        · rename_i hc
          cases h
          obtain ⟨rfl, c1, c2⟩ := hc
          exact slice_view ho hu hv hie hhi hlo c1 c2
        · cases h
      rename_i hbig
      split at h
      · rename_i hk
        split at h
        · rename_i hc
          cases h
          refine StepOK.value fun F A ψ env1 H1 a w hr he _ => ?_
          have h1 := opd hr he (x := x) (hops _ (.inl rfl))
          rw [hv] at h1
          obtain ⟨hA, ad, cap', e1, _, _, hcr⟩ := h1.slice_inv
          have hcap : cap' = cap := by
            rcases hcr with ⟨h | h, _⟩ | h | h
            · exact h.1
            · omega
            · omega
            · exact absurd h hbig
          subst hcap
          have b1 := bval_spec hr (fun y hy => he y (hops y (.inr (.inr (.inr hy))))) hm
          have b2 := bval_spec hr (fun y hy => he y (hops y (.inr (.inr (.inl hy))))) hhi
          have b3 := bval_spec hr (fun y hy => he y (hops y (.inr (.inl hy)))) hlo
          have hb := run_bounds (P := P) true len cap' (lo.map a.eval) (hi.map a.eval) (mx.map a.eval) l hh m b1 hc.1 (b2.imp_left fun h => ⟨h.1, h.2, opt_hi hc.2.2.2 h.1⟩) hc.2.1 b3 hc.2.2.1 w
          by_cases ha : ad = some ⟨(ψ id).blk, (ψ id).off + off, none⟩
          · subst ha
            refine ⟨.slice (some ⟨(ψ id).blk, (ψ id).off + (if m = l then off else off + l * ie.size), none⟩) (hh - l) (m - l), ?_, .slice _ _ _ _ _ hA (.inl ⟨rfl, by omega⟩)⟩
            simp [execOp, ho, e1, Instr.sliceAt, Instr.slice, run_underlying hu, hb, sizeOf, typeInfo, hie]
            split <;> simp [Addr.add_mid, Nat.add_assoc]
          · have h0 : len = 0 ∧ cap' = 0 := by
              rcases hcr with ⟨_, h⟩ | h | h
              · exact absurd h ha
              · exact ⟨h.1, h.2.2⟩
              · exact absurd h hbig
            obtain ⟨rfl, rfl⟩ := h0
            have hm0 : m = 0 := Nat.le_zero.1 hc.1
            have hh0 : hh = 0 := Nat.le_zero.1 (Nat.le_trans hc.2.1 (Nat.le_of_eq hm0))
            have hl0 : l = 0 := Nat.le_zero.1 (Nat.le_trans hc.2.2.1 (Nat.le_of_eq hh0))
            subst hm0; subst hh0; subst hl0
            refine ⟨.slice ad 0 0, by simp [execOp, ho, e1, Instr.sliceAt, Instr.slice, run_underlying hu, hb, sizeOf, typeInfo, hie], .void _ _ _ hA⟩
        · cases h
      · rename_i hk
        split at h
        · rename_i hmx
          subst hmx
          split at h
          · rename_i cells es more rw flat hrd
            split at h
            · rename_i hc
              cases h
              refine StepOK.value fun F A ψ env1 H1 a w hr he hD => ?_
              have hrd1 : rd H1 id = some (.row cells es more rw flat) := by rw [hD id (by simp), hrd]
              have h1 := opd hr he (x := x) (hops _ (.inl rfl))
              rw [hv] at h1
              obtain ⟨hA, ad, cap', e1, _, _, hcr⟩ := h1.slice_inv
              have hcap : cap = 0 ∧ 0 < len := by omega
              obtain ⟨rfl, hlen⟩ := hcap
              obtain ⟨_, hes, _⟩ := hr.heap.live id _ hrd1
              have hle : (len ≤ cap' ∧ off + cap' * (ψ id).es = (ψ id).tot) ∧ ad = some ⟨(ψ id).blk, (ψ id).off + off, none⟩ := by
                rcases hcr with ⟨h | h, ha⟩ | h | h
                · omega
                · exact ⟨⟨h.2.2.1, h.2.2.2⟩, ha⟩
                · omega
                · exact absurd h hbig
              obtain ⟨hle, rfl⟩ := hle
              have hes : (ψ id).es = es := hes
              have b2 := bval_spec hr (fun y hy => he y (hops y (.inr (.inr (.inl hy))))) hhi
              have b3 := bval_spec hr (fun y hy => he y (hops y (.inr (.inl hy)))) hlo
              have hb := run_bounds (P := P) true len cap' (lo.map a.eval) (hi.map a.eval) none l hh cap' (.inl ⟨rfl, rfl⟩) (Nat.le_refl _) (b2.imp_left fun h => ⟨h.1, h.2, rfl⟩) (by omega) b3 (by omega) w
              refine ⟨.slice (some ⟨(ψ id).blk, (ψ id).off + (off + l * ie.size), none⟩) (hh - l) (cap' - l), ?_, .slice _ _ _ _ _ hA (.inr ⟨rfl, by omega, by omega, ?_⟩)⟩
              · have : ¬ cap' = l := by omega
                simp [execOp, ho, e1, Instr.sliceAt, Instr.slice, run_underlying hu, hb, sizeOf, typeInfo, hie, this, Addr.add_mid, Nat.add_assoc]
              · rw [← hle.2, hes, hc.1, Nat.add_assoc, ← Nat.add_mul]
                congr 2; omega
            · rename_i hc0
              split at h
              · rename_i hc
                cases h
                refine StepOK.value fun F A ψ env1 H1 a w hr he _ => ?_
                have h1 := opd hr he (x := x) (hops _ (.inl rfl))
                rw [hv] at h1
                obtain ⟨hA, ad, cap', e1, hle, _, _⟩ := h1.slice_inv
                have b2 := bval_spec hr (fun y hy => he y (hops y (.inr (.inr (.inl hy))))) hhi
                have b3 := bval_spec hr (fun y hy => he y (hops y (.inr (.inl hy)))) hlo
                have hb := run_bounds (P := P) true len cap' (lo.map a.eval) (hi.map a.eval) none l hh cap' (.inl ⟨rfl, rfl⟩) (Nat.le_refl _) (b2.imp_left fun h => ⟨h.1, h.2, rfl⟩) (by omega) b3 (by omega) w
                refine ⟨.slice (if cap' = l then ad else ad.map (·.add (l * ie.size))) 0 (cap' - l), ?_, .empty _ _⟩
                simp [execOp, ho, e1, Instr.sliceAt, Instr.slice, run_underlying hu, hb, sizeOf, typeInfo, hie, hc.2]
              · cases h
          · cases h
        · rename_i hmx
          split at h
          · rename_i hc
            cases h
            refine StepOK.value fun F A ψ env1 H1 a w hr he _ => ?_
            have h1 := opd hr he (x := x) (hops _ (.inl rfl))
            rw [hv] at h1
            obtain ⟨hA, ad, cap', e1, hle, e0, hcr⟩ := h1.slice_inv
            have b1 := bval_spec hr (fun y hy => he y (hops y (.inr (.inr (.inr hy))))) hm
            have b2 := bval_spec hr (fun y hy => he y (hops y (.inr (.inr (.inl hy))))) hhi
            have b3 := bval_spec hr (fun y hy => he y (hops y (.inr (.inl hy)))) hlo
            have hmx' : mx.map a.eval ≠ none := by cases mx <;> simp_all
            have hb := run_bounds (P := P) true len cap' (lo.map a.eval) (hi.map a.eval) (mx.map a.eval) l hh m (.inr (b1.resolve_left fun h => hmx' h.1)) (by omega) (b2.imp_left fun h => ⟨h.1, h.2, opt_hi (.inr hc.2.2.2) h.1⟩) hc.2.1 b3 hc.2.2.1 w
            by_cases ha : ad = some ⟨(ψ id).blk, (ψ id).off + off, none⟩
            · subst ha
              refine ⟨.slice (some ⟨(ψ id).blk, (ψ id).off + (if m = l then off else off + l * ie.size), none⟩) (hh - l) (m - l), ?_, .slice _ _ _ _ _ hA (.inl ⟨rfl, by omega⟩)⟩
              simp [execOp, ho, e1, Instr.sliceAt, Instr.slice, run_underlying hu, hb, sizeOf, typeInfo, hie]
              split <;> simp [Addr.add_mid, Nat.add_assoc]
            · have h0 : len = 0 := by
                rcases hcr with ⟨_, h⟩ | h | h
                · exact absurd h ha
                · exact h.1
                · exact e0.resolve_right ha
              subst h0
              have hm0 : m = 0 := Nat.le_zero.1 hc.1
              have hh0 : hh = 0 := Nat.le_zero.1 (Nat.le_trans hc.2.1 (Nat.le_of_eq hm0))
              have hl0 : l = 0 := Nat.le_zero.1 (Nat.le_trans hc.2.2.1 (Nat.le_of_eq hh0))
              subst hm0; subst hh0; subst hl0
              refine ⟨.slice ad 0 0, by simp [execOp, ho, e1, Instr.sliceAt, Instr.slice, run_underlying hu, hb, sizeOf, typeInfo, hie], .void _ _ _ hA⟩
          · cases h
    · cases h
  · rename_i elem cap hu hv
    split at h
    · rename_i ie hie hm hhi hlo
      split at h
      · rename_i hc
        cases h
        refine StepOK.value fun F A ψ env1 H1 a w hr he _ => ?_
        have h1 := opd hr he (x := x) (hops _ (.inl rfl))
        rw [hv] at h1
        have b1 := bval_spec hr (fun y hy => he y (hops y (.inr (.inr (.inr hy))))) hm
        have b2 := bval_spec hr (fun y hy => he y (hops y (.inr (.inr (.inl hy))))) hhi
        have b3 := bval_spec hr (fun y hy => he y (hops y (.inr (.inl hy)))) hlo
        obtain ⟨_, ad, c, e1, e2⟩ := h1.nil_inv
        by_cases hmx : mx = none
        · subst hmx
          have hb := run_bounds (P := P) true 0 c (lo.map a.eval) (hi.map a.eval) none 0 0 c (.inl ⟨rfl, rfl⟩) (Nat.le_refl _) (b2.imp_left fun h => ⟨h.1, h.2, rfl⟩) (Nat.zero_le _) b3 (Nat.le_refl _) w
          refine ⟨.slice (if c = 0 then ad else ad.map (·.add 0)) 0 c, by simp [execOp, ho, e1, Instr.sliceAt, Instr.slice, run_underlying hu, hb, sizeOf, typeInfo, hie], ?_⟩
          by_cases hcap : cap = 1
          · subst hcap; exact .empty _ _
          · obtain ⟨rfl, rfl, rfl⟩ := e2 hcap; exact .atom _ rfl
        · have hmx' : mx.map a.eval ≠ none := by cases mx <;> simp_all
          have hb := run_bounds (P := P) true 0 c (lo.map a.eval) (hi.map a.eval) (mx.map a.eval) 0 0 0 (.inr (b1.resolve_left fun h => hmx' h.1)) (Nat.zero_le _) (b2.imp_left fun h => ⟨h.1, h.2, opt_hi hc h.1⟩) (Nat.le_refl _) b3 (Nat.le_refl _) w
          refine ⟨.slice ad 0 0, by simp [execOp, ho, e1, Instr.sliceAt, Instr.slice, run_underlying hu, hb, sizeOf, typeInfo, hie], ?_⟩
          by_cases hcap : cap = 1
          · subst hcap; exact .empty _ _
          · obtain ⟨rfl, rfl, rfl⟩ := e2 hcap; exact .atom _ rfl
      · cases h
    · cases h
  · cases h

end
end
end Go.Vm
end
section
/- append, copy, ranging over a string. -/
namespace Go.Vm
noncomputable section

section
variable {P : Program} {o : Oper} {env env1 : List Value} {H H1 : Heap} {F : Fr P} {A : Nat → Prop} {ψ : Nat → Gh} {a : Act} {w : World}

/-- What is appended or copied: how many elements, the cells, what was looked at. -/
def evSrc (P : Program) (H : Heap) (size : Nat) (t : TypeId) (v : Value) : Option (Nat × List Value × List Nat) :=
  match P.underlying t, v with
  | some (.slice _), .slice none 0 _ => some (0, [], [])
  | some (.slice _), .slice (some ⟨id, off, none⟩) n _ =>
    match rd H id with
    | some (.row cells _ _ _ _) => if off + n * size ≤ cells.length then some (n, (cells.drop off).take (n * size), [id]) else none
    | _ => none
  | some .string, .string s => if size = 1 then some (s.size, byteCells s, []) else none
  | _, _ => none

theorem src_ok {size n : Nat} {t : TypeId} {v v' : Value} {news : List Value} {D : List Nat} (hh : HRel F A ψ H1 w) (hv : VR A ψ v v') (h : evSrc P H size t v = some (n, news, D)) (hD : ∀ id ∈ D, rd H1 id = rd H id) :
    ∃ news' : List Value, Src P size t v' n news' w ∧ news.length = n * size ∧ news'.length = news.length ∧ ∀ i, VR A ψ (news.getD i poi) (news'.getD i undef) := by
  unfold evSrc at h
  split at h
  · rename_i e c hu
    cases h
    obtain ⟨_, ad, c', rfl, _⟩ := hv.nil_inv
    refine ⟨[], ?_, by simp, rfl, fun i => by simp; exact .poison _⟩
    cases ad with
    | none => exact Src.ofNil w hu c'
    | some b => exact Src.ofSlice w hu b 0 c' [] (by simp) (by simp) (by simp)
  · rename_i e id off n' c hu
    split at h
    · rename_i cells es more rw flat hrd
      split at h
      · rename_i hle
        cases h
        obtain ⟨hA, ad, cap', rfl, _, e0, _⟩ := hv.slice_inv
        have hrd1 : rd H1 id = some (.row cells es more rw flat) := by rw [hD id (by simp), hrd]
        obtain ⟨vs, k1, k2, k3, k4⟩ := row_range hh hrd1 off (n * size) hle
        by_cases hn0 : n = 0
        · subst hn0
          refine ⟨[], ?_, by simp, by simp, fun i => by simp; exact .poison _⟩
          cases ad with
          | none => exact Src.ofNil w hu cap'
          | some b => exact Src.ofSlice w hu b 0 cap' [] (by simp) (by simp) (by simp)
        obtain rfl := e0.resolve_left hn0
        have hl : ((cells.drop off).take (n * size)).length = n * size := by simp; omega
        exact ⟨vs, Src.ofSlice w hu _ n cap' vs k1 (fun j u hj => by rw [Addr.add_mid]; exact k3 j u hj) k2, hl, by rw [k1, hl], k4⟩
      · cases h
    · cases h
  · rename_i s hu
    split at h
    · rename_i h1
      cases h
      subst h1
      have := hv.of_atom rfl
      subst this
      refine ⟨byteCells s, Src.ofString w hu s, by rw [byteCells_length, Nat.mul_one], rfl, fun i => ?_⟩
      by_cases hi : i < (byteCells s).length
      · have e1 : (byteCells s).getD i poi = (byteCells s)[i] := by simp [List.getD_eq_getElem?_getD, hi]
        have e2 : (byteCells s).getD i undef = (byteCells s)[i] := by simp [List.getD_eq_getElem?_getD, hi]
        rw [e1, e2]
        refine .atom _ ?_
        have : (byteCells s)[i] ∈ byteCells s := List.getElem_mem _
        obtain ⟨b, _, hb⟩ := List.mem_map.1 this
        rw [← hb]; rfl
      · have e1 : (byteCells s).getD i poi = poi := by simp [List.getD_eq_getElem?_getD, hi]
        rw [e1]; exact .poison _
    · cases h
  · cases h

/-- The cells that the first argument holds. -/
def evOld (H : Heap) (size : Nat) (v : Value) : Option (Nat × List Value × List Nat) :=
  match v with
  | .slice sa n _ =>
    if n = 0 then some (0, [], [])
    else match sa with
      | some ⟨id, off, none⟩ =>
        match rd H id with
        | some (.row cells _ _ _ _) => if off + n * size ≤ cells.length then some (n, (cells.drop off).take (n * size), [id]) else none
        | _ => none
      | _ => none
  | _ => none

theorem old_len {size n l c : Nat} {sa : Option Addr} {olds : List Value} {D : List Nat} (h : evOld H size (.slice sa l c) = some (n, olds, D)) : n = l := by
  simp only [evOld] at h
  split at h
  · cases h; omega
  · split at h
    · split at h
      · split at h
        · cases h; rfl
        · cases h
      · cases h
    · cases h

theorem old_ok {size n : Nat} {v v' : Value} {olds : List Value} {D : List Nat} (hh : HRel F A ψ H1 w) (hv : VR A ψ v v') (h : evOld H size v = some (n, olds, D)) (hD : ∀ id ∈ D, rd H1 id = rd H id) :
    ∃ (olds' : List Value) (base : Option Addr) (c' : Nat), v' = .slice base n c' ∧ (Builtin.firstCells size n v').run P w.drew = .ok olds'.toArray w.drew ∧ olds.length = n * size ∧ olds'.length = olds.length ∧ (∀ u ∈ olds', u.oneCell' = true) ∧ ∀ i, VR A ψ (olds.getD i poi) (olds'.getD i undef) := by
  unfold evOld at h
  split at h
  · rename_i sa l c
    split at h
    · rename_i h0
      cases h
      subst h0
      obtain ⟨a', c', rfl⟩ := hv.slice_len
      refine ⟨[], a', c', rfl, ?_, by simp, rfl, by simp, fun i => by simp; exact .poison _⟩
      cases a' with
      | none => simp [Builtin.firstCells]
      | some b => exact run_firstCells_some w.drew size 0 b 0 c' [] (by simp) (by simp)
    · split at h
      · rename_i id off
        split at h
        · rename_i cells es more rw flat hrd
          split at h
          · rename_i hle
            cases h
            obtain ⟨hA, ad, cap', rfl, _, e0, _⟩ := hv.slice_inv
            obtain rfl := e0.resolve_left (by assumption)
            have hrd1 : rd H1 id = some (.row cells es more rw flat) := by rw [hD id (by simp), hrd]
            obtain ⟨vs, k1, k2, k3, k4⟩ := row_range hh hrd1 off (n * size) hle
            have hl : ((cells.drop off).take (n * size)).length = n * size := by simp; omega
            refine ⟨vs, _, _, rfl, ?_, hl, by rw [k1, hl], k2, k4⟩
            exact run_firstCells_some w.drew size n _ n cap' vs k1 (fun j u hj => by rw [Addr.add_mid]; simpa using k3 j u hj)
          · cases h
        · cases h
      · cases h
  · cases h

/-- Is the capacity known, and how much is it? -/
def capOf : Value → Option Nat
  | .slice none 0 0 => some 0
  | .slice (some _) len cap => if cap = 0 ∧ 0 < len then none else some cap
  | _ => none

def capV : Value → Nat
  | .slice _ _ c => c
  | _ => 0

def evAppend (P : Program) (H : Heap) (nid : Nat) (ts : List TypeId) (x y : Value) : Option Out :=
  match ts with
  | [t, tx] =>
    match P.underlying t with
    | some (.slice elem) =>
      match P.info? elem with
      | some ie =>
        match ie.zero, evSrc P H ie.size tx y with
        | some z, some (n, news, D) =>
          if n = 0 then (match x with | .slice _ _ _ => some ⟨x, [], D, []⟩ | _ => none)
          else
            match evOld H ie.size x with
            | some (len, olds, D') =>
              if (len + n) * ie.bytes ≤ 140737488355328 ∧ len + n ≤ 9223372036854775807 ∧ z.cells.size = ie.size ∧ 0 < ie.size ∧ capV x ≠ big then
                match capOf x with
                | some cap =>
                  if len + n ≤ cap then
                    match x with
                    | .slice (some ⟨id, off, none⟩) _ _ =>
                      match rd H id with
                      | some (.row cells es more true flat) =>
                        if off + len * ie.size + news.length ≤ cells.length then
                          some ⟨.slice (some ⟨id, off, none⟩) (len + n) cap, [(id, some (.row (splice cells (off + len * ie.size) news) es more true (flat && news.all atom)))], id :: D, []⟩
                        else none
                      | _ => none
                    | _ => none
                  else some ⟨.slice (some ⟨nid, 0, none⟩) (len + n) 0, [(nid, some (.row (olds ++ news) ie.size true true ((olds ++ news).all atom)))], D' ++ D, [nid]⟩
                | none =>
                  match x with
                  | .slice (some ⟨id, 0, none⟩) _ _ =>
                    match rd H id with
                    | some (.row cells es true true flat) =>
                      if es = ie.size ∧ cells.length = len * ie.size then
                        some ⟨.slice (some ⟨nid, 0, none⟩) (len + n) 0, [(id, none), (nid, some (.row (cells ++ news) es true true (flat && news.all atom)))], id :: D, [nid]⟩
                      else none
                    | _ => none
                  | _ => none
              else none
            | none => none
        | _, _ => none
      | none => none
    | _ => none
  | _ => none

theorem get_append {xs ys : List Value} {xs' ys' : List Value} (h1 : xs'.length = xs.length) (hx : ∀ i, VR A ψ (xs.getD i poi) (xs'.getD i undef)) (hy : ∀ i, VR A ψ (ys.getD i poi) (ys'.getD i undef)) (i : Nat) :
    VR A ψ ((xs ++ ys).getD i poi) ((xs' ++ ys').getD i undef) := by
  simp only [List.getD_eq_getElem?_getD] at *
  by_cases hi : i < xs.length
  · rw [List.getElem?_append_left hi, List.getElem?_append_left (by omega)]; exact hx i
  · rw [List.getElem?_append_right (by omega), List.getElem?_append_right (by omega), h1]; exact hy _

theorem grownCap_ge (w : World) (need old : Nat) (e : TypeId) : need ≤ grownCap w need old e := by
  simp [grownCap, Question.cut]

/-- A longer row, made anew. -/
theorem grow_step {olds news olds' news' : List Value} {es nid : Nat} {z : Value} {elem : TypeId} {len cap' n : Nat} (hr : Rel F A ψ env1 H1 a w) {H2 : Heap} (hh : HRel F A ψ H2 w) (hn : ¬ A nid)
    (hl1 : olds'.length = olds.length) (hl2 : news'.length = news.length) (ho1 : ∀ u ∈ olds', u.oneCell' = true) (hn1 : ∀ u ∈ news', u.oneCell' = true)
    (hol : olds.length = len * es) (hnl : news.length = n * es) (hvo : ∀ i, VR A ψ (olds.getD i poi) (olds'.getD i undef)) (hvn : ∀ i, VR A ψ (news.getD i poi) (news'.getD i undef))
    (hzs : z.cells.size = es) (hpos : 0 < len + n) {flat : Bool} (hflat : flat = true → ∀ v ∈ olds ++ news, atom v = true) (dst : Option Tmp) :
    ∃ ψ1, Rel F (fun id => A id ∨ id = nid) ψ1 (put env1 dst (.slice (some ⟨nid, 0, none⟩) (len + n) 0)) (wr H2 nid (some (.row (olds ++ news) es true true flat)))
      (a.put dst (.slice (some ⟨w.heap.size, 0, none⟩) (len + n) (grownCap w (len + n) cap' elem))) (w.drew.alloc (.cells ((olds' ++ news').toArray ++ Builtin.zeroCells z.cells (grownCap w (len + n) cap' elem - (len + n))) elem)) := by
  let arr := (olds' ++ news').toArray ++ Builtin.zeroCells z.cells (grownCap w (len + n) cap' elem - (len + n))
  let g : Gh := ⟨w.heap.size, 0, arr.size, es⟩
  have hge := grownCap_ge w (len + n) cap' elem
  have hsz : arr.size = grownCap w (len + n) cap' elem * es := by
    have : (olds' ++ news').length = (len + n) * es := by simp [hl1, hl2, hol, hnl, Nat.add_mul]
    simp only [arr, Array.size_append, List.size_toArray, this, Builtin.zeroCells, Array.size_map, Array.size_range, hzs]
    rw [← Nat.add_mul]; congr 1; omega
  have hag := mono_new (ψ := ψ) (g := g) hn
  have hcell : ∀ i, i < (olds ++ news).length → ∃ v', arr[i]? = some v' ∧ v'.oneCell' = true ∧ VR A ψ ((olds ++ news).getD i poi) v' := by
    intro i hi
    have hi' : i < (olds' ++ news').length := by simp at hi ⊢; omega
    refine ⟨(olds' ++ news')[i], ?_, ?_, ?_⟩
    · simp only [arr]
      rw [Array.getElem?_append_left (by simpa using hi')]
      simp
    · have : (olds' ++ news')[i] ∈ olds' ++ news' := List.getElem_mem _
      rcases List.mem_append.1 this with h | h
      · exact ho1 _ h
      · exact hn1 _ h
    · have := get_append hl1 hvo hvn i
      simpa only [List.getD_eq_getElem?_getD, List.getElem?_eq_getElem hi', Option.getD_some] using this
  refine ⟨upd ψ nid g, put_rel ⟨fun t => (hr.slot t).mono hag, hr.len, hr.defers, ?_⟩ (VR.new_slice (g := g) rfl (.inr ⟨rfl, hpos, hge, ?_⟩)) dst⟩
  · refine hh.adopt (SameBut.drew_alloc w _) (by simp) hn (fun j oj hj hv e => by have := ((hh.live j oj hj).2.2 hv).1; omega) (.inl hr.heap.fr.size) (g := g) rfl rfl ?_
    refine ORel.new (el := elem) (arr := arr) (es := es) (b := w.heap.size) (alloc_get w.drew _) (by simp [hsz]; rw [hol, hnl, ← Nat.add_mul]; exact Nat.mul_le_mul_right _ hge) (fun i hi => ?_) hflat
    obtain ⟨v', h1, h2, h3⟩ := hcell i hi
    exact ⟨v', h1, h2, h3.mono hag⟩
  · simp [g, hsz]

theorem old_all {size n id l c : Nat} {es : Nat} {more rw flat : Bool} {cells olds : List Value} {D : List Nat} (h : evOld H size (.slice (some ⟨id, 0, none⟩) l c) = some (n, olds, D))
    (hrd : rd H id = some (.row cells es more rw flat)) (hl : cells.length = n * size) (hn : 0 < n) : olds = cells ∧ D = [id] := by
  have := old_len h
  subst this
  simp only [evOld, hrd] at h
  rw [if_neg (by omega), if_pos (by omega)] at h
  cases h
  refine ⟨?_, rfl⟩
  rw [List.drop_zero, List.take_of_length_le (by omega)]

theorem append_ok {x y : Operand} {ts : Array TypeId} {nid : Nat} {out : Out} (ho : o.op = .call ⟨.builtin .append, #[x, y], ts⟩) (h : evAppend P H nid ts.toList (ev env x) (ev env y) = some out) : StepOK P o env H out := by
  unfold evAppend at h
  split at h
  · rename_i l t tx hts
    have hts' : ts = #[t, tx] := by
      rw [← Array.toArray_toList (xs := ts), hts]
    split at h
    · rename_i elem hu
      split at h
      · rename_i ie hie
        split at h
        · rename_i z n news D hz hsrc
          intro F A ψ env1 H1 a w hr he hD hn K Q hK
          have hx := opd hr he (x := x) (by simp [ho, Op.operands, Call.operands])
          have hy := opd hr he (x := y) (by simp [ho, Op.operands, Call.operands])
          have hexec : execOp a.eval o = (do let v ← Builtin.append_ #[t, tx] o.type #[a.eval x, a.eval y]; pure (.value v)) := by
            simp [execOp, ho, resolve, invoke, builtin, hts']
          split at h
          · rename_i hn0
            subst hn0
            split at h
            · rename_i sa len cap hxv
              cases h
              obtain ⟨news', s1, s2, s3, _⟩ := src_ok (P := P) hr.heap hy hsrc hD
              have hnil : news' = [] := by apply List.eq_nil_of_length_eq_zero; rw [s3, s2]; simp
              subst hnil
              rw [hxv] at hx
              obtain ⟨a', c', e1⟩ := hx.slice_len
              have hle : len ≤ c' := by
                rw [e1] at hx
                cases hx with
                | atom _ h => simp only [Vm.atom] at h; split at h <;> simp_all
                | slice id off _ _ _ h hc => rcases hc with hc | hc <;> omega
                | void => exact Nat.le_refl _
                | view => assumption
                | empty => exact Nat.zero_le _
              unfold Oper.wp
              have := run_append_nothing (P := P) w t tx o.type elem ie hu hie a' len c' hle (a.eval y) s1
              rw [hexec, Sem.run_bind, e1, this]
              rw [e1] at hx
              refine hK ψ _ _ ?_
              rw [hxv]
              exact A_nil (put_rel hr hx o.dst)
            · cases h
          · rename_i hn0
            split at h
            · rename_i len olds D' hold
              split at h
              · rename_i hb
                obtain ⟨hb1, hb2, hzs, hpos0, hnb⟩ := hb
                split at h
                · rename_i cap hcap
                  split at h
                  · rename_i hroom
                    split at h
                    · rename_i id off len0 cap0 hxv
                      split at h
                      · rename_i cells es more flat hrd
                        split at h
                        · rename_i hle
                          cases h
                          obtain ⟨news', s1, s2, s3, s4⟩ := src_ok (P := P) hr.heap hy hsrc (fun i hi => hD i (List.mem_cons_of_mem _ hi))
                          rw [hxv] at hx hnb
                          obtain ⟨hA, ad, cap', e1, _, _, hcr⟩ := hx.slice_inv
                          have hrd1 : rd H1 id = some (.row cells es more true flat) := by rw [hD id (by simp), hrd]
                          have hc0 : cap0 = cap ∧ ¬ (cap0 = 0 ∧ 0 < len0) := by
                            rw [hxv] at hcap; simp only [capOf] at hcap; split at hcap
                            · cases hcap
                            · cases hcap; exact ⟨rfl, by assumption⟩
                          obtain ⟨rfl, hnk⟩ := hc0
                          rw [hxv] at hold
                          have hlen := old_len hold
                          subst hlen
                          have hcap' : cap' = cap0 ∧ ad = some ⟨(ψ id).blk, (ψ id).off + off, none⟩ := by
                            rcases hcr with ⟨h | h, ha⟩ | h | h
                            · exact ⟨h.1, ha⟩
                            · exact absurd ⟨h.1, h.2.1⟩ hnk
                            · omega
                            · exact absurd h hnb
                          obtain ⟨rfl, rfl⟩ := hcap'
                          obtain ⟨k1, k2, k3, k4⟩ := write_row (off := off + len * ie.size) (cs := news) (vs := news') hr.heap hrd1 hle (by rw [s2]; exact Nat.mul_pos (by omega) hpos0) s3 s1.one s4
                          unfold Oper.wp
                          have hrun := run_append_room_src (P := P) w t tx o.type elem ie hu hie (ψ id).blk ((ψ id).off + off) len cap' (a.eval y) n news' s1 hroom (by rw [k3, Nat.zero_add]; exact k1) (by rw [k3, Nat.zero_add]; exact k2)
                          rw [hexec, Sem.run_bind, e1, hrun]
                          refine hK ψ _ _ (A_nil ?_)
                          have hv : VR A ψ (.slice (some ⟨id, off, none⟩) (len + n) cap') (.slice (some ⟨(ψ id).blk, (ψ id).off + off, none⟩) (len + n) cap') := .slice _ _ _ _ _ hA (.inl ⟨rfl, hroom⟩)
                          rw [k3, Nat.zero_add] at hv ⊢
                          exact hr.heap_step k4 hv o.dst
                        · cases h
                      · cases h
                    · cases h
                  · rename_i hroom
                    cases h
                    obtain ⟨news', s1, s2, s3, s4⟩ := src_ok (P := P) hr.heap hy hsrc (fun i hi => hD i (by simp [hi]))
                    obtain ⟨olds', base, c', e1, f1, f2, f3, f4, f5⟩ := old_ok (P := P) hr.heap hx hold (fun i hi => hD i (by simp [hi]))
                    have hc' : c' = cap := by
                      rw [e1] at hx
                      cases hxv : ev env x with
                      | slice sa l c =>
                        rw [hxv] at hx hcap
                        cases hx with
                        | atom _ ha =>
                          simp only [Vm.atom] at ha
                          split at ha <;> simp_all [capOf]
                        | slice id off _ _ _ hA hc =>
                          simp only [capOf] at hcap
                          split at hcap
                          · cases hcap
                          · cases hcap; rcases hc with hc | hc
                            · exact hc.1
                            · omega
                        | void => simp [capOf] at hcap; exact hcap
                        | view => rw [hxv] at hnb; exact absurd rfl hnb
                        | empty => simp [capOf] at hcap
                      | _ => rw [hxv] at hcap; simp [capOf] at hcap
                    subst hc'
                    have hnn : ¬ A nid := hn _ (List.mem_singleton_self _)
                    unfold Oper.wp
                    have hrun := run_append_grow_src (P := P) w t tx o.type elem ie z hu hie hz base len c' olds' (by rw [← e1]; exact f1) (a.eval y) n news' s1 (by omega) (by omega) (growslice_fits (by omega) hb1)
                    rw [hexec, Sem.run_bind, e1, hrun]
                    obtain ⟨ψ1, hrel⟩ := grow_step (z := z) (es := ie.size) (nid := nid) (cap' := c') (elem := elem) (len := len) (n := n) hr hr.heap hnn f3 s3 f4 s1.one f2 s2 f5 s4 hzs (by omega) (fun hf => List.all_eq_true.1 hf) o.dst
                    refine hK ψ1 _ _ ?_
                    have hA : (fun id => A id ∨ id ∈ [nid]) = (fun id => A id ∨ id = nid) := by funext id; simp
                    rw [hA]
                    exact hrel
                · rename_i hcap
                  split at h
                  · rename_i id len0 cap0 hxv
                    split at h
                    · rename_i cells es flat hrd
                      split at h
                      · rename_i hle
                        cases h
                        obtain ⟨hes, hlc⟩ := hle
                        obtain ⟨news', s1, s2, s3, s4⟩ := src_ok (P := P) hr.heap hy hsrc (fun i hi => hD i (List.mem_cons_of_mem _ hi))
                        have hrd1 : rd H1 id = some (.row cells es true true flat) := by rw [hD id (by simp), hrd]
                        have hnn : ¬ A nid := hn _ (List.mem_singleton_self _)
                        rw [hxv] at hx hold hcap hnb
                        have hlen := old_len hold
                        subst hlen
                        simp only [capOf] at hcap
                        split at hcap
                        case isFalse => cases hcap
                        rename_i hc0
                        obtain ⟨rfl, hpos⟩ := hc0
                        obtain ⟨rfl, rfl⟩ := old_all hold hrd hlc hpos
                        obtain ⟨olds', base, c', e1, f1, f2, f3, f4, f5⟩ := old_ok (P := P) hr.heap hx hold (fun i hi => hD i (by simp at hi; simp [hi]))
                        obtain ⟨hA, ad, cap', e2, _, _, hcr⟩ := hx.slice_inv
                        have hle : (len ≤ cap' ∧ 0 + cap' * (ψ id).es = (ψ id).tot) ∧ ad = some ⟨(ψ id).blk, (ψ id).off + 0, none⟩ := by
                          rcases hcr with ⟨h | h, ha⟩ | h | h
                          · omega
                          · exact ⟨⟨h.2.2.1, h.2.2.2⟩, ha⟩
                          · omega
                          · exact absurd h hnb
                        obtain ⟨hle, rfl⟩ := hle
                        have hvd : (AObj.row olds es true true flat).vd = false := vd_row (by rw [hlc]; exact Nat.mul_pos hpos hpos0)
                        obtain ⟨_, _, hl0⟩ := hr.heap.live id _ hrd1
                        obtain ⟨hlt, arr, el, fz, k1, k2, k3, k4, k5⟩ := hl0 hvd
                        obtain ⟨m1, rfl, m3, m4⟩ := k4 rfl
                        have hkill := hr.heap.kill id
                        have hflat : (flat && news.all atom) = true → ∀ v ∈ olds ++ news, atom v = true := fun hf v hv => by
                          simp only [Bool.and_eq_true, List.all_eq_true] at hf
                          rcases List.mem_append.1 hv with h | h
                          · exact k5 hf.1 v h
                          · exact hf.2 v h
                        have hAe : (fun id => A id ∨ id ∈ [nid]) = (fun id => A id ∨ id = nid) := by funext id; simp
                        unfold Oper.wp
                        by_cases hroom : len + n ≤ cap'
                        · have hsz : arr.size = cap' * ie.size := by rw [m3, ← hle.2, k2, hes]; omega
                          have hin : len * ie.size + news'.length ≤ arr.size := by
                            rw [hsz, s3, s2, ← Nat.add_mul]; exact Nat.mul_le_mul_right _ hroom
                          have c1 : ∀ j, j < news'.length → (w.cell? ⟨(ψ id).blk, (ψ id).off + 0 + len * ie.size + j, none⟩).isSome = true := fun j hj => by
                            simp [World.cell?, k1, m1, show len * ie.size + j < arr.size by omega]
                          have c2 : ∀ j, j < news'.length → w.frozen? ⟨(ψ id).blk, (ψ id).off + 0 + len * ie.size + j, none⟩ = false := fun j hj => by
                            simp [World.frozen?, k1]
                          have hrun := run_append_room_src (P := P) w t tx o.type elem ie hu hie (ψ id).blk ((ψ id).off + 0) len cap' (a.eval y) n news' s1 hroom c1 c2
                          rw [hexec, Sem.run_bind, e2, hrun]
                          obtain ⟨arr', g1, g2, g3⟩ := setCells_block news' ((ψ id).off + 0 + len * ie.size) w arr el (0, 0) k1 (by rw [m1]; omega)
                          have hag := mono_new (ψ := ψ) (g := ψ id) hnn
                          have hrel : HRel F (fun j => A j ∨ j = nid) (upd ψ nid (ψ id)) (wr (wr H1 id none) nid (some (.row (olds ++ news) es true true (flat && news.all atom)))) (w.setCells (ψ id).blk ((ψ id).off + 0 + len * ie.size) news') := by
                            refine hkill.adopt (setCells_same _ _ _) (Nat.lt_of_lt_of_le hlt (setCells_same _ _ _).size) hnn (fun j oj hj hvj e => ?_) (hr.heap.own id _ hrd1 rfl hvd) rfl k2 ?_
                            · rw [rd_wr] at hj
                              split at hj
                              · cases hj
                              · rename_i hne
                                exact hr.heap.inj id j _ oj hrd1 hj (Ne.symm hne) rfl hvd hvj e.symm
                            · refine ⟨arr', el, (0, 0), g1, k2, fun i hi => ?_, fun _ => ⟨m1, rfl, by rw [g2]; exact m3, fun h => by cases h⟩, hflat⟩
                              rw [g3, m1]
                              simp only [Nat.zero_add]
                              by_cases hi2 : i < olds.length
                              · rw [if_neg (by omega)]
                                obtain ⟨v', q1, q2, q3⟩ := k3 i hi2
                                rw [m1, Nat.zero_add] at q1
                                refine ⟨v', q1, q2, ?_⟩
                                have : (olds ++ news).getD i poi = olds.getD i poi := by simp [List.getD_eq_getElem?_getD, List.getElem?_append_left hi2]
                                rw [this]; exact q3.mono hag
                              · simp only [List.length_append] at hi
                                rw [if_pos (by omega)]
                                have hj : i - len * ie.size < news'.length := by omega
                                refine ⟨news'[i - len * ie.size], by simp [hj], s1.one _ (List.getElem_mem _), ?_⟩
                                have e3 : (olds ++ news).getD i poi = news.getD (i - len * ie.size) poi := by
                                  simp only [List.getD_eq_getElem?_getD]
                                  rw [List.getElem?_append_right (by omega), hlc]
                                rw [e3]
                                have := s4 (i - len * ie.size)
                                simp only [List.getD_eq_getElem?_getD, List.getElem?_eq_getElem hj, Option.getD_some] at this
                                exact (by simpa only [List.getD_eq_getElem?_getD] using this.mono hag)
                          have hv : VR (fun j => A j ∨ j = nid) (upd ψ nid (ψ id)) (.slice (some ⟨nid, 0, none⟩) (len + n) 0) (.slice (some ⟨(ψ id).blk, (ψ id).off + 0, none⟩) (len + n) cap') := by
                            rw [m1]
                            exact VR.new_slice (g := ψ id) m1 (.inr ⟨rfl, by omega, hroom, hle.2⟩)
                          refine hK (upd ψ nid (ψ id)) _ _ ?_
                          rw [hAe]
                          exact put_rel ⟨fun t => (hr.slot t).mono hag, hr.len, hr.defers, hrel⟩ hv o.dst
                        · have hb' : base = some ⟨(ψ id).blk, (ψ id).off + 0, none⟩ ∧ c' = cap' := by
                            rw [e2] at e1; cases e1; exact ⟨rfl, rfl⟩
                          obtain ⟨rfl, rfl⟩ := hb'
                          have hrun := run_append_grow_src (P := P) w t tx o.type elem ie z hu hie hz _ len c' olds' (by rw [← e1]; exact f1) (a.eval y) n news' s1 (by omega) (by omega) (growslice_fits (by omega) hb1)
                          rw [hexec, Sem.run_bind, e1, hrun]
                          obtain ⟨ψ1, hrel⟩ := grow_step (z := z) (es := es) (nid := nid) (cap' := c') (elem := elem) (len := len) (n := n) hr hkill hnn f3 s3 f4 s1.one (by rw [hes]; exact f2) (by rw [hes]; exact s2) f5 s4 (by rw [hes]; exact hzs) (by omega) hflat o.dst
                          refine hK ψ1 _ _ ?_
                          rw [hAe]
                          exact hrel
                      · cases h
                    · cases h
                  · cases h
              · cases h
            · cases h
        · cases h
      · cases h
    · cases h
  · cases h

end
end
end Go.Vm
end
section
/- copy, ranging over a string, and all operations in one. -/
namespace Go.Vm
noncomputable section

section
variable {P : Program} {o : Oper} {env env1 : List Value} {H H1 : Heap} {F : Fr P} {A : Nat → Prop} {ψ : Nat → Gh} {a : Act} {w : World}

/-- The cells of the second argument of a copy, for so many elements. -/
def evCopy (P : Program) (H : Heap) (ts : List TypeId) (x y : Value) : Option Out :=
  match ts with
  | t :: _ =>
    match P.underlying t with
    | some (.slice elem) =>
      match P.info? elem with
      | some ie =>
        match x, y with
        | .slice sa dLen _, .slice sb sLen _ =>
          if min sLen dLen = 0 then some ⟨goInt 0, [], [], []⟩
          else match sa, sb with
            | some ⟨id, off, none⟩, some ⟨jd, joff, none⟩ =>
              match rd H id, rd H jd with
              | some (.row cells es more true flat), some (.row src _ _ _ _) =>
                if off + min sLen dLen * ie.size ≤ cells.length ∧ joff + min sLen dLen * ie.size ≤ src.length ∧ 0 < ie.size then
                  some ⟨goInt (min sLen dLen : Nat), [(id, some (.row (splice cells off ((src.drop joff).take (min sLen dLen * ie.size))) es more true (flat && ((src.drop joff).take (min sLen dLen * ie.size)).all atom)))], [id, jd], []⟩
                else none
              | _, _ => none
            | _, _ => none
        | _, _ => none
      | none => none
    | _ => none
  | [] => none

theorem copy_ok {x y : Operand} {ts : Array TypeId} {out : Out} (ho : o.op = .call ⟨.builtin .copy, #[x, y], ts⟩) (h : evCopy P H ts.toList (ev env x) (ev env y) = some out) : StepOK P o env H out := by
  unfold evCopy at h
  split at h
  · rename_i l t r hts
    have ht0 : ts[0]? = some t := by
      have : ts.toList[0]? = some t := by rw [hts]; rfl
      simpa using this
    split at h
    · rename_i elem hu
      split at h
      · rename_i ie hie
        split at h
        · rename_i sa dLen dc sb sLen sc hxv hyv
          intro F A ψ env1 H1 a w hr he hD hn K Q hK
          have hx := opd hr he (x := x) (by simp [ho, Op.operands, Call.operands])
          have hy := opd hr he (x := y) (by simp [ho, Op.operands, Call.operands])
          have hexec : execOp a.eval o = (do let v ← Builtin.copy_ ts o.type #[a.eval x, a.eval y]; pure (.value v)) := by
            simp [execOp, ho, resolve, invoke, builtin]
          rw [hxv] at hx; rw [hyv] at hy
          split at h
          · rename_i hmin
            cases h
            obtain ⟨a1, c1, e1⟩ := hx.slice_len
            obtain ⟨a2, c2, e2⟩ := hy.slice_len
            unfold Oper.wp
            have hmin' : Nat.min sLen dLen = 0 := hmin
            have hf : (Builtin.firstCells ie.size 0 (.slice a2 sLen c2)).run P w = .ok #[] w := by
              cases a2 with
              | none => simp [Builtin.firstCells]
              | some b => exact run_firstCells_some w ie.size 0 b sLen c2 [] (by simp) (by simp)
            have hrun : (Builtin.copy_ ts o.type #[a.eval x, a.eval y]).run P w = .ok (goInt 0) w := by
              rw [e1, e2]
              cases a1 <;> simp [Builtin.copy_, ht0, run_underlying hu, Builtin.lenOf, hmin', sizeOf, typeInfo, hie, hf, storeCells]
            rw [hexec, Sem.run_bind, hrun]
            exact hK ψ _ _ (A_nil (put_rel hr (.atom _ rfl) o.dst))
          · rename_i hmin
            split at h
            · rename_i id off jd joff
              split at h
              · rename_i cells es more flat src es2 more2 rw2 flat2 hrd hrd2
                split at h
                · rename_i hle
                  cases h
                  obtain ⟨hle1, hle2, hpos⟩ := hle
                  have hrd1 : rd H1 id = some (.row cells es more true flat) := by rw [hD id (by simp), hrd]
                  have hrd1' : rd H1 jd = some (.row src es2 more2 rw2 flat2) := by rw [hD jd (by simp), hrd2]
                  obtain ⟨hA, ad1, c1, e1, _, e10, _⟩ := hx.slice_inv
                  obtain ⟨_, ad2, c2, e2, _, e20, _⟩ := hy.slice_inv
                  obtain rfl := e10.resolve_left (by omega)
                  obtain rfl := e20.resolve_left (by omega)
                  obtain ⟨vs, k1, k2, k3, k4⟩ := row_range hr.heap hrd1' joff (min sLen dLen * ie.size) hle2
                  have hl : ((src.drop joff).take (min sLen dLen * ie.size)).length = min sLen dLen * ie.size := by
                    rw [List.length_take, List.length_drop]; omega
                  obtain ⟨m1, m2, m3, m4⟩ := write_row (off := off) (cs := (src.drop joff).take (min sLen dLen * ie.size)) (vs := vs) hr.heap hrd1 (by rw [hl]; exact hle1) (by rw [hl]; exact Nat.mul_pos (by omega) hpos) (by rw [k1, hl]) k2 k4
                  have hst := run_storeCells_cells (P := P) (ψ id).blk off vs 0 w (by simpa using m1) (by simpa using m2) k2
                  simp only [Nat.add_zero] at hst
                  unfold Oper.wp
                  have hf : (Builtin.firstCells ie.size (Nat.min sLen dLen) (.slice (some ⟨(ψ jd).blk, (ψ jd).off + joff, none⟩) sLen c2)).run P w = .ok vs.toArray w :=
                    run_firstCells_some w ie.size _ _ sLen c2 vs k1 (fun j u hj => by rw [Addr.add_mid]; exact k3 j u hj)
                  have hrun : (Builtin.copy_ ts o.type #[a.eval x, a.eval y]).run P w = .ok (goInt (min sLen dLen : Nat)) (w.setCells (ψ id).blk off vs) := by
                    rw [e1, e2]
                    simp only [Builtin.copy_, ht0]
                    simp [run_underlying hu, Builtin.lenOf, sizeOf, typeInfo, hie, hf, m3, hst]
                  rw [hexec, Sem.run_bind, hrun]
                  exact hK ψ _ _ (A_nil (hr.heap_step m4 (.atom _ rfl) o.dst))
                · cases h
              · cases h
            · cases h
        · cases h
      · cases h
    · cases h
  · cases h

def evRange (P : Program) (nid : Nat) (t : TypeId) (x : Value) : Option Out :=
  match P.underlying t, x with
  | some .string, .string s => some ⟨.pointer (some ⟨nid, 0, none⟩), [(nid, some (.iter s 0))], [], [nid]⟩
  | _, _ => none

theorem range_ok {t : TypeId} {x : Operand} {nid : Nat} {out : Out} (ho : o.op = .range t x) (h : evRange P nid t (ev env x) = some out) : StepOK P o env H out := by
  unfold evRange at h
  split at h
  · rename_i s hu hv
    cases h
    intro F A ψ env1 H1 a w hr he hD hn K Q hK
    have hn' : ¬ A nid := hn _ (List.mem_singleton_self _)
    have h1 := opd hr he (x := x) (by simp [ho, Op.operands])
    rw [hv] at h1
    have e1 := h1.of_atom rfl
    unfold Oper.wp
    have hrun : (execOp a.eval o).run P w = .ok (.value (.pointer (some ⟨w.heap.size, 0, none⟩))) (w.alloc (.stringIter s 0)) := by
      simp [execOp, ho, e1, Instr.range, run_underlying hu]
    rw [hrun]
    have hob : ORel (fun id => A id ∨ id = nid) (upd ψ nid ⟨w.heap.size, 0, 0, 0⟩) ⟨w.heap.size, 0, 0, 0⟩ (w.alloc (.stringIter s 0)) (.iter s 0) := ⟨rfl, alloc_get _ _⟩
    exact hK _ _ _ (hr.push (SameBut.alloc w _) (by simp) hn' rfl hob (VR.new_ptr rfl) o.dst)
  · cases h

def evNext (H : Heap) (x : Value) (isString : Bool) : Option Out :=
  match x, isString with
  | .pointer (some ⟨id, 0, none⟩), true =>
    match rd H id with
    | some (.iter s pos) =>
      if pos < s.size then
        some ⟨.tuple #[.bool true, goInt pos, .int .i32 (Utf8.decode s pos).1], [(id, some (.iter s (pos + (Utf8.decode s pos).2)))], [id], []⟩
      else some ⟨.tuple #[.bool false], [], [id], []⟩
    | _ => none
  | _, _ => none

theorem next_ok {x : Operand} {b : Bool} {out : Out} (ho : o.op = .next x b) (h : evNext H (ev env x) b = some out) : StepOK P o env H out := by
  unfold evNext at h
  split at h
  · rename_i id hv
    split at h
    · rename_i s pos hrd
      split at h
      · rename_i hlt
        cases h
        intro F A ψ env1 H1 a w hr he hD hn K Q hK
        have h1 := opd hr he (x := x) (by simp [ho, Op.operands])
        rw [hv] at h1
        obtain ⟨hA, e1⟩ := h1.ptr_inv
        have hrd1 : rd H1 id = some (.iter s pos) := by rw [hD id (by simp), hrd]
        obtain ⟨hblk, hob⟩ := (hr.heap.live id _ hrd1).2.2 rfl
        obtain ⟨hoff, hob'⟩ := hob
        have hg : (getObj (ψ id).blk).run P w = .ok (.stringIter s pos) w := by simp [getObj, Sem.run, hob']
        have hs : (setObj (ψ id).blk (.stringIter s (pos + (Utf8.decode s pos).2))).run P w = .ok () { w with heap := w.heap.setIfInBounds (ψ id).blk (.stringIter s (pos + (Utf8.decode s pos).2)) } := by
          simp [setObj, Sem.run, hob']
        have hrun : (execOp a.eval o).run P w = .ok (.value (.tuple #[.bool true, goInt pos, .int .i32 (Utf8.decode s pos).1])) { w with heap := w.heap.setIfInBounds (ψ id).blk (.stringIter s (pos + (Utf8.decode s pos).2)) } := by
          simp [execOp, ho, e1, hoff, Instr.next, hg, hlt, hs]
        have hsame : SameBut w { w with heap := w.heap.setIfInBounds (ψ id).blk (.stringIter s (pos + (Utf8.decode s pos).2)) } (ψ id).blk :=
          ⟨rfl, rfl, rfl, by simp, fun k hk hne => by simp [Array.getElem?_setIfInBounds_ne (Ne.symm hne)]⟩
        unfold Oper.wp
        rw [hrun]
        refine hK ψ _ _ (A_nil (hr.heap_step (hr.heap.update hrd1 rfl rfl trivial hsame (o' := .iter s (pos + (Utf8.decode s pos).2)) ⟨hoff, by simp [hblk]⟩) (.refl_ground ?_) o.dst))
        rfl
      · rename_i hlt
        cases h
        refine StepOK.value fun F A ψ env1 H1 a w hr he hD => ⟨.tuple #[.bool false], ?_, .refl_ground rfl⟩
        have h1 := opd hr he (x := x) (by simp [ho, Op.operands])
        rw [hv] at h1
        obtain ⟨hA, e1⟩ := h1.ptr_inv
        have hrd1 : rd H1 id = some (.iter s pos) := by rw [hD id (by simp), hrd]
        obtain ⟨hblk, hoff, hob'⟩ := (hr.heap.live id _ hrd1).2.2 rfl
        have hg : (getObj (ψ id).blk).run P w = .ok (.stringIter s pos) w := by simp [getObj, Sem.run, hob']
        simp [execOp, ho, e1, hoff, Instr.next, hg, hlt]
    · cases h
  · cases h

end

/-! ### Maps with strings for keys -/
section
variable {P : Program} {o : Oper} {env : List Value} {H : Heap}
def findS (k : ByteArray) : List (ByteArray × Value) → Option Value
  | [] => none
  | p :: r => bif k == p.1 then some p.2 else findS k r

def evMakeMap (nid : Nat) : Out := ⟨.map (some nid), [(nid, some (.smap []))], [], [nid]⟩

theorem makeMap_ok {t : TypeId} {nid : Nat} (ho : o.op = .makeMap t none) : StepOK P o env H (evMakeMap nid) := by
  intro F A ψ env1 H1 a w hr he hD hn K Q hK
  have hn' : ¬ A nid := hn _ (List.mem_singleton_self _)
  unfold Oper.wp
  have hrun : (execOp a.eval o).run P w = .ok (.value (.map (some w.heap.size))) (w.alloc (.map #[] 0)) := by
    have hmk : (Instr.makeMap t none).run P w = .ok (.map (some w.heap.size)) (w.alloc (.map #[] 0)) := rfl
    simp [execOp, ho, hmk]
  rw [hrun]
  have hob : ORel (fun id => A id ∨ id = nid) (upd ψ nid ⟨w.heap.size, 0, 0, 0⟩) ⟨w.heap.size, 0, 0, 0⟩ (w.alloc (.map #[] 0)) (.smap []) := ⟨rfl, #[], 0, alloc_get _ _, rfl, by simp⟩
  have hv : VR (fun id => A id ∨ id = nid) (upd ψ nid ⟨w.heap.size, 0, 0, 0⟩) (.map (some nid)) (.map (some w.heap.size)) := by
    have := VR.map (A := fun id => A id ∨ id = nid) (ψ := upd ψ nid ⟨w.heap.size, 0, 0, 0⟩) nid (.inr rfl)
    simpa [upd] using this
  exact hK _ _ _ (hr.push (SameBut.alloc w _) (by simp) hn' rfl hob hv o.dst)

theorem findNow_find (k : ByteArray) : ∀ (L : List MapEntry) (es : List (ByteArray × Value)) (i : Nat), L.map (fun e => (e.key, e.val)) = es.map (fun p => (Value.string p.1, p.2)) →
    ∃ r, Instr.findNow .string (.string k) L i = some r ∧ r.map (·.2) = findS k es
  | [], [], i, _ => ⟨none, rfl, rfl⟩
  | [], _ :: _, i, h => by simp at h
  | _ :: _, [], i, h => by simp at h
  | e :: L, p :: es, i, h => by
    simp only [List.map_cons, List.cons.injEq, Prod.mk.injEq] at h
    obtain ⟨⟨h1, h2⟩, h3⟩ := h
    obtain ⟨r, r1, r2⟩ := findNow_find k L es (i + 1) h3
    unfold Instr.findNow findS
    rw [h1]
    cases hb : k == p.1 with
    | true => exact ⟨some (i, e.val), by simp [Instr.sameNow, hb], by simp [h2]⟩
    | false => exact ⟨r, by simp [Instr.sameNow, hb, r1], by simpa using r2⟩

theorem checkKey_string {key : TypeId} {k : ByteArray} {b : Bool} (hk : P.underlying key = some .string) (w : World) : (Instr.checkKey b 10000 key (.string k)).run P w = .ok () w := by
  have : ∀ n, (Instr.checkKey b (n + 1) key (.string k)).run P w = .ok () w := fun n => by simp [Instr.checkKey, run_underlying hk]
  exact this 9999

def evLookup (P : Program) (H : Heap) (t : TypeId) (x k : Value) (ok : Bool) : Option Out :=
  match P.underlying t, x, k with
  | some (.map key elem), .map (some id), .string s =>
    match P.underlying key, P.info? elem, rd H id with
    | some .string, some i, some (.smap es) =>
      match i.zero, findS s es with
      | some _, some v => if ground (.tuple #[v, .bool true]) && atom v then some ⟨bif ok then .tuple #[v, .bool true] else v, [], [id], []⟩ else none
      | some z, none => if ground (.tuple #[z, .bool false]) && ground1 z then some ⟨bif ok then .tuple #[z, .bool false] else z, [], [id], []⟩ else none
      | _, _ => none
    | _, _, _ => none
  | _, _, _ => none

theorem lookup_ok {t : TypeId} {x k : Operand} {ok : Bool} {out : Out} (ho : o.op = .lookup t x k ok) (h : evLookup P H t (ev env x) (ev env k) ok = some out) : StepOK P o env H out := by
  unfold evLookup at h
  split at h
  · rename_i key elem id s hu hx hk
    split at h
    · rename_i i es hku hi hrd
      have base : ∀ (F : Fr P) (A : Nat → Prop) (ψ : Nat → Gh) (env1 : List Value) (H1 : Heap) (a : Act) (w : World), Rel F A ψ env1 H1 a w → (∀ x ∈ o.op.operands, ev env1 x = ev env x) → rd H1 id = rd H id → ∀ z, i.zero = some z →
          (execOp a.eval o).run P w = .ok (.value (if ok then .tuple #[(findS s es).getD z, .bool (findS s es).isSome] else (findS s es).getD z)) w := by
        intro F A ψ env1 H1 a w hr he hD z hz
        have h1 := opd hr he (x := x) (by simp [ho, Op.operands])
        have h2 := opd hr he (x := k) (by simp [ho, Op.operands])
        rw [hx] at h1; rw [hk] at h2
        obtain ⟨hA, e1⟩ := h1.map_inv
        have e2 := h2.of_atom rfl
        obtain ⟨hblk, _, arr, clock, hm, hes, _⟩ := (hr.heap.live id _ (hD.trans hrd)).2.2 rfl
        obtain ⟨r, r1, r2⟩ := findNow_find s arr.toList es 0 hes
        have hg : (getObj (ψ id).blk).run P w = .ok (.map arr clock) w := by simp [getObj, Sem.run, hm]
        have hck := checkKey_string (P := P) (key := key) (k := s) (b := arr.isEmpty) hku w
        have hfk : (Instr.findKey key (.string s) arr.toList).run P w = .ok r w := by simp [Instr.findKey, run_underlying hku, r1]
        have hzv : (zeroValue elem).run P w = .ok z w := by simp [zeroValue, typeInfo, hi, hz]
        simp only [execOp, ho, e1, e2, Instr.lookup, Sem.run_bind, run_underlying hu, Result.andThen_ok, hg]
        rw [← r2]
        cases r with
        | none => cases ok <;> simp [hck, hfk, hzv]
        | some q => cases ok <;> simp [hck, hfk]
      split at h
      · rename_i z v hz hv
        split at h
        · rename_i hgr
          simp only [Bool.and_eq_true] at hgr
          cases h
          refine StepOK.value fun F A ψ env1 H1 a w hr he hD => ⟨_, base F A ψ env1 H1 a w hr he (hD id (by simp)) z hz, ?_⟩
          rw [hv]
          cases ok with
          | true => exact .refl_ground hgr.1
          | false => exact .atom _ hgr.2
        · cases h
      · rename_i z hz hv
        split at h
        · rename_i hgr
          simp only [Bool.and_eq_true] at hgr
          cases h
          refine StepOK.value fun F A ψ env1 H1 a w hr he hD => ⟨_, base F A ψ env1 H1 a w hr he (hD id (by simp)) z hz, ?_⟩
          rw [hv]
          cases ok with
          | true => exact .refl_ground hgr.1
          | false => exact .refl_ground1 hgr.2
        · cases h
      · cases h
    · cases h
  · cases h

def evMapUpdate (P : Program) (H : Heap) (t : TypeId) (x k v : Value) : Option Out :=
  match P.underlying t, x, k with
  | some (.map key _), .map (some id), .string s =>
    match P.underlying key, rd H id with
    | some .string, some (.smap es) =>
      match findS s es with
      | none => if atom v then some ⟨undef, [(id, some (.smap (es ++ [(s, v)])))], [id], []⟩ else none
      | some _ => none
    | _, _ => none
  | _, _, _ => none

theorem mapUpdate_ok {t : TypeId} {x k y : Operand} {out : Out} (ho : o.op = .mapUpdate t x k y) (h : evMapUpdate P H t (ev env x) (ev env k) (ev env y) = some out) : StepOK P o env H out := by
  unfold evMapUpdate at h
  split at h
  · rename_i key elem id s hu hx hk
    split at h
    · rename_i es hku hrd
      split at h
      · rename_i hf
        split at h
        · rename_i hat
          cases h
          intro F A ψ env1 H1 a w hr he hD hn K Q hK
          have h1 := opd hr he (x := x) (by simp [ho, Op.operands])
          have h2 := opd hr he (x := k) (by simp [ho, Op.operands])
          have h3 := opd hr he (x := y) (by simp [ho, Op.operands])
          rw [hx] at h1; rw [hk] at h2
          obtain ⟨hA, e1⟩ := h1.map_inv
          have e2 := h2.of_atom rfl
          have e3 := h3.of_atom hat
          have hrd1 : rd H1 id = some (.smap es) := by rw [hD id (by simp), hrd]
          obtain ⟨hblk, hoff, arr, clock, hm, hes, hall⟩ := (hr.heap.live id _ hrd1).2.2 rfl
          obtain ⟨r, r1, r2⟩ := findNow_find s arr.toList es 0 hes
          rw [hf] at r2
          have hr0 : r = none := by cases r <;> simp_all
          subst hr0
          have hg : (getObj (ψ id).blk).run P w = .ok (.map arr clock) w := by simp [getObj, Sem.run, hm]
          have hck := checkKey_string (P := P) (key := key) (k := s) (b := false) hku w
          have hfk : (Instr.findKey key (.string s) arr.toList).run P w = .ok none w := by simp [Instr.findKey, run_underlying hku, r1]
          have hset : (setObj (ψ id).blk (.map (arr.push { key := .string s, val := ev env y, born := clock }) (clock + 1))).run P w = .ok () { w with heap := w.heap.setIfInBounds (ψ id).blk (.map (arr.push { key := .string s, val := ev env y, born := clock }) (clock + 1)) } := by
            simp [setObj, Sem.run, hm]
          have hrun : (execOp a.eval o).run P w = .ok .skip { w with heap := w.heap.setIfInBounds (ψ id).blk (.map (arr.push { key := .string s, val := ev env y, born := clock }) (clock + 1)) } := by
            simp only [execOp, ho, e1, e2, e3, Instr.mapUpdate, Sem.run_bind, run_underlying hu, Result.andThen_ok, hg, hck, hfk, hset]
            rfl
          have hsame : SameBut w { w with heap := w.heap.setIfInBounds (ψ id).blk (.map (arr.push { key := .string s, val := ev env y, born := clock }) (clock + 1)) } (ψ id).blk :=
            ⟨rfl, rfl, rfl, by simp, fun k hk hne => by simp [Array.getElem?_setIfInBounds_ne (Ne.symm hne)]⟩
          unfold Oper.wp
          rw [hrun]
          refine hK ψ _ _ (A_nil (hr.heap_step (hr.heap.update hrd1 rfl rfl trivial hsame (o' := .smap (es ++ [(s, ev env y)])) ⟨hoff, arr.push { key := .string s, val := ev env y, born := clock }, clock + 1, by simp [hblk], ?_, ?_⟩) .refl_undef o.dst))
          · simp [hes]
          · intro p hp
            rcases List.mem_append.1 hp with hp | hp
            · exact hall p hp
            · simp only [List.mem_singleton] at hp; subst hp; exact hat
        · cases h
      · cases h
    · cases h
  · cases h

end

/-- Two integers. -/
def evInt (op : BinOp) (k : IntKind) (x y : Int) : Option Value :=
  match op with
  | .add => some (.int k (k.wrap (x + y)))
  | .sub => some (.int k (k.wrap (x - y)))
  | .mul => some (.int k (k.wrap (x * y)))
  | .eql => some (.bool (x == y))
  | .neq => some (.bool (x != y))
  | .lss => some (.bool (decide (x < y)))
  | .leq => some (.bool (decide (x ≤ y)))
  | .gtr => some (.bool (decide (y < x)))
  | .geq => some (.bool (decide (y ≤ x)))
  | .quo => if y = 0 then none else some (.int k (k.wrap (x.tdiv y)))
  | .rem => if y = 0 then none else some (.int k (x.tmod y))
  | _ => none

theorem evInt_run {P : Program} {w : World} {op : BinOp} {t : TypeId} {x y : Operand} {k : IntKind} {a b : Int} {v : Value} (h : evInt op k a b = some v) :
    (do eqGuard op t x y (.int k a) (.int k b); binOp op t (.int k a) (.int k b) : Sem Value).run P w = .ok v w := by
  have hg : (eqGuard op t x y (.int k a) (.int k b)).run P w = .ok () w := by
    unfold eqGuard; cases op <;> rfl
  rw [Sem.run_bind, hg]
  unfold evInt at h
  split at h
  all_goals first
    | (cases h; simp [binOp, Op.intArith, Op.intCmp]; done)
    | (split at h
       · cases h
       · rename_i hb; cases h; simp [binOp, Op.intDiv, hb])
    | cases h

def evBin (P : Program) (env : List Value) (o : Oper) (op : BinOp) (x y : Operand) : Option Out :=
  match ev env x, ev env y with
  | .int k a, .int k' b => if k = k' then (evInt op k a b).map (fun v => ⟨v, [], [], []⟩) else none
  | _, _ => evGround P env o

theorem evInt_atom {op : BinOp} {k : IntKind} {a b : Int} {v : Value} (h : evInt op k a b = some v) : atom v = true := by
  unfold evInt at h
  split at h <;> first | (cases h; rfl) | (split at h <;> cases h; rfl) | cases h

theorem bin_ok {P : Program} {env : List Value} {H : Heap} {o : Oper} {out : Out} {op : BinOp} {t yt : TypeId} {x y : Operand} (ho : o.op = .binOp op t x y yt) (h : evBin P env o op x y = some out) : StepOK P o env H out := by
  unfold evBin at h
  split at h
  · rename_i k a k' b hx hy
    split at h
    · rename_i hk
      subst hk
      obtain ⟨v, hv, rfl⟩ := Option.map_eq_some_iff.1 h
      refine StepOK.value fun F A ψ env1 H1 ac w hr he _ => ⟨v, ?_, .atom _ (evInt_atom hv)⟩
      have h1 := opd hr he (x := x) (by simp [ho, Op.operands])
      have h2 := opd hr he (x := y) (by simp [ho, Op.operands])
      rw [hx] at h1; rw [hy] at h2
      have e1 := h1.of_atom rfl
      have e2 := h2.of_atom rfl
      have := evInt_run (P := P) (w := w) (t := t) (x := x) (y := y) hv
      simp only [execOp, ho, e1, e2]
      rw [Sem.run_bind, this]; rfl
    · cases h
  · exact evGround_ok h

/-- An operation that is no call of a Go function. -/
def evOp (P : Program) (env : List Value) (H : Heap) (nid : Nat) (o : Oper) : Option Out :=
  match o.op with
  | .move x | .assign x => some ⟨ev env x, [], [], []⟩
  | .pick c x y => evPick env c x y
  | .extract x ix => evExtract (ev env x) ix
  | .field t x f => evField P t (ev env x) f
  | .index t x i => match ev env x with | .agg _ => evIndex P t (ev env x) (ev env i) | _ => evGround P env o
  | .load t x => evLoad P H t (ev env x)
  | .store t x y => evStore P H t (ev env x) (ev env y)
  | .fieldAddr t x f => evFieldAddr P t (ev env x) f
  | .indexAddr t x i => evIndexAddr P t (ev env x) (ev env i)
  | .makeFunc fn fs cs => evMakeFunc fn env fs cs
  | .alloc t => evAlloc P nid t
  | .box _ x => evBox nid (ev env x)
  | .build t ps => evBuild P env t ps
  | .buildSlice t n ps => evBuildSlice P env nid t n ps
  | .makeSlice t x y => evMakeSlice P nid t (ev env x) (ev env y)
  | .slice t x lo hi mx => match ev env x with | .string _ => evGround P env o | _ => evSlice P env H t (ev env x) lo hi mx
  | .range t x => evRange P nid t (ev env x)
  | .makeMap _ none => some (evMakeMap nid)
  | .lookup t x k ok => evLookup P H t (ev env x) (ev env k) ok
  | .mapUpdate t x k y => evMapUpdate P H t (ev env x) (ev env k) (ev env y)
  | .next x b => evNext H (ev env x) b
  | .call ⟨.builtin .len, args, ts⟩ => match args.toList, ts.toList with | [x], t :: _ => evLen P t (ev env x) | _, _ => none
  | .call ⟨.builtin .append, args, ts⟩ => match args.toList with | [x, y] => evAppend P H nid ts.toList (ev env x) (ev env y) | _ => none
  | .call ⟨.builtin .copy, args, ts⟩ => match args.toList with | [x, y] => evCopy P H ts.toList (ev env x) (ev env y) | _ => none
  | .call ⟨.builtin .min, _, _⟩ | .call ⟨.builtin .max, _, _⟩ => evGround P env o
  | .binOp op _ x y _ => evBin P env o op x y
  | .unOp _ _ _ | .convert _ _ _ => evGround P env o
  | _ => none

theorem args_list {xs : Array Operand} {l : List Operand} (h : xs.toList = l) : xs = l.toArray := by
  rw [← h]

theorem evOp_ok {P : Program} {env : List Value} {H : Heap} {nid : Nat} {o : Oper} {out : Out} (h : evOp P env H nid o = some out) : StepOK P o env H out := by
  unfold evOp at h
  split at h
  · rename_i x ho; cases h; exact move_ok (.inl ho)
  · rename_i x ho; cases h; exact move_ok (.inr ho)
  · rename_i ho; exact pick_ok ho h
  · rename_i ho; exact extract_ok ho h
  · rename_i ho; exact field_ok ho h
  · rename_i ho; split at h
    · exact index_ok ho h
    · exact evGround_ok h
  · rename_i ho; exact load_ok ho h
  · rename_i ho; exact store_ok ho h
  · rename_i ho; exact fieldAddr_ok ho h
  · rename_i ho; exact indexAddr_ok ho h
  · rename_i ho; exact makeFunc_ok ho h
  · rename_i ho; exact alloc_ok ho h
  · rename_i ho; exact box_ok ho h
  · rename_i ho; exact build_ok ho h
  · rename_i ho; exact buildSlice_ok ho h
  · rename_i ho; exact makeSlice_ok ho h
  · rename_i ho; split at h
    · exact evGround_ok h
    · exact slice_ok ho h
  · rename_i ho; exact range_ok ho h
  · rename_i ho; cases h; exact makeMap_ok ho
  · rename_i ho; exact lookup_ok ho h
  · rename_i ho; exact mapUpdate_ok ho h
  · rename_i ho; exact next_ok ho h
  · rename_i args ts ho; split at h
    · rename_i x t r e1 e2
      rw [args_list e1] at ho
      exact len_ok ho (by rw [e2]; rfl) h
    · cases h
  · rename_i args ts ho; split at h
    · rename_i x y e1
      rw [args_list e1] at ho
      exact append_ok ho h
    · cases h
  · rename_i args ts ho; split at h
    · rename_i x y e1
      rw [args_list e1] at ho
      exact copy_ok ho h
    · cases h
  all_goals first | (rename_i ho; exact bin_ok ho h) | exact evGround_ok h | cases h

end
end Go.Vm
end
section
/- Calls of Go functions as operations; a region, in the order of the text and in any order. -/
namespace Go.Vm
noncomputable section

/-! ### Calls -/
structure LR (A : Nat → Prop) (ψ : Nat → Gh) (l l' : List Value) : Prop where
  len : l'.length = l.length
  at_ : ∀ i, VR A ψ (l.getD i poi) (l'.getD i undef)

def CallRes (P : Program) (f : FuncId) (args : List Value) (H : Heap) (out : Out) : Prop :=
  ∀ (F : Fr P) A ψ H1 w args', HRel F A ψ H1 w → LR A ψ args args' → (∀ id ∈ out.D, rd H1 id = rd H id) → (∀ id ∈ out.nu, ¬ A id) →
    Calls P f args'.toArray w (fun e w' => ∃ v' ψ1, e = .returned v' ∧ HRel F (fun id => A id ∨ id ∈ out.nu) ψ1 (ap H1 out.δ) w' ∧ (∀ id, A id → ψ1 id = ψ id) ∧ VR (fun id => A id ∨ id ∈ out.nu) ψ1 out.v v')

abbrev CallF := FuncId → List Value → Heap → Nat → Option Out

def CallOK (P : Program) (call : CallF) : Prop := ∀ f args H nid out, call f args H nid = some out → CallRes P f args H out

def callable (P : Program) (f : FuncId) : Bool :=
  match P.funcs[f]? with
  | some fn => fn.name != "runtime.NumGoroutine" && fn.body.isSome
  | none => false

def evStep (P : Program) (call : CallF) (env : List Value) (H : Heap) (nid : Nat) (o : Oper) : Option Out :=
  match o.op with
  | .call ⟨.value f, args, _⟩ =>
    match ev env f with
    | .func (.func g) first cap => if callable P g then call g (first.toList ++ args.toList.map (ev env) ++ cap.toList) H nid else none
    | _ => none
  | _ => evOp P env H nid o

section
variable {P : Program} {o : Oper} {env env1 : List Value} {H H1 : Heap} {F : Fr P} {A : Nat → Prop} {ψ : Nat → Gh} {a : Act} {w : World}

theorem VR.func_inv {fn : Fn} {xs us : Array Value} {v' : Value} (h : VR A ψ (.func fn xs us) v') :
    ∃ ys vs, v' = .func fn ys vs ∧ LR A ψ xs.toList ys.toList ∧ LR A ψ us.toList vs.toList := by
  have conv : ∀ {xs ys : Array Value}, xs.size = ys.size → (∀ i, VR A ψ (xs.getD i poi) (ys.getD i undef)) → LR A ψ xs.toList ys.toList := fun hs h =>
    ⟨by simp [hs], fun i => by simpa [Array.getD_eq_getD_getElem?, List.getD_eq_getElem?_getD] using h i⟩
  cases h with
  | atom _ ha =>
    cases fn <;> simp [Vm.atom] at ha
    obtain ⟨rfl, rfl⟩ := ha
    exact ⟨#[], #[], rfl, ⟨rfl, fun i => by simp; exact .poison _⟩, ⟨rfl, fun i => by simp; exact .poison _⟩⟩
  | func _ _ ys _ vs hs ht h k => exact ⟨ys, vs, rfl, conv hs h, conv ht k⟩

theorem LR.append {l m l' m' : List Value} (h : LR A ψ l l') (k : LR A ψ m m') : LR A ψ (l ++ m) (l' ++ m') :=
  ⟨by simp [h.len, k.len], get_append h.len h.at_ k.at_⟩

theorem LR.args {args : List Operand} (h : ∀ x ∈ args, VR A ψ (ev env x) (a.eval x)) : LR A ψ (args.map (ev env)) (args.map a.eval) := by
  refine ⟨by simp, fun i => ?_⟩
  by_cases hi : i < args.length
  · have e1 : (args.map (ev env)).getD i poi = ev env args[i] := by simp [List.getD_eq_getElem?_getD, hi]
    have e2 : (args.map a.eval).getD i undef = a.eval args[i] := by simp [List.getD_eq_getElem?_getD, hi]
    rw [e1, e2]; exact h _ (List.getElem_mem _)
  · have e1 : (args.map (ev env)).getD i poi = poi := by simp [List.getD_eq_getElem?_getD, hi]
    rw [e1]; exact .poison _

theorem evStep_ok {call : CallF} (hc : CallOK P call) {nid : Nat} {out : Out} (h : evStep P call env H nid o = some out) : StepOK P o env H out := by
  unfold evStep at h
  split at h
  · rename_i f args ts ho
    split at h
    · rename_i g first cap hf
      split at h
      · rename_i hcall
        intro F A ψ env1 H1 a w hr he hD hn K Q hK
        have h1 := opd hr he (x := f) (by simp [ho, Op.operands, Call.operands])
        rw [hf] at h1
        obtain ⟨ys, vs, e1, l1, l2⟩ := h1.func_inv
        have l3 : LR A ψ (args.toList.map (ev env)) (args.toList.map a.eval) := LR.args fun x hx => opd hr he (by simp [ho, Op.operands, Call.operands]; exact .inr (by simpa using hx))
        have hcalls := hc g _ H nid out h F A ψ H1 w _ hr.heap ((l1.append l3).append l2) hD hn
        unfold callable at hcall
        split at hcall
        · rename_i fn hfn
          simp only [Bool.and_eq_true, bne_iff_ne, ne_eq] at hcall
          have hrun : (execOp a.eval o).run P w = .ok (.enter g (ys ++ args.map a.eval ++ vs)) w := by
            have hb : fn.body ≠ none := by intro hh; simp [hh] at hcall
            simp [execOp, ho, resolve, Deferred.ofValue, e1, invoke, callFunc, hfn, hb, hcall.1]
          unfold Oper.wp
          rw [hrun]
          simp only [Oper.upon]
          have harr : (ys.toList ++ args.toList.map a.eval ++ vs.toList).toArray = ys ++ args.map a.eval ++ vs := by
            apply Array.ext'; simp
          rw [harr] at hcalls
          refine hcalls.mono ?_
          rintro e w' ⟨v', ψ1, rfl, hh, hag, hv⟩
          exact hK ψ1 _ _ (put_rel ⟨fun t => (hr.slot t).mono fun id ha => ⟨.inl ha, hag id ha⟩, hr.len, hr.defers, hh⟩ hv o.dst)
        · cases hcall
      · cases h
    · cases h
  · exact evOp_ok h

/-! ### A region, in the order of the text -/
def wantedA (ops : Array Oper) (env : List Value) (o : Oper) : Option Bool :=
  match o.guard with
  | none => some true
  | some (j, want) =>
    match (ops[j]?).bind (·.dst) with
    | none => some false
    | some t =>
      match gt env t with
      | .bool b => some (b == want)
      | .tuple l => if l.toList.isEmpty then some false else none
      | _ => none

theorem VR.undef_inv {v' : Value} (h : VR A ψ (.tuple #[]) v') : v' = .tuple #[] := by
  obtain ⟨ys, rfl, hs, _⟩ := h.tuple_inv rfl
  congr 1
  apply Array.eq_empty_of_size_eq_zero; simpa using hs.symm

theorem wanted_ok {ops : Array Oper} (hr : Rel F A ψ env H a w) {b : Bool} (h : wantedA ops env o = some b) : Region.wanted o (yielded ops a.tmps) = b := by
  unfold wantedA at h
  unfold Region.wanted
  split at h
  · rename_i hg; cases h; simp [hg]
  · rename_i j want hg
    simp only [hg]
    split at h
    · rename_i hd
      cases h
      simp [yielded, hd]
    · rename_i t hd
      have hs := hr.slot t
      rw [← gt_eq] at hs
      split at h
      · rename_i b' hb
        cases h
        rw [hb] at hs
        have := hs.of_atom rfl
        have h1 : a.tmps[t]? = some (.bool b') := by
          rw [Array.getD_eq_getD_getElem?] at this
          cases h2 : a.tmps[t]? with
          | none => simp [h2, undef] at this
          | some v => simpa [h2] using this
        simp [yielded, hd, h1]
      · rename_i l hl
        split at h
        · rename_i hemp
          cases h
          have hl' : l = #[] := by simpa using hemp
          subst hl'
          rw [hl] at hs
          have := hs.undef_inv
          rw [Array.getD_eq_getD_getElem?] at this
          have h1 : yielded ops a.tmps j = none := by
            unfold yielded
            rw [hd]
            cases h2 : a.tmps[t]? with
            | none => simp [h2]
            | some v => simp [h2] at this; subst this; simp [h2]
          simp [h1]
        · cases h
      · cases h

def freshOK (H : Heap) (out : Out) : Bool := out.nu.all fun id => decide (H.length ≤ id) && decide (id < (ap H out.δ).length)

/-- Values laid out. -/
def fNat {α : Type} (n : Nat) (k : Nat → α) : α := Nat.rec (motive := fun _ => α) (k 0) (fun m _ => k (m + 1)) n
def fInt {α : Type} (n : Int) (k : Int → α) : α := Int.rec (motive := fun _ => α) (fun m => fNat m fun m => k (.ofNat m)) (fun m => fNat m fun m => k (.negSucc m)) n
def fBool {α : Type} (b : Bool) (k : Bool → α) : α := Bool.rec (motive := fun _ => α) (k false) (k true) b
def fList {α : Type} (f : Value → (Value → α) → α) (l : List Value) : (List Value → α) → α :=
  List.rec (motive := fun _ => (List Value → α) → α) (fun k => k []) (fun v _ ih k => f v fun v => ih fun r => k (v :: r)) l
def fVal {α : Type} : Nat → Value → (Value → α) → α
  | 0, v, k => k v
  | d + 1, v, k =>
    match v with
    | .bool b => fBool b fun b => k (.bool b)
    | .int q n => fInt n fun n => k (.int q n)
    | .float q n => fNat n fun n => k (.float q n)
    | .pointer (some ⟨id, off, none⟩) => fNat id fun id => fNat off fun off => k (.pointer (some ⟨id, off, none⟩))
    | .slice (some ⟨id, off, none⟩) len cap => fNat id fun id => fNat off fun off => fNat len fun len => fNat cap fun cap => k (.slice (some ⟨id, off, none⟩) len cap)
    | .map (some id) => fNat id fun id => k (.map (some id))
    | .agg xs => fList (fVal d) xs.toList fun l => k (.agg l.toArray)
    | .tuple xs => fList (fVal d) xs.toList fun l => k (.tuple l.toArray)
    | v => k v

theorem fNat_eq {α : Type} (n : Nat) (k : Nat → α) : fNat n k = k n := by cases n <;> rfl
theorem fInt_eq {α : Type} (n : Int) (k : Int → α) : fInt n k = k n := by
  cases n with
  | ofNat m => exact fNat_eq m (fun m => k (.ofNat m))
  | negSucc m => exact fNat_eq m (fun m => k (.negSucc m))
theorem fBool_eq {α : Type} (b : Bool) (k : Bool → α) : fBool b k = k b := by cases b <;> rfl
theorem fList_eq {α : Type} {f : Value → (Value → α) → α} (hf : ∀ v k, f v k = k v) : ∀ (l : List Value) (k : List Value → α), fList f l k = k l
  | [], _ => rfl
  | v :: r, k => by show f v _ = _; rw [hf]; exact fList_eq hf r _
theorem fVal_eq {α : Type} : ∀ (d : Nat) (v : Value) (k : Value → α), fVal d v k = k v
  | 0, _, _ => rfl
  | d + 1, v, k => by
    unfold fVal
    split <;> simp only [fBool_eq, fInt_eq, fNat_eq, fList_eq (fVal_eq d)]

def evOps (P : Program) (call : CallF) (fd : Nat) (ops : Array Oper) : List Oper → List Value → Heap → Option (List Value × Heap)
  | [], env, H => some (env, H)
  | o :: rest, env, H =>
    match wantedA ops env o with
    | some true =>
      match evStep P call env H H.length o with
      | some out => if freshOK H out then fVal fd out.v fun v => evOps P call fd ops rest (put env o.dst v) (ap H out.δ) else none
      | none => none
    | some false => evOps P call fd ops rest (put env o.dst undef) H
    | none => none

theorem len_ap : ∀ (δ : Delta) (H : Heap), H.length ≤ (ap H δ).length
  | [], _ => Nat.le_refl _
  | (i, o) :: r, H => Nat.le_trans (len_wr H i o).1 (len_ap r _)

theorem fresh_spec {out : Out} (h : freshOK H out = true) (hb : ∀ id, A id → id < H.length) : (∀ id ∈ out.nu, ¬ A id) ∧ ∀ id, (A id ∨ id ∈ out.nu) → id < (ap H out.δ).length := by
  simp only [freshOK, List.all_eq_true, Bool.and_eq_true, decide_eq_true_eq] at h
  refine ⟨fun id hi ha => ?_, fun id hi => ?_⟩
  · have := (h id hi).1; have := hb id ha; omega
  · rcases hi with hi | hi
    · exact Nat.lt_of_lt_of_le (hb id hi) (len_ap _ _)
    · exact (h id hi).2

theorem skip_rel (hr : Rel F A ψ env H a w) (dst : Option Tmp) : Rel F A ψ (put env dst undef) H (a.put dst undef) w := put_rel hr .refl_undef dst

theorem evOps_plain {call : CallF} (hc : CallOK P call) {fd : Nat} {ops : Array Oper} : ∀ (l : List Oper) (env : List Value) (H : Heap) (r : List Value × Heap), evOps P call fd ops l env H = some r →
    ∀ (F : Fr P) A ψ a w (Q : Exit → Act → World → Prop), Rel F A ψ env H a w → (∀ id, A id → id < H.length) → (∀ A' ψ' a' w', Rel F A' ψ' r.1 r.2 a' w' → (∀ id, A' id → id < r.2.length) → Q .normal a' w') → wpList P ops Q l a w := by
  intro l
  induction l with
  | nil =>
    intro env H r h F A ψ a w Q hr hb hQ
    simp only [evOps, Option.some.injEq] at h
    subst h
    exact hQ _ _ _ _ hr hb
  | cons o rest ih =>
    intro env H r h F A ψ a w Q hr hb hQ
    simp only [evOps, fVal_eq] at h
    simp only [wpList]
    split at h
    · rename_i hw
      rw [wanted_ok hr hw]
      simp only [if_true]
      split at h
      · rename_i out hs
        split at h
        · rename_i hf
          obtain ⟨h1, h2⟩ := fresh_spec hf hb
          refine .inl (evStep_ok hc hs F A ψ env H a w hr (fun _ _ => rfl) (fun _ _ => rfl) h1 _ _ fun ψ1 a1 w1 hr1 => ?_)
          exact ih _ _ _ h _ _ _ _ _ _ hr1 h2 hQ
        · cases h
      · cases h
    · rename_i hw
      rw [wanted_ok hr hw]
      simp only [Bool.false_eq_true, if_false]
      exact ih _ _ _ h _ _ _ _ _ _ (skip_rel hr o.dst) hb hQ
    · cases h

end
end
end Go.Vm
end
section
/- A region that draws its order: one evaluation in the order of the text serves every order. -/
namespace Go.Vm
noncomputable section

structure Ent where
  env : List Value
  H : Heap
  wanted : Bool
  out : Out

abbrev Tri := Nat × Oper × Ent

def noOut : Out := ⟨undef, [], [], []⟩

def evDraw (P : Program) (call : CallF) (fd : Nat) (ops : Array Oper) : Nat → List Oper → List Value → Heap → Option (List Value × Heap × List Tri)
  | _, [], env, H => some (env, H, [])
  | k, o :: rest, env, H =>
    match wantedA ops env o with
    | some true =>
      match evStep P call env H H.length o with
      | some out =>
        if freshOK H out then
          fVal fd out.v fun v =>
            match evDraw P call fd ops (k + 1) rest (put env o.dst v) (ap H out.δ) with
            | some (env', H', L) => some (env', H', (k, o, ⟨env, H, true, out⟩) :: L)
            | none => none
        else none
      | none => none
    | some false =>
      match evDraw P call fd ops (k + 1) rest (put env o.dst undef) H with
      | some (env', H', L) => some (env', H', (k, o, ⟨env, H, false, noOut⟩) :: L)
      | none => none
    | none => none

/-- What the evaluation shows. -/
def Trace (P : Program) (ops : Array Oper) : List Tri → List Value → Heap → List Value → Heap → Prop
  | [], env, H, env', H' => env' = env ∧ H' = H
  | (_, o, e) :: r, env, H, env', H' => e.env = env ∧ e.H = H ∧ wantedA ops env o = some e.wanted ∧
      (e.wanted = true → StepOK P o env H e.out ∧ freshOK H e.out = true) ∧ (e.wanted = false → e.out = noOut) ∧
      Trace P ops r (put env o.dst e.out.v) (ap H e.out.δ) env' H'

theorem evDraw_trace {P : Program} {call : CallF} (hc : CallOK P call) {fd : Nat} {ops : Array Oper} : ∀ (l : List Oper) (k : Nat) (env : List Value) (H : Heap) (env' : List Value) (H' : Heap) (L : List Tri),
    evDraw P call fd ops k l env H = some (env', H', L) → Trace P ops L env H env' H' ∧ L.map (·.2.1) = l ∧ L.map (·.1) = List.range' k l.length
  | [], k, env, H, env', H', L, h => by simp [evDraw] at h; obtain ⟨rfl, rfl, rfl⟩ := h; exact ⟨⟨rfl, rfl⟩, rfl, rfl⟩
  | o :: rest, k, env, H, env', H', L, h => by
    simp only [evDraw, fVal_eq] at h
    split at h
    · rename_i hw
      split at h
      · rename_i out hs
        split at h
        · rename_i hf
          split at h
          · rename_i e1 h1 L1 hrec
            cases h
            obtain ⟨t1, t2, t3⟩ := evDraw_trace hc rest (k + 1) _ _ _ _ _ hrec
            exact ⟨⟨rfl, rfl, hw, fun _ => ⟨evStep_ok hc hs, hf⟩, (fun hh => by cases hh), t1⟩, by simp [t2], by simp [t3, List.range'_succ]⟩
          · cases h
        · cases h
      · cases h
    · rename_i hw
      split at h
      · rename_i e1 h1 L1 hrec
        cases h
        obtain ⟨t1, t2, t3⟩ := evDraw_trace hc rest (k + 1) _ _ _ _ _ hrec
        exact ⟨⟨rfl, rfl, hw, (fun hh => by cases hh), fun _ => rfl, t1⟩, by simp [t2], by simp [t3, List.range'_succ]⟩
      · cases h
    · cases h

/-! ### What is ordered, and what is apart -/
def mask (o : Oper) (acc : List Nat) : Nat := o.after.toList.foldl (fun s e => if Region.binds .any e then s ||| 2 ^ e.on ||| acc.getD e.on 0 else s) 0

def masks : List Oper → List Nat → List Nat
  | [], acc => acc
  | o :: r, acc => masks r (acc ++ [mask o acc])

/-- Slots apart: this is of the text alone. -/
def statPairs (ops : Array Oper) (ms : List Nat) : List (Nat × Oper) → Bool
  | [] => true
  | x :: r => r.all (fun y => (ms.getD y.1 0).testBit x.1 || x.2.apart ops y.2) && statPairs ops ms r

def edgesOK : Nat → List Oper → Bool
  | _, [] => true
  | k, o :: r => o.after.toList.all (fun e => !Region.binds .any e || decide (e.on < k)) && edgesOK (k + 1) r

def index : Nat → List Oper → List (Nat × Oper)
  | _, [] => []
  | k, o :: r => (k, o) :: index (k + 1) r

def statOK (ops : Array Oper) : Bool := Region.noSelect ops && edgesOK 0 ops.toList && statPairs ops (masks ops.toList []) (index 0 ops.toList)

def memApart (x y : Tri) : Bool :=
  x.2.2.out.δ.all (fun p => !(y.2.2.out.D.contains p.1) && !((y.2.2.out.δ.map (·.1)).contains p.1)) && y.2.2.out.δ.all (fun p => !(x.2.2.out.D.contains p.1))

def memPairs (ms : List Nat) : List Tri → Bool
  | [] => true
  | x :: r => r.all (fun y => (x.2.2.out.δ.isEmpty && y.2.2.out.δ.isEmpty) || (ms.getD y.1 0).testBit x.1 || memApart x y) && memPairs ms r

def drawOK (ops : Array Oper) (L : List Tri) : Bool := statOK ops && memPairs (masks ops.toList []) L

def apartE (ops : Array Oper) (x y : Tri) : Bool := x.2.1.apart ops y.2.1 && memApart x y

def pairsOK (ops : Array Oper) (ms : List Nat) : List Tri → Bool
  | [] => true
  | x :: r => r.all (fun y => (ms.getD y.1 0).testBit x.1 || apartE ops x y) && pairsOK ops ms r

theorem memApart_nil {x y : Tri} (h1 : x.2.2.out.δ.isEmpty = true) (h2 : y.2.2.out.δ.isEmpty = true) : memApart x y = true := by
  simp only [List.isEmpty_iff] at h1 h2
  simp [memApart, h1, h2]

theorem pairs_join {ops : Array Oper} {ms : List Nat} : ∀ {L : List Tri}, statPairs ops ms (L.map fun x => (x.1, x.2.1)) = true → memPairs ms L = true → pairsOK ops ms L = true
  | [], _, _ => rfl
  | x :: r, h1, h2 => by
    simp only [List.map_cons, statPairs, Bool.and_eq_true, List.all_eq_true, List.mem_map] at h1
    simp only [memPairs, Bool.and_eq_true, List.all_eq_true] at h2
    simp only [pairsOK, Bool.and_eq_true, List.all_eq_true]
    refine ⟨fun y hy => ?_, pairs_join h1.2 h2.2⟩
    have a1 := h1.1 (y.1, y.2.1) ⟨y, hy, rfl⟩
    have a2 := h2.1 y hy
    simp only [Bool.or_eq_true, Bool.and_eq_true] at a1 a2 ⊢
    rcases a1 with a1 | a1
    · exact .inl a1
    · rcases a2 with (a2 | a2) | a2
      · refine .inr ?_
        simp only [apartE, Bool.and_eq_true]
        exact ⟨a1, memApart_nil a2.1 a2.2⟩
      · exact .inl a2
      · refine .inr ?_
        simp only [apartE, Bool.and_eq_true]
        exact ⟨a1, a2⟩

theorem index_eq : ∀ {L : List Tri} {k : Nat} {l : List Oper}, L.map (·.2.1) = l → L.map (·.1) = List.range' k l.length → L.map (fun x => (x.1, x.2.1)) = index k l
  | [], k, l, h, _ => by simp at h; subst h; rfl
  | x :: r, k, l, h, h2 => by
    cases l with
    | nil => simp at h
    | cons o l =>
      simp only [List.map_cons, List.cons.injEq] at h
      simp only [List.map_cons, List.length_cons, List.range'_succ, List.cons.injEq] at h2
      simp only [List.map_cons, index, h.1, h2.1]
      rw [index_eq h.2 h2.2]

theorem mask_bit {o : Oper} {acc : List Nat} {i : Nat} (h : (mask o acc).testBit i = true) : ∃ e ∈ o.after, Region.binds .any e = true ∧ (e.on = i ∨ (acc.getD e.on 0).testBit i = true) := by
  unfold mask at h
  have : ∀ (l : List Edge) (s : Nat), (l.foldl (fun s e => if Region.binds .any e then s ||| 2 ^ e.on ||| acc.getD e.on 0 else s) s).testBit i = true → s.testBit i = true ∨ ∃ e ∈ l, Region.binds .any e = true ∧ (e.on = i ∨ (acc.getD e.on 0).testBit i = true) := by
    intro l
    induction l with
    | nil => intro s h; exact .inl h
    | cons e r ih =>
      intro s h
      rw [List.foldl_cons] at h
      rcases ih _ h with h1 | ⟨e', he', h1⟩
      · split at h1
        · rename_i hb
          simp only [Nat.testBit_or, Bool.or_eq_true, Nat.testBit_two_pow] at h1
          rcases h1 with (h1 | h1) | h1
          · exact .inl h1
          · exact .inr ⟨e, by simp, hb, .inl (by simpa using h1)⟩
          · exact .inr ⟨e, by simp, hb, .inr h1⟩
        · exact .inl h1
      · exact .inr ⟨e', by simp [he'], h1⟩
  rcases this _ 0 h with h | ⟨e, he, h1⟩
  · simp at h
  · exact ⟨e, by simpa using he, h1⟩

/-- S: what has been done; whatever an operation of S waits for is in S. -/
def Closed (ops : List Oper) (k : Nat) (S : Nat → Prop) : Prop := ∀ j o, ops[j]? = some o → S (k + j) → ∀ e ∈ o.after, Region.binds .any e = true → S e.on

theorem masks_spec {S : Nat → Prop} : ∀ (l : List Oper) (acc : List Nat), Closed l acc.length S → (∀ j, S j → ∀ i, (acc.getD j 0).testBit i = true → S i) →
    (∀ j, S j → ∀ i, ((masks l acc).getD j 0).testBit i = true → S i) ∧
    (∀ j o, l[j]? = some o → (∀ e ∈ o.after, Region.binds .any e = true → S e.on) → ∀ i, ((masks l acc).getD (acc.length + j) 0).testBit i = true → S i) ∧ (∀ j, j < acc.length → (masks l acc).getD j 0 = acc.getD j 0)
  | [], acc, _, h => ⟨h, fun j o h => by simp at h, fun _ _ => rfl⟩
  | o :: r, acc, hc, h => by
    have step : (∀ e ∈ o.after, Region.binds .any e = true → S e.on) → ∀ i, (mask o acc).testBit i = true → S i := fun he i hi => by
      obtain ⟨e, h1, h2, h3⟩ := mask_bit hi
      have hS := he e h1 h2
      rcases h3 with rfl | h3
      · exact hS
      · exact h _ hS i h3
    have h' : ∀ j, S j → ∀ i, ((acc ++ [mask o acc]).getD j 0).testBit i = true → S i := fun j hj i hi => by
      simp only [List.getD_eq_getElem?_getD] at hi h
      by_cases hlt : j < acc.length
      · rw [List.getElem?_append_left hlt] at hi; exact h j hj i hi
      · rw [List.getElem?_append_right (by omega)] at hi
        by_cases h0 : j - acc.length = 0
        · rw [h0] at hi
          have : j = acc.length + 0 := by omega
          refine step (hc 0 o rfl (by rw [← this]; exact hj)) i (by simpa using hi)
        · rw [List.getElem?_eq_none (by simp; omega)] at hi; simp at hi
    have hc' : Closed r (acc ++ [mask o acc]).length S := fun j o' ho hS => hc (j + 1) o' (by simpa using ho) (by rw [show acc.length + (j + 1) = (acc ++ [mask o acc]).length + j by simp; omega]; exact hS)
    obtain ⟨i1, i2, i3⟩ := masks_spec r (acc ++ [mask o acc]) hc' h'
    refine ⟨i1, fun j o' ho he i hi => ?_, fun j hj => ?_⟩
    · cases j with
      | zero =>
        simp at ho; subst ho
        refine step he i ?_
        have := i3 acc.length (by simp)
        rw [masks, Nat.add_zero, this] at hi
        simpa [List.getD_eq_getElem?_getD] using hi
      | succ j =>
        refine i2 j o' (by simpa using ho) he i ?_
        rw [show (acc ++ [mask o acc]).length + j = acc.length + (j + 1) by simp; omega]
        exact hi
    · have := i3 j (by simp; omega)
      rw [masks, this]
      simp [List.getD_eq_getElem?_getD, List.getElem?_append_left hj]

/-! ### What some of the operations leave -/
def envS (S : Nat → Bool) : List Tri → List Value → List Value
  | [], env => env
  | (i, o, e) :: r, env => envS S r (if S i then put env o.dst e.out.v else env)

def hS (S : Nat → Bool) : List Tri → Heap → Heap
  | [], H => H
  | (i, _, e) :: r, H => hS S r (if S i then ap H e.out.δ else H)

theorem put_len (env : List Value) (d : Option Tmp) (v : Value) : (put env d v).length = env.length := by cases d <;> first | rfl | simp [put_some]

theorem put_get_ne {env : List Value} {d : Option Tmp} {v : Value} {t : Nat} (h : d ≠ some t) : (put env d v).getD t poi = env.getD t poi := by
  cases d with
  | none => rfl
  | some d =>
    have : d ≠ t := fun e => h (by rw [e])
    simp [put_some, List.getD_eq_getElem?_getD, List.getElem?_set_ne this]

theorem put_get_congr {env env' : List Value} (hl : env.length = env'.length) {d : Option Tmp} {v : Value} {t : Nat} (h : env.getD t poi = env'.getD t poi) : (put env d v).getD t poi = (put env' d v).getD t poi := by
  cases d with
  | none => exact h
  | some d =>
    by_cases e : d = t
    · subst e
      by_cases hd : d < env.length
      · simp [put_some, List.getD_eq_getElem?_getD, hd, hl ▸ hd]
      · simp [put_some, List.getD_eq_getElem?_getD, hd, hl ▸ hd]
    · rw [put_get_ne (by simpa using e), put_get_ne (by simpa using e)]; exact h

theorem envS_append (S : Nat → Bool) : ∀ (L M : List Tri) (env : List Value), envS S (L ++ M) env = envS S M (envS S L env)
  | [], _, _ => rfl
  | (i, o, e) :: r, M, env => by simp only [List.cons_append, envS]; exact envS_append S r M _

theorem hS_append (S : Nat → Bool) : ∀ (L M : List Tri) (H : Heap), hS S (L ++ M) H = hS S M (hS S L H)
  | [], _, _ => rfl
  | (i, o, e) :: r, M, H => by simp only [List.cons_append, hS]; exact hS_append S r M _

theorem envS_len (S : Nat → Bool) : ∀ (L : List Tri) (env : List Value), (envS S L env).length = env.length
  | [], _ => rfl
  | (i, o, e) :: r, env => by
    simp only [envS]
    rw [envS_len S r]
    split
    · exact put_len _ _ _
    · rfl

/-- A slot that the two choices write alike. -/
theorem envS_congr {S S' : Nat → Bool} {t : Nat} : ∀ (L : List Tri) (env env' : List Value), env.length = env'.length → env.getD t poi = env'.getD t poi → (∀ x ∈ L, x.2.1.dst = some t → S x.1 = S' x.1) →
    (envS S L env).getD t poi = (envS S' L env').getD t poi
  | [], _, _, _, h, _ => h
  | (i, o, e) :: r, env, env', hl, h, hx => by
    simp only [envS]
    refine envS_congr r _ _ ?_ ?_ (fun x hx' => hx x (by simp [hx']))
    · split <;> split <;> simp [put_len, hl]
    · by_cases hd : o.dst = some t
      · have := hx (i, o, e) (by simp) hd
        simp only at this
        rw [this]
        split
        · exact put_get_congr hl h
        · exact h
      · split <;> split <;> (try rw [put_get_ne hd]) <;> (try rw [put_get_ne hd]) <;> exact h

theorem rd_ap_out : ∀ (δ : Delta) (H : Heap) (id : Nat), id ∉ δ.map (·.1) → rd (ap H δ) id = rd H id
  | [], _, _, _ => rfl
  | (i, o) :: r, H, id, h => by
    simp only [List.map_cons, List.mem_cons, not_or] at h
    simp only [ap]
    rw [rd_ap_out r _ id h.2, rd_wr, if_neg h.1]

theorem rd_ap_congr : ∀ (δ : Delta) (H H' : Heap) (id : Nat), (id ∉ δ.map (·.1) → rd H id = rd H' id) → rd (ap H δ) id = rd (ap H' δ) id
  | [], H, H', id, h => h (by simp)
  | (i, o) :: r, H, H', id, h => by
    simp only [ap]
    refine rd_ap_congr r _ _ id fun hn => ?_
    rw [rd_wr, rd_wr]
    split
    · rfl
    · rename_i hne; exact h (by simp only [List.map_cons, List.mem_cons, not_or]; exact ⟨hne, hn⟩)

theorem hS_congr {S S' : Nat → Bool} {id : Nat} : ∀ (L : List Tri) (H H' : Heap), rd H id = rd H' id → (∀ x ∈ L, id ∈ x.2.2.out.δ.map (·.1) → S x.1 = S' x.1) → rd (hS S L H) id = rd (hS S' L H') id
  | [], _, _, h, _ => h
  | (i, o, e) :: r, H, H', h, hx => by
    simp only [hS]
    refine hS_congr r _ _ ?_ (fun x hx' => hx x (by simp [hx']))
    by_cases hd : id ∈ e.out.δ.map (·.1)
    · have := hx (i, o, e) (by simp) hd
      simp only at this
      rw [this]
      split
      · exact rd_ap_congr _ _ _ _ fun _ => h
      · exact h
    · split <;> split <;> (try rw [rd_ap_out _ _ _ hd]) <;> (try rw [rd_ap_out _ _ _ hd]) <;> exact h

section
variable {P : Program} {call : CallF} {ops : Array Oper}

theorem Trace.append : ∀ {L M : List Tri} {env : List Value} {H : Heap} {env' : List Value} {H' : Heap}, Trace P ops (L ++ M) env H env' H' → ∃ e h, Trace P ops L env H e h ∧ Trace P ops M e h env' H'
  | [], M, env, H, env', H', h => ⟨env, H, ⟨rfl, rfl⟩, h⟩
  | (i, o, e) :: r, M, env, H, env', H', h => by
    obtain ⟨h1, h2, h3, h4, h5, h6⟩ := h
    obtain ⟨e', h', t1, t2⟩ := Trace.append h6
    exact ⟨e', h', ⟨h1, h2, h3, h4, h5, t1⟩, t2⟩

theorem Trace.all : ∀ {L : List Tri} {env : List Value} {H : Heap} {env' : List Value} {H' : Heap}, Trace P ops L env H env' H' → ∀ {S : Nat → Bool}, (∀ x ∈ L, S x.1 = true) → env' = envS S L env ∧ H' = hS S L H
  | [], _, _, _, _, h, _, _ => h
  | (i, o, e) :: r, env, H, env', H', h, S, hS' => by
    obtain ⟨h1, h2, h3, h4, h5, h6⟩ := h
    have := Trace.all h6 (S := S) (fun x hx => hS' x (by simp [hx]))
    simp only [envS, hS, hS' (i, o, e) (by simp), if_true]
    exact this

theorem Trace.mono : ∀ {L : List Tri} {env : List Value} {H : Heap} {env' : List Value} {H' : Heap}, Trace P ops L env H env' H' → H.length ≤ H'.length
  | [], _, _, _, _, h => by rw [h.2]; exact Nat.le_refl _
  | (i, o, e) :: r, env, H, env', H', h => by
    obtain ⟨_, _, _, _, _, h6⟩ := h
    exact Nat.le_trans (len_ap _ _) h6.mono

theorem Trace.nu : ∀ {L : List Tri} {env : List Value} {H : Heap} {env' : List Value} {H' : Heap}, Trace P ops L env H env' H' → ∀ x ∈ L, ∀ id ∈ x.2.2.out.nu, H.length ≤ id ∧ id < H'.length
  | [], _, _, _, _, _, x, hx => by cases hx
  | (i, o, e) :: r, env, H, env', H', h, x, hx => by
    obtain ⟨_, _, _, h4, h5, h6⟩ := h
    intro id hid
    rcases List.mem_cons.1 hx with rfl | hx
    · cases hw : e.wanted with
      | true =>
        obtain ⟨_, hf⟩ := h4 hw
        simp only [freshOK, List.all_eq_true, Bool.and_eq_true, decide_eq_true_eq] at hf
        have := hf id hid
        exact ⟨this.1, Nat.lt_of_lt_of_le this.2 h6.mono⟩
      | false => rw [h5 hw] at hid; simp [noOut] at hid
    · have := h6.nu x hx id hid
      exact ⟨Nat.le_trans (len_ap _ _) this.1, this.2⟩
end

theorem Rel.congr {P : Program} {F : Fr P} {A A' : Nat → Prop} {ψ : Nat → Gh} {env env' : List Value} {H H' : Heap} {a : Act} {w : World} (h : Rel F A ψ env H a w) (hA : ∀ id, A' id ↔ A id) (he : ∀ t, env'.getD t poi = env.getD t poi) (hl : env'.length = env.length)
    (hh : ∀ id, rd H' id = rd H id) : Rel F A' ψ env' H' a w := by
  have : A' = A := funext fun id => propext (hA id)
  subst this
  refine ⟨fun t => by rw [he]; exact h.slot t, by rw [hl]; exact h.len, h.defers, ⟨fun id o hr => h.heap.live id o (by rw [← hh]; exact hr), fun i j oi oj hi hj => h.heap.inj i j oi oj (by rw [← hh]; exact hi) (by rw [← hh]; exact hj), h.heap.fr, fun id o hr => h.heap.own id o (by rw [← hh]; exact hr), h.heap.old⟩⟩

end
end Go.Vm
end
