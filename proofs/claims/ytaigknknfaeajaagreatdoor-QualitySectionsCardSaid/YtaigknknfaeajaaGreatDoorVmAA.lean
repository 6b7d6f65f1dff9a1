/- What a statement is given, taken as rows that are only read. -/
import Derived.Test.YtaigknknfaeajaaGreatDoorVmT
import Derived.Lib.SmallJoins
namespace Go.Vm
open Go.ChangeShapes Go.WideShapes Go.ChangeAt Go.RowKit

theorem add_add {b o i j : Nat} : ((⟨b, o, none⟩ : Addr).add i).add j = ⟨b, o + i + j, none⟩ := by
  unfold Addr.add
  split <;> split <;> simp_all

/-- A list that is given: nothing, or a part of a block. -/
theorem open_view {H : Type} {enc : TypeId × Value → H} {P : Program} {w : World} {base : Nat} {spare : Nat → Bool} {held : Bool} {fuel : Nat} {t e : TypeId} {cs : List Value} {x : DataW H × List MemPlace} {m : Nat}
    (ht : P.underlying t = some (.slice e)) (hm : P.cellsOf e = m) (h0 : 0 < m) (h : DataW.trod enc P w base spare held fuel t cs = some x) :
    ∃ (a : Option Addr) (len cap n : Nat), cs = [.slice a len cap] ∧ len ≤ cap ∧ cap ≤ 9223372036854775807 ∧
      (0 < len → ∃ blk off arr el fz, a = some ⟨blk, off, none⟩ ∧ blk < w.heap.size ∧ w.heap[blk]? = some (.cells arr el fz) ∧
        ∀ i, i < len → ∃ es y, es.length = m ∧ (∀ j, j < m → arr[off + i * m + j]? = es[j]?) ∧ DataW.trod enc P w base spare held n e es = some y) := by
  rcases DataW.trod_slice ht h with ⟨rfl, _⟩ | ⟨a, len, cap, elems, rest, n, _, rfl, _, _, h2, h3, h4, h5, _, _⟩
  · exact ⟨none, 0, 0, 0, rfl, Nat.le_refl _, by omega, fun h => by omega⟩
  · refine ⟨some a, len, cap, n, rfl, h2, h3, fun hl => ?_⟩
    rw [hm] at h5
    have get : ∀ i, i < len → ∃ es y, w.cells? base (a.add (i * m)) m = some es ∧ DataW.trod enc P w base spare held n e es = some y := by
      intro i hi
      have := h5 i hi
      rw [List.getElem?_eq_getElem (by omega)] at this
      obtain ⟨es, h6, h7⟩ := Option.bind_eq_some_iff.1 this
      exact ⟨es, _, h6, h7⟩
    obtain ⟨es, y, h6, _⟩ := get 0 hl
    obtain ⟨_, k1, k2⟩ := World.cells?_some h6
    have k3 := k2 0 h0
    rw [List.getElem?_eq_getElem (by omega)] at k3
    have e0 : (a.add (0 * m)).add 0 = a := by simp [Addr.add]
    rw [e0] at k3
    unfold World.cell? at k3
    split at k3
    · rename_i arr el fz hb
      split at k3
      · cases k3
      · rename_i hs
        obtain ⟨blk, off, spot⟩ := a
        have hs : spot = none := by cases spot with
          | none => rfl
          | some => simp at hs
        subst hs
        have hlt : blk < w.heap.size := by
          rcases Nat.lt_or_ge blk w.heap.size with h' | h'
          · exact h'
          · rw [Array.getElem?_eq_none h'] at hb; cases hb
        refine ⟨blk, off, arr, el, fz, rfl, hlt, hb, fun i hi => ?_⟩
        obtain ⟨es, y, h6, h7⟩ := get i hi
        obtain ⟨_, q1, q2⟩ := World.cells?_some h6
        refine ⟨es, y, q1, fun j hj => ?_, h7⟩
        have := q2 j hj
        rw [add_add] at this
        simpa [World.cell?, hb] using this
    · cases k3

theorem flat_len {α : Type} {f : α → List Value} {m : Nat} (hf : ∀ a, (f a).length = m) : ∀ l : List α, (l.flatMap f).length = l.length * m
  | [] => by simp
  | a :: r => by rw [List.flatMap_cons, List.length_append, flat_len hf r, hf, List.length_cons, Nat.add_mul]; omega

/-- Parts of one shape, one behind the other. -/
theorem collect {α : Type} {f : α → List Value} {m : Nat} (hf : ∀ a, (f a).length = m) (h0 : 0 < m) {R : Nat → Option Value} : ∀ {len : Nat}, (∀ i, i < len → ∃ a, ∀ j, j < m → R (i * m + j) = (f a)[j]?) →
    ∃ l : List α, l.length = len ∧ ∀ i, i < len * m → R i = (l.flatMap f)[i]?
  | 0, _ => ⟨[], rfl, fun i hi => by omega⟩
  | len + 1, h => by
    obtain ⟨l, h1, h2⟩ := collect hf h0 (len := len) fun i hi => h i (by omega)
    obtain ⟨a, ha⟩ := h len (by omega)
    refine ⟨l ++ [a], by simp [h1], fun i hi => ?_⟩
    rw [List.flatMap_append, List.flatMap_singleton]
    have hl := flat_len hf l
    rw [h1] at hl
    rcases Nat.lt_or_ge i (len * m) with h' | h'
    · rw [List.getElem?_append_left (by omega)]; exact h2 i h'
    · rw [List.getElem?_append_right (by omega), hl]
      have hi' : i < len * m + m := by rw [Nat.add_mul] at hi; omega
      have := ha (i - len * m) (by omega)
      rw [show len * m + (i - len * m) = i by omega] at this
      exact this

theorem rd_get : ∀ (H : Heap) (i : Nat), rd H i = (H[i]?).getD none
  | [], _ => rfl
  | _ :: _, 0 => rfl
  | _ :: t, i + 1 => by rw [rd_cons, rd_get t i]; rfl

/-- A list that is only read: where it lies, and its cells. -/
structure View where
  g : Gh
  cells : List Value

def View.obj (v : View) : Option AObj := some (.row v.cells v.g.es false false true)
def View.ok (w : World) (v : View) : Prop :=
  (v.cells ≠ [] → v.g.blk < w.heap.size ∧ ∃ arr el fz, w.heap[v.g.blk]? = some (.cells arr el fz) ∧ ∀ i, i < v.cells.length → arr[v.g.off + i]? = v.cells[i]?) ∧ ∀ c ∈ v.cells, atom c = true ∧ c.oneCell' = true
def viewA (l : List View) (id : Nat) : Prop := id < l.length
def viewG (l : List View) (id : Nat) : Gh := (l.getD id ⟨⟨0, 0, 0, 0⟩, []⟩).g

theorem HRel.views {P : Program} {W : World} (hL : lays P W) {l : List View} (h : ∀ v ∈ l, v.ok W) : HRel (still P W (viewA l) (viewG l)) (viewA l) (viewG l) (l.map View.obj) W where
  live id o ho := by
    obtain ⟨v, hv, rfl⟩ : ∃ v, l[id]? = some v ∧ AObj.row v.cells v.g.es false false true = o := by
      rw [rd_get] at ho
      cases hl : l[id]? with
      | none => simp [List.getElem?_map, hl] at ho
      | some v => exact ⟨v, rfl, by simpa [List.getElem?_map, hl, View.obj] using ho⟩
    have hlt : id < l.length := by
      rcases Nat.lt_or_ge id l.length with h' | h'
      · exact h'
      · rw [List.getElem?_eq_none h'] at hv; cases hv
    have hg : viewG l id = v.g := by simp [viewG, List.getD_eq_getElem?_getD, hv]
    obtain ⟨k1, k2⟩ := h v (List.mem_of_getElem? hv)
    refine ⟨hlt, by rw [hg]; rfl, fun hd => ?_⟩
    have hne : v.cells ≠ [] := by intro e; rw [e] at hd; cases hd
    obtain ⟨k3, arr, el, fz, k4, k5⟩ := k1 hne
    rw [hg]
    refine ⟨k3, arr, el, fz, k4, rfl, fun i hi => ?_, fun e => (by cases e), fun _ c hc => (k2 c hc).1⟩
    have k6 := k5 i hi
    rw [List.getElem?_eq_getElem hi] at k6
    have hc := k2 _ (List.getElem_mem hi)
    refine ⟨v.cells[i], k6, hc.2, ?_⟩
    have e : v.cells.getD i poi = v.cells[i] := by simp [List.getD_eq_getElem?_getD, hi]
    rw [e]
    exact .atom _ hc.1
  inj i j oi oj hi hj hne hrw := by
    exfalso
    rw [rd_get] at hi
    cases hl : l[i]? with
    | none => simp [List.getElem?_map, hl] at hi
    | some v =>
      have : AObj.row v.cells v.g.es false false true = oi := by simpa [List.getElem?_map, hl, View.obj] using hi
      rw [← this] at hrw; cases hrw
  fr := still_ok hL _ _
  own i oi hi hrw := by
    exfalso
    rw [rd_get] at hi
    cases hl : l[i]? with
    | none => simp [List.getElem?_map, hl] at hi
    | some v =>
      have : AObj.row v.cells v.g.es false false true = oi := by simpa [List.getElem?_map, hl, View.obj] using hi
      rw [← this] at hrw; cases hrw
  old id hid := ⟨hid, rfl⟩
end Go.Vm
