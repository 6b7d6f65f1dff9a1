/- The arguments of the law, given. -/
import Derived.Test.YtkajlfaeecaegaaZAC
import Derived.Test.YtkajlfaeecaegaaZAI
import Derived.LaidMore
import Derived.OpenShut
import Derived.LaidSub
import Derived.Stop.Joined
import Derived.Lib.SmallJoins
import Derived.Laws.IdiomArrays
import Derived.SevenTiedAt
import Derived.Test.YtkajlfaeecaegaaRows
open Go Go.Vm
namespace Go.Proofs.Ytkajlfaeecaegaa.Common
open Go.ChangeShapes Go.WideShapes Go.ChangeAt Go.WideMaps Go.WideElems Go.RowKit Go.Joins Go.Vm Go.Deep

theorem own : ownKnob Try.prog.godebug = none := by kernel_rfl
theorem laidOut : laidOutB Try.prog = true := by kernel_rfl
theorem no_tab : Try.prog.globalNamed "internal/strconv.uint64pow10" = none := by kernel_rfl
section
variable {H : Type} {enc : TypeId × Value → H} {w : World} {base : Nat} {spare : Nat → Bool} {held : Bool}
/-- A list of one shape that is given, as a row. -/
theorem open_row {α : Type} {f : α → List Value} {m : Nat} (hf : ∀ a, (f a).length = m) (h0 : 0 < m) (hat : ∀ a, ∀ c ∈ f a, atom c = true ∧ c.oneCell' = true) {fuel : Nat} {t e : TypeId} {v : Value} {x : DataW H × List MemPlace}
    (ht : Try.prog.underlying t = some (.slice e)) (hm : Try.prog.cellsOf e = m) (h : DataW.trod enc Try.prog w base spare held fuel t [v] = some x)
    (hel : ∀ {n : Nat} {es : List Value} {y : DataW H × List MemPlace}, es.length = m → DataW.trod enc Try.prog w base spare held n e es = some y → ∃ a, es = f a) :
    ∃ (l : List α) (g : Gh), g.es = m ∧ View.ok w ⟨g, l.flatMap f⟩ ∧ l.length ≤ 9223372036854775807 ∧
      ∀ (A : Nat → Prop) (ψ : Nat → Gh) (id : Nat), A id → ψ id = g → VR A ψ (.slice (some ⟨id, 0, none⟩) l.length big) v := by
  obtain ⟨a, len, cap, n, hv, h1, h2, h3⟩ := open_view ht hm h0 h
  obtain rfl : v = .slice a len cap := by simpa using hv
  rcases Nat.eq_zero_or_pos len with hl | hl
  · subst hl
    refine ⟨[], ⟨0, 0, 0, m⟩, rfl, ⟨fun h => absurd rfl h, fun c hc => by simp at hc⟩, by simp, fun A ψ id hA hg => ?_⟩
    exact .view id 0 0 cap a hA (Nat.zero_le _) (.inl rfl)
  · obtain ⟨blk, off, arr, el, fz, rfl, h4, h5, h6⟩ := h3 hl
    obtain ⟨l, k1, k2⟩ := collect hf h0 (R := fun i => arr[off + i]?) (len := len) fun i hi => by
      obtain ⟨es, y, q1, q2, q3⟩ := h6 i hi
      obtain ⟨b, rfl⟩ := hel q1 q3
      exact ⟨b, fun j hj => by rw [← q2 j hj, Nat.add_assoc]⟩
    refine ⟨l, ⟨blk, off, 0, m⟩, rfl, ⟨fun _ => ⟨h4, arr, el, fz, h5, fun i hi => k2 i ?_⟩, fun c hc => ?_⟩, by omega, fun A ψ id hA hg => ?_⟩
    · rw [flat_len hf, k1] at hi; exact hi
    · obtain ⟨b, _, hb⟩ := List.mem_flatMap.1 hc
      exact hat b c hb
    · rw [k1]
      refine .view id 0 len cap _ hA h1 (.inr ?_)
      rw [hg]
      simp
theorem c30 : Try.prog.cellsOf 30 = 1 := by kernel_rfl
theorem c31 : Try.prog.cellsOf 31 = 3 := by kernel_rfl
theorem i8_in {a : Int} (h : (Lit.int .i8 a).wf = true) : -128 ≤ a ∧ a ≤ 127 := by
  have h1 : (decide (IntKind.i8.min ≤ a) && decide (a ≤ IntKind.i8.max)) = true := h
  have b1 : IntKind.i8.min = -128 := by decide
  have b2 : IntKind.i8.max = 127 := by decide
  rw [b1, b2, Bool.and_eq_true, decide_eq_true_eq, decide_eq_true_eq] at h1
  omega
theorem elI {n : Nat} {v : Value} {y : DataW H × List MemPlace} (h : DataW.trod enc Try.prog w base spare held n 30 [v] = some y) : ∃ a : Int, v = .int .i8 a ∧ -128 ≤ a ∧ a ≤ 127 := by
  obtain ⟨x, e, _, hw⟩ := DataW.trod_int Try.underlying30 h
  exact ⟨x, by simpa using e, i8_in hw⟩
def I3 : Type := { a : Int × Int × Int // (-128 ≤ a.1 ∧ a.1 ≤ 127) ∧ (-128 ≤ a.2.1 ∧ a.2.1 ≤ 127) ∧ -128 ≤ a.2.2 ∧ a.2.2 ≤ 127 }
def f3 (a : I3) : List Value := [.int .i8 a.1.1, .int .i8 a.1.2.1, .int .i8 a.1.2.2]
def g3 (a : I3) : List Int := [a.1.1, a.1.2.1, a.1.2.2]
theorem el3 {n : Nat} {es : List Value} {y : DataW H × List MemPlace} (hl : es.length = 3) (h : DataW.trod enc Try.prog w base spare held n 31 es = some y) : ∃ a : I3, es = f3 a := by
  match es, hl with
  | [c0, c1, c2], _ =>
    obtain ⟨y0, y1, y2, m, _, k0, k1, k2⟩ := trod_array3 Try.underlying31 c30 h
    obtain ⟨u0, rfl, h0⟩ := elI k0
    obtain ⟨u1, rfl, h1⟩ := elI k1
    obtain ⟨u2, rfl, h2⟩ := elI k2
    exact ⟨⟨(u0, u1, u2), h0, h1, h2⟩, rfl⟩
theorem i8_flat : ∀ l : List I3, l.flatMap f3 = Sp.i8s (l.flatMap g3)
  | [] => rfl
  | a :: r => by rw [List.flatMap_cons, List.flatMap_cons, i8_flat r]; rfl
theorem flat_three : ∀ l : List I3, (l.flatMap g3).length = 3 * l.length
  | [] => rfl
  | a :: r => by rw [List.flatMap_cons, List.length_append, flat_three r, g3]; simp only [List.length_cons, List.length_nil]; omega
theorem in_three (l : List I3) : ∀ d ∈ l.flatMap g3, -128 ≤ d ∧ d ≤ 127 := by
  intro d hd
  obtain ⟨⟨⟨a, b, c⟩, ha, hb, hc⟩, _, h⟩ := List.mem_flatMap.1 hd
  have h : d ∈ [a, b, c] := h
  simp only [List.mem_cons, List.not_mem_nil, or_false] at h
  rcases h with rfl | rfl | rfl
  · exact ha
  · exact hb
  · exact hc
end
section
variable {H : Type} {enc : TypeId × Value → H} {w : World} {base b0 : Nat} {spare : Nat → Bool} {held : Bool} {r : Reach} {v : Value} {d : DataW H} {p : List MemPlace}
set_option maxRecDepth 100000 in
/-- Threes of numbers that are given. -/
theorem open_ds (hv : Value.okWide Try.prog w r b0 22 v) (h : DataW.Trod enc Try.prog w base spare held 22 v d p) :
    ∃ (ds : List Int) (m : Nat) (l : List View), l.length = 1 ∧ l.map View.obj = [Qq.dr ds] ∧ (∀ v ∈ l, v.ok w) ∧ ds.length = 3 * m ∧ (∀ d ∈ ds, -128 ≤ d ∧ d ≤ 127) ∧
      VR (viewA l) (viewG l) (.slice (some ⟨0, 0, none⟩) m big) v := by
  obtain ⟨a, len, cap, rfl⟩ := okWide_slice Try.underlying22 hv
  obtain ⟨fuel, hf⟩ := h
  obtain ⟨l1, g1, q1, q2, q3, q4⟩ := open_row (f := f3) (m := 3) (fun _ => rfl) (by omega) (fun a c hc => by simp [f3] at hc; rcases hc with rfl | rfl | rfl <;> exact ⟨rfl, rfl⟩) Try.underlying22 c31 hf el3
  rw [i8_flat] at q2
  refine ⟨l1.flatMap g3, l1.length, [⟨g1, Sp.i8s (l1.flatMap g3)⟩], rfl, ?_, ?_, flat_three l1, in_three l1, q4 _ _ 0 (by rw [viewA]; exact (by decide : 0 < 1)) rfl⟩
  · simp only [List.map_cons, List.map_nil, View.obj, q1] <;> rfl
  · intro v hv
    simp at hv
    subst hv
    exact q2
set_option maxRecDepth 100000 in
theorem open_u16 (hv : Value.okWide Try.prog w r b0 23 v) : ∃ n, v = .int .u16 n := by
  simp only [Value.okWide, Try.underlying23, Cell.okWide] at hv
  cases v <;> simp_all [Cell.ok]
end
end Go.Proofs.Ytkajlfaeecaegaa.Common
