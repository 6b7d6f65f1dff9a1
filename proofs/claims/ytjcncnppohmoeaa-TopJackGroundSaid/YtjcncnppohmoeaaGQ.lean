/- The arguments of the law, given. -/
import Derived.Test.YtjcncnppohmoeaaZAC
import Derived.Test.YtjcncnppohmoeaaZAH
import Derived.LaidMore
import Derived.OpenShut
import Derived.LaidSub
import Derived.Stop.Joined
import Derived.Lib.SmallJoins
import Derived.Laws.IdiomArrays
import Derived.SevenTiedAt
import Derived.Test.YtjcncnppohmoeaaRows
open Go Go.Vm
namespace Go.Proofs.Ytjcncnppohmoeaa.Common
open Go.ChangeShapes Go.WideShapes Go.ChangeAt Go.WideMaps Go.WideElems Go.RowKit Go.Joins Go.Vm Go.Deep

theorem own : ownKnob Try.prog.godebug = none := by kernel_rfl
theorem laidOut : laidOutB Try.prog = true := by kernel_rfl
theorem no_tab : Try.prog.globalNamed "internal/strconv.uint64pow10" = none := by kernel_rfl
section
variable {H : Type} {enc : TypeId × Value → H} {w : World} {base : Nat} {spare : Nat → Bool} {held : Bool}
/-- A list of one shape that is given, as a row. -/
theorem open_row {α : Type} {f : α → List Value} {m : Nat} (hf : ∀ a, (f a).length = m) (h0 : 0 < m) (hat : ∀ a, ∀ c ∈ f a, atom c = true ∧ c.oneCell' = true) {fuel : Nat} {t e : TypeId} {v : Value} {x : DataW H × List MemPlace}
    (ht : Try.prog.underlying t = some (.slice e)) (hm : Try.prog.cellsOf e = m) (h : DataW.trod enc Try.prog w base spare held fuel t [v] = some x)
    (hel : ∀ {n : Nat} {es : List Value} {y : DataW H × List MemPlace}, es.length = m → DataW.trod enc Try.prog w base spare held n e es = some y → ∃ a, es = f a) :
    ∃ (l : List α) (g : Gh), g.es = m ∧ View.ok w ⟨g, l.flatMap f⟩ ∧ l.length ≤ 9223372036854775807 ∧
      ∀ (A : Nat → Prop) (ψ : Nat → Gh) (id : Nat), A id → ψ id = g → VR A ψ (.slice (some ⟨id, 0, none⟩) l.length big) v := by
  obtain ⟨a, len, cap, n, hv, h1, h2, h3⟩ := open_view ht hm h0 h
  obtain rfl : v = .slice a len cap := by simpa using hv
  rcases Nat.eq_zero_or_pos len with hl | hl
  · subst hl
    refine ⟨[], ⟨0, 0, 0, m⟩, rfl, ⟨fun h => absurd rfl h, fun c hc => by simp at hc⟩, by simp, fun A ψ id hA hg => ?_⟩
    exact .view id 0 0 cap a hA (Nat.zero_le _) (.inl rfl)
  · obtain ⟨blk, off, arr, el, fz, rfl, h4, h5, h6⟩ := h3 hl
    obtain ⟨l, k1, k2⟩ := collect hf h0 (R := fun i => arr[off + i]?) (len := len) fun i hi => by
      obtain ⟨es, y, q1, q2, q3⟩ := h6 i hi
      obtain ⟨b, rfl⟩ := hel q1 q3
      exact ⟨b, fun j hj => by rw [← q2 j hj, Nat.add_assoc]⟩
    refine ⟨l, ⟨blk, off, 0, m⟩, rfl, ⟨fun _ => ⟨h4, arr, el, fz, h5, fun i hi => k2 i ?_⟩, fun c hc => ?_⟩, by omega, fun A ψ id hA hg => ?_⟩
    · rw [flat_len hf, k1] at hi; exact hi
    · obtain ⟨b, _, hb⟩ := List.mem_flatMap.1 hc
      exact hat b c hb
    · rw [k1]
      refine .view id 0 len cap _ hA h1 (.inr ?_)
      rw [hg]
      simp
theorem two {es : List Value} {a b : Value} (hl : es.length = 2) (h0 : (es.drop 0).take 1 = [a]) (h1 : (es.drop 1).take 1 = [b]) : es = [a, b] := by
  obtain _ | ⟨x, _ | ⟨y, _ | ⟨z, r⟩⟩⟩ := es
  · simp at hl
  · simp at hl
  · simp at h0 h1; rw [h0, h1]
  · simp at hl
theorem c3 : Try.prog.cellsOf 3 = 1 := by kernel_rfl
theorem c22 : Try.prog.cellsOf 22 = 1 := by kernel_rfl
theorem c23 : Try.prog.cellsOf 23 = 2 := by kernel_rfl
theorem c63 : Try.prog.cellsOf 63 = 2 := by kernel_rfl
def f2 (a : Int × Int) : List Value := [.int .i64 a.1, .int .i64 a.2]
def g2 (a : Int × Int) : List Int := [a.1, a.2]
def f1 (a : Int) : List Value := [.int .i64 a]
theorem el2 {n : Nat} {es : List Value} {y : DataW H × List MemPlace} (hl : es.length = 2) (h : DataW.trod enc Try.prog w base spare held n 63 es = some y) : ∃ a : Int × Int, es = f2 a := by
  obtain ⟨y0, y1, m, _, _, h0, h1⟩ := trod_struct2 Try.underlying63 h
  obtain ⟨d, e0, _⟩ := DataW.trod_int Try.underlying3 h0
  obtain ⟨x, e1, _⟩ := DataW.trod_int Try.underlying3 h1
  rw [c3] at e0 e1
  exact ⟨(d, x), two hl e0 e1⟩
theorem el1 {n : Nat} {es : List Value} {y : DataW H × List MemPlace} (_hl : es.length = 1) (h : DataW.trod enc Try.prog w base spare held n 3 es = some y) : ∃ a : Int, es = f1 a := by
  obtain ⟨d, e0, _⟩ := DataW.trod_int Try.underlying3 h
  exact ⟨d, e0⟩
theorem two_flat : ∀ l : List (Int × Int), l.flatMap f2 = Sp.ints (l.flatMap g2)
  | [] => rfl
  | a :: r => by rw [List.flatMap_cons, List.flatMap_cons, two_flat r]; rfl
theorem one_flat : ∀ l : List Int, l.flatMap f1 = Sp.ints l
  | [] => rfl
  | a :: r => by rw [List.flatMap_cons, one_flat r]; rfl
theorem flat_two : ∀ l : List (Int × Int), (l.flatMap g2).length = l.length * 2
  | [] => rfl
  | a :: r => by rw [List.flatMap_cons, List.length_append, flat_two r, g2]; simp only [List.length_cons, List.length_nil]; omega
/-- Points that are given, by their cell. -/
theorem open_ps {fuel : Nat} {v : Value} {x : DataW H × List MemPlace} (h : DataW.trod enc Try.prog w base spare held fuel 22 [v] = some x) :
    ∃ (zs : List Int) (m : Nat) (g : Gh), g.es = 2 ∧ View.ok w ⟨g, Sp.ints zs⟩ ∧ zs.length = m * 2 ∧
      ∀ (A : Nat → Prop) (ψ : Nat → Gh) (id : Nat), A id → ψ id = g → VR A ψ (.slice (some ⟨id, 0, none⟩) m big) v := by
  obtain ⟨l1, g1, q1, q2, q3, q4⟩ := open_row (f := f2) (m := 2) (fun _ => rfl) (by omega) (fun a c hc => by simp [f2] at hc; rcases hc with rfl | rfl <;> exact ⟨rfl, rfl⟩) Try.underlying22 c63 h el2
  rw [two_flat] at q2
  exact ⟨l1.flatMap g2, l1.length, g1, q1, q2, flat_two l1, q4⟩
end
section
variable {H : Type} {enc : TypeId × Value → H} {w : World} {base b0 : Nat} {spare : Nat → Bool} {held : Bool} {r : Reach} {v : Value} {d : DataW H} {p : List MemPlace}
theorem okWide_array {P : Program} {t e : TypeId} {n : Nat} (ht : P.underlying t = some (.array n e)) (h : Value.okWide P w r b0 t v) : ∃ cs, v = .agg cs ∧ cs.size = P.cellsOf t := by
  simp only [Value.okWide, ht] at h
  obtain ⟨cs, h1, h2, _⟩ := h
  exact ⟨cs, h1, h2⟩
theorem array2 {cs : Array Value} (h : cs.size = 2) : ∃ a0 a1, cs = #[a0, a1] := by
  obtain ⟨l⟩ := cs
  match l, h with
  | [a0, a1], _ => exact ⟨a0, a1, rfl⟩
set_option maxRecDepth 100000 in
/-- Points that are given. -/
theorem open_zs (hv : Value.okWide Try.prog w r b0 22 v) (h : DataW.Trod enc Try.prog w base spare held 22 v d p) :
    ∃ (zs : List Int) (m : Nat) (g : Gh), g.es = 2 ∧ View.ok w ⟨g, Sp.ints zs⟩ ∧ zs.length = m * 2 ∧
      ∀ (A : Nat → Prop) (ψ : Nat → Gh) (id : Nat), A id → ψ id = g → VR A ψ (.slice (some ⟨id, 0, none⟩) m big) v := by
  obtain ⟨a, len, cap, rfl⟩ := okWide_slice Try.underlying22 hv
  obtain ⟨fuel, hf⟩ := h
  exact open_ps hf
set_option maxRecDepth 100000 in
/-- Numbers that are given. -/
theorem open_cs (hv : Value.okWide Try.prog w r b0 24 v) (h : DataW.Trod enc Try.prog w base spare held 24 v d p) :
    ∃ (cs : List Int) (g : Gh), g.es = 1 ∧ View.ok w ⟨g, Sp.ints cs⟩ ∧
      ∀ (A : Nat → Prop) (ψ : Nat → Gh) (id : Nat), A id → ψ id = g → VR A ψ (.slice (some ⟨id, 0, none⟩) cs.length big) v := by
  obtain ⟨a, len, cap, rfl⟩ := okWide_slice Try.underlying24 hv
  obtain ⟨fuel, hf⟩ := h
  obtain ⟨l1, g2, q1, q2, q3, q4⟩ := open_row (f := f1) (m := 1) (fun _ => rfl) (by omega) (fun a c hc => by simp [f1] at hc; subst hc; exact ⟨rfl, rfl⟩) Try.underlying24 c3 hf el1
  rw [one_flat] at q2
  exact ⟨l1, g2, q1, q2, q4⟩
set_option maxRecDepth 100000 in
/-- Two lists of points that are given. -/
theorem open_two (hv : Value.okWide Try.prog w r b0 23 v) (h : DataW.Trod enc Try.prog w base spare held 23 v d p) :
    ∃ (a0 a1 : Value), v = .agg #[a0, a1] ∧ ∃ (y1 y2 : List Int) (k1 k2 : Nat) (g1 g2 : Gh), (g1.es = 2 ∧ View.ok w ⟨g1, Sp.ints y1⟩ ∧ y1.length = k1 * 2) ∧ (g2.es = 2 ∧ View.ok w ⟨g2, Sp.ints y2⟩ ∧ y2.length = k2 * 2) ∧
      (∀ (A : Nat → Prop) (ψ : Nat → Gh) (id : Nat), A id → ψ id = g1 → VR A ψ (.slice (some ⟨id, 0, none⟩) k1 big) a0) ∧
      ∀ (A : Nat → Prop) (ψ : Nat → Gh) (id : Nat), A id → ψ id = g2 → VR A ψ (.slice (some ⟨id, 0, none⟩) k2 big) a1 := by
  obtain ⟨cs, rfl, hc⟩ := okWide_array Try.underlying23 hv
  rw [c23] at hc
  obtain ⟨a0, a1, rfl⟩ := array2 hc
  obtain ⟨fuel, hf⟩ := h
  obtain ⟨ys0, m, _, _, _, hl, he⟩ := DataW.trod_array Try.underlying23 hf
  match ys0, hl with
  | [z0, z1], _ =>
    have h0 := he 0 (by omega)
    have h1 := he 1 (by omega)
    simp only [c22] at h0 h1
    obtain ⟨y1, k1, g1, p1, p2, p3, p4⟩ := open_ps (v := a0) h0
    obtain ⟨y2, k2, g2, q1, q2, q3, q4⟩ := open_ps (v := a1) h1
    exact ⟨a0, a1, rfl, y1, y2, k1, k2, g1, g2, ⟨p1, p2, p3⟩, ⟨q1, q2, q3⟩, p4, q4⟩
/-- The pair of both. -/
theorem vr_two {A : Nat → Prop} {ψ : Nat → Gh} {i j k1 k2 : Nat} {a0 a1 : Value} (s1 : VR A ψ (.slice (some ⟨i, 0, none⟩) k1 big) a0) (s2 : VR A ψ (.slice (some ⟨j, 0, none⟩) k2 big) a1) :
    VR A ψ (.agg #[.slice (some ⟨i, 0, none⟩) k1 big, .slice (some ⟨j, 0, none⟩) k2 big]) (.agg #[a0, a1]) := by
  refine .agg _ _ rfl ?_ fun j => ?_
  · intro y hy
    simp at hy
    rcases hy with rfl | rfl
    · exact s1.one rfl rfl
    · exact s2.one rfl rfl
  · match j with
    | 0 => exact s1
    | 1 => exact s2
    | j + 2 => exact .poison _
end
end Go.Proofs.Ytjcncnppohmoeaa.Common
