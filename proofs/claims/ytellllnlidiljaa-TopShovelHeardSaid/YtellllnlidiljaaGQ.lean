/- The arguments of the law, given. -/
import Derived.Test.YtellllnlidiljaaZAC
import Derived.Test.YtellllnlidiljaaZAE
import Derived.LaidMore
import Derived.OpenShut
import Derived.LaidSub
import Derived.Stop.Joined
import Derived.Lib.SmallJoins
import Derived.Laws.IdiomArrays
import Derived.SevenTiedAt
import Derived.Test.YtellllnlidiljaaRows
open Go Go.Vm
namespace Go.Proofs.Ytellllnlidiljaa.Common
open Go.ChangeShapes Go.WideShapes Go.ChangeAt Go.WideMaps Go.WideElems Go.RowKit Go.Joins Go.Vm Go.Deep

theorem own : ownKnob Try.prog.godebug = none := by kernel_rfl
theorem laidOut : laidOutB Try.prog = true := by kernel_rfl
theorem no_tab : Try.prog.globalNamed "internal/strconv.uint64pow10" = none := by kernel_rfl
section
variable {H : Type} {enc : TypeId × Value → H} {w : World} {base : Nat} {spare : Nat → Bool} {held : Bool}
/-- A list of one shape that is given, as a row. -/
theorem open_row {α : Type} {f : α → List Value} {m : Nat} (hf : ∀ a, (f a).length = m) (h0 : 0 < m) (hat : ∀ a, ∀ c ∈ f a, atom c = true ∧ c.oneCell' = true) {fuel : Nat} {t e : TypeId} {v : Value} {x : DataW H × List MemPlace}
    (ht : Try.prog.underlying t = some (.slice e)) (hm : Try.prog.cellsOf e = m) (h : DataW.trod enc Try.prog w base spare held fuel t [v] = some x)
    (hel : ∀ {n : Nat} {es : List Value} {y : DataW H × List MemPlace}, es.length = m → DataW.trod enc Try.prog w base spare held n e es = some y → ∃ a, es = f a) :
    ∃ (l : List α) (g : Gh), g.es = m ∧ View.ok w ⟨g, l.flatMap f⟩ ∧ l.length ≤ 9223372036854775807 ∧
      ∀ (A : Nat → Prop) (ψ : Nat → Gh) (id : Nat), A id → ψ id = g → VR A ψ (.slice (some ⟨id, 0, none⟩) l.length big) v := by
  obtain ⟨a, len, cap, n, hv, h1, h2, h3⟩ := open_view ht hm h0 h
  obtain rfl : v = .slice a len cap := by simpa using hv
  rcases Nat.eq_zero_or_pos len with hl | hl
  · subst hl
    refine ⟨[], ⟨0, 0, 0, m⟩, rfl, ⟨fun h => absurd rfl h, fun c hc => by simp at hc⟩, by simp, fun A ψ id hA hg => ?_⟩
    exact .view id 0 0 cap a hA (Nat.zero_le _) (.inl rfl)
  · obtain ⟨blk, off, arr, el, fz, rfl, h4, h5, h6⟩ := h3 hl
    obtain ⟨l, k1, k2⟩ := collect hf h0 (R := fun i => arr[off + i]?) (len := len) fun i hi => by
      obtain ⟨es, y, q1, q2, q3⟩ := h6 i hi
      obtain ⟨b, rfl⟩ := hel q1 q3
      exact ⟨b, fun j hj => by rw [← q2 j hj, Nat.add_assoc]⟩
    refine ⟨l, ⟨blk, off, 0, m⟩, rfl, ⟨fun _ => ⟨h4, arr, el, fz, h5, fun i hi => k2 i ?_⟩, fun c hc => ?_⟩, by omega, fun A ψ id hA hg => ?_⟩
    · rw [flat_len hf, k1] at hi; exact hi
    · obtain ⟨b, _, hb⟩ := List.mem_flatMap.1 hc
      exact hat b c hb
    · rw [k1]
      refine .view id 0 len cap _ hA h1 (.inr ?_)
      rw [hg]
      simp
theorem trod_array2 {fuel : Nat} {t e : TypeId} {c0 c1 : Value} {x : DataW H × List MemPlace} (ht : Try.prog.underlying t = some (.array 2 e)) (hm : Try.prog.cellsOf e = 1)
    (h : DataW.trod enc Try.prog w base spare held fuel t [c0, c1] = some x) :
    ∃ y0 y1 : DataW H × List MemPlace, ∃ n, fuel = n + 1 ∧ DataW.trod enc Try.prog w base spare held n e [c0] = some y0 ∧ DataW.trod enc Try.prog w base spare held n e [c1] = some y1 := by
  cases fuel with
  | zero => simp [DataW.trod] at h
  | succ n =>
    unfold DataW.trod at h
    rw [ht] at h
    have r2 : List.range 2 = [0, 1] := rfl
    simp [r2, hm] at h
    obtain ⟨_, h⟩ := h
    cases h0 : DataW.trod enc Try.prog w base spare held n e [c0] with
    | none => simp [h0] at h
    | some y0 =>
      cases h1 : DataW.trod enc Try.prog w base spare held n e [c1] with
      | none => simp [h0, h1] at h
      | some y1 => exact ⟨y0, y1, n, rfl, h0, h1⟩
theorem c26 : Try.prog.cellsOf 26 = 1 := by kernel_rfl
theorem c5 : Try.prog.cellsOf 5 = 1 := by kernel_rfl
theorem c29 : Try.prog.cellsOf 29 = 2 := by kernel_rfl
theorem i8_in {a : Int} (h : (Lit.int .i8 a).wf = true) : -128 ≤ a ∧ a ≤ 127 := by
  have h1 : (decide (IntKind.i8.min ≤ a) && decide (a ≤ IntKind.i8.max)) = true := h
  have b1 : IntKind.i8.min = -128 := by decide
  have b2 : IntKind.i8.max = 127 := by decide
  rw [b1, b2, Bool.and_eq_true, decide_eq_true_eq, decide_eq_true_eq] at h1
  omega
theorem u8_in {a : Int} (h : (Lit.int .u8 a).wf = true) : 0 ≤ a ∧ a ≤ 255 := by
  have h1 : (decide (IntKind.u8.min ≤ a) && decide (a ≤ IntKind.u8.max)) = true := h
  have b1 : IntKind.u8.min = 0 := by decide
  have b2 : IntKind.u8.max = 255 := by decide
  rw [b1, b2, Bool.and_eq_true, decide_eq_true_eq, decide_eq_true_eq] at h1
  omega
theorem elI {n : Nat} {v : Value} {y : DataW H × List MemPlace} (h : DataW.trod enc Try.prog w base spare held n 26 [v] = some y) : ∃ a : Int, v = .int .i8 a ∧ -128 ≤ a ∧ a ≤ 127 := by
  obtain ⟨x, e, _, hw⟩ := DataW.trod_int Try.underlying26 h
  exact ⟨x, by simpa using e, i8_in hw⟩
theorem elU {n : Nat} {v : Value} {y : DataW H × List MemPlace} (h : DataW.trod enc Try.prog w base spare held n 5 [v] = some y) : ∃ a : Int, v = .int .u8 a ∧ 0 ≤ a ∧ a ≤ 255 := by
  obtain ⟨x, e, _, hw⟩ := DataW.trod_int Try.underlying5 h
  exact ⟨x, by simpa using e, u8_in hw⟩
def I2 : Type := { a : Int × Int // (0 ≤ a.1 ∧ a.1 ≤ 255) ∧ 0 ≤ a.2 ∧ a.2 ≤ 255 }
def f2 (a : I2) : List Value := [.int .u8 a.1.1, .int .u8 a.1.2]
def g2 (a : I2) : List Int := [a.1.1, a.1.2]
def I1 : Type := { a : Int // -128 ≤ a ∧ a ≤ 127 }
def f1 (a : I1) : List Value := [.int .i8 a.1]
def g1 (a : I1) : List Int := [a.1]
theorem el2 {n : Nat} {es : List Value} {y : DataW H × List MemPlace} (hl : es.length = 2) (h : DataW.trod enc Try.prog w base spare held n 29 es = some y) : ∃ a : I2, es = f2 a := by
  match es, hl with
  | [c0, c1], _ =>
    obtain ⟨y0, y1, m, _, k0, k1⟩ := trod_array2 Try.underlying29 c5 h
    obtain ⟨u0, rfl, h0⟩ := elU k0
    obtain ⟨u1, rfl, h1⟩ := elU k1
    exact ⟨⟨(u0, u1), h0, h1⟩, rfl⟩
theorem el1 {n : Nat} {es : List Value} {y : DataW H × List MemPlace} (hl : es.length = 1) (h : DataW.trod enc Try.prog w base spare held n 26 es = some y) : ∃ a : I1, es = f1 a := by
  match es, hl with
  | [c0], _ =>
    obtain ⟨u0, rfl, h0⟩ := elI h
    exact ⟨⟨u0, h0⟩, rfl⟩
theorem u8_flat : ∀ l : List I2, l.flatMap f2 = Sp.u8s (l.flatMap g2)
  | [] => rfl
  | a :: r => by rw [List.flatMap_cons, List.flatMap_cons, u8_flat r]; rfl
theorem i8_flat : ∀ l : List I1, l.flatMap f1 = Sp.i8s (l.flatMap g1)
  | [] => rfl
  | a :: r => by rw [List.flatMap_cons, List.flatMap_cons, i8_flat r]; rfl
theorem flat_two : ∀ l : List I2, (l.flatMap g2).length = l.length * 2
  | [] => rfl
  | a :: r => by rw [List.flatMap_cons, List.length_append, flat_two r, g2]; simp only [List.length_cons, List.length_nil]; omega
theorem flat_one : ∀ l : List I1, (l.flatMap g1).length = l.length
  | [] => rfl
  | a :: r => by rw [List.flatMap_cons, List.length_append, flat_one r, g1]; simp only [List.length_cons, List.length_nil]; omega
theorem in_two (l : List I2) : ∀ d ∈ l.flatMap g2, 0 ≤ d ∧ d ≤ 255 := by
  intro d hd
  obtain ⟨⟨⟨a, b⟩, ha, hb⟩, _, h⟩ := List.mem_flatMap.1 hd
  have h : d ∈ [a, b] := h
  simp only [List.mem_cons, List.not_mem_nil, or_false] at h
  rcases h with rfl | rfl
  · exact ha
  · exact hb
theorem in_one (l : List I1) : ∀ d ∈ l.flatMap g1, -128 ≤ d ∧ d ≤ 127 := by
  intro d hd
  obtain ⟨⟨a, ha⟩, _, h⟩ := List.mem_flatMap.1 hd
  have h : d ∈ [a] := h
  simp only [List.mem_cons, List.not_mem_nil, or_false] at h
  subst h
  exact ha
end
section
variable {H : Type} {enc : TypeId × Value → H} {w : World} {base b0 : Nat} {spare : Nat → Bool} {held : Bool} {r : Reach} {v : Value} {d : DataW H} {p : List MemPlace}
set_option maxRecDepth 100000 in
/-- Pairs of bytes that are given. -/
theorem open_rs (hv : Value.okWide Try.prog w r b0 22 v) (h : DataW.Trod enc Try.prog w base spare held 22 v d p) :
    ∃ (rs : List Int) (m : Nat) (g : Gh), g.es = 2 ∧ View.ok w ⟨g, Sp.u8s rs⟩ ∧ rs.length = m * 2 ∧ (∀ d ∈ rs, 0 ≤ d ∧ d ≤ 255) ∧
      ∀ (A : Nat → Prop) (ψ : Nat → Gh) (id : Nat), A id → ψ id = g → VR A ψ (.slice (some ⟨id, 0, none⟩) m big) v := by
  obtain ⟨a, len, cap, rfl⟩ := okWide_slice Try.underlying22 hv
  obtain ⟨fuel, hf⟩ := h
  obtain ⟨l1, g1, q1, q2, q3, q4⟩ := open_row (f := f2) (m := 2) (fun _ => rfl) (by omega) (fun a c hc => by simp [f2] at hc; rcases hc with rfl | rfl <;> exact ⟨rfl, rfl⟩) Try.underlying22 c29 hf el2
  rw [u8_flat] at q2
  exact ⟨l1.flatMap g2, l1.length, g1, q1, q2, flat_two l1, in_two l1, q4⟩
set_option maxRecDepth 100000 in
/-- Numbers that are given. -/
theorem open_ss (hv : Value.okWide Try.prog w r b0 23 v) (h : DataW.Trod enc Try.prog w base spare held 23 v d p) :
    ∃ (ss : List Int) (m : Nat) (g : Gh), g.es = 1 ∧ View.ok w ⟨g, Sp.i8s ss⟩ ∧ ss.length = m ∧ (∀ d ∈ ss, -128 ≤ d ∧ d ≤ 127) ∧
      ∀ (A : Nat → Prop) (ψ : Nat → Gh) (id : Nat), A id → ψ id = g → VR A ψ (.slice (some ⟨id, 0, none⟩) m big) v := by
  obtain ⟨a, len, cap, rfl⟩ := okWide_slice Try.underlying23 hv
  obtain ⟨fuel, hf⟩ := h
  obtain ⟨l1, g2, q1, q2, q3, q4⟩ := open_row (f := f1) (m := 1) (fun _ => rfl) (by omega) (fun a c hc => by simp [f1] at hc; subst hc; exact ⟨rfl, rfl⟩) Try.underlying23 c26 hf el1
  rw [i8_flat] at q2
  exact ⟨l1.flatMap g1, l1.length, g2, q1, q2, flat_one l1, in_one l1, q4⟩
end
end Go.Proofs.Ytellllnlidiljaa.Common
