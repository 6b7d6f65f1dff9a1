/- The arguments of the law, given. -/
import Derived.Test.YtgcniklghjfogaaDoorZC
import Derived.Test.YtgcniklghjfogaaDoorZJ
import Derived.Test.YtgcniklghjfogaaDoorLH
import Derived.LaidMore
import Derived.OpenShut
import Derived.LaidSub
import Derived.Stop.Joined
import Derived.Lib.SmallJoins
import Derived.SevenTiedAt
import Derived.Test.YtgcniklghjfogaaDoorCards
import Derived.Test.YtgcniklghjfogaaDoorTie
open Go Go.Vm
namespace Go.Proofs.YtgcniklghjfogaaDoor.Common
open Go.ChangeShapes Go.WideShapes Go.ChangeAt Go.WideMaps Go.WideElems Go.RowKit Go.Joins Go.Vm Go.Deep

theorem own : ownKnob Tryd.prog.godebug = none := by kernel_rfl
theorem laidOut : laidOutB Tryd.prog = true := by kernel_rfl
theorem no_tab : Tryd.prog.globalNamed "internal/strconv.uint64pow10" = none := by kernel_rfl
section
variable {H : Type} {enc : TypeId × Value → H} {w : World} {base : Nat} {spare : Nat → Bool} {held : Bool}
theorem trod_float {P : Program} {k : FloatKind} {fuel : Nat} {t : TypeId} {cs : List Value} {x : DataW H × List MemPlace} (ht : P.underlying t = some (.float k)) (h : DataW.trod enc P w base spare held fuel t cs = some x) : ∃ n, cs = [.float k n] := by
  cases fuel with
  | zero => simp [DataW.trod] at h
  | succ n =>
    unfold DataW.trod at h
    rw [ht] at h
    split at h <;> simp_all
/-- A list of one shape that is given, as a row. -/
theorem open_row {α : Type} {f : α → List Value} {m : Nat} (hf : ∀ a, (f a).length = m) (h0 : 0 < m) (hat : ∀ a, ∀ c ∈ f a, atom c = true ∧ c.oneCell' = true) {fuel : Nat} {t e : TypeId} {v : Value} {x : DataW H × List MemPlace}
    (ht : Tryd.prog.underlying t = some (.slice e)) (hm : Tryd.prog.cellsOf e = m) (h : DataW.trod enc Tryd.prog w base spare held fuel t [v] = some x)
    (hel : ∀ {n : Nat} {es : List Value} {y : DataW H × List MemPlace}, es.length = m → DataW.trod enc Tryd.prog w base spare held n e es = some y → ∃ a, es = f a) :
    ∃ (l : List α) (g : Gh), g.es = m ∧ View.ok w ⟨g, l.flatMap f⟩ ∧ l.length ≤ 9223372036854775807 ∧
      ∀ (A : Nat → Prop) (ψ : Nat → Gh) (id : Nat), A id → ψ id = g → VR A ψ (.slice (some ⟨id, 0, none⟩) l.length big) v := by
  obtain ⟨a, len, cap, n, hv, h1, h2, h3⟩ := open_view ht hm h0 h
  obtain rfl : v = .slice a len cap := by simpa using hv
  rcases Nat.eq_zero_or_pos len with hl | hl
  · subst hl
    refine ⟨[], ⟨0, 0, 0, m⟩, rfl, ⟨fun h => absurd rfl h, fun c hc => by simp at hc⟩, by simp, fun A ψ id hA hg => ?_⟩
    exact .view id 0 0 cap a hA (Nat.zero_le _) (.inl rfl)
  · obtain ⟨blk, off, arr, el, fz, rfl, h4, h5, h6⟩ := h3 hl
    obtain ⟨l, k1, k2⟩ := collect hf h0 (R := fun i => arr[off + i]?) (len := len) fun i hi => by
      obtain ⟨es, y, q1, q2, q3⟩ := h6 i hi
      obtain ⟨b, rfl⟩ := hel q1 q3
      exact ⟨b, fun j hj => by rw [← q2 j hj, Nat.add_assoc]⟩
    refine ⟨l, ⟨blk, off, 0, m⟩, rfl, ⟨fun _ => ⟨h4, arr, el, fz, h5, fun i hi => k2 i ?_⟩, fun c hc => ?_⟩, by omega, fun A ψ id hA hg => ?_⟩
    · rw [flat_len hf, k1] at hi; exact hi
    · obtain ⟨b, _, hb⟩ := List.mem_flatMap.1 hc
      exact hat b c hb
    · rw [k1]
      refine .view id 0 len cap _ hA h1 (.inr ?_)
      rw [hg]
      simp
theorem c23 : Tryd.prog.cellsOf 23 = 1 := by kernel_rfl
theorem c5 : Tryd.prog.cellsOf 5 = 1 := by kernel_rfl
theorem elF {n : Nat} {es : List Value} {y : DataW H × List MemPlace} (_hl : es.length = 1) (h : DataW.trod enc Tryd.prog w base spare held n 23 es = some y) : ∃ a : Nat, es = [.float .f32 a] :=
  trod_float Tryd.underlying23 h
theorem flts_flat : ∀ l : List Nat, l.flatMap (fun a => [Value.float .f32 a]) = Sp.flts l
  | [] => rfl
  | a :: r => by rw [List.flatMap_cons, flts_flat r]; rfl
theorem u8_in {a : Int} (h : (Lit.int .u8 a).wf = true) : 0 ≤ a ∧ a < 256 := by
  have h1 : (decide (IntKind.u8.min ≤ a) && decide (a ≤ IntKind.u8.max)) = true := h
  have b1 : IntKind.u8.min = 0 := by decide
  have b2 : IntKind.u8.max = 255 := by decide
  rw [b1, b2, Bool.and_eq_true, decide_eq_true_eq, decide_eq_true_eq] at h1
  omega
theorem elU {n : Nat} {es : List Value} {y : DataW H × List MemPlace} (_hl : es.length = 1) (h : DataW.trod enc Tryd.prog w base spare held n 5 es = some y) : ∃ a : {a : Int // 0 ≤ a ∧ a < 256}, es = [.int .u8 a.1] := by
  obtain ⟨x, e, _, hw⟩ := DataW.trod_int Tryd.underlying5 h
  exact ⟨⟨x, u8_in hw⟩, e⟩
theorem u8s_flat : ∀ l : List {a : Int // 0 ≤ a ∧ a < 256}, l.flatMap (fun a => [Value.int .u8 a.1]) = Sp.u8s (l.map (·.1))
  | [] => rfl
  | a :: r => by rw [List.flatMap_cons, u8s_flat r]; rfl
end
section
variable {H : Type} {enc : TypeId × Value → H} {w : World} {base b0 : Nat} {spare : Nat → Bool} {held : Bool} {r : Reach} {v : Value} {d : DataW H} {p : List MemPlace}
set_option maxRecDepth 100000 in
/-- A signal that is given. -/
theorem open_flts (hv : Value.okWide Tryd.prog w r b0 22 v) (h : DataW.Trod enc Tryd.prog w base spare held 22 v d p) :
    ∃ (l : List Nat) (g : Gh), g.es = 1 ∧ View.ok w ⟨g, Sp.flts l⟩ ∧ l.length ≤ 9223372036854775807 ∧ ∀ (A : Nat → Prop) (ψ : Nat → Gh) (id : Nat), A id → ψ id = g → VR A ψ (.slice (some ⟨id, 0, none⟩) l.length big) v := by
  obtain ⟨a, len, cap, rfl⟩ := okWide_slice Tryd.underlying22 hv
  obtain ⟨fuel, hf⟩ := h
  obtain ⟨l, g, q1, q2, q3, q4⟩ := open_row (f := fun a : Nat => [.float .f32 a]) (m := 1) (fun _ => rfl) (by omega) (fun a c hc => by simp at hc; subst hc; exact ⟨rfl, rfl⟩) Tryd.underlying22 c23 hf elF
  rw [flts_flat] at q2
  exact ⟨l, g, q1, q2, q3, q4⟩
set_option maxRecDepth 100000 in
/-- A list of bytes that is given. -/
theorem open_u8s (hv : Value.okWide Tryd.prog w r b0 24 v) (h : DataW.Trod enc Tryd.prog w base spare held 24 v d p) :
    ∃ (l : List Int) (g : Gh), g.es = 1 ∧ View.ok w ⟨g, Sp.u8s l⟩ ∧ (∀ i, i < l.length → 0 ≤ l.getD i 0 ∧ l.getD i 0 < 256) ∧ ∀ (A : Nat → Prop) (ψ : Nat → Gh) (id : Nat), A id → ψ id = g → VR A ψ (.slice (some ⟨id, 0, none⟩) l.length big) v := by
  obtain ⟨a, len, cap, rfl⟩ := okWide_slice Tryd.underlying24 hv
  obtain ⟨fuel, hf⟩ := h
  obtain ⟨l, g, q1, q2, q3, q4⟩ := open_row (f := fun a : {a : Int // 0 ≤ a ∧ a < 256} => [.int .u8 a.1]) (m := 1) (fun _ => rfl) (by omega) (fun a c hc => by simp at hc; subst hc; exact ⟨rfl, rfl⟩) Tryd.underlying24 c5 hf elU
  rw [u8s_flat] at q2
  refine ⟨l.map (·.1), g, q1, q2, fun i hi => ?_, fun A ψ id hA hg => by rw [List.length_map]; exact q4 A ψ id hA hg⟩
  rw [List.length_map] at hi
  rw [List.getD_eq_getElem?_getD, List.getElem?_map, List.getElem?_eq_getElem hi]
  exact l[i].2
theorem open_float (hv : Value.okWide Tryd.prog w r b0 23 v) : ∃ n, v = .float .f32 n := by
  simp only [Value.okWide, Tryd.underlying23, Cell.okWide] at hv
  cases v <;> simp_all [Cell.ok]
end
end Go.Proofs.YtgcniklghjfogaaDoor.Common
