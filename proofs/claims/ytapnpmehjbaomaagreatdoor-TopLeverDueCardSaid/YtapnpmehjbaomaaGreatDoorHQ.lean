/- The arguments of the law, given. -/
import Derived.Test.YtapnpmehjbaomaaGreatDoorZAC
import Derived.Test.YtapnpmehjbaomaaGreatDoorZAH
import Derived.LaidMore
import Derived.OpenShut
import Derived.LaidSub
import Derived.Stop.Joined
import Derived.Lib.SmallJoins
import Derived.SevenTiedAt
import Derived.Test.YtapnpmehjbaomaaGreatDoorCards
import Derived.Test.YtapnpmehjbaomaaGreatDoorTie
open Go Go.Vm
namespace Go.Proofs.YtapnpmehjbaomaaGreatDoor.Common
open Go.ChangeShapes Go.WideShapes Go.ChangeAt Go.WideMaps Go.WideElems Go.RowKit Go.Joins Go.Vm Go.Deep

theorem own : ownKnob Tryz.prog.godebug = none := by kernel_rfl
theorem laidOut : laidOutB Tryz.prog = true := by kernel_rfl
theorem no_tab : Tryz.prog.globalNamed "internal/strconv.uint64pow10" = none := by kernel_rfl
section
variable {H : Type} {enc : TypeId × Value → H} {w : World} {base : Nat} {spare : Nat → Bool} {held : Bool}
theorem trod_float {P : Program} {k : FloatKind} {fuel : Nat} {t : TypeId} {cs : List Value} {x : DataW H × List MemPlace} (ht : P.underlying t = some (.float k)) (h : DataW.trod enc P w base spare held fuel t cs = some x) : ∃ n, cs = [.float k n] := by
  cases fuel with
  | zero => simp [DataW.trod] at h
  | succ n =>
    unfold DataW.trod at h
    rw [ht] at h
    split at h <;> simp_all
theorem two {es : List Value} {a b : Value} (hl : es.length = 2) (h0 : (es.drop 0).take 1 = [a]) (h1 : (es.drop 1).take 1 = [b]) : es = [a, b] := by
  obtain _ | ⟨x, _ | ⟨y, _ | ⟨z, r⟩⟩⟩ := es
  · simp at hl
  · simp at hl
  · simp at h0 h1; rw [h0, h1]
  · simp at hl
theorem c3 : Tryz.prog.cellsOf 3 = 1 := by kernel_rfl
theorem c9 : Tryz.prog.cellsOf 9 = 1 := by kernel_rfl
theorem c35 : Tryz.prog.cellsOf 35 = 2 := by kernel_rfl
theorem c37 : Tryz.prog.cellsOf 37 = 2 := by kernel_rfl
theorem elM {n : Nat} {es : List Value} {y : DataW H × List MemPlace} (hl : es.length = 2) (h : DataW.trod enc Tryz.prog w base spare held n 35 es = some y) : ∃ a : Int × Int, es = [.int .i64 a.1, .int .i64 a.2] := by
  obtain ⟨y0, y1, m, _, _, h0, h1⟩ := trod_struct2 Tryz.underlying35 h
  obtain ⟨d, e0, _⟩ := DataW.trod_int Tryz.underlying3 h0
  obtain ⟨x, e1, _⟩ := DataW.trod_int Tryz.underlying3 h1
  rw [c3] at e0 e1
  exact ⟨(d, x), two hl e0 e1⟩
theorem elA {n : Nat} {es : List Value} {y : DataW H × List MemPlace} (hl : es.length = 2) (h : DataW.trod enc Tryz.prog w base spare held n 37 es = some y) : ∃ a : Int × ByteArray, es = [.int .i64 a.1, .string a.2] := by
  obtain ⟨y0, y1, m, _, _, h0, h1⟩ := trod_struct2 Tryz.underlying37 h
  obtain ⟨d, e0, _⟩ := DataW.trod_int Tryz.underlying3 h0
  obtain ⟨x, e1, _⟩ := DataW.trod_string Tryz.underlying9 h1
  rw [c3] at e0
  rw [c9] at e1
  exact ⟨(d, x), two hl e0 e1⟩
theorem ints_flat : ∀ l : List (Int × Int), l.flatMap (fun a => [Value.int .i64 a.1, Value.int .i64 a.2]) = Sp.ints (l.flatMap fun a => [a.1, a.2])
  | [] => rfl
  | a :: r => by
    rw [List.flatMap_cons, ints_flat r]; simp [Sp.ints]
theorem acs_flat : ∀ l : List (Int × ByteArray), l.flatMap (fun a => [Value.int .i64 a.1, Value.string a.2]) = Qq.acs l
  | [] => rfl
  | a :: r => by rw [List.flatMap_cons, acs_flat r]; simp [Qq.acs]

/-- A list of one shape that is given, as a row. -/
theorem open_row {α : Type} {f : α → List Value} {m : Nat} (hf : ∀ a, (f a).length = m) (h0 : 0 < m) (hat : ∀ a, ∀ c ∈ f a, atom c = true ∧ c.oneCell' = true) {fuel : Nat} {t e : TypeId} {v : Value} {x : DataW H × List MemPlace}
    (ht : Tryz.prog.underlying t = some (.slice e)) (hm : Tryz.prog.cellsOf e = m) (h : DataW.trod enc Tryz.prog w base spare held fuel t [v] = some x)
    (hel : ∀ {n : Nat} {es : List Value} {y : DataW H × List MemPlace}, es.length = m → DataW.trod enc Tryz.prog w base spare held n e es = some y → ∃ a, es = f a) :
    ∃ (l : List α) (g : Gh), g.es = m ∧ View.ok w ⟨g, l.flatMap f⟩ ∧ l.length ≤ 9223372036854775807 ∧
      ∀ (A : Nat → Prop) (ψ : Nat → Gh) (id : Nat), A id → ψ id = g → VR A ψ (.slice (some ⟨id, 0, none⟩) l.length big) v := by
  obtain ⟨a, len, cap, n, hv, h1, h2, h3⟩ := open_view ht hm h0 h
  obtain rfl : v = .slice a len cap := by simpa using hv
  rcases Nat.eq_zero_or_pos len with hl | hl
  · subst hl
    refine ⟨[], ⟨0, 0, 0, m⟩, rfl, ⟨fun h => absurd rfl h, fun c hc => by simp at hc⟩, by simp, fun A ψ id hA hg => ?_⟩
    exact .view id 0 0 cap a hA (Nat.zero_le _) (.inl rfl)
  · obtain ⟨blk, off, arr, el, fz, rfl, h4, h5, h6⟩ := h3 hl
    obtain ⟨l, k1, k2⟩ := collect hf h0 (R := fun i => arr[off + i]?) (len := len) fun i hi => by
      obtain ⟨es, y, q1, q2, q3⟩ := h6 i hi
      obtain ⟨b, rfl⟩ := hel q1 q3
      exact ⟨b, fun j hj => by rw [← q2 j hj, Nat.add_assoc]⟩
    refine ⟨l, ⟨blk, off, 0, m⟩, rfl, ⟨fun _ => ⟨h4, arr, el, fz, h5, fun i hi => k2 i ?_⟩, fun c hc => ?_⟩, by omega, fun A ψ id hA hg => ?_⟩
    · rw [flat_len hf, k1] at hi; exact hi
    · obtain ⟨b, _, hb⟩ := List.mem_flatMap.1 hc
      exact hat b c hb
    · rw [k1]
      refine .view id 0 len cap _ hA h1 (.inr ?_)
      rw [hg]
      simp
end

set_option maxRecDepth 100000 in
/-- A section that is given. -/
theorem open_sec {H : Type} {enc : TypeId × Value → H} {W : World} {base b0 : Nat} {spare : Nat → Bool} {held : Bool} {r : Reach} {v : Value} {d : DataW H} {p : List MemPlace} (hv : Value.okWide Tryz.prog W r b0 25 v) (h : DataW.Trod enc Tryz.prog W base spare held 25 v d p) :
    ∃ (nm : ByteArray) (zs : List Int) (ks : List (Int × ByteArray)) (n k : Nat) (l : List View), l.length = 2 ∧ l.map View.obj = Qq.hp2 zs ks false false false false [] ∧ (∀ v ∈ l, v.ok W) ∧
      zs.length = n * 2 ∧ ks.length = k ∧ n ≤ 9223372036854775807 ∧ k ≤ 9223372036854775807 ∧
      ∀ (A : Nat → Prop) (ψ : Nat → Gh) (i : Nat), A i → A (i + 1) → ψ i = viewG l 0 → ψ (i + 1) = viewG l 1 → VR A ψ (.agg (Qq.secA nm i n big (i + 1) k big).toArray) v := by
  have c25 : Tryz.prog.cellsOf 25 = 3 := by kernel_rfl
  obtain ⟨a0, a1, a2, y0, y1, y2, m, rfl, rfl, rfl, k0, k1, k2⟩ := open_agg3 Tryz.underlying25 (by kernel_rfl) c25 hv h
  obtain ⟨nm, e0, _⟩ := DataW.trod_string Tryz.underlying9 k0
  obtain rfl : a0 = .string nm := by simpa using e0
  obtain ⟨l1, g1, q1, q2, q3, q4⟩ := open_row (f := fun a : Int × Int => [.int .i64 a.1, .int .i64 a.2]) (m := 2) (fun _ => rfl) (by omega) (fun a c hc => by simp at hc; rcases hc with rfl | rfl <;> exact ⟨rfl, rfl⟩) Tryz.underlying22 c35 k1 elM
  obtain ⟨l2, g2, r1, r2, r3, r4⟩ := open_row (f := fun a : Int × ByteArray => [.int .i64 a.1, .string a.2]) (m := 2) (fun _ => rfl) (by omega) (fun a c hc => by simp at hc; rcases hc with rfl | rfl <;> exact ⟨rfl, rfl⟩) Tryz.underlying23 c37 k2 elA
  rw [ints_flat] at q2
  rw [acs_flat] at r2
  refine ⟨nm, l1.flatMap fun a => [a.1, a.2], l2, l1.length, l2.length, [⟨g1, Sp.ints (l1.flatMap fun a => [a.1, a.2])⟩, ⟨g2, Qq.acs l2⟩], rfl, ?_, ?_, ?_, rfl, q3, r3, fun A ψ i hA hB e1 e2 => ?_⟩
  · simp only [List.map_cons, List.map_nil, View.obj, q1, r1]; rfl
  · intro v hv
    simp at hv
    rcases hv with rfl | rfl
    · exact q2
    · exact r2
  · have : ∀ l : List (Int × Int), (l.flatMap fun a => [a.1, a.2]).length = l.length * 2 := fun l => by
      induction l with
      | nil => rfl
      | cons a r ih => rw [List.flatMap_cons, List.length_append, ih]; simp; omega
    exact this l1
  · refine .agg _ _ rfl ?_ fun j => ?_
    · have s1 := q4 A ψ i hA e1
      have s2 := r4 A ψ (i + 1) hB e2
      intro y hy
      simp at hy
      rcases hy with rfl | rfl | rfl
      · rfl
      · exact s1.one rfl rfl
      · exact s2.one rfl rfl
    · match j with
      | 0 => exact .atom _ rfl
      | 1 => exact q4 A ψ i hA e1
      | 2 => exact r4 A ψ (i + 1) hB e2
      | j + 3 => exact .poison _

section
variable {H : Type} {enc : TypeId × Value → H} {w : World} {base : Nat} {spare : Nat → Bool} {held : Bool}
theorem c33 : Tryz.prog.cellsOf 33 = 1 := by kernel_rfl
theorem elF {n : Nat} {es : List Value} {y : DataW H × List MemPlace} (_hl : es.length = 1) (h : DataW.trod enc Tryz.prog w base spare held n 33 es = some y) : ∃ a : Nat, es = [.float .f32 a] :=
  trod_float Tryz.underlying33 h
theorem flts_flat : ∀ l : List Nat, l.flatMap (fun a => [Value.float .f32 a]) = Sp.flts l
  | [] => rfl
  | a :: r => by rw [List.flatMap_cons, flts_flat r]; rfl
theorem u16_in {a : Int} (h : (Lit.int .u16 a).wf = true) : 0 ≤ a ∧ a < 65536 := by
  have h1 : (decide (IntKind.u16.min ≤ a) && decide (a ≤ IntKind.u16.max)) = true := h
  have b1 : IntKind.u16.min = 0 := by decide
  have b2 : IntKind.u16.max = 65535 := by decide
  rw [b1, b2, Bool.and_eq_true, decide_eq_true_eq, decide_eq_true_eq] at h1
  omega
theorem list2 {l : List Int} (h : l.length = 2) : ∃ a b, l = [a, b] := by
  obtain _ | ⟨x, _ | ⟨y, _ | ⟨z, r⟩⟩⟩ := l
  · simp at h
  · simp at h
  · exact ⟨x, y, rfl⟩
  · simp at h
end
section
variable {H : Type} {enc : TypeId × Value → H} {w : World} {base b0 : Nat} {spare : Nat → Bool} {held : Bool} {r : Reach} {v : Value} {d : DataW H} {p : List MemPlace}
set_option maxRecDepth 100000 in
/-- A signal that is given. -/
theorem open_flts (hv : Value.okWide Tryz.prog w r b0 26 v) (h : DataW.Trod enc Tryz.prog w base spare held 26 v d p) :
    ∃ (l : List Nat) (g : Gh), g.es = 1 ∧ View.ok w ⟨g, Sp.flts l⟩ ∧ l.length ≤ 9223372036854775807 ∧ ∀ (A : Nat → Prop) (ψ : Nat → Gh) (id : Nat), A id → ψ id = g → VR A ψ (.slice (some ⟨id, 0, none⟩) l.length big) v := by
  obtain ⟨a, len, cap, rfl⟩ := okWide_slice Tryz.underlying26 hv
  obtain ⟨fuel, hf⟩ := h
  obtain ⟨l, g, q1, q2, q3, q4⟩ := open_row (f := fun a : Nat => [.float .f32 a]) (m := 1) (fun _ => rfl) (by omega) (fun a c hc => by simp at hc; subst hc; exact ⟨rfl, rfl⟩) Tryz.underlying26 c33 hf elF
  rw [flts_flat] at q2
  exact ⟨l, g, q1, q2, q3, q4⟩
end
end Go.Proofs.YtapnpmehjbaomaaGreatDoor.Common
