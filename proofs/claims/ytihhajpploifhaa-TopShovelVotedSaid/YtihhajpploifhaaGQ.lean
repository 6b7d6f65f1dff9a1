/- The arguments of the law, given. -/
import Derived.Test.YtihhajpploifhaaZAC
import Derived.Test.YtihhajpploifhaaWN
import Derived.LaidMore
import Derived.OpenShut
import Derived.LaidSub
import Derived.Stop.Joined
import Derived.Lib.SmallJoins
import Derived.Laws.IdiomArrays
import Derived.SevenTiedAt
import Derived.Test.YtihhajpploifhaaRows
open Go Go.Vm
namespace Go.Proofs.Ytihhajpploifhaa.Common
open Go.ChangeShapes Go.WideShapes Go.ChangeAt Go.WideMaps Go.WideElems Go.RowKit Go.Joins Go.Vm Go.Deep

theorem own : ownKnob Try.prog.godebug = none := by kernel_rfl
theorem laidOut : laidOutB Try.prog = true := by kernel_rfl
theorem no_tab : Try.prog.globalNamed "internal/strconv.uint64pow10" = none := by kernel_rfl
section
variable {H : Type} {enc : TypeId × Value → H} {w : World} {base : Nat} {spare : Nat → Bool} {held : Bool}
theorem trod_float {P : Program} {k : FloatKind} {fuel : Nat} {t : TypeId} {cs : List Value} {x : DataW H × List MemPlace} (ht : P.underlying t = some (.float k)) (h : DataW.trod enc P w base spare held fuel t cs = some x) : ∃ n, cs = [.float k n] := by
  cases fuel with
  | zero => simp [DataW.trod] at h
  | succ n =>
    unfold DataW.trod at h
    rw [ht] at h
    split at h <;> simp_all
/-- A list of one shape that is given, as a row. -/
theorem open_row {α : Type} {f : α → List Value} {m : Nat} (hf : ∀ a, (f a).length = m) (h0 : 0 < m) (hat : ∀ a, ∀ c ∈ f a, atom c = true ∧ c.oneCell' = true) {fuel : Nat} {t e : TypeId} {v : Value} {x : DataW H × List MemPlace}
    (ht : Try.prog.underlying t = some (.slice e)) (hm : Try.prog.cellsOf e = m) (h : DataW.trod enc Try.prog w base spare held fuel t [v] = some x)
    (hel : ∀ {n : Nat} {es : List Value} {y : DataW H × List MemPlace}, es.length = m → DataW.trod enc Try.prog w base spare held n e es = some y → ∃ a, es = f a) :
    ∃ (l : List α) (g : Gh), g.es = m ∧ View.ok w ⟨g, l.flatMap f⟩ ∧ l.length ≤ 9223372036854775807 ∧
      ∀ (A : Nat → Prop) (ψ : Nat → Gh) (id : Nat), A id → ψ id = g → VR A ψ (.slice (some ⟨id, 0, none⟩) l.length big) v := by
  obtain ⟨a, len, cap, n, hv, h1, h2, h3⟩ := open_view ht hm h0 h
  obtain rfl : v = .slice a len cap := by simpa using hv
  rcases Nat.eq_zero_or_pos len with hl | hl
  · subst hl
    refine ⟨[], ⟨0, 0, 0, m⟩, rfl, ⟨fun h => absurd rfl h, fun c hc => by simp at hc⟩, by simp, fun A ψ id hA hg => ?_⟩
    exact .view id 0 0 cap a hA (Nat.zero_le _) (.inl rfl)
  · obtain ⟨blk, off, arr, el, fz, rfl, h4, h5, h6⟩ := h3 hl
    obtain ⟨l, k1, k2⟩ := collect hf h0 (R := fun i => arr[off + i]?) (len := len) fun i hi => by
      obtain ⟨es, y, q1, q2, q3⟩ := h6 i hi
      obtain ⟨b, rfl⟩ := hel q1 q3
      exact ⟨b, fun j hj => by rw [← q2 j hj, Nat.add_assoc]⟩
    refine ⟨l, ⟨blk, off, 0, m⟩, rfl, ⟨fun _ => ⟨h4, arr, el, fz, h5, fun i hi => k2 i ?_⟩, fun c hc => ?_⟩, by omega, fun A ψ id hA hg => ?_⟩
    · rw [flat_len hf, k1] at hi; exact hi
    · obtain ⟨b, _, hb⟩ := List.mem_flatMap.1 hc
      exact hat b c hb
    · rw [k1]
      refine .view id 0 len cap _ hA h1 (.inr ?_)
      rw [hg]
      simp
theorem two {es : List Value} {a b : Value} (hl : es.length = 2) (h0 : (es.drop 0).take 1 = [a]) (h1 : (es.drop 1).take 1 = [b]) : es = [a, b] := by
  obtain _ | ⟨x, _ | ⟨y, _ | ⟨z, r⟩⟩⟩ := es
  · simp at hl
  · simp at hl
  · simp at h0 h1; rw [h0, h1]
  · simp at hl
theorem c5 : Try.prog.cellsOf 5 = 1 := by kernel_rfl
theorem c3 : Try.prog.cellsOf 3 = 1 := by kernel_rfl
theorem c9 : Try.prog.cellsOf 9 = 1 := by kernel_rfl
theorem c22 : Try.prog.cellsOf 22 = 1 := by kernel_rfl
theorem c23 : Try.prog.cellsOf 23 = 1 := by kernel_rfl
theorem c25 : Try.prog.cellsOf 25 = 4 := by kernel_rfl
theorem c26 : Try.prog.cellsOf 26 = 12 := by kernel_rfl
theorem c27 : Try.prog.cellsOf 27 = 1 := by kernel_rfl
theorem c28 : Try.prog.cellsOf 28 = 3 := by kernel_rfl
theorem c49 : Try.prog.cellsOf 49 = 2 := by kernel_rfl
theorem elF {n : Nat} {es : List Value} {y : DataW H × List MemPlace} (_hl : es.length = 1) (h : DataW.trod enc Try.prog w base spare held n 27 es = some y) : ∃ a : Nat, es = [.float .f32 a] :=
  trod_float Try.underlying27 h
theorem elS {n : Nat} {es : List Value} {y : DataW H × List MemPlace} (hl : es.length = 2) (h : DataW.trod enc Try.prog w base spare held n 49 es = some y) : ∃ a : Int × Int, es = [.int .i64 a.1, .int .i64 a.2] := by
  obtain ⟨y0, y1, m, _, _, h0, h1⟩ := trod_struct2 Try.underlying49 h
  obtain ⟨d, e0, _⟩ := DataW.trod_int Try.underlying3 h0
  obtain ⟨x, e1, _⟩ := DataW.trod_int Try.underlying3 h1
  rw [c3] at e0 e1
  exact ⟨(d, x), two hl e0 e1⟩
theorem flts_flat : ∀ l : List Nat, l.flatMap (fun a => [Value.float .f32 a]) = Sp.flts l
  | [] => rfl
  | a :: r => by rw [List.flatMap_cons, flts_flat r]; rfl
theorem ints_flat : ∀ l : List (Int × Int), l.flatMap (fun a => [Value.int .i64 a.1, .int .i64 a.2]) = Sp.ints (l.flatMap fun a => [a.1, a.2])
  | [] => rfl
  | a :: r => by rw [List.flatMap_cons, List.flatMap_cons, ints_flat r]; rfl
theorem flat_two : ∀ l : List (Int × Int), (l.flatMap fun a => [a.1, a.2]).length = l.length * 2
  | [] => rfl
  | a :: r => by rw [List.flatMap_cons, List.length_append, flat_two r]; simp only [List.length_cons, List.length_nil]; omega
theorem u8_in {a : Int} (h : (Lit.int .u8 a).wf = true) : 0 ≤ a ∧ a < 256 := by
  have h1 : (decide (IntKind.u8.min ≤ a) && decide (a ≤ IntKind.u8.max)) = true := h
  have b1 : IntKind.u8.min = 0 := by decide
  have b2 : IntKind.u8.max = 255 := by decide
  rw [b1, b2, Bool.and_eq_true, decide_eq_true_eq, decide_eq_true_eq] at h1
  omega
theorem elU {n : Nat} {v : Value} {y : DataW H × List MemPlace} (h : DataW.trod enc Try.prog w base spare held n 5 [v] = some y) : ∃ a : Int, v = .int .u8 a ∧ 0 ≤ a ∧ a < 256 := by
  obtain ⟨x, e, _, hw⟩ := DataW.trod_int Try.underlying5 h
  exact ⟨x, by simpa using e, u8_in hw⟩
set_option maxRecDepth 100000 in
/-- A run in an array, given by its cells. -/
theorem run_cells {n : Nat} {a0 a1 a2 a3 : Value} {y : DataW H × List MemPlace} (h : DataW.trod enc Try.prog w base spare held n 25 [a0, a1, a2, a3] = some y) :
    ∃ (nm : ByteArray) (f : Int) (xs : List Nat) (hs : List Int) (k : Nat) (g1 g2 : Gh), a0 = .string nm ∧ a1 = .int .i64 f ∧ g1.es = 1 ∧ g2.es = 2 ∧ View.ok w ⟨g1, Sp.flts xs⟩ ∧ View.ok w ⟨g2, Sp.ints hs⟩ ∧ hs.length = k * 2 ∧
      (∀ (A : Nat → Prop) (ψ : Nat → Gh) (id : Nat), A id → ψ id = g1 → VR A ψ (.slice (some ⟨id, 0, none⟩) xs.length big) a2) ∧
      ∀ (A : Nat → Prop) (ψ : Nat → Gh) (id : Nat), A id → ψ id = g2 → VR A ψ (.slice (some ⟨id, 0, none⟩) k big) a3 := by
  obtain ⟨y0, y1, y2, y3, m, _, _, k0, k1, k2, k3⟩ := trod_struct4 Try.underlying25 h
  simp only [c9, c3, c22, c23, List.drop_zero, List.drop_succ_cons, List.take_succ_cons, List.take_zero] at k0 k1 k2 k3
  obtain ⟨nm, e0, _⟩ := DataW.trod_string Try.underlying9 k0
  obtain rfl : a0 = .string nm := by simpa using e0
  obtain ⟨f, e1, _⟩ := DataW.trod_int Try.underlying3 k1
  obtain rfl : a1 = .int .i64 f := by simpa using e1
  obtain ⟨l1, g1, q1, q2, q3, q4⟩ := open_row (f := fun a : Nat => [.float .f32 a]) (m := 1) (fun _ => rfl) (by omega) (fun a c hc => by simp at hc; subst hc; exact ⟨rfl, rfl⟩) Try.underlying22 c27 k2 elF
  obtain ⟨l2, g2, r1, r2, r3, r4⟩ := open_row (f := fun a : Int × Int => [.int .i64 a.1, .int .i64 a.2]) (m := 2) (fun _ => rfl) (by omega) (fun a c hc => by simp at hc; rcases hc with rfl | rfl <;> exact ⟨rfl, rfl⟩) Try.underlying23 c49 k3 elS
  rw [flts_flat] at q2
  rw [ints_flat] at r2
  exact ⟨nm, f, l1, l2.flatMap fun a => [a.1, a.2], l2.length, g1, g2, rfl, rfl, q1, r1, q2, r2, flat_two l2, q4, r4⟩
end
section
variable {H : Type} {enc : TypeId × Value → H} {w : World} {base b0 : Nat} {spare : Nat → Bool} {held : Bool} {r : Reach} {v : Value} {d : DataW H} {p : List MemPlace}
theorem okWide_array {P : Program} {t e : TypeId} {n : Nat} (ht : P.underlying t = some (.array n e)) (h : Value.okWide P w r b0 t v) : ∃ cs, v = .agg cs ∧ cs.size = P.cellsOf t := by
  simp only [Value.okWide, ht] at h
  obtain ⟨cs, h1, h2, _⟩ := h
  exact ⟨cs, h1, h2⟩
theorem array12 {cs : Array Value} (h : cs.size = 12) : ∃ a0 a1 a2 a3 a4 a5 a6 a7 a8 a9 b0 b1, cs = #[a0, a1, a2, a3, a4, a5, a6, a7, a8, a9, b0, b1] := by
  obtain ⟨l⟩ := cs
  match l, h with
  | [a0, a1, a2, a3, a4, a5, a6, a7, a8, a9, b0, b1], _ => exact ⟨a0, a1, a2, a3, a4, a5, a6, a7, a8, a9, b0, b1, rfl⟩
theorem array3' {cs : Array Value} (h : cs.size = 3) : ∃ a0 a1 a2, cs = #[a0, a1, a2] := by
  obtain ⟨l⟩ := cs
  match l, h with
  | [a0, a1, a2], _ => exact ⟨a0, a1, a2, rfl⟩
set_option maxRecDepth 100000 in
/-- Three runs that are given. -/
theorem open_three (hv : Value.okWide Try.prog w r b0 26 v) (h : DataW.Trod enc Try.prog w base spare held 26 v d p) :
    ∃ (nm0 nm1 nm2 : ByteArray) (f0 f1 f2 : Int) (x0 x1 x2 : List Nat) (h0 h1 h2 : List Int) (k0 k1 k2 : Nat) (l : List View), l.length = 6 ∧ l.map View.obj = Qq.hp04 x0 x1 x2 h0 h1 h2 [] ∧ (∀ v ∈ l, v.ok w) ∧ h0.length = k0 * 2 ∧ h1.length = k1 * 2 ∧ h2.length = k2 * 2 ∧
      VR (viewA l) (viewG l) (.agg #[.string nm0, .int .i64 f0, .slice (some ⟨0, 0, none⟩) x0.length big, .slice (some ⟨1, 0, none⟩) k0 big, .string nm1, .int .i64 f1, .slice (some ⟨2, 0, none⟩) x1.length big, .slice (some ⟨3, 0, none⟩) k1 big, .string nm2, .int .i64 f2, .slice (some ⟨4, 0, none⟩) x2.length big, .slice (some ⟨5, 0, none⟩) k2 big]) v := by
  obtain ⟨cs, rfl, hc⟩ := okWide_array Try.underlying26 hv
  rw [c26] at hc
  obtain ⟨a0, a1, a2, a3, a4, a5, a6, a7, a8, a9, b0, b1, rfl⟩ := array12 hc
  obtain ⟨fuel, hf⟩ := h
  obtain ⟨ys0, m, _, _, _, hl, he⟩ := DataW.trod_array Try.underlying26 hf
  match ys0, hl with
  | [z0, z1, z2], _ =>
    have t0 := he 0 (by omega)
    have t1 := he 1 (by omega)
    have t2 := he 2 (by omega)
    simp only [c25] at t0 t1 t2
    obtain ⟨nm0, f0, x0, h0, k0, g1, g2, rfl, rfl, p1, p2, p3, p4, p5, p6, p7⟩ := run_cells (a0 := a0) (a1 := a1) (a2 := a2) (a3 := a3) t0
    obtain ⟨nm1, f1, x1, h1, k1, g3, g4, rfl, rfl, q1, q2, q3, q4, q5, q6, q7⟩ := run_cells (a0 := a4) (a1 := a5) (a2 := a6) (a3 := a7) t1
    obtain ⟨nm2, f2, x2, h2, k2, g5, g6, rfl, rfl, r1, r2, r3, r4, r5, r6, r7⟩ := run_cells (a0 := a8) (a1 := a9) (a2 := b0) (a3 := b1) t2
    refine ⟨nm0, nm1, nm2, f0, f1, f2, x0, x1, x2, h0, h1, h2, k0, k1, k2, [⟨g1, Sp.flts x0⟩, ⟨g2, Sp.ints h0⟩, ⟨g3, Sp.flts x1⟩, ⟨g4, Sp.ints h1⟩, ⟨g5, Sp.flts x2⟩, ⟨g6, Sp.ints h2⟩], rfl, ?_, ?_, p5, q5, r5, ?_⟩
    · simp only [List.map_cons, List.map_nil, View.obj, p1, p2, q1, q2, r1, r2] <;> rfl
    · intro v hv
      simp at hv
      rcases hv with rfl | rfl | rfl | rfl | rfl | rfl
      · exact p3
      · exact p4
      · exact q3
      · exact q4
      · exact r3
      · exact r4
    · have s1 := p6 (viewA [⟨g1, Sp.flts x0⟩, ⟨g2, Sp.ints h0⟩, ⟨g3, Sp.flts x1⟩, ⟨g4, Sp.ints h1⟩, ⟨g5, Sp.flts x2⟩, ⟨g6, Sp.ints h2⟩]) (viewG [⟨g1, Sp.flts x0⟩, ⟨g2, Sp.ints h0⟩, ⟨g3, Sp.flts x1⟩, ⟨g4, Sp.ints h1⟩, ⟨g5, Sp.flts x2⟩, ⟨g6, Sp.ints h2⟩]) 0 (by rw [viewA]; exact (by decide : 0 < 6)) rfl
      have s2 := p7 (viewA [⟨g1, Sp.flts x0⟩, ⟨g2, Sp.ints h0⟩, ⟨g3, Sp.flts x1⟩, ⟨g4, Sp.ints h1⟩, ⟨g5, Sp.flts x2⟩, ⟨g6, Sp.ints h2⟩]) (viewG [⟨g1, Sp.flts x0⟩, ⟨g2, Sp.ints h0⟩, ⟨g3, Sp.flts x1⟩, ⟨g4, Sp.ints h1⟩, ⟨g5, Sp.flts x2⟩, ⟨g6, Sp.ints h2⟩]) 1 (by rw [viewA]; exact (by decide : 1 < 6)) rfl
      have s3 := q6 (viewA [⟨g1, Sp.flts x0⟩, ⟨g2, Sp.ints h0⟩, ⟨g3, Sp.flts x1⟩, ⟨g4, Sp.ints h1⟩, ⟨g5, Sp.flts x2⟩, ⟨g6, Sp.ints h2⟩]) (viewG [⟨g1, Sp.flts x0⟩, ⟨g2, Sp.ints h0⟩, ⟨g3, Sp.flts x1⟩, ⟨g4, Sp.ints h1⟩, ⟨g5, Sp.flts x2⟩, ⟨g6, Sp.ints h2⟩]) 2 (by rw [viewA]; exact (by decide : 2 < 6)) rfl
      have s4 := q7 (viewA [⟨g1, Sp.flts x0⟩, ⟨g2, Sp.ints h0⟩, ⟨g3, Sp.flts x1⟩, ⟨g4, Sp.ints h1⟩, ⟨g5, Sp.flts x2⟩, ⟨g6, Sp.ints h2⟩]) (viewG [⟨g1, Sp.flts x0⟩, ⟨g2, Sp.ints h0⟩, ⟨g3, Sp.flts x1⟩, ⟨g4, Sp.ints h1⟩, ⟨g5, Sp.flts x2⟩, ⟨g6, Sp.ints h2⟩]) 3 (by rw [viewA]; exact (by decide : 3 < 6)) rfl
      have s5 := r6 (viewA [⟨g1, Sp.flts x0⟩, ⟨g2, Sp.ints h0⟩, ⟨g3, Sp.flts x1⟩, ⟨g4, Sp.ints h1⟩, ⟨g5, Sp.flts x2⟩, ⟨g6, Sp.ints h2⟩]) (viewG [⟨g1, Sp.flts x0⟩, ⟨g2, Sp.ints h0⟩, ⟨g3, Sp.flts x1⟩, ⟨g4, Sp.ints h1⟩, ⟨g5, Sp.flts x2⟩, ⟨g6, Sp.ints h2⟩]) 4 (by rw [viewA]; exact (by decide : 4 < 6)) rfl
      have s6 := r7 (viewA [⟨g1, Sp.flts x0⟩, ⟨g2, Sp.ints h0⟩, ⟨g3, Sp.flts x1⟩, ⟨g4, Sp.ints h1⟩, ⟨g5, Sp.flts x2⟩, ⟨g6, Sp.ints h2⟩]) (viewG [⟨g1, Sp.flts x0⟩, ⟨g2, Sp.ints h0⟩, ⟨g3, Sp.flts x1⟩, ⟨g4, Sp.ints h1⟩, ⟨g5, Sp.flts x2⟩, ⟨g6, Sp.ints h2⟩]) 5 (by rw [viewA]; exact (by decide : 5 < 6)) rfl
      refine .agg _ _ rfl ?_ fun j => ?_
      · intro y hy
        simp at hy
        rcases hy with rfl | rfl | rfl | rfl | rfl | rfl | rfl | rfl | rfl | rfl | rfl | rfl
        · rfl
        · rfl
        · exact s1.one rfl rfl
        · exact s2.one rfl rfl
        · rfl
        · rfl
        · exact s3.one rfl rfl
        · exact s4.one rfl rfl
        · rfl
        · rfl
        · exact s5.one rfl rfl
        · exact s6.one rfl rfl
      · match j with
        | 0 => exact .atom _ rfl
        | 1 => exact .atom _ rfl
        | 2 => exact s1
        | 3 => exact s2
        | 4 => exact .atom _ rfl
        | 5 => exact .atom _ rfl
        | 6 => exact s3
        | 7 => exact s4
        | 8 => exact .atom _ rfl
        | 9 => exact .atom _ rfl
        | 10 => exact s5
        | 11 => exact s6
        | j + 12 => exact .poison _
set_option maxRecDepth 100000 in
theorem open_float (hv : Value.okWide Try.prog w r b0 27 v) : ∃ n, v = .float .f32 n := by
  simp only [Value.okWide, Try.underlying27, Cell.okWide] at hv
  cases v <;> simp_all [Cell.ok]
set_option maxRecDepth 100000 in
/-- Three small numbers that are given. -/
theorem open_u3 (hv : Value.okWide Try.prog w r b0 28 v) (h : DataW.Trod enc Try.prog w base spare held 28 v d p) :
    ∃ u0 u1 u2 : Int, v = .agg #[.int .u8 u0, .int .u8 u1, .int .u8 u2] ∧ (0 ≤ u0 ∧ u0 < 256) ∧ (0 ≤ u1 ∧ u1 < 256) ∧ 0 ≤ u2 ∧ u2 < 256 := by
  obtain ⟨cs, rfl, hc⟩ := okWide_array Try.underlying28 hv
  rw [c28] at hc
  obtain ⟨a0, a1, a2, rfl⟩ := array3' hc
  obtain ⟨fuel, hf⟩ := h
  obtain ⟨y0, y1, y2, m, _, k0, k1, k2⟩ := trod_array3 Try.underlying28 c5 hf
  obtain ⟨u0, rfl, h0⟩ := elU k0
  obtain ⟨u1, rfl, h1⟩ := elU k1
  obtain ⟨u2, rfl, h2⟩ := elU k2
  exact ⟨u0, u1, u2, rfl, h0, h1, h2⟩
end
end Go.Proofs.Ytihhajpploifhaa.Common
