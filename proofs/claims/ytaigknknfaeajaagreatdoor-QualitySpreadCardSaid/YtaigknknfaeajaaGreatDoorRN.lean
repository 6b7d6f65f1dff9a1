/- Runs that are given. -/
import Derived.Test.YtaigknknfaeajaaGreatDoorZN
import Derived.Test.YtaigknknfaeajaaGreatDoorZD
import Derived.Test.YtaigknknfaeajaaGreatDoorZU
open Go Go.Vm
namespace Go.Proofs.YtaigknknfaeajaaGreatDoor.Common
open Go.ChangeShapes Go.WideShapes Go.ChangeAt Go.WideMaps Go.WideElems Go.RowKit Go.Joins Go.Vm Go.Deep

section
variable {H : Type} {enc : TypeId × Value → H} {w : World} {base : Nat} {spare : Nat → Bool} {held : Bool}
theorem trod_float {P : Program} {k : FloatKind} {fuel : Nat} {t : TypeId} {cs : List Value} {x : DataW H × List MemPlace} (ht : P.underlying t = some (.float k)) (h : DataW.trod enc P w base spare held fuel t cs = some x) : ∃ n, cs = [.float k n] := by
  cases fuel with
  | zero => simp [DataW.trod] at h
  | succ n =>
    unfold DataW.trod at h
    rw [ht] at h
    split at h <;> simp_all
theorem c155 : Tryz.prog.cellsOf 155 = 1 := by kernel_rfl
theorem c27 : Tryz.prog.cellsOf 27 = 2 := by kernel_rfl
theorem elF {n : Nat} {es : List Value} {y : DataW H × List MemPlace} (_hl : es.length = 1) (h : DataW.trod enc Tryz.prog w base spare held n 155 es = some y) : ∃ a : Nat, es = [.float .f32 a] :=
  trod_float Tryz.underlying155 h
theorem elS {n : Nat} {es : List Value} {y : DataW H × List MemPlace} (hl : es.length = 2) (h : DataW.trod enc Tryz.prog w base spare held n 27 es = some y) : ∃ a : Int × Int, es = [.int .i64 a.1, .int .i64 a.2] := by
  obtain ⟨y0, y1, m, _, _, h0, h1⟩ := trod_struct2 Tryz.underlying27 h
  obtain ⟨d, e0, _⟩ := DataW.trod_int Tryz.underlying3 h0
  obtain ⟨x, e1, _⟩ := DataW.trod_int Tryz.underlying3 h1
  rw [c3] at e0 e1
  exact ⟨(d, x), two hl e0 e1⟩
theorem flts_flat : ∀ l : List Nat, l.flatMap (fun a => [Value.float .f32 a]) = Sp.flts l
  | [] => rfl
  | a :: r => by rw [List.flatMap_cons, flts_flat r]; rfl
end
set_option maxRecDepth 100000 in
/-- A run that is given. -/
theorem open_run {H : Type} {enc : TypeId × Value → H} {W : World} {base b0 : Nat} {spare : Nat → Bool} {held : Bool} {r : Reach} {v : Value} {d : DataW H} {p : List MemPlace} (hv : Value.okWide Tryz.prog W r b0 25 v) (h : DataW.Trod enc Tryz.prog W base spare held 25 v d p) :
    ∃ (nm : ByteArray) (f : Int) (xs : List Nat) (hs : List Int) (n k : Nat) (l : List View), l.length = 2 ∧ l.map View.obj = Qq.hp2r xs hs false false false false [] ∧ (∀ v ∈ l, v.ok W) ∧
      xs.length = n ∧ hs.length = k * 2 ∧
      ∀ (A : Nat → Prop) (ψ : Nat → Gh) (i : Nat), A i → A (i + 1) → ψ i = viewG l 0 → ψ (i + 1) = viewG l 1 → VR A ψ (.agg (Qq.runA nm f i n big (i + 1) k big).toArray) v := by
  have c25 : Tryz.prog.cellsOf 25 = 4 := by kernel_rfl
  obtain ⟨a0, a1, a2, a3, y0, y1, y2, y3, m, rfl, rfl, rfl, k0, k1, k2, k3⟩ := open_agg4 Tryz.underlying25 (by kernel_rfl) c25 hv h
  obtain ⟨nm, e0, _⟩ := DataW.trod_string Tryz.underlying9 k0
  obtain rfl : a0 = .string nm := by simpa using e0
  obtain ⟨f, e1, _⟩ := DataW.trod_int Tryz.underlying3 k1
  obtain rfl : a1 = .int .i64 f := by simpa using e1
  obtain ⟨l1, g1, q1, q2, q3, q4⟩ := open_row (f := fun a : Nat => [.float .f32 a]) (m := 1) (fun _ => rfl) (by omega) (fun a c hc => by simp at hc; subst hc; exact ⟨rfl, rfl⟩) Tryz.underlying22 c155 k2 elF
  obtain ⟨l2, g2, r1, r2, r3, r4⟩ := open_row (f := fun a : Int × Int => [.int .i64 a.1, .int .i64 a.2]) (m := 2) (fun _ => rfl) (by omega) (fun a c hc => by simp at hc; rcases hc with rfl | rfl <;> exact ⟨rfl, rfl⟩) Tryz.underlying23 c27 k3 elS
  rw [flts_flat] at q2
  rw [ints_flat] at r2
  refine ⟨nm, f, l1, l2.flatMap fun a => [a.1, a.2], l1.length, l2.length, [⟨g1, Sp.flts l1⟩, ⟨g2, Sp.ints (l2.flatMap fun a => [a.1, a.2])⟩], rfl, ?_, ?_, rfl, ?_, fun A ψ i hA hB e1 e2 => ?_⟩
  · simp only [List.map_cons, List.map_nil, View.obj, q1, r1]; rfl
  · intro v hv
    simp at hv
    rcases hv with rfl | rfl
    · exact q2
    · exact r2
  · have : ∀ l : List (Int × Int), (l.flatMap fun a => [a.1, a.2]).length = l.length * 2 := fun l => by
      induction l with
      | nil => rfl
      | cons a r ih => rw [List.flatMap_cons, List.length_append, ih]; simp; omega
    exact this l2
  · refine .agg _ _ rfl ?_ fun j => ?_
    · have s1 := q4 A ψ i hA e1
      have s2 := r4 A ψ (i + 1) hB e2
      intro y hy
      simp at hy
      rcases hy with rfl | rfl | rfl | rfl
      · rfl
      · rfl
      · exact s1.one rfl rfl
      · exact s2.one rfl rfl
    · match j with
      | 0 => exact .atom _ rfl
      | 1 => exact .atom _ rfl
      | 2 => exact q4 A ψ i hA e1
      | 3 => exact r4 A ψ (i + 1) hB e2
      | j + 4 => exact .poison _
set_option maxRecDepth 100000 in
theorem run_lr {l : List View} {v0 : Value} {nm : ByteArray} {f : Int} {n k : Nat} {vs : List Value} (l1 : l.length = 2)
    (e5 : ∀ (A : Nat → Prop) (ψ : Nat → Gh) (i : Nat), A i → A (i + 1) → ψ i = viewG l 0 → ψ (i + 1) = viewG l 1 → VR A ψ (.agg (Qq.runA nm f i n big (i + 1) k big).toArray) v0) (hg : vs.all ground = true) :
    LR (viewA l) (viewG l) (.agg (Qq.runA nm f 0 n big 1 k big).toArray :: vs) (v0 :: vs) :=
  .cons (e5 (viewA l) (viewG l) 0 (by rw [viewA, l1]; decide) (by rw [viewA, l1]; decide) rfl rfl) (LR.ground hg)
section
variable {H : Type} {enc : TypeId × Value → H} {w : World} {base b0 : Nat} {spare : Nat → Bool} {held : Bool} {r : Reach} {v : Value} {d : DataW H} {p : List MemPlace}
end
end Go.Proofs.YtaigknknfaeajaaGreatDoor.Common
