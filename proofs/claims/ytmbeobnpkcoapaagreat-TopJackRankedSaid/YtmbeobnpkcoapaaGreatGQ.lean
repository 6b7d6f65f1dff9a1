/- The arguments of the law, given. -/
import Derived.Test.YtmbeobnpkcoapaaGreatZAC
import Derived.Test.YtmbeobnpkcoapaaGreatZAI
import Derived.LaidMore
import Derived.OpenShut
import Derived.LaidSub
import Derived.Stop.Joined
import Derived.Lib.SmallJoins
import Derived.SevenTiedAt
import Derived.Test.YtmbeobnpkcoapaaGreatRows
open Go Go.Vm
namespace Go.Proofs.YtmbeobnpkcoapaaGreat.Common
open Go.ChangeShapes Go.WideShapes Go.ChangeAt Go.WideMaps Go.WideElems Go.RowKit Go.Joins Go.Vm Go.Deep

theorem own : ownKnob Tryz.prog.godebug = none := by kernel_rfl
theorem laidOut : laidOutB Tryz.prog = true := by kernel_rfl
theorem no_tab : Tryz.prog.globalNamed "internal/strconv.uint64pow10" = none := by kernel_rfl
section
variable {H : Type} {enc : TypeId × Value → H} {w : World} {base : Nat} {spare : Nat → Bool} {held : Bool}
theorem two {es : List Value} {a b : Value} (hl : es.length = 2) (h0 : (es.drop 0).take 1 = [a]) (h1 : (es.drop 1).take 1 = [b]) : es = [a, b] := by
  obtain _ | ⟨x, _ | ⟨y, _ | ⟨z, r⟩⟩⟩ := es
  · simp at hl
  · simp at hl
  · simp at h0 h1; rw [h0, h1]
  · simp at hl
theorem c3 : Tryz.prog.cellsOf 3 = 1 := by kernel_rfl
theorem c9 : Tryz.prog.cellsOf 9 = 1 := by kernel_rfl
theorem c27 : Tryz.prog.cellsOf 27 = 1 := by kernel_rfl
theorem c28 : Tryz.prog.cellsOf 28 = 1 := by kernel_rfl
theorem c30 : Tryz.prog.cellsOf 30 = 3 := by kernel_rfl
theorem c70 : Tryz.prog.cellsOf 70 = 2 := by kernel_rfl
theorem c75 : Tryz.prog.cellsOf 75 = 2 := by kernel_rfl
theorem elM {n : Nat} {es : List Value} {y : DataW H × List MemPlace} (hl : es.length = 2) (h : DataW.trod enc Tryz.prog w base spare held n 70 es = some y) : ∃ a : Int × Int, es = [.int .i64 a.1, .int .i64 a.2] := by
  obtain ⟨y0, y1, m, _, _, h0, h1⟩ := trod_struct2 Tryz.underlying70 h
  obtain ⟨d, e0, _⟩ := DataW.trod_int Tryz.underlying3 h0
  obtain ⟨x, e1, _⟩ := DataW.trod_int Tryz.underlying3 h1
  rw [c3] at e0 e1
  exact ⟨(d, x), two hl e0 e1⟩
theorem elA {n : Nat} {es : List Value} {y : DataW H × List MemPlace} (hl : es.length = 2) (h : DataW.trod enc Tryz.prog w base spare held n 75 es = some y) : ∃ a : Int × ByteArray, es = [.int .i64 a.1, .string a.2] := by
  obtain ⟨y0, y1, m, _, _, h0, h1⟩ := trod_struct2 Tryz.underlying75 h
  obtain ⟨d, e0, _⟩ := DataW.trod_int Tryz.underlying3 h0
  obtain ⟨x, e1, _⟩ := DataW.trod_string Tryz.underlying9 h1
  rw [c3] at e0
  rw [c9] at e1
  exact ⟨(d, x), two hl e0 e1⟩
theorem ints_flat : ∀ l : List (Int × Int), l.flatMap (fun a => [Value.int .i64 a.1, Value.int .i64 a.2]) = Sp.ints (l.flatMap fun a => [a.1, a.2])
  | [] => rfl
  | a :: r => by
    rw [List.flatMap_cons, ints_flat r]; simp [Sp.ints]
theorem acs_flat : ∀ l : List (Int × ByteArray), l.flatMap (fun a => [Value.int .i64 a.1, Value.string a.2]) = Qq.acs l
  | [] => rfl
  | a :: r => by rw [List.flatMap_cons, acs_flat r]; simp [Qq.acs]
theorem pairs_len : ∀ l : List (Int × Int), (l.flatMap fun a => [a.1, a.2]).length = l.length * 2
  | [] => rfl
  | a :: r => by rw [List.flatMap_cons, List.length_append, pairs_len r]; simp; omega

/-- A list of one shape that is given, as a row. -/
theorem open_row {α : Type} {f : α → List Value} {m : Nat} (hf : ∀ a, (f a).length = m) (h0 : 0 < m) (hat : ∀ a, ∀ c ∈ f a, atom c = true ∧ c.oneCell' = true) {fuel : Nat} {t e : TypeId} {v : Value} {x : DataW H × List MemPlace}
    (ht : Tryz.prog.underlying t = some (.slice e)) (hm : Tryz.prog.cellsOf e = m) (h : DataW.trod enc Tryz.prog w base spare held fuel t [v] = some x)
    (hel : ∀ {n : Nat} {es : List Value} {y : DataW H × List MemPlace}, es.length = m → DataW.trod enc Tryz.prog w base spare held n e es = some y → ∃ a, es = f a) :
    ∃ (l : List α) (g : Gh), g.es = m ∧ View.ok w ⟨g, l.flatMap f⟩ ∧ l.length ≤ 9223372036854775807 ∧
      ∀ (A : Nat → Prop) (ψ : Nat → Gh) (id : Nat), A id → ψ id = g → VR A ψ (.slice (some ⟨id, 0, none⟩) l.length big) v := by
  obtain ⟨a, len, cap, n, hv, h1, h2, h3⟩ := open_view ht hm h0 h
  obtain rfl : v = .slice a len cap := by simpa using hv
  rcases Nat.eq_zero_or_pos len with hl | hl
  · subst hl
    refine ⟨[], ⟨0, 0, 0, m⟩, rfl, ⟨fun h => absurd rfl h, fun c hc => by simp at hc⟩, by simp, fun A ψ id hA hg => ?_⟩
    exact .view id 0 0 cap a hA (Nat.zero_le _) (.inl rfl)
  · obtain ⟨blk, off, arr, el, fz, rfl, h4, h5, h6⟩ := h3 hl
    obtain ⟨l, k1, k2⟩ := collect hf h0 (R := fun i => arr[off + i]?) (len := len) fun i hi => by
      obtain ⟨es, y, q1, q2, q3⟩ := h6 i hi
      obtain ⟨b, rfl⟩ := hel q1 q3
      exact ⟨b, fun j hj => by rw [← q2 j hj, Nat.add_assoc]⟩
    refine ⟨l, ⟨blk, off, 0, m⟩, rfl, ⟨fun _ => ⟨h4, arr, el, fz, h5, fun i hi => k2 i ?_⟩, fun c hc => ?_⟩, by omega, fun A ψ id hA hg => ?_⟩
    · rw [flat_len hf, k1] at hi; exact hi
    · obtain ⟨b, _, hb⟩ := List.mem_flatMap.1 hc
      exact hat b c hb
    · rw [k1]
      refine .view id 0 len cap _ hA h1 (.inr ?_)
      rw [hg]
      simp

/-- A section that is given: its name, its lists, and where they lie. -/
structure SecD where
  nm : ByteArray
  zs : List Int
  ks : List (Int × ByteArray)
  N : Nat
  K : Nat
  g1 : Gh
  g2 : Gh
  a1 : Value
  a2 : Value
def SecD.ok (w : World) (d : SecD) : Prop :=
  View.ok w ⟨d.g1, Sp.ints d.zs⟩ ∧ View.ok w ⟨d.g2, Qq.acs d.ks⟩ ∧ d.g1.es = 2 ∧ d.g2.es = 2 ∧ (d.zs.length = d.N * 2 ∧ d.ks.length = d.K ∧ d.N ≤ 9223372036854775807 ∧ d.K ≤ 9223372036854775807) ∧
    (∀ (A : Nat → Prop) (ψ : Nat → Gh) (id : Nat), A id → ψ id = d.g1 → VR A ψ (.slice (some ⟨id, 0, none⟩) d.N big) d.a1) ∧
    ∀ (A : Nat → Prop) (ψ : Nat → Gh) (id : Nat), A id → ψ id = d.g2 → VR A ψ (.slice (some ⟨id, 0, none⟩) d.K big) d.a2
theorem three {es : List Value} {a : Value} (hl : es.length = 3) (h0 : (es.drop 0).take 1 = [a]) : ∃ b c, es = [a, b, c] ∧ (es.drop 1).take 1 = [b] ∧ (es.drop 2).take 1 = [c] := by
  obtain _ | ⟨x, _ | ⟨y, _ | ⟨z, _ | ⟨t, r⟩⟩⟩⟩ := es
  · simp at hl
  · simp at hl
  · simp at hl
  · simp at h0; subst h0; exact ⟨y, z, rfl, rfl, rfl⟩
  · simp at hl
theorem open_el {n : Nat} {es : List Value} {y : DataW H × List MemPlace} (hl : es.length = 3) (h : DataW.trod enc Tryz.prog w base spare held n 30 es = some y) : ∃ d : SecD, d.ok w ∧ es = [.string d.nm, d.a1, d.a2] := by
  obtain ⟨y0, y1, y2, m, _, _, h0, h1, h2⟩ := trod_struct3 Tryz.underlying30 h
  obtain ⟨nm, e0, _⟩ := DataW.trod_string Tryz.underlying9 h0
  rw [c9] at e0
  obtain ⟨b, c, rfl, e1, e2⟩ := three hl e0
  simp only [c27, c28, e1, e2] at h1 h2
  obtain ⟨l1, g1, q1, q2, q3, q4⟩ := open_row (f := fun a : Int × Int => [.int .i64 a.1, .int .i64 a.2]) (m := 2) (fun _ => rfl) (by omega) (fun a c hc => by simp at hc; rcases hc with rfl | rfl <;> exact ⟨rfl, rfl⟩) Tryz.underlying27 c70 h1 elM
  obtain ⟨l2, g2, r1, r2, r3, r4⟩ := open_row (f := fun a : Int × ByteArray => [.int .i64 a.1, .string a.2]) (m := 2) (fun _ => rfl) (by omega) (fun a c hc => by simp at hc; rcases hc with rfl | rfl <;> exact ⟨rfl, rfl⟩) Tryz.underlying28 c75 h2 elA
  rw [ints_flat] at q2
  rw [acs_flat] at r2
  exact ⟨⟨nm, l1.flatMap fun a => [a.1, a.2], l2, l1.length, l2.length, g1, g2, b, c⟩, ⟨q2, r2, q1, r1, ⟨pairs_len l1, rfl, q3, r3⟩, q4, r4⟩, rfl⟩
end

/-- The lists of n sections, as they lie. -/
noncomputable def lsV (f : Nat → SecD) (n : Nat) : List NView := (List.range n).flatMap fun i => [⟨(f i).g1, Sp.ints (f i).zs, true⟩, ⟨(f i).g2, Qq.acs (f i).ks, true⟩]
noncomputable def lsF (f : Nat → SecD) : Sp.Ls := ⟨fun i => (f i).nm, fun i => (f i).zs, fun i => (f i).ks, fun i => (f i).N, fun i => (f i).K⟩
theorem lsV_succ (f : Nat → SecD) (n : Nat) : lsV f (n + 1) = lsV f n ++ [⟨(f n).g1, Sp.ints (f n).zs, true⟩, ⟨(f n).g2, Qq.acs (f n).ks, true⟩] := by
  rw [lsV, List.range_succ, List.flatMap_append, List.flatMap_singleton]; rfl
theorem lsV_len (f : Nat → SecD) : ∀ n, (lsV f n).length = 2 * n
  | 0 => rfl
  | n + 1 => by rw [lsV_succ, List.length_append, lsV_len f n]; rfl
theorem lsV_at (f : Nat → SecD) {i : Nat} : ∀ {n : Nat}, i < n → (lsV f n)[2 * i]? = some ⟨(f i).g1, Sp.ints (f i).zs, true⟩ ∧ (lsV f n)[2 * i + 1]? = some ⟨(f i).g2, Qq.acs (f i).ks, true⟩
  | n + 1, h => by
    have hl := lsV_len f n
    rw [lsV_succ]
    by_cases e : i = n
    · subst e
      rw [List.getElem?_append_right (by omega), List.getElem?_append_right (by omega), show 2 * i - (lsV f i).length = 0 by omega, show 2 * i + 1 - (lsV f i).length = 1 by omega]
      exact ⟨rfl, rfl⟩
    · rw [List.getElem?_append_left (by omega), List.getElem?_append_left (by omega)]
      exact lsV_at f (by omega)
theorem lsV_mem {f : Nat → SecD} {n : Nat} {v : NView} (h : v ∈ lsV f n) : ∃ i, i < n ∧ (v = ⟨(f i).g1, Sp.ints (f i).zs, true⟩ ∨ v = ⟨(f i).g2, Qq.acs (f i).ks, true⟩) := by
  rw [lsV, List.mem_flatMap] at h
  obtain ⟨i, hi, hv⟩ := h
  simp only [List.mem_cons, List.not_mem_nil, or_false] at hv
  exact ⟨i, List.mem_range.1 hi, hv⟩
theorem lsV_obj (f : Nat → SecD) (W : World) : ∀ n, (∀ i, i < n → (f i).ok W) → (lsV f n).map NView.obj = Qq.lsT (lsF f) n
  | 0, _ => rfl
  | n + 1, h => by
    obtain ⟨_, _, k1, k2, _⟩ := h n (by omega)
    have ih := lsV_obj f W n fun i hi => h i (by omega)
    rw [lsV_succ, List.map_append, ih, Qq.lsT, Qq.lsT, List.range_succ, List.flatMap_append, List.flatMap_singleton]
    congr 1
    simp only [List.map_cons, List.map_nil, NView.obj, k1, k2]
    rfl

set_option maxRecDepth 100000 in
/-- A list of sections that is given. -/
theorem open_list {H : Type} {enc : TypeId × Value → H} {W : World} {base b0 : Nat} {spare : Nat → Bool} {held : Bool} {r : Reach} {v : Value} {d : DataW H} {p : List MemPlace} (hv : Value.okWide Tryz.prog W r b0 22 v) (h : DataW.Trod enc Tryz.prog W base spare held 22 v d p) :
    ∃ (s : Sp.Ls) (n : Nat) (l : List NView), l.map NView.obj = Qq.lsG s n ∧ (∀ v ∈ l, v.ok l W) ∧ Qq.okLs s n ∧ n ≤ 9223372036854775807 ∧ VR (nviewA l) (nviewG l) (.slice (some ⟨0, 0, none⟩) n big) v := by
  obtain ⟨a0, len0, cap0, rfl⟩ := okWide_slice Tryz.underlying22 hv
  obtain ⟨fuel, hf⟩ := h
  obtain ⟨a, len, cap, n, e, h1, h2, h3⟩ := open_view Tryz.underlying22 c30 (by omega) (show DataW.trod enc Tryz.prog W base spare held fuel 22 [.slice a0 len0 cap0] = some (d, p) from hf)
  obtain ⟨rfl, rfl, rfl⟩ : a0 = a ∧ len0 = len ∧ cap0 = cap := by simpa using e
  rcases Nat.eq_zero_or_pos len0 with hl | hl
  · subst hl
    refine ⟨⟨fun _ => ⟨#[]⟩, fun _ => [], fun _ => [], fun _ => 0, fun _ => 0⟩, 0, [⟨⟨0, 0, 0, 3⟩, [], false⟩], rfl, ?_, fun i hi => by omega, by omega, ?_⟩
    · intro v hv
      rw [List.mem_singleton] at hv
      subst hv
      exact ⟨fun h => absurd rfl h, fun h => by cases h⟩
    · exact .view 0 0 0 cap0 a0 (by rw [nviewA]; decide) (Nat.zero_le _) (.inl rfl)
  · obtain ⟨blk, off, arr, el, fz, rfl, h4, h5, h6⟩ := h3 hl
    have hex : ∀ i, ∃ s : SecD, i < len0 → s.ok W ∧ ∀ j, j < 3 → arr[off + i * 3 + j]? = [Value.string s.nm, s.a1, s.a2][j]? := fun i => by
      by_cases hi : i < len0
      · obtain ⟨es, y, q1, q2, q3⟩ := h6 i hi
        obtain ⟨s, hs, rfl⟩ := open_el q1 q3
        exact ⟨s, fun _ => ⟨hs, q2⟩⟩
      · exact ⟨⟨⟨#[]⟩, [], [], 0, 0, ⟨0, 0, 0, 0⟩, ⟨0, 0, 0, 0⟩, .slice none 0 0, .slice none 0 0⟩, fun h => absurd h hi⟩
    obtain ⟨f, hf⟩ := Classical.axiomOfChoice hex
    have hok : ∀ i, i < len0 → (f i).ok W := fun i hi => (hf i hi).1
    have hlV := lsV_len f len0
    let l : List NView := ⟨⟨blk, off, 0, 3⟩, Sp.lsC (lsF f) len0, false⟩ :: lsV f len0
    have hg : ∀ i, i < len0 → nviewA l (1 + 2 * i) ∧ nviewG l (1 + 2 * i) = (f i).g1 ∧ nviewA l (2 + 2 * i) ∧ nviewG l (2 + 2 * i) = (f i).g2 := fun i hi => by
      obtain ⟨v1, v2⟩ := lsV_at f hi
      have ll : l.length = 2 * len0 + 1 := by show (lsV f len0).length + 1 = _; rw [hlV]
      refine ⟨by rw [nviewA, ll]; omega, ?_, by rw [nviewA, ll]; omega, ?_⟩
      · rw [nviewG, List.getD_eq_getElem?_getD, show 1 + 2 * i = 2 * i + 1 by omega]
        show (((lsV f len0)[2 * i]?).getD _).g = _
        rw [v1]; rfl
      · rw [nviewG, List.getD_eq_getElem?_getD, show 2 + 2 * i = 2 * i + 1 + 1 by omega]
        show (((lsV f len0)[2 * i + 1]?).getD _).g = _
        rw [v2]; rfl
    refine ⟨lsF f, len0, l, ?_, ?_, fun i hi => (hok i hi).2.2.2.2.1, by omega, ?_⟩
    · show NView.obj _ :: (lsV f len0).map NView.obj = _
      rw [lsV_obj f W len0 hok]; rfl
    · intro v hv
      rcases List.mem_cons.1 hv with rfl | hv
      · refine ⟨fun _ => ⟨h4, arr, el, fz, h5, fun i hi => ?_⟩, fun h => by cases h⟩
        have hi : i < 3 * len0 := by rw [← Qq.lsC_len (lsF f) len0]; exact hi
        have hq : i / 3 < len0 := by omega
        obtain ⟨k1, k2⟩ := hf (i / 3) hq
        have hcell : (Sp.lsC (lsF f) len0).getD i poi = [Value.string (f (i / 3)).nm, .slice (some ⟨1 + 2 * (i / 3), 0, none⟩) (f (i / 3)).N big, .slice (some ⟨2 + 2 * (i / 3), 0, none⟩) (f (i / 3)).K big].getD (i % 3) poi := by
          have e := Qq.lsC_part (lsF f) hq
          have e2 : (((Sp.lsC (lsF f) len0).drop (i / 3 * 3)).take 3)[i % 3]? = (Sp.lsC (lsF f) len0)[i]? := by
            rw [List.getElem?_take_of_lt (by omega), List.getElem?_drop, show i / 3 * 3 + i % 3 = i by omega]
          rw [e] at e2
          rw [List.getD_eq_getElem?_getD, ← e2, List.getD_eq_getElem?_getD]; rfl
        have harr := k2 (i % 3) (by omega)
        rw [show off + i / 3 * 3 + i % 3 = off + i by omega] at harr
        obtain ⟨n1, n2, n3, n4⟩ := hg (i / 3) hq
        obtain ⟨_, _, _, _, _, s1, s2⟩ := k1
        show ∃ v', arr[off + i]? = some v' ∧ v'.oneCell' = true ∧ VR (nviewA l) (nviewG l) ((Sp.lsC (lsF f) len0).getD i poi) v'
        rw [hcell, harr]
        have s1 := s1 (nviewA l) (nviewG l) _ n1 n2
        have s2 := s2 (nviewA l) (nviewG l) _ n3 n4
        match i % 3, Nat.mod_lt i (show 0 < 3 by omega) with
        | 0, _ => exact ⟨_, rfl, rfl, .atom _ rfl⟩
        | 1, _ => exact ⟨_, rfl, s1.one rfl rfl, s1⟩
        | 2, _ => exact ⟨_, rfl, s2.one rfl rfl, s2⟩
      · obtain ⟨i, hi, hv⟩ := lsV_mem hv
        obtain ⟨o1, o2, _⟩ := hok i hi
        have go : ∀ (g : Gh) (cells : List Value), View.ok W ⟨g, cells⟩ → NView.ok l W ⟨g, cells, true⟩ := fun g cells ho => by
          refine ⟨fun hne => ?_, fun _ c hc => (ho.2 c hc).1⟩
          obtain ⟨k3, arr, el, fz, k4, k5⟩ := ho.1 hne
          refine ⟨k3, arr, el, fz, k4, fun j hj => ?_⟩
          have k6 := k5 j hj
          have hj' : j < cells.length := hj
          have hc := ho.2 _ (List.getElem_mem hj')
          refine ⟨cells[j], ?_, hc.2, ?_⟩
          · rw [k6]; exact List.getElem?_eq_getElem hj'
          · have e : cells.getD j poi = cells[j] := by simp [List.getD_eq_getElem?_getD, hj']
            show VR _ _ (cells.getD j poi) _
            rw [e]; exact .atom _ hc.1
        rcases hv with rfl | rfl
        · exact go _ _ o1
        · exact go _ _ o2
    · refine .view 0 0 len0 cap0 _ (by show 0 < l.length; show 0 < (lsV f len0).length + 1; omega) h1 (.inr ?_)
      show some (Addr.mk blk off none) = some ⟨blk, off + 0, none⟩
      rfl
theorem u16_in {a : Int} (h : (Lit.int .u16 a).wf = true) : 0 ≤ a ∧ a ≤ 65535 := by
  have h1 : (decide (IntKind.u16.min ≤ a) && decide (a ≤ IntKind.u16.max)) = true := h
  have b1 : IntKind.u16.min = 0 := by decide
  have b2 : IntKind.u16.max = 65535 := by decide
  rw [b1, b2, Bool.and_eq_true, decide_eq_true_eq, decide_eq_true_eq] at h1
  exact h1
theorem u8_in {a : Int} (h : (Lit.int .u8 a).wf = true) : 0 ≤ a ∧ a ≤ 255 := by
  have h1 : (decide (IntKind.u8.min ≤ a) && decide (a ≤ IntKind.u8.max)) = true := h
  have b1 : IntKind.u8.min = 0 := by decide
  have b2 : IntKind.u8.max = 255 := by decide
  rw [b1, b2, Bool.and_eq_true, decide_eq_true_eq, decide_eq_true_eq] at h1
  exact h1
end Go.Proofs.YtmbeobnpkcoapaaGreat.Common
