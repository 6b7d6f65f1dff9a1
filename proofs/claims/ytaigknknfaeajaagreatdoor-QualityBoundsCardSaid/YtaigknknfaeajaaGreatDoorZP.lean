/- Parts of the proof: VmAF, VmAG, QLL, QJJ. -/
import Derived.Test.YtaigknknfaeajaaGreatDoorZC
import Derived.Test.YtaigknknfaeajaaGreatDoorQII
import Derived.Test.YtaigknknfaeajaaGreatDoorZH
section
/- An operation whose new rows are sealed at once. -/
namespace Go.Vm
noncomputable section
def shutD (δ : Delta) : Delta := δ.map fun p => (p.1, p.2.map AObj.shut)

def shutOf (H H' : Heap) : Prop := ∀ id o, rd H' id = some o → ∃ o', rd H id = some o' ∧ (o = o' ∨ o = o'.shut)

theorem HRel.weak {P : Program} {F : Fr P} {A : Nat → Prop} {ψ : Nat → Gh} {H H' : Heap} {w : World} (h : HRel F A ψ H w) (hh : shutOf H H') : HRel F A ψ H' w := by
  have hrw : ∀ {o o' : AObj}, (o = o' ∨ o = o'.shut) → o.rw = true → o'.rw = true := fun h k => by
    rcases h with rfl | rfl
    · exact k
    · exact seal_rw k
  have hvd : ∀ {o o' : AObj}, (o = o' ∨ o = o'.shut) → o.vd = false → o'.vd = false := fun h k => by
    rcases h with rfl | rfl
    · exact k
    · rw [shut_vd] at k; exact k
  refine ⟨fun id o ho => ?_, fun i j oi oj hi hj hij hr hvi hvj => ?_, h.fr, fun id o ho hr hv => ?_, h.old⟩
  · obtain ⟨o', h1, h2⟩ := hh id o ho
    obtain ⟨k1, k2, k0⟩ := h.live id o' h1
    refine ⟨k1, by rcases h2 with rfl | rfl; exact k2; (cases o' <;> exact k2), fun hv => ⟨(k0 (hvd h2 hv)).1, ?_⟩⟩
    have k3 := (k0 (hvd h2 hv)).2
    rcases h2 with rfl | rfl
    · exact k3
    · cases o' with
      | row cells es more rw flat =>
        obtain ⟨arr, el, fz, a, b, c, d, e⟩ := k3
        exact ⟨arr, el, fz, a, b, c, (fun h => by cases h), e⟩
      | iter => exact k3
      | smap => exact k3
  · obtain ⟨oi', a1, a2⟩ := hh i oi hi
    obtain ⟨oj', b1, b2⟩ := hh j oj hj
    exact h.inj i j oi' oj' a1 b1 hij (hrw a2 hr) (hvd a2 hvi) (hvd b2 hvj)
  · obtain ⟨o', h1, h2⟩ := hh id o ho
    exact h.own id o' h1 (hrw h2 hr) (hvd h2 hv)

theorem ap_shut : ∀ (δ : Delta) (H H' : Heap), shutOf H H' → shutOf (ap H δ) (ap H' (shutD δ))
  | [], _, _, h => h
  | (i, o) :: r, H, H', h => ap_shut r (wr H i o) (wr H' i (o.map AObj.shut)) fun id x hx => by
    rw [rd_wr] at hx ⊢
    by_cases e : id = i
    · rw [if_pos e] at hx ⊢
      obtain ⟨o', h1, h2⟩ := Option.map_eq_some_iff.1 hx
      exact ⟨o', h1, .inr h2.symm⟩
    · rw [if_neg e] at hx ⊢
      exact h id x hx

/-- A hint whose new rows are sealed at once. -/
def hSeal {P : Program} (h : Hint P) : Hint P where
  fn o env H := match h.fn o env H with
    | some (out, vc) => some ({ out with δ := shutD out.δ }, vc)
    | none => none
  ok := by
    intro o env H out vc hh hv
    split at hh
    · rename_i out0 vc0 h0
      cases hh
      have k := h.ok h0 hv
      intro F A ψ env1 H1 a w hr h1 h2 h3 K Q hK
      refine k F A ψ env1 H1 a w hr h1 h2 h3 K Q fun ψ1 a1 w1 hr1 => hK ψ1 a1 w1 ?_
      exact ⟨hr1.slot, hr1.len, hr1.defers, hr1.heap.weak (ap_shut out0.δ H1 H1 fun id o ho => ⟨o, ho, .inl rfl⟩)⟩
    · cases hh
end
end Go.Vm
end
section
/- A store into a list at an index that is not known. -/
namespace Go.Vm
noncomputable section
def fSt (P : Program) (o : Oper) (env : List Value) (H : Heap) : Option (Out × Prop) :=
  match o.op with
  | .store t x y =>
    match ev env x with
    | .pointer (some ⟨id, off, none⟩) =>
      match rd H id, P.info? t with
      | some (.row cells es more true flat), some i =>
        if (okv (ev env y) && Nat.beq (ev env y).cells.toList.length i.size && Nat.blt 0 (ev env y).cells.toList.length) = true then
          some (⟨undef, [(id, some (.row (splice cells off (ev env y).cells.toList) es more true (flat && (ev env y).cells.toList.all atom)))], [id], []⟩, off + (ev env y).cells.toList.length ≤ cells.length)
        else none
      | _, _ => none
    | _ => none
  | _ => none

def hSt (P : Program) : Hint P where
  fn := fSt P
  ok := by
    intro o env H out vc h hv
    unfold fSt at h
    split at h
    · rename_i t x y ho
      split at h
      · rename_i id off hx
        split at h
        · rename_i cells es more flat i hrd hi
          split at h
          · rename_i hc
            simp only [Bool.and_eq_true] at hc
            obtain ⟨⟨c1, c2⟩, c3⟩ := hc
            have c2 := Nat.eq_of_beq_eq_true c2
            have c3 : 0 < (ev env y).cells.toList.length := Nat.lt_of_lt_of_le (Nat.lt_succ_self 0) (Nat.le_of_ble_eq_true c3)
            cases h
            refine store_ok ho ?_
            unfold evStore
            rw [hx]
            simp only [hrd, hi]
            have hif : (okv (ev env y) && decide ((ev env y).cells.toList.length = i.size) && decide (off + (ev env y).cells.toList.length ≤ cells.length) && decide (0 < (ev env y).cells.toList.length)) = true := by
              rw [c1, decide_eq_true c2, decide_eq_true hv, decide_eq_true c3]; rfl
            rw [if_pos hif]
          · cases h
        · cases h
      · cases h
    · cases h
end
end Go.Vm
end
section
/- Days on which lines reach a limit: plain laws. -/
open Go Go.Vm Go.Proofs Sp
namespace Sp
noncomputable section
noncomputable def lnS (l : Ln) (lim f : Int) : Int := rcS l.1 l.2.1 l.2.2.1 l.2.2.2 lim f
noncomputable def lnN (l : Ln) (lim f : Int) : Int := rcN l.1 l.2.1 l.2.2.1 l.2.2.2 lim f
noncomputable def lnB (l : Ln) (lim f : Int) : Bool := rcB l.1 l.2.1 l.2.2.1 l.2.2.2 lim f
noncomputable def lnR (l : Ln) (lim f : Int) : Int := if lnS l lim f ≤ 0 then f else if l.2.2.1 ≤ 0 then -1 else f - (-lnS l lim f) / l.2.2.1
noncomputable def eaG (lim f : Int) : List Ln → Int → Bool → Int × Bool
  | [], b, fd => (b, fd)
  | l :: r, b, fd => if (lnB l lim f && (!fd || decide (lnN l lim f < b))) = true then eaG lim f r (lnN l lim f) true else eaG lim f r b fd
noncomputable def laG (g : Ln → Int) : List Ln → Int → Int
  | [], d => d
  | l :: r, d => laG g r (if g l > d then g l else d)
noncomputable def belowB (lim D : Int) (l : Ln) : Bool := decide (lnat l D < lim * l.2.2.2)
noncomputable def laO (lim f : Int) (Q : List Ln) : Bool := (Q.all fun l => lnB l lim f) && !(Q.any (belowB lim (laG (fun l => lnN l lim f) Q f)))
end
end Sp
namespace Qq
noncomputable section
theorem lnR_up {l : Ln} {lim f : Int} (h : ¬ lnS l lim f ≤ 0) (hc : ¬ l.2.2.1 ≤ 0) : f ≤ f - (-lnS l lim f) / l.2.2.1 := by
  have : (-lnS l lim f) / l.2.2.1 ≤ 0 := Int.ediv_nonpos_of_nonpos_of_neg (by omega) (by omega)
  omega
theorem lnB_iff {l : Ln} {lim f : Int} (f0 : 0 ≤ f) (f1 : f ≤ 100000) : lnB l lim f = true ↔ 0 ≤ lnR l lim f ∧ lnR l lim f ≤ 100000 := by
  simp only [lnB, lnR, rcB, lnS]
  by_cases h : rcS l.1 l.2.1 l.2.2.1 l.2.2.2 lim f ≤ 0
  · simp only [h, decide_true, Bool.true_or, if_true, true_iff]; omega
  · by_cases hc : l.2.2.1 ≤ 0
    · simp only [h, hc, decide_false, decide_true, Bool.not_true, Bool.false_and, Bool.or_self, if_false, if_true]
      constructor
      · intro h; cases h
      · intro h; omega
    · have := lnR_up (l := l) (lim := lim) (f := f) h hc
      simp only [lnS] at this
      simp only [h, hc, decide_false, Bool.not_false, Bool.true_and, Bool.false_or, if_false, decide_eq_true_eq]
      omega
theorem lnN_eq {l : Ln} {lim f : Int} (h : lnB l lim f = true) : lnN l lim f = lnR l lim f := by
  simp only [lnB, rcB] at h
  simp only [lnN, lnR, rcN, lnS]
  by_cases h1 : rcS l.1 l.2.1 l.2.2.1 l.2.2.2 lim f ≤ 0
  · simp only [h1, if_true]
  · by_cases hc : l.2.2.1 ≤ 0
    · simp [h1, hc] at h
    · simp only [h1, hc, if_false]
theorem eaG_spec {lim f : Int} : ∀ (Q : List Ln) (b : Int) (fd : Bool), (eaG lim f Q b fd).2 = (fd || Q.any fun l => lnB l lim f) ∧
    ((eaG lim f Q b fd).2 = true → ((fd = true ∧ (eaG lim f Q b fd).1 = b) ∨ ∃ l ∈ Q, lnB l lim f = true ∧ (eaG lim f Q b fd).1 = lnN l lim f)) ∧
    (fd = true → (eaG lim f Q b fd).1 ≤ b) ∧ (∀ l ∈ Q, lnB l lim f = true → (eaG lim f Q b fd).1 ≤ lnN l lim f) ∧ ((eaG lim f Q b fd).2 = false → (eaG lim f Q b fd).1 = b)
  | [], b, fd => by simp [eaG]
  | l :: r, b, fd => by
    simp only [eaG]
    by_cases hc : (lnB l lim f && (!fd || decide (lnN l lim f < b))) = true
    · rw [if_pos hc]
      obtain ⟨i1, i2, i3, i4, i5⟩ := eaG_spec (lim := lim) (f := f) r (lnN l lim f) true
      simp only [Bool.and_eq_true, Bool.or_eq_true, Bool.not_eq_true', decide_eq_true_eq] at hc
      refine ⟨by rw [i1]; simp [hc.1], fun h => .inr ?_, fun h => ?_, fun x hx hb => ?_, fun h => by rw [i1] at h; simp at h⟩
      · rcases i2 h with ⟨_, e⟩ | ⟨x, hx, hb, e⟩
        · exact ⟨l, by simp, hc.1, e⟩
        · exact ⟨x, by simp [hx], hb, e⟩
      · have := i3 rfl
        rcases hc.2 with h2 | h2
        · rw [h] at h2; cases h2
        · omega
      · rcases List.mem_cons.1 hx with rfl | hx
        · exact i3 rfl
        · exact i4 x hx hb
    · rw [if_neg hc]
      obtain ⟨i1, i2, i3, i4, i5⟩ := eaG_spec (lim := lim) (f := f) r b fd
      simp only [Bool.and_eq_true, Bool.or_eq_true, Bool.not_eq_true', decide_eq_true_eq, not_and, not_or] at hc
      refine ⟨?_, fun h => ?_, i3, fun x hx hb => ?_, i5⟩
      · rw [i1, List.any_cons]
        by_cases hb : lnB l lim f = true
        · have := (hc hb).1
          simp only [Bool.not_eq_false] at this
          simp [this]
        · simp only [Bool.not_eq_true] at hb
          simp [hb]
      · rcases i2 h with h | ⟨x, hx, hb, e⟩
        · exact .inl h
        · exact .inr ⟨x, by simp [hx], hb, e⟩
      · rcases List.mem_cons.1 hx with rfl | hx
        · obtain ⟨h1, h2⟩ := hc hb
          simp only [Bool.not_eq_false] at h1
          have := i3 h1
          omega
        · exact i4 x hx hb
theorem laG_spec (g : Ln → Int) : ∀ (Q : List Ln) (d : Int), (laG g Q d = d ∨ ∃ l ∈ Q, laG g Q d = g l) ∧ d ≤ laG g Q d ∧ ∀ l ∈ Q, g l ≤ laG g Q d
  | [], d => by simp [laG]
  | l :: r, d => by
    simp only [laG]
    obtain ⟨i1, i2, i3⟩ := laG_spec g r (if g l > d then g l else d)
    have hm : d ≤ (if g l > d then g l else d) ∧ g l ≤ (if g l > d then g l else d) ∧ ((if g l > d then g l else d) = d ∨ (if g l > d then g l else d) = g l) := by
      split <;> omega
    generalize (if g l > d then g l else d) = e at *
    refine ⟨?_, by omega, fun x hx => ?_⟩
    · rcases i1 with h | ⟨x, hx, h⟩
      · rcases hm.2.2 with h2 | h2
        · exact .inl (by omega)
        · exact .inr ⟨l, by simp, by omega⟩
      · exact .inr ⟨x, by simp [hx], h⟩
    · rcases List.mem_cons.1 hx with rfl | hx
      · omega
      · exact i3 x hx
end
end Qq
end
section
/- Ratios and lines: the small functions, and the loops over them. -/
open Go Go.Vm Go.Proofs Sp
namespace Sp
noncomputable section
noncomputable def sgn (x y : Int) : Int := if x < y then -1 else if x > y then 1 else 0
noncomputable def fl2 : List (Int × Int) → List Int
  | [] => []
  | l :: r => l.1 :: l.2 :: fl2 r
end
end Sp
namespace Qq
noncomputable section
/-- A ratio whose products do not leave the machine's integers. -/
structure RatIn (r : Int × Int) : Prop where
  n0 : -1000000000000 ≤ r.1
  n1 : r.1 ≤ 1000000000000
  d0 : 0 < r.2
  d1 : r.2 ≤ 1000000
noncomputable def rtC (r : Int × Int) : List Value := [.int .i64 r.1, .int .i64 r.2]
theorem nan_t (a : Int) (K : Value → Heap → Prop) :
    (fnP Tryz.prog c0 h0 (240 : FuncId) [Value.int IntKind.i64 a] [] K) =
    (K (Value.bool (a != a)) noH) := by kernel_rfl
noncomputable def orcNaN : Orc
  | [.int .i64 _], [] => some (.bool false, [])
  | _, _ => none
theorem okNaN : Ok Tryz.prog 240 orcNaN := by
  intro args H ret H' h
  unfold orcNaN at h
  split at h
  · cases h
    refine fnP_res hm c0_ok (hs := h0) ?_
    rw [nan_t]
    exact ⟨by simp, by first | trivial | rfl⟩
  · cases h
noncomputable def tn1 : List (Nat × Orc) := [(240, orcNaN)]
theorem tn1_all : ∀ p ∈ tn1, Ok Tryz.prog p.1 p.2 := all_cons okNaN all_nil
noncomputable def cn1 : CallF := ctx Tryz.prog tn1
theorem cn1_ok : CallOK Tryz.prog cn1 := ctx_ok hm tn1_all
theorem cmpI_t (a : Int) (b : Int) (K : Value → Heap → Prop) :
    (fnP Tryz.prog cn1 h0 (207 : FuncId) [Value.int IntKind.i64 a, Value.int IntKind.i64 b] [] K) =
    (br (decide (a < b)) (K (Value.int IntKind.i64 (-1 : Int)) noH) (br (decide (b < a)) (K (Value.int IntKind.i64 (1 : Int)) noH) (K (Value.int IntKind.i64 (0 : Int)) noH))) := by kernel_rfl
noncomputable def orcCmpI : Orc
  | [.int .i64 a, .int .i64 b], [] => some (.int .i64 (sgn a b), [])
  | _, _ => none
theorem okCmpI : Ok Tryz.prog 207 orcCmpI := by
  intro args H ret H' h
  unfold orcCmpI at h
  split at h
  · cases h
    refine fnP_res hm cn1_ok (hs := h0) ?_
    rw [cmpI_t]
    refine br_of (fun h1 => ?_) (fun h1 => br_of (fun h2 => ?_) (fun h2 => ?_))
    · rw [sgn, if_pos (of_decide_eq_true h1)]
      exact ⟨by first | trivial | rfl, by first | trivial | rfl⟩
    · rw [sgn, if_neg (of_decide_eq_false h1), if_pos (of_decide_eq_true h2)]
      exact ⟨by first | trivial | rfl, by first | trivial | rfl⟩
    · rw [sgn, if_neg (of_decide_eq_false h1), if_neg (of_decide_eq_false h2)]
      exact ⟨by first | trivial | rfl, by first | trivial | rfl⟩
  · cases h
noncomputable def tn2 : List (Nat × Orc) := [(207, orcCmpI)]
theorem tn2_all : ∀ p ∈ tn2, Ok Tryz.prog p.1 p.2 := all_cons okCmpI all_nil
noncomputable def cn2 : CallF := ctx Tryz.prog tn2
theorem cn2_ok : CallOK Tryz.prog cn2 := ctx_ok hm tn2_all
theorem cmp_t (a : Int) (b : Int) (c : Int) (d : Int) (K : Value → Heap → Prop) :
    (fnP Tryz.prog cn2 h0 (149 : FuncId) [Value.agg #[Value.int IntKind.i64 a, Value.int IntKind.i64 b], Value.agg #[Value.int IntKind.i64 c, Value.int IntKind.i64 d]] [] K) =
    (Is True ∧ br (a == c && (b == d && true)) (K (Value.int IntKind.i64 (0 : Int)) noH) (K (Value.int IntKind.i64 (sgn (IntKind.wrap IntKind.i64 (a * d)) (IntKind.wrap IntKind.i64 (c * b)))) noH)) := by kernel_rfl
theorem cmpR2_t (a : Int) (b : Int) (c : Int) (d : Int) (K : Value → Heap → Prop) :
    (fnP Tryz.prog c0 h0 (73 : FuncId) [Value.agg #[Value.int IntKind.i64 a, Value.int IntKind.i64 b], Value.agg #[Value.int IntKind.i64 c, Value.int IntKind.i64 d]] [] K) =
    (br (decide (IntKind.wrap IntKind.i64 (a * d) < IntKind.wrap IntKind.i64 (c * b))) (K (Value.int IntKind.i64 (-1 : Int)) noH) (br (decide (IntKind.wrap IntKind.i64 (c * b) < IntKind.wrap IntKind.i64 (a * d))) (K (Value.int IntKind.i64 (1 : Int)) noH) (K (Value.int IntKind.i64 (0 : Int)) noH))) := by kernel_rfl
noncomputable def orcCmp : OrcV
  | [.agg ⟨[.int .i64 a, .int .i64 b]⟩, .agg ⟨[.int .i64 c, .int .i64 d]⟩], [] => some (.int .i64 (sgn (a * d) (c * b)), [], RatIn (a, b) ∧ RatIn (c, d))
  | _, _ => none
theorem rat_mul {a b : Int × Int} (h : RatIn a) (k : RatIn b) : IntKind.wrap .i64 (a.1 * b.2) = a.1 * b.2 ∧ -1000000000000000000 ≤ a.1 * b.2 ∧ a.1 * b.2 ≤ 1000000000000000000 := by
  have kd := k.d0
  have := bmul (A := 1000000000000) (B := 1000000) (by omega) (by omega) h.n0 h.n1 (show -1000000 ≤ b.2 by omega) k.d1
  exact ⟨wrap_eq (by omega) (by omega), by omega, by omega⟩
theorem okCmp : OkV Tryz.prog 149 orcCmp := by
  intro args H ret H' vc h hv
  unfold orcCmp at h
  split at h
  · rename_i a b c d
    cases h
    obtain ⟨v1, v2⟩ := hv
    refine fnP_res hm cn2_ok (hs := h0) ?_
    rw [cmp_t]
    have e1 := (rat_mul v1 v2).1
    have e2 := (rat_mul v2 v1).1
    simp only at e1 e2
    rw [e1, e2]
    refine ⟨⟨trivial⟩, br_of (fun h => ?_) (fun h => ?_)⟩
    · simp only [Bool.and_true, Bool.and_eq_true, beq_iff_eq] at h
      obtain ⟨rfl, rfl⟩ := h
      rw [sgn, if_neg (by omega), if_neg (by omega)]
      exact ⟨by first | trivial | rfl, by first | trivial | rfl⟩
    · exact ⟨by first | trivial | rfl, by first | trivial | rfl⟩
  · cases h
/- The least and the greatest. -/
noncomputable def lpMn (g : Int × Int → List (Int × Int) → Int × Int) (rs : List (Int × Int)) (n c : Nat) (m1 w1 : Bool) (fv : Value) : Lp where
  σ := Nat × (Int × Int)
  E s := slots 33 [(0, .slice (some ⟨0, 0, none⟩) n c), (1, fv), (4, .pointer (some ⟨1, 0, none⟩)), (5, .pointer (some ⟨2, 0, none⟩)), (6, .int .i64 (Int.ofNat s.1))]
  Hp s := [some (.row (ints (fl2 rs)) 2 m1 w1 true), some (.row (rtC (0, 0)) 0 false true true), some (.row (rtC s.2) 0 false true true)]
  I s := 1 ≤ s.1 ∧ s.1 ≤ n ∧ s.2 ∈ rs ∧ g s.2 (rs.drop s.1) = g (rs.getD 0 (0, 0)) (rs.drop 1)
  m s := n - s.1
noncomputable def cmpV : Value := .func (.func 149) #[] #[]
noncomputable def hsMn (g : Int × Int → List (Int × Int) → Int × Int) (rs : List (Int × Int)) (n c : Nat) (m1 w1 : Bool) : Hs Tryz.prog where
  op y := if [301, 703, 802].contains y then some (hIa Tryz.prog) else if [302, 704, 803].contains y then some (hLd Tryz.prog (z2 (fl2 rs))) else if y = 706 then some (hCa Tryz.prog 149 orcCmp okCmp) else none
  lp _ := some (lpMn g rs n c m1 w1 cmpV)
  cl _ := keep 33 [0, 1, 4, 5, 6]
  au := au0 Tryz.prog
theorem mn_t (g : Int × Int → List (Int × Int) → Int × Int) (rs : List (Int × Int)) (n : Nat) (c : Nat) (m1 : Bool) (w1 : Bool) (K : Value → Heap → Prop) :
    (fnP Tryz.prog c0 (hsMn g rs n c m1 w1) (148 : FuncId) [Value.slice (some { block := (0 : Nat), off := (0 : Nat) }) n c, cmpV] [some (AObj.row (ints (fl2 rs)) (2 : Nat) m1 w1 true)] K) =
    (br (decide ((↑n : Int) < (1 : Int))) False (Is ((0 : Int) ≤ (0 : Int) ∧ (0 : Int) < (↑n : Int)) ∧ Is ((if (2 : Nat) ≤ List.length (ints (fl2 rs)) then some (Value.agg (List.toArray (List.take (2 : Nat) (List.drop (0 : Nat) (ints (fl2 rs)))))) else none) = some (Value.agg #[Value.int IntKind.i64 (List.getD (fl2 rs) (0 : Nat) (0 : Int)), Value.int IntKind.i64 (List.getD (fl2 rs) (1 : Nat) (0 : Int))])) ∧ (∃ (s : Nat × Int × Int), Is ((1 : Nat) ≤ Prod.fst s ∧ Prod.fst s ≤ n ∧ Prod.snd s ∈ rs ∧ g (Prod.snd s) (List.drop (Prod.fst s) rs) = g (List.getD rs (0 : Nat) ((0 : Int), (0 : Int))) (List.drop (1 : Nat) rs)) ∧ [Value.slice (some { block := (0 : Nat), off := (0 : Nat) }) n c, Value.func (Fn.func (149 : Nat)) #[] #[], poi, poi, Value.pointer (some { block := (1 : Nat), off := (0 : Nat) }), Value.pointer (some { block := (2 : Nat), off := (0 : Nat) }), Value.int IntKind.i64 (1 : Int), poi, poi, poi, poi, poi, poi, poi, poi, poi, poi, poi, poi, poi, poi, poi, poi, poi, poi, poi, poi, poi, poi, poi, poi, poi, poi] = [Value.slice (some { block := (0 : Nat), off := (0 : Nat) }) n c, Value.func (Fn.func (149 : Nat)) #[] #[], poi, poi, Value.pointer (some { block := (1 : Nat), off := (0 : Nat) }), Value.pointer (some { block := (2 : Nat), off := (0 : Nat) }), Value.int IntKind.i64 (↑(Prod.fst s) : Int), poi, poi, poi, poi, poi, poi, poi, poi, poi, poi, poi, poi, poi, poi, poi, poi, poi, poi, poi, poi, poi, poi, poi, poi, poi, poi] ∧ some (AObj.row (ints (fl2 rs)) (2 : Nat) m1 w1 true) :: some (AObj.row [Value.int IntKind.i64 (0 : Int), Value.int IntKind.i64 (0 : Int)] (0 : Nat) false true true) :: some (AObj.row [Value.int IntKind.i64 (List.getD (fl2 rs) (0 : Nat) (0 : Int)), Value.int IntKind.i64 (List.getD (fl2 rs) (1 : Nat) (0 : Int))] (0 : Nat) false true (true && List.all [Value.int IntKind.i64 (List.getD (fl2 rs) (0 : Nat) (0 : Int)), Value.int IntKind.i64 (List.getD (fl2 rs) (1 : Nat) (0 : Int))] atom)) :: noH = some (AObj.row (ints (fl2 rs)) (2 : Nat) m1 w1 true) :: some (AObj.row [Value.int IntKind.i64 (0 : Int), Value.int IntKind.i64 (0 : Int)] (0 : Nat) false true true) :: some (AObj.row [Value.int IntKind.i64 (Prod.fst (Prod.snd s)), Value.int IntKind.i64 (Prod.snd (Prod.snd s))] (0 : Nat) false true true) :: noH) ∧ ∀ (s : Nat × Int × Int), Is ((1 : Nat) ≤ Prod.fst s ∧ Prod.fst s ≤ n ∧ Prod.snd s ∈ rs ∧ g (Prod.snd s) (List.drop (Prod.fst s) rs) = g (List.getD rs (0 : Nat) ((0 : Int), (0 : Int))) (List.drop (1 : Nat) rs)) → br (decide ((↑(Prod.fst s) : Int) < (↑n : Int))) (Is ((0 : Int) ≤ (↑(Prod.fst s) : Int) ∧ (↑(Prod.fst s) : Int) < (↑n : Int)) ∧ Is ((if (0 : Nat) + Int.toNat (↑(Prod.fst s) : Int) * (2 : Nat) + (2 : Nat) ≤ List.length (ints (fl2 rs)) then some (Value.agg (List.toArray (List.take (2 : Nat) (List.drop ((0 : Nat) + Int.toNat (↑(Prod.fst s) : Int) * (2 : Nat)) (ints (fl2 rs)))))) else none) = some (Value.agg #[Value.int IntKind.i64 (List.getD (fl2 rs) ((0 : Nat) + Int.toNat (↑(Prod.fst s) : Int) * (2 : Nat)) (0 : Int)), Value.int IntKind.i64 (List.getD (fl2 rs) ((0 : Nat) + Int.toNat (↑(Prod.fst s) : Int) * (2 : Nat) + (1 : Nat)) (0 : Int))])) ∧ Is (RatIn (List.getD (fl2 rs) ((0 : Nat) + Int.toNat (↑(Prod.fst s) : Int) * (2 : Nat)) (0 : Int), List.getD (fl2 rs) ((0 : Nat) + Int.toNat (↑(Prod.fst s) : Int) * (2 : Nat) + (1 : Nat)) (0 : Int)) ∧ RatIn (Prod.fst (Prod.snd s), Prod.snd (Prod.snd s))) ∧ br (decide (sgn (List.getD (fl2 rs) ((0 : Nat) + Int.toNat (↑(Prod.fst s) : Int) * (2 : Nat)) (0 : Int) * Prod.snd (Prod.snd s)) (Prod.fst (Prod.snd s) * List.getD (fl2 rs) ((0 : Nat) + Int.toNat (↑(Prod.fst s) : Int) * (2 : Nat) + (1 : Nat)) (0 : Int)) < (0 : Int))) (Is ((0 : Int) ≤ (↑(Prod.fst s) : Int) ∧ (↑(Prod.fst s) : Int) < (↑n : Int)) ∧ Is ((if (0 : Nat) + Int.toNat (↑(Prod.fst s) : Int) * (2 : Nat) + (2 : Nat) ≤ List.length (ints (fl2 rs)) then some (Value.agg (List.toArray (List.take (2 : Nat) (List.drop ((0 : Nat) + Int.toNat (↑(Prod.fst s) : Int) * (2 : Nat)) (ints (fl2 rs)))))) else none) = some (Value.agg #[Value.int IntKind.i64 (List.getD (fl2 rs) ((0 : Nat) + Int.toNat (↑(Prod.fst s) : Int) * (2 : Nat)) (0 : Int)), Value.int IntKind.i64 (List.getD (fl2 rs) ((0 : Nat) + Int.toNat (↑(Prod.fst s) : Int) * (2 : Nat) + (1 : Nat)) (0 : Int))])) ∧ ∃ (s' : Nat × Int × Int), Is ((1 : Nat) ≤ Prod.fst s' ∧ Prod.fst s' ≤ n ∧ Prod.snd s' ∈ rs ∧ g (Prod.snd s') (List.drop (Prod.fst s') rs) = g (List.getD rs (0 : Nat) ((0 : Int), (0 : Int))) (List.drop (1 : Nat) rs)) ∧ Is (n - Prod.fst s' < n - Prod.fst s) ∧ [Value.slice (some { block := (0 : Nat), off := (0 : Nat) }) n c, Value.func (Fn.func (149 : Nat)) #[] #[], poi, poi, Value.pointer (some { block := (1 : Nat), off := (0 : Nat) }), Value.pointer (some { block := (2 : Nat), off := (0 : Nat) }), Value.int IntKind.i64 (IntKind.wrap IntKind.i64 ((↑(Prod.fst s) : Int) + (1 : Int))), poi, poi, poi, poi, poi, poi, poi, poi, poi, poi, poi, poi, poi, poi, poi, poi, poi, poi, poi, poi, poi, poi, poi, poi, poi, poi] = [Value.slice (some { block := (0 : Nat), off := (0 : Nat) }) n c, Value.func (Fn.func (149 : Nat)) #[] #[], poi, poi, Value.pointer (some { block := (1 : Nat), off := (0 : Nat) }), Value.pointer (some { block := (2 : Nat), off := (0 : Nat) }), Value.int IntKind.i64 (↑(Prod.fst s') : Int), poi, poi, poi, poi, poi, poi, poi, poi, poi, poi, poi, poi, poi, poi, poi, poi, poi, poi, poi, poi, poi, poi, poi, poi, poi, poi] ∧ some (AObj.row (ints (fl2 rs)) (2 : Nat) m1 w1 true) :: some (AObj.row [Value.int IntKind.i64 (0 : Int), Value.int IntKind.i64 (0 : Int)] (0 : Nat) false true true) :: some (AObj.row [Value.int IntKind.i64 (List.getD (fl2 rs) ((0 : Nat) + Int.toNat (↑(Prod.fst s) : Int) * (2 : Nat)) (0 : Int)), Value.int IntKind.i64 (List.getD (fl2 rs) ((0 : Nat) + Int.toNat (↑(Prod.fst s) : Int) * (2 : Nat) + (1 : Nat)) (0 : Int))] (0 : Nat) false true (true && List.all [Value.int IntKind.i64 (List.getD (fl2 rs) ((0 : Nat) + Int.toNat (↑(Prod.fst s) : Int) * (2 : Nat)) (0 : Int)), Value.int IntKind.i64 (List.getD (fl2 rs) ((0 : Nat) + Int.toNat (↑(Prod.fst s) : Int) * (2 : Nat) + (1 : Nat)) (0 : Int))] atom)) :: noH = some (AObj.row (ints (fl2 rs)) (2 : Nat) m1 w1 true) :: some (AObj.row [Value.int IntKind.i64 (0 : Int), Value.int IntKind.i64 (0 : Int)] (0 : Nat) false true true) :: some (AObj.row [Value.int IntKind.i64 (Prod.fst (Prod.snd s')), Value.int IntKind.i64 (Prod.snd (Prod.snd s'))] (0 : Nat) false true true) :: noH) (∃ (s' : Nat × Int × Int), Is ((1 : Nat) ≤ Prod.fst s' ∧ Prod.fst s' ≤ n ∧ Prod.snd s' ∈ rs ∧ g (Prod.snd s') (List.drop (Prod.fst s') rs) = g (List.getD rs (0 : Nat) ((0 : Int), (0 : Int))) (List.drop (1 : Nat) rs)) ∧ Is (n - Prod.fst s' < n - Prod.fst s) ∧ [Value.slice (some { block := (0 : Nat), off := (0 : Nat) }) n c, Value.func (Fn.func (149 : Nat)) #[] #[], poi, poi, Value.pointer (some { block := (1 : Nat), off := (0 : Nat) }), Value.pointer (some { block := (2 : Nat), off := (0 : Nat) }), Value.int IntKind.i64 (IntKind.wrap IntKind.i64 ((↑(Prod.fst s) : Int) + (1 : Int))), poi, poi, poi, poi, poi, poi, poi, poi, poi, poi, poi, poi, poi, poi, poi, poi, poi, poi, poi, poi, poi, poi, poi, poi, poi, poi] = [Value.slice (some { block := (0 : Nat), off := (0 : Nat) }) n c, Value.func (Fn.func (149 : Nat)) #[] #[], poi, poi, Value.pointer (some { block := (1 : Nat), off := (0 : Nat) }), Value.pointer (some { block := (2 : Nat), off := (0 : Nat) }), Value.int IntKind.i64 (↑(Prod.fst s') : Int), poi, poi, poi, poi, poi, poi, poi, poi, poi, poi, poi, poi, poi, poi, poi, poi, poi, poi, poi, poi, poi, poi, poi, poi, poi, poi] ∧ some (AObj.row (ints (fl2 rs)) (2 : Nat) m1 w1 true) :: some (AObj.row [Value.int IntKind.i64 (0 : Int), Value.int IntKind.i64 (0 : Int)] (0 : Nat) false true true) :: some (AObj.row [Value.int IntKind.i64 (Prod.fst (Prod.snd s)), Value.int IntKind.i64 (Prod.snd (Prod.snd s))] (0 : Nat) false true true) :: noH = some (AObj.row (ints (fl2 rs)) (2 : Nat) m1 w1 true) :: some (AObj.row [Value.int IntKind.i64 (0 : Int), Value.int IntKind.i64 (0 : Int)] (0 : Nat) false true true) :: some (AObj.row [Value.int IntKind.i64 (Prod.fst (Prod.snd s')), Value.int IntKind.i64 (Prod.snd (Prod.snd s'))] (0 : Nat) false true true) :: noH)) (K (Value.agg #[Value.int IntKind.i64 (Prod.fst (Prod.snd s)), Value.int IntKind.i64 (Prod.snd (Prod.snd s))]) (some (AObj.row (ints (fl2 rs)) (2 : Nat) m1 w1 true) :: noH)))) := by kernel_rfl
theorem mx_t (g : Int × Int → List (Int × Int) → Int × Int) (rs : List (Int × Int)) (n : Nat) (c : Nat) (m1 : Bool) (w1 : Bool) (K : Value → Heap → Prop) :
    (fnP Tryz.prog c0 (hsMn g rs n c m1 w1) (150 : FuncId) [Value.slice (some { block := (0 : Nat), off := (0 : Nat) }) n c, cmpV] [some (AObj.row (ints (fl2 rs)) (2 : Nat) m1 w1 true)] K) =
    (br (decide ((↑n : Int) < (1 : Int))) False (Is ((0 : Int) ≤ (0 : Int) ∧ (0 : Int) < (↑n : Int)) ∧ Is ((if (2 : Nat) ≤ List.length (ints (fl2 rs)) then some (Value.agg (List.toArray (List.take (2 : Nat) (List.drop (0 : Nat) (ints (fl2 rs)))))) else none) = some (Value.agg #[Value.int IntKind.i64 (List.getD (fl2 rs) (0 : Nat) (0 : Int)), Value.int IntKind.i64 (List.getD (fl2 rs) (1 : Nat) (0 : Int))])) ∧ (∃ (s : Nat × Int × Int), Is ((1 : Nat) ≤ Prod.fst s ∧ Prod.fst s ≤ n ∧ Prod.snd s ∈ rs ∧ g (Prod.snd s) (List.drop (Prod.fst s) rs) = g (List.getD rs (0 : Nat) ((0 : Int), (0 : Int))) (List.drop (1 : Nat) rs)) ∧ [Value.slice (some { block := (0 : Nat), off := (0 : Nat) }) n c, Value.func (Fn.func (149 : Nat)) #[] #[], poi, poi, Value.pointer (some { block := (1 : Nat), off := (0 : Nat) }), Value.pointer (some { block := (2 : Nat), off := (0 : Nat) }), Value.int IntKind.i64 (1 : Int), poi, poi, poi, poi, poi, poi, poi, poi, poi, poi, poi, poi, poi, poi, poi, poi, poi, poi, poi, poi, poi, poi, poi, poi, poi, poi] = [Value.slice (some { block := (0 : Nat), off := (0 : Nat) }) n c, Value.func (Fn.func (149 : Nat)) #[] #[], poi, poi, Value.pointer (some { block := (1 : Nat), off := (0 : Nat) }), Value.pointer (some { block := (2 : Nat), off := (0 : Nat) }), Value.int IntKind.i64 (↑(Prod.fst s) : Int), poi, poi, poi, poi, poi, poi, poi, poi, poi, poi, poi, poi, poi, poi, poi, poi, poi, poi, poi, poi, poi, poi, poi, poi, poi, poi] ∧ some (AObj.row (ints (fl2 rs)) (2 : Nat) m1 w1 true) :: some (AObj.row [Value.int IntKind.i64 (0 : Int), Value.int IntKind.i64 (0 : Int)] (0 : Nat) false true true) :: some (AObj.row [Value.int IntKind.i64 (List.getD (fl2 rs) (0 : Nat) (0 : Int)), Value.int IntKind.i64 (List.getD (fl2 rs) (1 : Nat) (0 : Int))] (0 : Nat) false true (true && List.all [Value.int IntKind.i64 (List.getD (fl2 rs) (0 : Nat) (0 : Int)), Value.int IntKind.i64 (List.getD (fl2 rs) (1 : Nat) (0 : Int))] atom)) :: noH = some (AObj.row (ints (fl2 rs)) (2 : Nat) m1 w1 true) :: some (AObj.row [Value.int IntKind.i64 (0 : Int), Value.int IntKind.i64 (0 : Int)] (0 : Nat) false true true) :: some (AObj.row [Value.int IntKind.i64 (Prod.fst (Prod.snd s)), Value.int IntKind.i64 (Prod.snd (Prod.snd s))] (0 : Nat) false true true) :: noH) ∧ ∀ (s : Nat × Int × Int), Is ((1 : Nat) ≤ Prod.fst s ∧ Prod.fst s ≤ n ∧ Prod.snd s ∈ rs ∧ g (Prod.snd s) (List.drop (Prod.fst s) rs) = g (List.getD rs (0 : Nat) ((0 : Int), (0 : Int))) (List.drop (1 : Nat) rs)) → br (decide ((↑(Prod.fst s) : Int) < (↑n : Int))) (Is ((0 : Int) ≤ (↑(Prod.fst s) : Int) ∧ (↑(Prod.fst s) : Int) < (↑n : Int)) ∧ Is ((if (0 : Nat) + Int.toNat (↑(Prod.fst s) : Int) * (2 : Nat) + (2 : Nat) ≤ List.length (ints (fl2 rs)) then some (Value.agg (List.toArray (List.take (2 : Nat) (List.drop ((0 : Nat) + Int.toNat (↑(Prod.fst s) : Int) * (2 : Nat)) (ints (fl2 rs)))))) else none) = some (Value.agg #[Value.int IntKind.i64 (List.getD (fl2 rs) ((0 : Nat) + Int.toNat (↑(Prod.fst s) : Int) * (2 : Nat)) (0 : Int)), Value.int IntKind.i64 (List.getD (fl2 rs) ((0 : Nat) + Int.toNat (↑(Prod.fst s) : Int) * (2 : Nat) + (1 : Nat)) (0 : Int))])) ∧ Is (RatIn (List.getD (fl2 rs) ((0 : Nat) + Int.toNat (↑(Prod.fst s) : Int) * (2 : Nat)) (0 : Int), List.getD (fl2 rs) ((0 : Nat) + Int.toNat (↑(Prod.fst s) : Int) * (2 : Nat) + (1 : Nat)) (0 : Int)) ∧ RatIn (Prod.fst (Prod.snd s), Prod.snd (Prod.snd s))) ∧ br (decide ((0 : Int) < sgn (List.getD (fl2 rs) ((0 : Nat) + Int.toNat (↑(Prod.fst s) : Int) * (2 : Nat)) (0 : Int) * Prod.snd (Prod.snd s)) (Prod.fst (Prod.snd s) * List.getD (fl2 rs) ((0 : Nat) + Int.toNat (↑(Prod.fst s) : Int) * (2 : Nat) + (1 : Nat)) (0 : Int)))) (Is ((0 : Int) ≤ (↑(Prod.fst s) : Int) ∧ (↑(Prod.fst s) : Int) < (↑n : Int)) ∧ Is ((if (0 : Nat) + Int.toNat (↑(Prod.fst s) : Int) * (2 : Nat) + (2 : Nat) ≤ List.length (ints (fl2 rs)) then some (Value.agg (List.toArray (List.take (2 : Nat) (List.drop ((0 : Nat) + Int.toNat (↑(Prod.fst s) : Int) * (2 : Nat)) (ints (fl2 rs)))))) else none) = some (Value.agg #[Value.int IntKind.i64 (List.getD (fl2 rs) ((0 : Nat) + Int.toNat (↑(Prod.fst s) : Int) * (2 : Nat)) (0 : Int)), Value.int IntKind.i64 (List.getD (fl2 rs) ((0 : Nat) + Int.toNat (↑(Prod.fst s) : Int) * (2 : Nat) + (1 : Nat)) (0 : Int))])) ∧ ∃ (s' : Nat × Int × Int), Is ((1 : Nat) ≤ Prod.fst s' ∧ Prod.fst s' ≤ n ∧ Prod.snd s' ∈ rs ∧ g (Prod.snd s') (List.drop (Prod.fst s') rs) = g (List.getD rs (0 : Nat) ((0 : Int), (0 : Int))) (List.drop (1 : Nat) rs)) ∧ Is (n - Prod.fst s' < n - Prod.fst s) ∧ [Value.slice (some { block := (0 : Nat), off := (0 : Nat) }) n c, Value.func (Fn.func (149 : Nat)) #[] #[], poi, poi, Value.pointer (some { block := (1 : Nat), off := (0 : Nat) }), Value.pointer (some { block := (2 : Nat), off := (0 : Nat) }), Value.int IntKind.i64 (IntKind.wrap IntKind.i64 ((↑(Prod.fst s) : Int) + (1 : Int))), poi, poi, poi, poi, poi, poi, poi, poi, poi, poi, poi, poi, poi, poi, poi, poi, poi, poi, poi, poi, poi, poi, poi, poi, poi, poi] = [Value.slice (some { block := (0 : Nat), off := (0 : Nat) }) n c, Value.func (Fn.func (149 : Nat)) #[] #[], poi, poi, Value.pointer (some { block := (1 : Nat), off := (0 : Nat) }), Value.pointer (some { block := (2 : Nat), off := (0 : Nat) }), Value.int IntKind.i64 (↑(Prod.fst s') : Int), poi, poi, poi, poi, poi, poi, poi, poi, poi, poi, poi, poi, poi, poi, poi, poi, poi, poi, poi, poi, poi, poi, poi, poi, poi, poi] ∧ some (AObj.row (ints (fl2 rs)) (2 : Nat) m1 w1 true) :: some (AObj.row [Value.int IntKind.i64 (0 : Int), Value.int IntKind.i64 (0 : Int)] (0 : Nat) false true true) :: some (AObj.row [Value.int IntKind.i64 (List.getD (fl2 rs) ((0 : Nat) + Int.toNat (↑(Prod.fst s) : Int) * (2 : Nat)) (0 : Int)), Value.int IntKind.i64 (List.getD (fl2 rs) ((0 : Nat) + Int.toNat (↑(Prod.fst s) : Int) * (2 : Nat) + (1 : Nat)) (0 : Int))] (0 : Nat) false true (true && List.all [Value.int IntKind.i64 (List.getD (fl2 rs) ((0 : Nat) + Int.toNat (↑(Prod.fst s) : Int) * (2 : Nat)) (0 : Int)), Value.int IntKind.i64 (List.getD (fl2 rs) ((0 : Nat) + Int.toNat (↑(Prod.fst s) : Int) * (2 : Nat) + (1 : Nat)) (0 : Int))] atom)) :: noH = some (AObj.row (ints (fl2 rs)) (2 : Nat) m1 w1 true) :: some (AObj.row [Value.int IntKind.i64 (0 : Int), Value.int IntKind.i64 (0 : Int)] (0 : Nat) false true true) :: some (AObj.row [Value.int IntKind.i64 (Prod.fst (Prod.snd s')), Value.int IntKind.i64 (Prod.snd (Prod.snd s'))] (0 : Nat) false true true) :: noH) (∃ (s' : Nat × Int × Int), Is ((1 : Nat) ≤ Prod.fst s' ∧ Prod.fst s' ≤ n ∧ Prod.snd s' ∈ rs ∧ g (Prod.snd s') (List.drop (Prod.fst s') rs) = g (List.getD rs (0 : Nat) ((0 : Int), (0 : Int))) (List.drop (1 : Nat) rs)) ∧ Is (n - Prod.fst s' < n - Prod.fst s) ∧ [Value.slice (some { block := (0 : Nat), off := (0 : Nat) }) n c, Value.func (Fn.func (149 : Nat)) #[] #[], poi, poi, Value.pointer (some { block := (1 : Nat), off := (0 : Nat) }), Value.pointer (some { block := (2 : Nat), off := (0 : Nat) }), Value.int IntKind.i64 (IntKind.wrap IntKind.i64 ((↑(Prod.fst s) : Int) + (1 : Int))), poi, poi, poi, poi, poi, poi, poi, poi, poi, poi, poi, poi, poi, poi, poi, poi, poi, poi, poi, poi, poi, poi, poi, poi, poi, poi] = [Value.slice (some { block := (0 : Nat), off := (0 : Nat) }) n c, Value.func (Fn.func (149 : Nat)) #[] #[], poi, poi, Value.pointer (some { block := (1 : Nat), off := (0 : Nat) }), Value.pointer (some { block := (2 : Nat), off := (0 : Nat) }), Value.int IntKind.i64 (↑(Prod.fst s') : Int), poi, poi, poi, poi, poi, poi, poi, poi, poi, poi, poi, poi, poi, poi, poi, poi, poi, poi, poi, poi, poi, poi, poi, poi, poi, poi] ∧ some (AObj.row (ints (fl2 rs)) (2 : Nat) m1 w1 true) :: some (AObj.row [Value.int IntKind.i64 (0 : Int), Value.int IntKind.i64 (0 : Int)] (0 : Nat) false true true) :: some (AObj.row [Value.int IntKind.i64 (Prod.fst (Prod.snd s)), Value.int IntKind.i64 (Prod.snd (Prod.snd s))] (0 : Nat) false true true) :: noH = some (AObj.row (ints (fl2 rs)) (2 : Nat) m1 w1 true) :: some (AObj.row [Value.int IntKind.i64 (0 : Int), Value.int IntKind.i64 (0 : Int)] (0 : Nat) false true true) :: some (AObj.row [Value.int IntKind.i64 (Prod.fst (Prod.snd s')), Value.int IntKind.i64 (Prod.snd (Prod.snd s'))] (0 : Nat) false true true) :: noH)) (K (Value.agg #[Value.int IntKind.i64 (Prod.fst (Prod.snd s)), Value.int IntKind.i64 (Prod.snd (Prod.snd s))]) (some (AObj.row (ints (fl2 rs)) (2 : Nat) m1 w1 true) :: noH)))) := by kernel_rfl
/- A line's value on a day, in lowest terms. -/
structure LnIn (l : Ln) (x : Int) : Prop where
  a0 : 0 ≤ l.1
  a1 : l.1 ≤ 100000
  b0 : -900000000000 ≤ l.2.1
  b1 : l.2.1 ≤ 900000000000
  s0 : -1000000 ≤ l.2.2.1
  s1 : l.2.2.1 ≤ 1000000
  d0 : 0 < l.2.2.2
  d1 : l.2.2.2 ≤ 1000000
  x0 : 0 ≤ x
  x1 : x ≤ 100000
noncomputable def hsR1 : Hs Tryz.prog where
  au := auCalls [(131, hCa Tryz.prog 131 orcLow okLow)]
theorem r1_t (a : Int) (b : Int) (s : Int) (d : Int) (x : Int) (K : Value → Heap → Prop) :
    (fnP Tryz.prog c0 hsR1 (147 : FuncId) [Value.agg (List.toArray (lnC a b s d)), Value.pointer (some { block := (0 : Nat), off := (0 : Nat) })] [some (AObj.row [Value.int IntKind.i64 x] (0 : Nat) false true true)] K) =
    (Is ((0 : Int) < d ∧ d < (9223372036854775808 : Int) ∧ (-9223372036854775808 : Int) < IntKind.wrap IntKind.i64 (b + IntKind.wrap IntKind.i64 (s * IntKind.wrap IntKind.i64 (x - a))) ∧ IntKind.wrap IntKind.i64 (b + IntKind.wrap IntKind.i64 (s * IntKind.wrap IntKind.i64 (x - a))) < (9223372036854775808 : Int)) ∧ K (Value.agg #[Value.int IntKind.i64 (lowN (IntKind.wrap IntKind.i64 (b + IntKind.wrap IntKind.i64 (s * IntKind.wrap IntKind.i64 (x - a)))) d), Value.int IntKind.i64 (lowD (IntKind.wrap IntKind.i64 (b + IntKind.wrap IntKind.i64 (s * IntKind.wrap IntKind.i64 (x - a)))) d)]) (some (AObj.row [Value.int IntKind.i64 x] (0 : Nat) false true true) :: noH)) := by kernel_rfl
noncomputable def orcR1 : OrcV
  | [.agg ⟨[.int .i64 a, .int .i64 b, .int .i64 s, .int .i64 d]⟩, .pointer (some ⟨0, 0, none⟩)], [some (.row [.int .i64 x] 0 false true true)] => some (.agg #[.int .i64 (lowN (lnat (a, b, s, d) x) d), .int .i64 (lowD (lnat (a, b, s, d) x) d)], [some (.row [.int .i64 x] 0 false true true)], LnIn (a, b, s, d) x)
  | _, _ => none
theorem LnIn.at {l : Ln} {x : Int} (h : LnIn l x) : IntKind.wrap .i64 (l.2.1 + IntKind.wrap .i64 (l.2.2.1 * IntKind.wrap .i64 (x - l.1))) = lnat l x ∧ -1000000000000 ≤ lnat l x ∧ lnat l x ≤ 1000000000000 := by
  obtain ⟨a0, a1, b0, b1, s0, s1, d0, d1, x0, x1⟩ := h
  have g := bmul (A := 1000000) (B := 100000) (by omega) (by omega) s0 s1 (show -100000 ≤ x - l.1 by omega) (show x - l.1 ≤ 100000 by omega)
  rw [wrap_eq (x := x - l.1) (by omega) (by omega), wrap_eq (x := l.2.2.1 * (x - l.1)) (by omega) (by omega), lnat]
  exact ⟨wrap_eq (by omega) (by omega), by omega, by omega⟩
/- A function of each line. -/
noncomputable def z4 (zs : List Int) (off : Nat) : Value := .agg #[.int .i64 (zs.getD off 0), .int .i64 (zs.getD (off + 1) 0), .int .i64 (zs.getD (off + 2) 0), .int .i64 (zs.getD (off + 3) 0)]
noncomputable def vals (Q : List Ln) (x : Int) : List (Int × Int) := Q.map fun l => low (lnat l x) l.2.2.2
noncomputable def bx1 (x : Int) : Option AObj := some (.row [.int .i64 x] 0 false true true)
noncomputable def lst2r (rs : List (Int × Int)) : Option AObj := some (.row (ints (fl2 rs)) 2 true true true)
noncomputable def lpM0 (Q : List Ln) (n c : Nat) (x : Int) : Lp where
  σ := Nat
  E _ := slots 22 [(0, .slice (some ⟨0, 0, none⟩) n c), (1, .func (.func 147) #[] #[.pointer (some ⟨1, 0, none⟩)]), (5, .slice (some ⟨2, 0, none⟩) 0 0)]
  Hp _ := [lst4 Q, bx1 x, lst2r []]
  I s := s = 0
  m _ := 0
noncomputable def lpMp (Q : List Ln) (n c : Nat) (x : Int) : Lp where
  σ := Nat
  E i := slots 22 [(1, .func (.func 147) #[] #[.pointer (some ⟨1, 0, none⟩)]), (5, .slice (some ⟨2, 0, none⟩) i 0), (8, .slice (some ⟨0, 0, none⟩) n c), (9, .int .i64 (Int.ofNat n)), (10, .int .i64 (Int.ofNat i))]
  Hp i := [lst4 Q, bx1 x, lst2r (vals (Q.take i) x)]
  I i := i ≤ n
  m i := n - i
noncomputable def hsMp (ok : OkV Tryz.prog 147 orcR1) (Q : List Ln) (n c : Nat) (x : Int) : Hs Tryz.prog where
  op y := if y = 400 then some (hIa Tryz.prog) else if y = 401 then some (hLd Tryz.prog (z4 (fl4 Q))) else if y = 505 then some (hAp Tryz.prog) else if y = 503 then some (hCa Tryz.prog 147 orcR1 ok) else none
  cut y := if y = 2 then some (lpM0 Q n c x) else none
  lp _ := some (lpMp Q n c x)
  cl y := if y = 2 then keep 22 [0, 1, 5] else keep 22 [1, 5, 8, 9, 10]
  nl y := if y = 2 then [.slot 5 2] else []
  au := au0 Tryz.prog
theorem mp_t (ok : OkV Tryz.prog (147 : FuncId) orcR1) (Q : List Ln) (n : Nat) (c : Nat) (x : Int) (K : Value → Heap → Prop) :
    (fnP Tryz.prog c0 (hsMp ok Q n c x) (146 : FuncId) [Value.slice (some { block := (0 : Nat), off := (0 : Nat) }) n c, Value.func (Fn.func (147 : FuncId)) #[] #[Value.pointer (some { block := (1 : Nat), off := (0 : Nat) })]] [lst4 Q, bx1 x] K) =
    ((∃ (s : Nat), Is (s = (0 : Nat)) ∧ [Value.slice (some { block := (0 : Nat), off := (0 : Nat) }) n c, Value.func (Fn.func (147 : Nat)) #[] #[Value.pointer (some { block := (1 : Nat), off := (0 : Nat) })], poi, poi, poi, Value.slice (some { block := (2 : Nat), off := (0 : Nat) }) (0 : Nat) (0 : Nat), poi, poi, poi, poi, poi, poi, poi, poi, poi, poi, poi, poi, poi, poi, poi, poi] = [Value.slice (some { block := (0 : Nat), off := (0 : Nat) }) n c, Value.func (Fn.func (147 : Nat)) #[] #[Value.pointer (some { block := (1 : Nat), off := (0 : Nat) })], poi, poi, poi, Value.slice (some { block := (2 : Nat), off := (0 : Nat) }) (0 : Nat) (0 : Nat), poi, poi, poi, poi, poi, poi, poi, poi, poi, poi, poi, poi, poi, poi, poi, poi] ∧ some (AObj.row (ints (fl4 Q)) (4 : Nat) true true true) :: some (AObj.row [Value.int IntKind.i64 x] (0 : Nat) false true true) :: some (AObj.row [] (2 : Nat) true true true) :: noH = some (AObj.row (ints (fl4 Q)) (4 : Nat) true true true) :: some (AObj.row [Value.int IntKind.i64 x] (0 : Nat) false true true) :: some (AObj.row [] (2 : Nat) true true true) :: noH) ∧ ∀ (s : Nat), Is (s = (0 : Nat)) → (∃ (s : Nat), Is (s ≤ n) ∧ [poi, Value.func (Fn.func (147 : Nat)) #[] #[Value.pointer (some { block := (1 : Nat), off := (0 : Nat) })], poi, poi, poi, Value.slice (some { block := (2 : Nat), off := (0 : Nat) }) (0 : Nat) (0 : Nat), poi, poi, Value.slice (some { block := (0 : Nat), off := (0 : Nat) }) n c, Value.int IntKind.i64 (↑n : Int), Value.int IntKind.i64 (0 : Int), poi, poi, poi, poi, poi, poi, poi, poi, poi, poi, poi] = [poi, Value.func (Fn.func (147 : Nat)) #[] #[Value.pointer (some { block := (1 : Nat), off := (0 : Nat) })], poi, poi, poi, Value.slice (some { block := (2 : Nat), off := (0 : Nat) }) s (0 : Nat), poi, poi, Value.slice (some { block := (0 : Nat), off := (0 : Nat) }) n c, Value.int IntKind.i64 (↑n : Int), Value.int IntKind.i64 (↑s : Int), poi, poi, poi, poi, poi, poi, poi, poi, poi, poi, poi] ∧ some (AObj.row (ints (fl4 Q)) (4 : Nat) true true true) :: some (AObj.row [Value.int IntKind.i64 x] (0 : Nat) false true true) :: some (AObj.row [] (2 : Nat) true true true) :: noH = some (AObj.row (ints (fl4 Q)) (4 : Nat) true true true) :: some (AObj.row [Value.int IntKind.i64 x] (0 : Nat) false true true) :: some (AObj.row (ints (fl2 (vals (List.take s Q) x))) (2 : Nat) true true true) :: noH) ∧ ∀ (s : Nat), Is (s ≤ n) → br (decide ((↑s : Int) < (↑n : Int))) (Is ((0 : Int) ≤ (↑s : Int) ∧ (↑s : Int) < (↑n : Int)) ∧ Is ((if (0 : Nat) + Int.toNat (↑s : Int) * (4 : Nat) + (4 : Nat) ≤ List.length (ints (fl4 Q)) then some (Value.agg (List.toArray (List.take (4 : Nat) (List.drop ((0 : Nat) + Int.toNat (↑s : Int) * (4 : Nat)) (ints (fl4 Q)))))) else none) = some (Value.agg #[Value.int IntKind.i64 (List.getD (fl4 Q) ((0 : Nat) + Int.toNat (↑s : Int) * (4 : Nat)) (0 : Int)), Value.int IntKind.i64 (List.getD (fl4 Q) ((0 : Nat) + Int.toNat (↑s : Int) * (4 : Nat) + (1 : Nat)) (0 : Int)), Value.int IntKind.i64 (List.getD (fl4 Q) ((0 : Nat) + Int.toNat (↑s : Int) * (4 : Nat) + (2 : Nat)) (0 : Int)), Value.int IntKind.i64 (List.getD (fl4 Q) ((0 : Nat) + Int.toNat (↑s : Int) * (4 : Nat) + (3 : Nat)) (0 : Int))])) ∧ Is (LnIn (List.getD (fl4 Q) ((0 : Nat) + Int.toNat (↑s : Int) * (4 : Nat)) (0 : Int), List.getD (fl4 Q) ((0 : Nat) + Int.toNat (↑s : Int) * (4 : Nat) + (1 : Nat)) (0 : Int), List.getD (fl4 Q) ((0 : Nat) + Int.toNat (↑s : Int) * (4 : Nat) + (2 : Nat)) (0 : Int), List.getD (fl4 Q) ((0 : Nat) + Int.toNat (↑s : Int) * (4 : Nat) + (3 : Nat)) (0 : Int)) x) ∧ Is (List.length (ints (fl2 (vals (List.take s Q) x))) = s * (2 : Nat) ∧ (s + (1 : Nat)) * (16 : Nat) ≤ (140737488355328 : Nat) ∧ s + (1 : Nat) ≤ (9223372036854775807 : Nat)) ∧ ∃ (s' : Nat), Is (s' ≤ n) ∧ Is (n - s' < n - s) ∧ [poi, Value.func (Fn.func (147 : Nat)) #[] #[Value.pointer (some { block := (1 : Nat), off := (0 : Nat) })], poi, poi, poi, Value.slice (some { block := (2 : Nat), off := (0 : Nat) }) (s + (1 : Nat)) (0 : Nat), poi, poi, Value.slice (some { block := (0 : Nat), off := (0 : Nat) }) n c, Value.int IntKind.i64 (↑n : Int), Value.int IntKind.i64 (IntKind.wrap IntKind.i64 ((↑s : Int) + (1 : Int))), poi, poi, poi, poi, poi, poi, poi, poi, poi, poi, poi] = [poi, Value.func (Fn.func (147 : Nat)) #[] #[Value.pointer (some { block := (1 : Nat), off := (0 : Nat) })], poi, poi, poi, Value.slice (some { block := (2 : Nat), off := (0 : Nat) }) s' (0 : Nat), poi, poi, Value.slice (some { block := (0 : Nat), off := (0 : Nat) }) n c, Value.int IntKind.i64 (↑n : Int), Value.int IntKind.i64 (↑s' : Int), poi, poi, poi, poi, poi, poi, poi, poi, poi, poi, poi] ∧ some (AObj.row (ints (fl4 Q)) (4 : Nat) true true true) :: some (AObj.row [Value.int IntKind.i64 x] (0 : Nat) false true true) :: some (AObj.row (ints (fl2 (vals (List.take s Q) x)) ++ [Value.int IntKind.i64 (lowN (lnat (List.getD (fl4 Q) ((0 : Nat) + Int.toNat (↑s : Int) * (4 : Nat)) (0 : Int), List.getD (fl4 Q) ((0 : Nat) + Int.toNat (↑s : Int) * (4 : Nat) + (1 : Nat)) (0 : Int), List.getD (fl4 Q) ((0 : Nat) + Int.toNat (↑s : Int) * (4 : Nat) + (2 : Nat)) (0 : Int), List.getD (fl4 Q) ((0 : Nat) + Int.toNat (↑s : Int) * (4 : Nat) + (3 : Nat)) (0 : Int)) x) (List.getD (fl4 Q) ((0 : Nat) + Int.toNat (↑s : Int) * (4 : Nat) + (3 : Nat)) (0 : Int))), Value.int IntKind.i64 (lowD (lnat (List.getD (fl4 Q) ((0 : Nat) + Int.toNat (↑s : Int) * (4 : Nat)) (0 : Int), List.getD (fl4 Q) ((0 : Nat) + Int.toNat (↑s : Int) * (4 : Nat) + (1 : Nat)) (0 : Int), List.getD (fl4 Q) ((0 : Nat) + Int.toNat (↑s : Int) * (4 : Nat) + (2 : Nat)) (0 : Int), List.getD (fl4 Q) ((0 : Nat) + Int.toNat (↑s : Int) * (4 : Nat) + (3 : Nat)) (0 : Int)) x) (List.getD (fl4 Q) ((0 : Nat) + Int.toNat (↑s : Int) * (4 : Nat) + (3 : Nat)) (0 : Int)))]) (2 : Nat) true true (List.all [Value.int IntKind.i64 (lowN (lnat (List.getD (fl4 Q) ((0 : Nat) + Int.toNat (↑s : Int) * (4 : Nat)) (0 : Int), List.getD (fl4 Q) ((0 : Nat) + Int.toNat (↑s : Int) * (4 : Nat) + (1 : Nat)) (0 : Int), List.getD (fl4 Q) ((0 : Nat) + Int.toNat (↑s : Int) * (4 : Nat) + (2 : Nat)) (0 : Int), List.getD (fl4 Q) ((0 : Nat) + Int.toNat (↑s : Int) * (4 : Nat) + (3 : Nat)) (0 : Int)) x) (List.getD (fl4 Q) ((0 : Nat) + Int.toNat (↑s : Int) * (4 : Nat) + (3 : Nat)) (0 : Int))), Value.int IntKind.i64 (lowD (lnat (List.getD (fl4 Q) ((0 : Nat) + Int.toNat (↑s : Int) * (4 : Nat)) (0 : Int), List.getD (fl4 Q) ((0 : Nat) + Int.toNat (↑s : Int) * (4 : Nat) + (1 : Nat)) (0 : Int), List.getD (fl4 Q) ((0 : Nat) + Int.toNat (↑s : Int) * (4 : Nat) + (2 : Nat)) (0 : Int), List.getD (fl4 Q) ((0 : Nat) + Int.toNat (↑s : Int) * (4 : Nat) + (3 : Nat)) (0 : Int)) x) (List.getD (fl4 Q) ((0 : Nat) + Int.toNat (↑s : Int) * (4 : Nat) + (3 : Nat)) (0 : Int)))] atom)) :: noH = some (AObj.row (ints (fl4 Q)) (4 : Nat) true true true) :: some (AObj.row [Value.int IntKind.i64 x] (0 : Nat) false true true) :: some (AObj.row (ints (fl2 (vals (List.take s' Q) x))) (2 : Nat) true true true) :: noH) (K (Value.slice (some { block := (2 : Nat), off := (0 : Nat) }) s (0 : Nat)) (some (AObj.row (ints (fl4 Q)) (4 : Nat) true true true) :: some (AObj.row [Value.int IntKind.i64 x] (0 : Nat) false true true) :: some (AObj.row (ints (fl2 (vals (List.take s Q) x))) (2 : Nat) true true true) :: noH))) := by kernel_rfl
/- The reference's value, and range. -/
/- Reaching a limit. -/
theorem fl2_app : ∀ l r : List (Int × Int), fl2 (l ++ r) = fl2 l ++ fl2 r
  | [], _ => rfl
  | a :: l, r => by simp only [List.cons_append, fl2, fl2_app l r]
theorem fl2_len : ∀ l : List (Int × Int), (fl2 l).length = l.length * 2
  | [] => rfl
  | a :: l => by simp only [fl2, List.length_cons, fl2_len l]; omega
theorem fl2_get : ∀ (l : List (Int × Int)) (i : Nat), i < l.length → (fl2 l).getD (i * 2) 0 = (l.getD i (0, 0)).1 ∧ (fl2 l).getD (i * 2 + 1) 0 = (l.getD i (0, 0)).2
  | [], i, h => by simp at h
  | a :: l, 0, _ => ⟨rfl, rfl⟩
  | a :: l, i + 1, h => by
    have := fl2_get l i (by simpa using h)
    have e : (i + 1) * 2 = i * 2 + 1 + 1 := by omega
    rw [e]
    exact this
theorem fl4_at : ∀ (l : List Ln) (i : Nat), i < l.length → (fl4 l).getD (i * 4) 0 = (l.getD i (0, 0, 0, 0)).1 ∧ (fl4 l).getD (i * 4 + 1) 0 = (l.getD i (0, 0, 0, 0)).2.1 ∧ (fl4 l).getD (i * 4 + 2) 0 = (l.getD i (0, 0, 0, 0)).2.2.1 ∧ (fl4 l).getD (i * 4 + 3) 0 = (l.getD i (0, 0, 0, 0)).2.2.2
  | [], i, h => by simp at h
  | a :: l, 0, _ => ⟨rfl, rfl, rfl, rfl⟩
  | a :: l, i + 1, h => by
    have := fl4_at l i (by simpa using h)
    have e : (i + 1) * 4 = i * 4 + 1 + 1 + 1 + 1 := by omega
    rw [e]
    exact this
theorem quad_at {zs : List Int} {i : Nat} (h : i + 4 ≤ zs.length) : (zs.drop i).take 4 = [zs.getD i 0, zs.getD (i + 1) 0, zs.getD (i + 1 + 1) 0, zs.getD (i + 1 + 1 + 1) 0] := by
  have h0 : i < zs.length := by omega
  have h1 : i + 1 < zs.length := by omega
  have h2 : i + 1 + 1 < zs.length := by omega
  have h3 : i + 1 + 1 + 1 < zs.length := by omega
  rw [List.drop_eq_getElem_cons h0, List.drop_eq_getElem_cons h1, List.drop_eq_getElem_cons h2, List.drop_eq_getElem_cons h3]
  simp only [List.take_succ_cons, List.take_zero, List.getD_eq_getElem?_getD, List.getElem?_eq_getElem h0, List.getElem?_eq_getElem h1, List.getElem?_eq_getElem h2, List.getElem?_eq_getElem h3, Option.getD_some]
theorem ints_quad {zs : List Int} {i : Nat} (h : i + 4 ≤ zs.length) : ((ints zs).drop i).take 4 = [.int .i64 (zs.getD i 0), .int .i64 (zs.getD (i + 1) 0), .int .i64 (zs.getD (i + 2) 0), .int .i64 (zs.getD (i + 3) 0)] := by
  rw [ints_drop, ints_take, quad_at h]; rfl
theorem ld2 {rs : List (Int × Int)} {i : Nat} (h : i < rs.length) : (if i * 2 + 2 ≤ (ints (fl2 rs)).length then some (Value.agg (List.toArray (List.take 2 (List.drop (i * 2) (ints (fl2 rs)))))) else none) = some (.agg #[.int .i64 (rs.getD i (0, 0)).1, .int .i64 (rs.getD i (0, 0)).2]) := by
  obtain ⟨g1, g2⟩ := fl2_get rs i h
  have := fl2_len rs
  rw [ints_len, if_pos (by omega), ints_pair (by omega), g1, g2]
theorem ld4 {Q : List Ln} {i : Nat} (h : i < Q.length) : (if i * 4 + 4 ≤ (ints (fl4 Q)).length then some (Value.agg (List.toArray (List.take 4 (List.drop (i * 4) (ints (fl4 Q)))))) else none) =
    some (.agg #[.int .i64 (Q.getD i (0, 0, 0, 0)).1, .int .i64 (Q.getD i (0, 0, 0, 0)).2.1, .int .i64 (Q.getD i (0, 0, 0, 0)).2.2.1, .int .i64 (Q.getD i (0, 0, 0, 0)).2.2.2]) := by
  obtain ⟨g1, g2, g3, g4⟩ := fl4_at Q i h
  have := fl4_len Q
  rw [ints_len, if_pos (by omega), ints_quad (by omega), g1, g2, g3, g4]
theorem getD_mem {α : Type} {l : List α} {i : Nat} {z : α} (h : i < l.length) : l.getD i z ∈ l := by
  rw [List.getD_eq_getElem?_getD, List.getElem?_eq_getElem h]; exact List.getElem_mem _
theorem drop_getD {α : Type} {l : List α} {i : Nat} (z : α) (h : i < l.length) : l.drop i = l.getD i z :: l.drop (i + 1) := by
  rw [List.drop_eq_getElem_cons h, List.getD_eq_getElem?_getD, List.getElem?_eq_getElem h]; rfl
theorem sgn_lt {a b : Int} : sgn a b < 0 ↔ a < b := by
  simp only [sgn]; split
  · omega
  · split <;> omega
theorem sgn_gt {a b : Int} : 0 < sgn a b ↔ b < a := by
  simp only [sgn]; split
  · omega
  · split <;> omega
set_option maxRecDepth 100000 in
theorem mn_ok {rs : List (Int × Int)} {n c : Nat} {m1 w1 : Bool} (hn : rs.length = n) (h0 : 0 < n) (hlt : n ≤ 100000) (hr : ∀ r ∈ rs, RatIn r) :
    SmallRes Tryz.prog 148 [.slice (some ⟨0, 0, none⟩) n c, cmpV] [some (.row (ints (fl2 rs)) 2 m1 w1 true)] (.agg #[.int .i64 (mnF (rs.getD 0 (0, 0)) (rs.drop 1)).1, .int .i64 (mnF (rs.getD 0 (0, 0)) (rs.drop 1)).2]) [some (.row (ints (fl2 rs)) 2 m1 w1 true)] := by
  refine fnP_res hm c0_ok (hs := hsMn mnF rs n c m1 w1) ?_
  rw [mn_t]
  have l0 := ld2 (rs := rs) (i := 0) (by omega)
  obtain ⟨g1, g2⟩ := fl2_get rs 0 (by omega)
  simp only [Nat.zero_mul, Nat.zero_add] at l0 g1 g2
  refine br_of (fun h => by have := of_decide_eq_true h; omega) (fun _ => ⟨⟨by omega, by omega⟩, ⟨by rw [l0, g1, g2]⟩, ⟨(1, rs.getD 0 (0, 0)), ⟨by omega, by omega, getD_mem (by omega), rfl⟩, by first | trivial | rfl, by rw [g1, g2]; rfl⟩, fun s hs => ?_⟩)
  obtain ⟨i1, i2, i3, i4⟩ := hs.out
  refine br_of (fun hc => ?_) (fun hc => ?_)
  · have hc : s.1 < n := by have := of_decide_eq_true hc; omega
    have l1 := ld2 (rs := rs) (i := s.1) (by omega)
    obtain ⟨k1, k2⟩ := fl2_get rs s.1 (by omega)
    have hx := getD_mem (l := rs) (i := s.1) (z := (0, 0)) (by omega)
    rw [drop_getD (0, 0) (show s.1 < rs.length by omega), mnF] at i4
    generalize rs.getD s.1 (0, 0) = x at *
    simp only [Int.toNat_natCast, Nat.zero_add, k1, k2, l1]
    have b1 : 0 ≤ (s.1 : Int) ∧ (s.1 : Int) < (n : Int) := by omega
    refine ⟨⟨b1⟩, ⟨by first | trivial | rfl⟩, ⟨hr x hx, hr s.2 i3⟩, br_of (fun hb => ⟨⟨b1⟩, ⟨by first | trivial | rfl⟩, (s.1 + 1, x), ⟨by simp only; omega, by simp only; omega, hx, ?_⟩, ⟨by simp only; omega⟩, ?_, by first | trivial | rfl⟩) (fun hb => ⟨(s.1 + 1, s.2), ⟨by simp only; omega, by simp only; omega, i3, ?_⟩, ⟨by simp only; omega⟩, ?_, by first | trivial | rfl⟩)⟩
    · rw [if_pos (sgn_lt.1 (of_decide_eq_true hb))] at i4; exact i4
    · rw [up1 hc (by omega)]
    · rw [if_neg (fun h => of_decide_eq_false hb (sgn_lt.2 h))] at i4; exact i4
    · rw [up1 hc (by omega)]
  · have hc : s.1 = n := by have := of_decide_eq_false hc; omega
    rw [hc, ← hn, List.drop_length, mnF] at i4
    rw [← i4]
    exact ⟨by first | trivial | rfl, by first | trivial | rfl⟩
set_option maxRecDepth 100000 in
theorem mx_ok {rs : List (Int × Int)} {n c : Nat} {m1 w1 : Bool} (hn : rs.length = n) (h0 : 0 < n) (hlt : n ≤ 100000) (hr : ∀ r ∈ rs, RatIn r) :
    SmallRes Tryz.prog 150 [.slice (some ⟨0, 0, none⟩) n c, cmpV] [some (.row (ints (fl2 rs)) 2 m1 w1 true)] (.agg #[.int .i64 (mxF (rs.getD 0 (0, 0)) (rs.drop 1)).1, .int .i64 (mxF (rs.getD 0 (0, 0)) (rs.drop 1)).2]) [some (.row (ints (fl2 rs)) 2 m1 w1 true)] := by
  refine fnP_res hm c0_ok (hs := hsMn mxF rs n c m1 w1) ?_
  rw [mx_t]
  have l0 := ld2 (rs := rs) (i := 0) (by omega)
  obtain ⟨g1, g2⟩ := fl2_get rs 0 (by omega)
  simp only [Nat.zero_mul, Nat.zero_add] at l0 g1 g2
  refine br_of (fun h => by have := of_decide_eq_true h; omega) (fun _ => ⟨⟨by omega, by omega⟩, ⟨by rw [l0, g1, g2]⟩, ⟨(1, rs.getD 0 (0, 0)), ⟨by omega, by omega, getD_mem (by omega), rfl⟩, by first | trivial | rfl, by rw [g1, g2]; rfl⟩, fun s hs => ?_⟩)
  obtain ⟨i1, i2, i3, i4⟩ := hs.out
  refine br_of (fun hc => ?_) (fun hc => ?_)
  · have hc : s.1 < n := by have := of_decide_eq_true hc; omega
    have l1 := ld2 (rs := rs) (i := s.1) (by omega)
    obtain ⟨k1, k2⟩ := fl2_get rs s.1 (by omega)
    have hx := getD_mem (l := rs) (i := s.1) (z := (0, 0)) (by omega)
    rw [drop_getD (0, 0) (show s.1 < rs.length by omega), mxF] at i4
    generalize rs.getD s.1 (0, 0) = x at *
    simp only [Int.toNat_natCast, Nat.zero_add, k1, k2, l1]
    have b1 : 0 ≤ (s.1 : Int) ∧ (s.1 : Int) < (n : Int) := by omega
    refine ⟨⟨b1⟩, ⟨by first | trivial | rfl⟩, ⟨hr x hx, hr s.2 i3⟩, br_of (fun hb => ⟨⟨b1⟩, ⟨by first | trivial | rfl⟩, (s.1 + 1, x), ⟨by simp only; omega, by simp only; omega, hx, ?_⟩, ⟨by simp only; omega⟩, ?_, by first | trivial | rfl⟩) (fun hb => ⟨(s.1 + 1, s.2), ⟨by simp only; omega, by simp only; omega, i3, ?_⟩, ⟨by simp only; omega⟩, ?_, by first | trivial | rfl⟩)⟩
    · rw [if_pos (sgn_gt.1 (of_decide_eq_true hb))] at i4; exact i4
    · rw [up1 hc (by omega)]
    · rw [if_neg (fun h => of_decide_eq_false hb (sgn_gt.2 h))] at i4; exact i4
    · rw [up1 hc (by omega)]
  · have hc : s.1 = n := by have := of_decide_eq_false hc; omega
    rw [hc, ← hn, List.drop_length, mxF] at i4
    rw [← i4]
    exact ⟨by first | trivial | rfl, by first | trivial | rfl⟩
theorem LnIn.low {l : Ln} {x : Int} (h : LnIn l x) : LowIn (lnat l x) l.2.2.2 := by
  obtain ⟨_, a, b⟩ := h.at
  have := h.d0
  have := h.d1
  exact ⟨by omega, by omega, by omega, by omega⟩
theorem LnIn.rat {l : Ln} {x : Int} (h : LnIn l x) : RatIn (Qq.low (lnat l x) l.2.2.2) := by
  obtain ⟨_, a, b⟩ := h.at
  obtain ⟨_, c1, c2, c3⟩ := low_rep h.low
  have := h.d1
  exact ⟨by simp only [Qq.low]; omega, by simp only [Qq.low]; omega, c1, by simp only [Qq.low]; omega⟩
theorem okR1 : OkV Tryz.prog 147 orcR1 := by
  intro args H ret H' vc h hv
  unfold orcR1 at h
  split at h
  · rename_i a b s d x
    cases h
    refine fnP_res hm c0_ok (hs := hsR1) ?_
    show fnP Tryz.prog c0 hsR1 147 [.agg (lnC a b s d).toArray, _] _ _
    rw [r1_t]
    have e := hv.at.1
    simp only at e
    obtain ⟨l0, l1, l2, l3⟩ := hv.low
    simp only at l0 l1
    rw [e]
    exact ⟨⟨l0, l1, l2, l3⟩, by first | trivial | rfl, by first | trivial | rfl⟩
  · cases h
theorem vals_take {Q : List Ln} {x : Int} {i : Nat} (h : i < Q.length) : vals (Q.take (i + 1)) x = vals (Q.take i) x ++ [low (lnat (Q.getD i (0, 0, 0, 0)) x) (Q.getD i (0, 0, 0, 0)).2.2.2] := by
  rw [vals, vals, List.take_add_one, List.map_append, List.getElem?_eq_getElem h, List.getD_eq_getElem?_getD, List.getElem?_eq_getElem h]; rfl
theorem fl2_one (l : List (Int × Int)) (a b : Int) : ints (fl2 l) ++ [.int .i64 a, .int .i64 b] = ints (fl2 (l ++ [(a, b)])) := by
  rw [fl2_app, ← ints_app]; rfl
set_option maxRecDepth 100000 in
theorem mp_ok {Q : List Ln} {n c : Nat} {x : Int} (hn : Q.length = n) (hlt : n ≤ 100000) (hq : ∀ l ∈ Q, LnIn l x) :
    SmallRes Tryz.prog 146 [.slice (some ⟨0, 0, none⟩) n c, .func (.func 147) #[] #[.pointer (some ⟨1, 0, none⟩)]] [lst4 Q, bx1 x] (.slice (some ⟨2, 0, none⟩) n 0) [lst4 Q, bx1 x, lst2r (vals Q x)] := by
  refine fnP_res hm c0_ok (hs := hsMp okR1 Q n c x) ?_
  rw [mp_t]
  refine ⟨⟨(0 : Nat), ⟨rfl⟩, by first | trivial | rfl, by first | trivial | rfl⟩, fun _ _ => ⟨⟨(0 : Nat), ⟨by omega⟩, by first | trivial | rfl, by first | trivial | rfl⟩, fun s hs => br_of (fun hc => ?_) (fun hc => ?_)⟩⟩
  · have hc := lt_of_dec hc
    have l1 := ld4 (Q := Q) (i := s) (by omega)
    obtain ⟨k1, k2, k3, k4⟩ := fl4_at Q s (by omega)
    have hx := getD_mem (l := Q) (i := s) (z := (0, 0, 0, 0)) (by omega)
    have hv := vals_take (Q := Q) (x := x) (i := s) (by omega)
    generalize Q.getD s (0, 0, 0, 0) = l at *
    have hlen : (vals (Q.take s) x).length = s := by rw [vals, List.length_map, List.length_take]; omega
    simp only [Int.toNat_natCast, Nat.zero_add, k1, k2, k3, k4, l1]
    refine ⟨⟨by omega, by omega⟩, ⟨by first | trivial | rfl⟩, ⟨hq l hx⟩, ⟨by rw [ints_len, fl2_len, hlen], by omega, by omega⟩, s + 1, ⟨hc⟩, ⟨by omega⟩, by rw [up1 hc (by omega)], ?_⟩
    rw [hv, fl2_one]
    first | trivial | rfl
  · have hc := ge_of_dec hc
    obtain rfl : s = n := by have := hs.out; omega
    rw [← hn, List.take_length]
    exact ⟨by first | trivial | rfl, by first | trivial | rfl⟩
/-- A corner, near. -/
structure CqIn (c : Ln) (x : Int) : Prop where
  ln : LnIn (lnOf c) x
  u1 : c.2.2.1 ≤ 100000
  b0 : -200000 ≤ c.2.1
  b1 : c.2.1 ≤ 200000
  v0 : -200000 ≤ c.2.2.2
  v1 : c.2.2.2 ≤ 200000
theorem CqIn.at {a b u v x : Int} (h : CqIn (a, b, u, v) x) : IntKind.wrap .i64 (u - a) = u - a ∧ IntKind.wrap .i64 (IntKind.wrap .i64 (b * IntKind.wrap .i64 (u - x)) + IntKind.wrap .i64 (v * IntKind.wrap .i64 (x - a))) = lnat (lnOf (a, b, u, v)) x ∧ 0 < u - a ∧ u - a ≤ 100000 := by
  obtain ⟨hl, u1, b0, b1, v0, v1⟩ := h
  obtain ⟨_, g1, g2⟩ := hl.at
  obtain ⟨a0, a1, _, _, _, _, d0, d1, x0, x1⟩ := hl
  simp only [lnOf] at a0 a1 d0 d1 u1 b0 b1 v0 v1
  have p1 := bmul (A := 200000) (B := 100000) (by omega) (by omega) b0 b1 (show -100000 ≤ u - x by omega) (show u - x ≤ 100000 by omega)
  have p2 := bmul (A := 200000) (B := 100000) (by omega) (by omega) v0 v1 (show -100000 ≤ x - a by omega) (show x - a ≤ 100000 by omega)
  have e : lnat (lnOf (a, b, u, v)) x = b * (u - x) + v * (x - a) := by simp only [lnat, lnOf]; grind
  rw [e, wrap_eq (x := u - x) (by omega) (by omega), wrap_eq (x := x - a) (by omega) (by omega), wrap_eq (x := b * (u - x)) (by omega) (by omega), wrap_eq (x := v * (x - a)) (by omega) (by omega)]
  exact ⟨wrap_eq (by omega) (by omega), wrap_eq (by omega) (by omega), by omega, by omega⟩
end
end Qq
end
