/- Parts of the proof: RA, RB, RC, RD, RE. -/
import Derived.Test.YtgcniklghjfogaaDoorZC
import Derived.Test.YtgcniklghjfogaaDoorZD
import Derived.Test.YtgcniklghjfogaaDoorZE
import Derived.Test.YtgcniklghjfogaaDoorZK
section
/- Samples, checked. -/
open Go Go.Vm Go.Proofs Sp
namespace Sp
noncomputable section
/-- The integer of a sample. -/
noncomputable def lev (x : Nat) : Int := fInt (fMul x 1098907648)
noncomputable def sE (x : Nat) : Int := sel (wh (!Fl.finB x) 1) (wh (fLt x 3296722944 || (fGt x 1149239296 || fNe (fMul x 1098907648) (fOf (lev x)))) 3)
end
end Sp
namespace Qq
noncomputable section
noncomputable def orcSmp : Orc
  | [.float .f32 x, .int .i64 1024], [] => some (.int .i64 (sE x), [])
  | _, _ => none
noncomputable def orcSm1 : Orc
  | [.float .f32 x], [] => some (.int .i64 (sE x), [])
  | _, _ => none
end
end Qq
namespace Fl
open Ieee Sp
theorem of_val {n : Int} (h : n.natAbs < 2 ^ 24) : IsF (fOf n) ∧ val (fOf n) = n * (one : Int) := by
  have hs : Has (.number (decide (n < 0)) n.natAbs 0) (-149) (n * (one : Int)) := by
    refine ⟨_, _, _, rfl, by decide, ?_⟩
    have e : (0 + 400 : Int).toNat = 400 := rfl
    rw [e, sg_mul, sg_self, one_nat]
  have hp := one_pos
  refine has_fin (lo := -149) (hs.write (by decide) ⟨?_, n.natAbs, 400, ?_, h, by decide⟩)
  · rw [Int.natAbs_mul, Int.natAbs_natCast]
    have : n.natAbs * one ≤ 2 ^ 24 * one := Nat.mul_le_mul_right one (Nat.le_of_lt h)
    have h2 : 2 ^ 24 * one < 2 ^ 500 := by decide +kernel
    exact Nat.lt_of_le_of_lt this h2
  · rw [Int.natAbs_mul, Int.natAbs_natCast, one_nat]
/-- What a sample is. -/
structure Smp (x : Nat) : Prop where
  fin : IsF x
  v : val x * 16 = lev x * (one : Int)
  few : (lev x).natAbs ≤ 16384
  m1 : fMulOk x 1098907648
  m2 : fMulOk 1098907648 x
  i1 : fIntOk (fMul x 1098907648)
theorem fin_true {x : Nat} (h : IsF x) : finB x = true := (isF_iff x).1 h
theorem fin_false {x : Nat} (h : ¬ IsF x) : finB x = false := by
  cases hb : finB x
  · rfl
  · exact absurd ((isF_iff x).2 hb) h
theorem sE_not {x : Nat} (h : ¬ IsF x) : sE x = 1 := by
  rw [sE, fin_false h]; rfl
theorem sE_fin {x : Nat} (h : IsF x) : sE x = Sp.wh (fLt x 3296722944 || (fGt x 1149239296 || fNe (fMul x 1098907648) (fOf (lev x)))) 3 := by
  rw [sE, fin_true h]; rfl
theorem in_range {x : Nat} (h : IsF x) (h1 : fLt x 3296722944 = false) (h2 : fGt x 1149239296 = false) :
    (val x).natAbs ≤ 1024 * one ∧ fMulOk x 1098907648 ∧ fMulOk 1098907648 x ∧ fIntOk (fMul x 1098907648) ∧ IsF (fMul x 1098907648) ∧ val (fMul x 1098907648) = val x * 16 ∧ (lev x).natAbs ≤ 1048576 := by
  have hb := range_test h h1 h2
  obtain ⟨m1, m2, m3⟩ := mul_16 h hb
  obtain ⟨i1, i2, _⟩ := int_ok m2 (by rw [m3, Int.natAbs_mul, show Int.natAbs 16 = 16 from rfl]; omega)
  exact ⟨hb, m1, (mulOk_comm _ _).1 m1, i1, m2, m3, i2⟩
theorem smp {x : Nat} (h : sE x = 0) : Smp x := by
  have hf : IsF x := by
    by_cases hn : IsF x
    · exact hn
    · rw [sE_not hn] at h; cases h
  rw [sE_fin hf] at h
  have h := (Qq.wh_zero (by decide)).1 h
  simp only [Bool.or_eq_false_iff] at h
  obtain ⟨h1, h2, h3⟩ := h
  obtain ⟨hb, m1, m2, i1, f1, e1, l1⟩ := in_range hf h1 h2
  obtain ⟨f2, e2⟩ := of_val (n := lev x) (by omega)
  rw [ne_val f1 f2, e1, e2] at h3
  have h3 : val x * 16 = lev x * (one : Int) := by simpa using h3
  refine ⟨hf, h3, ?_, m1, m2, i1⟩
  have hp := one_pos
  have h4 : (lev x).natAbs * one ≤ 16384 * one := by
    have e := congrArg Int.natAbs h3
    rw [Int.natAbs_mul, Int.natAbs_mul] at e
    have e2 : (one : Int).natAbs = one := Int.natAbs_natCast one
    rw [e2, show Int.natAbs 16 = 16 from rfl] at e
    rw [← e]
    omega
  exact Nat.le_of_mul_le_mul_right h4 hp
theorem ne_comm {x y : Nat} (hx : IsF x) (hy : IsF y) : fNe x y = fNe y x := by
  rw [ne_val hx hy, ne_val hy hx]
  exact decide_eq_decide.2 ⟨fun h e => h e.symm, fun h e => h e.symm⟩
/-- A sample is not 0 just if its integer is not. -/
theorem nz_lev {x : Nat} (h : Smp x) : fNe x 0 = decide (lev x ≠ 0) := by
  rw [ne_val h.fin fin_zero.1, fin_zero.2]
  have hp := one_pos
  refine decide_eq_decide.2 (not_congr ⟨fun e => ?_, fun e => ?_⟩)
  · have := h.v
    rw [e, Int.zero_mul] at this
    rcases Int.mul_eq_zero.1 this.symm with h | h
    · exact h
    · omega
  · have := h.v
    rw [e, Int.zero_mul] at this
    omega
end Fl
namespace Qq
noncomputable section
noncomputable def hsFl1 : Hs Tryd.prog where
  nd y := if y = 102 then some (hDf Tryd.prog) else none
  au := auF []
noncomputable def hsFl0 : Hs Tryd.prog where
  au := auF []
theorem cpS_t (x : Nat) (K : Value → Heap → Prop) :
    (fnP Tryd.prog cs2 hsFl1 (50 : FuncId) [Value.float FloatKind.f32 x, Value.int IntKind.i64 (1024 : Int)] [] K) =
    (∀ (x_1 : Nat), Is (fDif x x x_1) → Is True ∧ br (fNe x_1 (0 : Nat)) (K (Value.int IntKind.i64 (1 : Int)) noH) (Is True ∧ Is True ∧ br (fLt x (3296722944 : Nat)) (K (Value.int IntKind.i64 (3 : Int)) noH) (Is True ∧ Is True ∧ br (fGt x (1149239296 : Nat)) (K (Value.int IntKind.i64 (3 : Int)) noH) (Is (fMulOk x (1098907648 : Nat)) ∧ Is (fMulOk x (1098907648 : Nat)) ∧ Is (fIntOk (fMul x (1098907648 : Nat))) ∧ Is True ∧ Is True ∧ K (Value.int IntKind.i64 (wh (fNe (fMul x (1098907648 : Nat)) (fOf (Sp.fInt (fMul x (1098907648 : Nat))))) (3 : Int))) noH)))) := by kernel_rfl
theorem cpSR_t (x : Nat) (K : Value → Heap → Prop) :
    (fnP Tryd.prog cs2 hsFl0 (15 : FuncId) [Value.float FloatKind.f32 x, Value.int IntKind.i64 (1024 : Int)] [] K) =
    (Is True ∧ br (fNe x x) (K (Value.int IntKind.i64 (1 : Int)) noH) (Is True ∧ br (fGt x (2139095039 : Nat)) (K (Value.int IntKind.i64 (1 : Int)) noH) (Is True ∧ br (fLt x (4286578687 : Nat)) (K (Value.int IntKind.i64 (1 : Int)) noH) (Is True ∧ Is True ∧ br (fLt x (3296722944 : Nat)) (K (Value.int IntKind.i64 (3 : Int)) noH) (Is True ∧ Is True ∧ br (fGt x (1149239296 : Nat)) (K (Value.int IntKind.i64 (3 : Int)) noH) (Is (fMulOk (1098907648 : Nat) x) ∧ Is (fIntOk (fMul (1098907648 : Nat) x)) ∧ Is True ∧ Is (fMulOk (1098907648 : Nat) x) ∧ Is True ∧ br (fNe (fOf (Sp.fInt (fMul (1098907648 : Nat) x))) (fMul (1098907648 : Nat) x)) (K (Value.int IntKind.i64 (3 : Int)) noH) (K (Value.int IntKind.i64 (0 : Int)) noH))))))) := by kernel_rfl
theorem lv_t (x : Nat) (K : Value → Heap → Prop) :
    (fnP Tryd.prog cs2 hsFl0 (62 : FuncId) [Value.float FloatKind.f32 x] [] K) =
    (Is (fMulOk (1098907648 : Nat) x) ∧ Is (fIntOk (fMul (1098907648 : Nat) x)) ∧ K (Value.int IntKind.i64 (Sp.fInt (fMul (1098907648 : Nat) x))) noH) := by kernel_rfl
theorem nz_t (x : Nat) (K : Value → Heap → Prop) :
    (fnP Tryd.prog cs2 hsFl0 (65 : FuncId) [Value.float FloatKind.f32 x] [] K) =
    (Is True ∧ K (Value.bool (fNe x (0 : Nat))) noH) := by kernel_rfl
theorem okSmp : Ok Tryd.prog 50 orcSmp := by
  intro args H ret H' h
  unfold orcSmp at h
  split at h
  · rename_i x
    cases h
    refine fnP_res hm cs2_ok (hs := hsFl1) ?_
    rw [cpS_t]
    intro r hr
    by_cases hf : Fl.IsF x
    · rw [Fl.dif_fin hf hr.out, Fl.sE_fin hf]
      refine ⟨⟨trivial⟩, br_of (fun h => by cases h) (fun _ => ⟨⟨trivial⟩, ⟨trivial⟩, br_of (fun h1 => ?_) (fun h1 => ⟨⟨trivial⟩, ⟨trivial⟩, br_of (fun h2 => ?_) (fun h2 => ?_)⟩)⟩)⟩
      · rw [h1]; exact ⟨by first | trivial | rfl, by first | trivial | rfl⟩
      · rw [h1, h2]; exact ⟨by first | trivial | rfl, by first | trivial | rfl⟩
      · obtain ⟨_, m1, _, i1, _⟩ := Fl.in_range hf h1 h2
        rw [h1, h2]
        exact ⟨⟨m1⟩, ⟨m1⟩, ⟨i1⟩, ⟨trivial⟩, ⟨trivial⟩, by first | trivial | rfl, by first | trivial | rfl⟩
    · rw [Fl.dif_not hf hr.out, Fl.sE_not hf]
      exact ⟨⟨trivial⟩, br_of (fun _ => ⟨by first | trivial | rfl, by first | trivial | rfl⟩) (fun h => by cases h)⟩
  · cases h
theorem okSmpR : Ok Tryd.prog 15 orcSmp := by
  intro args H ret H' h
  unfold orcSmp at h
  split at h
  · rename_i x
    cases h
    refine fnP_res hm cs2_ok (hs := hsFl0) ?_
    rw [cpSR_t]
    have ht := Fl.form_test x
    by_cases hf : Fl.IsF x
    · rw [Fl.fin_true hf] at ht
      simp only [Bool.or_eq_false_iff, Bool.not_true] at ht
      obtain ⟨t1, t2, t3⟩ := ht
      rw [t1, t2, t3, Fl.sE_fin hf]
      refine ⟨⟨trivial⟩, br_of (fun h => by cases h) (fun _ => ⟨⟨trivial⟩, br_of (fun h => by cases h) (fun _ => ⟨⟨trivial⟩, br_of (fun h => by cases h) (fun _ => ⟨⟨trivial⟩, ⟨trivial⟩, br_of (fun h1 => ?_) (fun h1 => ⟨⟨trivial⟩, ⟨trivial⟩, br_of (fun h2 => ?_) (fun h2 => ?_)⟩)⟩)⟩)⟩)⟩
      · rw [h1]; exact ⟨by first | trivial | rfl, by first | trivial | rfl⟩
      · rw [h1, h2]; exact ⟨by first | trivial | rfl, by first | trivial | rfl⟩
      · obtain ⟨_, m1, m2, i1, f1, e1, l1⟩ := Fl.in_range hf h1 h2
        obtain ⟨f2, _⟩ := Fl.of_val (n := lev x) (by omega)
        rw [h1, h2, Fl.mul_comm16 1098907648 x]
        have ec : fNe (fOf (Sp.fInt (fMul x 1098907648))) (fMul x 1098907648) = fNe (fMul x 1098907648) (fOf (lev x)) := Fl.ne_comm f2 f1
        rw [ec]
        refine ⟨⟨m2⟩, ⟨i1⟩, ⟨trivial⟩, ⟨m2⟩, ⟨trivial⟩, br_of (fun h3 => ?_) (fun h3 => ?_)⟩
        · rw [h3]; exact ⟨by first | trivial | rfl, by first | trivial | rfl⟩
        · rw [h3]; exact ⟨by first | trivial | rfl, by first | trivial | rfl⟩
    · rw [Fl.fin_false hf] at ht
      simp only [Bool.not_false, Bool.or_eq_true] at ht
      rw [Fl.sE_not hf]
      refine ⟨⟨trivial⟩, br_of (fun _ => ⟨by first | trivial | rfl, by first | trivial | rfl⟩) (fun t1 => ⟨⟨trivial⟩, br_of (fun _ => ⟨by first | trivial | rfl, by first | trivial | rfl⟩) (fun t2 => ⟨⟨trivial⟩, br_of (fun _ => ⟨by first | trivial | rfl, by first | trivial | rfl⟩) (fun t3 => ?_)⟩)⟩)⟩
      rw [t1, t2, t3] at ht
      simp at ht
  · cases h
noncomputable def s3 : List (Nat × Orc) := (50, orcSmp) :: s2
theorem s3_all : ∀ p ∈ s3, Ok Tryd.prog p.1 p.2 := all_cons okSmp s2_all
noncomputable def cs3 : CallF := ctx Tryd.prog s3
theorem cs3_ok : CallOK Tryd.prog cs3 := ctx_ok hm s3_all
noncomputable def sr3 : List (Nat × Orc) := [(15, orcSmp)]
noncomputable def csr3 : CallF := ctx Tryd.prog sr3
theorem csr3_ok : CallOK Tryd.prog csr3 := ctx_ok hm (all_cons okSmpR all_nil)
theorem cs1_t (x : Nat) (K : Value → Heap → Prop) :
    (fnP Tryd.prog cs3 h0 (38 : FuncId) [Value.float FloatKind.f32 x] [] K) =
    (K (Value.int IntKind.i64 (sE x)) noH) := by kernel_rfl
theorem csr1_t (x : Nat) (K : Value → Heap → Prop) :
    (fnP Tryd.prog csr3 h0 (6 : FuncId) [Value.float FloatKind.f32 x] [] K) =
    (K (Value.int IntKind.i64 (sE x)) noH) := by kernel_rfl
theorem okSm1 : Ok Tryd.prog 38 orcSm1 := by
  intro args H ret H' h
  unfold orcSm1 at h
  split at h
  · cases h
    refine fnP_res hm cs3_ok (hs := h0) ?_
    rw [cs1_t]
    exact ⟨by first | trivial | rfl, by first | trivial | rfl⟩
  · cases h
theorem okSm1R : Ok Tryd.prog 6 orcSm1 := by
  intro args H ret H' h
  unfold orcSm1 at h
  split at h
  · cases h
    refine fnP_res hm csr3_ok (hs := h0) ?_
    rw [csr1_t]
    exact ⟨by first | trivial | rfl, by first | trivial | rfl⟩
  · cases h
/- The integer of a sample. -/
noncomputable def orcLev : OrcV
  | [.float .f32 x], [] => some (.int .i64 (lev x), [], sE x = 0)
  | _, _ => none
theorem okLev : OkV Tryd.prog 62 orcLev := by
  intro args H ret H' vc h hv
  unfold orcLev at h
  split at h
  · rename_i x
    cases h
    have hs := Fl.smp hv
    refine fnP_res hm cs2_ok (hs := hsFl0) ?_
    rw [lv_t, Fl.mul_comm16 1098907648 x]
    exact ⟨⟨hs.m2⟩, ⟨hs.i1⟩, by first | trivial | rfl, by first | trivial | rfl⟩
  · cases h
noncomputable def orcNz : Orc
  | [.float .f32 x], [] => some (.bool (fNe x 0), [])
  | _, _ => none
theorem okNz : Ok Tryd.prog 65 orcNz := by
  intro args H ret H' h
  unfold orcNz at h
  split at h
  · cases h
    refine fnP_res hm cs2_ok (hs := hsFl0) ?_
    rw [nz_t]
    exact ⟨⟨trivial⟩, by first | trivial | rfl, by first | trivial | rfl⟩
  · cases h
end
end Qq
end
section
/- Holes, and what is known. -/
open Go Go.Vm Go.Proofs Sp
namespace Sp
noncomputable section
noncomputable def flts (xs : List Nat) : List Value := xs.map (Value.float .f32)
/-- Whether an index lies in no hole. -/
noncomputable def knB : List Int → Int → Bool
  | a :: b :: r, i => !(decide (a ≤ i) && decide (i < b)) && knB r i
  | _, _ => true
noncomputable def hix : List Int → Int → Nat → Int
  | a :: b :: r, i, k => if (decide (a ≤ i) && decide (i < b)) = true then (k : Int) else hix r i (k + 1)
  | _, _, _ => -1
noncomputable def hchk (n : Int) : List Int → Int → Int
  | a :: b :: r, last => sel (fi [wh (decide (a < 0) || (decide (b ≤ a) || decide (n < b))) 14, wh (decide (a ≤ last)) 11]) (hchk n r b)
  | _, _ => 0
noncomputable def nzB (x : Nat) : Bool := fNe x 0
noncomputable def nzI : List Nat → Nat → Int
  | [], _ => -1
  | x :: r, k => if nzB x = true then (k : Int) else nzI r (k + 1)
/-- Nothing but 0 in the holes. -/
noncomputable def hzH (xs : List Nat) : List Int → Bool
  | a :: b :: r => !((xs.drop a.toNat).take (b.toNat - a.toNat)).any nzB && hzH xs r
  | _ => true
end
end Sp
namespace Qq
noncomputable section
noncomputable def runA (nm : ByteArray) (f : Int) (i n c j k d : Nat) : List Value := [.string nm, .int .i64 f, .slice (some ⟨i, 0, none⟩) n c, .slice (some ⟨j, 0, none⟩) k d]
noncomputable def hp2r (xs : List Nat) (hs : List Int) (m1 w1 m2 w2 : Bool) (l : List (Option AObj)) : Heap := some (.row (flts xs) 1 m1 w1 true) :: some (.row (ints hs) 2 m2 w2 true) :: l
noncomputable def xF (xs : List Nat) (off : Nat) : Value := .float .f32 (xs.getD off 0)
/- An index within a hole. -/
theorem h1_t (a : Int) (b : Int) (i : Int) (K : Value → Heap → Prop) :
    (fnP Tryd.prog c0 h0 (67 : FuncId) [Value.agg #[Value.int IntKind.i64 a, Value.int IntKind.i64 b], Value.pointer (some { block := (0 : Nat), off := (0 : Nat) })] [some (AObj.row [Value.int IntKind.i64 i] (0 : Nat) false true true)] K) =
    (br (decide (a ≤ i)) (K (Value.bool (decide (i < b))) (some (AObj.row [Value.int IntKind.i64 i] (0 : Nat) false true true) :: noH)) (K (Value.bool false) (some (AObj.row [Value.int IntKind.i64 i] (0 : Nat) false true true) :: noH))) := by kernel_rfl
noncomputable def orcH1 : Orc
  | [.agg ⟨[.int .i64 a, .int .i64 b]⟩, .pointer (some ⟨0, 0, none⟩)], [some (.row [.int .i64 i] 0 false true true)] => some (.bool (decide (a ≤ i) && decide (i < b)), [some (.row [.int .i64 i] 0 false true true)])
  | _, _ => none
theorem okH1 : Ok Tryd.prog 67 orcH1 := by
  intro args H ret H' h
  unfold orcH1 at h
  split at h
  · cases h
    refine fnP_res hm c0_ok (hs := h0) ?_
    rw [h1_t]
    refine br_of (fun h => ?_) (fun h => ?_)
    · rw [h]; exact ⟨by first | trivial | rfl, by first | trivial | rfl⟩
    · rw [h]; exact ⟨by first | trivial | rfl, by first | trivial | rfl⟩
  · cases h
noncomputable def cloH : Value := .func (.func 67) #[] #[.pointer (some ⟨1, 0, none⟩)]
noncomputable def lpHx (hs : List Int) (k c : Nat) (m : Bool) (i : Int) : Lp where
  σ := Nat
  E s := slots 19 [(0, .slice (some ⟨0, 0, none⟩) k c), (1, cloH), (7, .int .i64 (Int.ofNat k)), (8, .int .i64 (Int.ofNat s))]
  Hp _ := [some (.row (ints hs) 2 m false true), some (.row [.int .i64 i] 0 false true true)]
  I s := s ≤ k ∧ hix (hs.drop (s * 2)) i s = hix hs i 0
  m s := k - s
noncomputable def hsHx (hs : List Int) (k c : Nat) (m : Bool) (i : Int) : Hs Tryd.prog where
  op y := if y = 403 then some (hIa Tryd.prog) else if y = 404 then some (hLd Tryd.prog (z2 hs)) else none
  lp _ := some (lpHx hs k c m i)
  cl _ := keep 19 [0, 1, 7, 8]
  au := au0 Tryd.prog
noncomputable def tH1 : List (Nat × Orc) := [(67, orcH1)]
noncomputable def cH1 : CallF := ctx Tryd.prog tH1
theorem cH1_ok : CallOK Tryd.prog cH1 := ctx_ok hm (all_cons okH1 all_nil)
theorem hx_t (hs : List Int) (k : Nat) (c : Nat) (m : Bool) (i : Int) (K : Value → Heap → Prop) :
    (fnP Tryd.prog cH1 (hsHx hs k c m i) (69 : FuncId) [Value.slice (some { block := (0 : Nat), off := (0 : Nat) }) k c, cloH] [some (AObj.row (ints hs) (2 : Nat) m false true), some (AObj.row [Value.int IntKind.i64 i] (0 : Nat) false true true)] K) =
    ((∃ (s : Nat), Is (s ≤ k ∧ hix (List.drop (s * (2 : Nat)) hs) i s = hix hs i (0 : Nat)) ∧ [Value.slice (some { block := (0 : Nat), off := (0 : Nat) }) k c, Value.func (Fn.func (67 : Nat)) #[] #[Value.pointer (some { block := (1 : Nat), off := (0 : Nat) })], poi, poi, poi, poi, poi, Value.int IntKind.i64 (↑k : Int), Value.int IntKind.i64 (0 : Int), poi, poi, poi, poi, poi, poi, poi, poi, poi, poi] = [Value.slice (some { block := (0 : Nat), off := (0 : Nat) }) k c, Value.func (Fn.func (67 : Nat)) #[] #[Value.pointer (some { block := (1 : Nat), off := (0 : Nat) })], poi, poi, poi, poi, poi, Value.int IntKind.i64 (↑k : Int), Value.int IntKind.i64 (↑s : Int), poi, poi, poi, poi, poi, poi, poi, poi, poi, poi] ∧ some (AObj.row (ints hs) (2 : Nat) m false true) :: some (AObj.row [Value.int IntKind.i64 i] (0 : Nat) false true true) :: noH = some (AObj.row (ints hs) (2 : Nat) m false true) :: some (AObj.row [Value.int IntKind.i64 i] (0 : Nat) false true true) :: noH) ∧ ∀ (s : Nat), Is (s ≤ k ∧ hix (List.drop (s * (2 : Nat)) hs) i s = hix hs i (0 : Nat)) → br (decide ((↑s : Int) < (↑k : Int))) (Is ((0 : Int) ≤ (↑s : Int) ∧ (↑s : Int) < (↑k : Int)) ∧ Is ((if (0 : Nat) + Int.toNat (↑s : Int) * (2 : Nat) + (2 : Nat) ≤ List.length (ints hs) then some (Value.agg (List.toArray (List.take (2 : Nat) (List.drop ((0 : Nat) + Int.toNat (↑s : Int) * (2 : Nat)) (ints hs))))) else none) = some (Value.agg #[Value.int IntKind.i64 (List.getD hs ((0 : Nat) + Int.toNat (↑s : Int) * (2 : Nat)) (0 : Int)), Value.int IntKind.i64 (List.getD hs ((0 : Nat) + Int.toNat (↑s : Int) * (2 : Nat) + (1 : Nat)) (0 : Int))])) ∧ br (decide (List.getD hs ((0 : Nat) + Int.toNat (↑s : Int) * (2 : Nat)) (0 : Int) ≤ i) && decide (i < List.getD hs ((0 : Nat) + Int.toNat (↑s : Int) * (2 : Nat) + (1 : Nat)) (0 : Int))) (K (Value.int IntKind.i64 (↑s : Int)) (some (AObj.row (ints hs) (2 : Nat) m false true) :: some (AObj.row [Value.int IntKind.i64 i] (0 : Nat) false true true) :: noH)) (∃ (s' : Nat), Is (s' ≤ k ∧ hix (List.drop (s' * (2 : Nat)) hs) i s' = hix hs i (0 : Nat)) ∧ Is (k - s' < k - s) ∧ [Value.slice (some { block := (0 : Nat), off := (0 : Nat) }) k c, Value.func (Fn.func (67 : Nat)) #[] #[Value.pointer (some { block := (1 : Nat), off := (0 : Nat) })], poi, poi, poi, poi, poi, Value.int IntKind.i64 (↑k : Int), Value.int IntKind.i64 (IntKind.wrap IntKind.i64 ((↑s : Int) + (1 : Int))), poi, poi, poi, poi, poi, poi, poi, poi, poi, poi] = [Value.slice (some { block := (0 : Nat), off := (0 : Nat) }) k c, Value.func (Fn.func (67 : Nat)) #[] #[Value.pointer (some { block := (1 : Nat), off := (0 : Nat) })], poi, poi, poi, poi, poi, Value.int IntKind.i64 (↑k : Int), Value.int IntKind.i64 (↑s' : Int), poi, poi, poi, poi, poi, poi, poi, poi, poi, poi] ∧ some (AObj.row (ints hs) (2 : Nat) m false true) :: some (AObj.row [Value.int IntKind.i64 i] (0 : Nat) false true true) :: noH = some (AObj.row (ints hs) (2 : Nat) m false true) :: some (AObj.row [Value.int IntKind.i64 i] (0 : Nat) false true true) :: noH)) (K (Value.int IntKind.i64 (-1 : Int)) (some (AObj.row (ints hs) (2 : Nat) m false true) :: some (AObj.row [Value.int IntKind.i64 i] (0 : Nat) false true true) :: noH))) := by kernel_rfl
/- IsKnown of the reference. -/
/- A sample that is not 0. -/
noncomputable def lpNz (xs : List Nat) (off n c : Nat) : Lp where
  σ := Nat
  E s := slots 19 [(0, .slice (some ⟨0, off, none⟩) n c), (1, .func (.func 65) #[] #[]), (7, .int .i64 (Int.ofNat n)), (8, .int .i64 (Int.ofNat s))]
  Hp _ := [some (.row (flts xs) 1 true true true)]
  I s := s ≤ n ∧ nzI (((xs.drop off).take n).drop s) s = nzI ((xs.drop off).take n) 0
  m s := n - s
noncomputable def hsNz (xs : List Nat) (off n c : Nat) : Hs Tryd.prog where
  op y := if y = 403 then some (hIa Tryd.prog) else if y = 404 then some (hLd Tryd.prog (xF xs)) else none
  lp _ := some (lpNz xs off n c)
  cl _ := keep 19 [0, 1, 7, 8]
  au := au0 Tryd.prog
noncomputable def tNz : List (Nat × Orc) := [(65, orcNz)]
noncomputable def cNz : CallF := ctx Tryd.prog tNz
theorem cNz_ok : CallOK Tryd.prog cNz := ctx_ok hm (all_cons okNz all_nil)
theorem nzi_t (xs : List Nat) (off : Nat) (n : Nat) (c : Nat) (K : Value → Heap → Prop) :
    (fnP Tryd.prog cNz (hsNz xs off n c) (68 : FuncId) [Value.slice (some { block := (0 : Nat), off := off }) n c, Value.func (Fn.func (65 : FuncId)) #[] #[]] [some (AObj.row (flts xs) (1 : Nat) true true true)] K) =
    ((∃ (s : Nat), Is (s ≤ n ∧ nzI (List.drop s (List.take n (List.drop off xs))) s = nzI (List.take n (List.drop off xs)) (0 : Nat)) ∧ [Value.slice (some { block := (0 : Nat), off := off }) n c, Value.func (Fn.func (65 : Nat)) #[] #[], poi, poi, poi, poi, poi, Value.int IntKind.i64 (↑n : Int), Value.int IntKind.i64 (0 : Int), poi, poi, poi, poi, poi, poi, poi, poi, poi, poi] = [Value.slice (some { block := (0 : Nat), off := off }) n c, Value.func (Fn.func (65 : Nat)) #[] #[], poi, poi, poi, poi, poi, Value.int IntKind.i64 (↑n : Int), Value.int IntKind.i64 (↑s : Int), poi, poi, poi, poi, poi, poi, poi, poi, poi, poi] ∧ some (AObj.row (flts xs) (1 : Nat) true true true) :: noH = some (AObj.row (flts xs) (1 : Nat) true true true) :: noH) ∧ ∀ (s : Nat), Is (s ≤ n ∧ nzI (List.drop s (List.take n (List.drop off xs))) s = nzI (List.take n (List.drop off xs)) (0 : Nat)) → br (decide ((↑s : Int) < (↑n : Int))) (Is ((0 : Int) ≤ (↑s : Int) ∧ (↑s : Int) < (↑n : Int)) ∧ Is ((flts xs)[off + Int.toNat (↑s : Int) * (1 : Nat)]? = some (Value.float FloatKind.f32 (List.getD xs (off + Int.toNat (↑s : Int) * (1 : Nat)) (0 : Nat)))) ∧ br (fNe (List.getD xs (off + Int.toNat (↑s : Int) * (1 : Nat)) (0 : Nat)) (0 : Nat)) (K (Value.int IntKind.i64 (↑s : Int)) (some (AObj.row (flts xs) (1 : Nat) true true true) :: noH)) (∃ (s' : Nat), Is (s' ≤ n ∧ nzI (List.drop s' (List.take n (List.drop off xs))) s' = nzI (List.take n (List.drop off xs)) (0 : Nat)) ∧ Is (n - s' < n - s) ∧ [Value.slice (some { block := (0 : Nat), off := off }) n c, Value.func (Fn.func (65 : Nat)) #[] #[], poi, poi, poi, poi, poi, Value.int IntKind.i64 (↑n : Int), Value.int IntKind.i64 (IntKind.wrap IntKind.i64 ((↑s : Int) + (1 : Int))), poi, poi, poi, poi, poi, poi, poi, poi, poi, poi] = [Value.slice (some { block := (0 : Nat), off := off }) n c, Value.func (Fn.func (65 : Nat)) #[] #[], poi, poi, poi, poi, poi, Value.int IntKind.i64 (↑n : Int), Value.int IntKind.i64 (↑s' : Int), poi, poi, poi, poi, poi, poi, poi, poi, poi, poi] ∧ some (AObj.row (flts xs) (1 : Nat) true true true) :: noH = some (AObj.row (flts xs) (1 : Nat) true true true) :: noH)) (K (Value.int IntKind.i64 (-1 : Int)) (some (AObj.row (flts xs) (1 : Nat) true true true) :: noH))) := by kernel_rfl
theorem flts_len (xs : List Nat) : (flts xs).length = xs.length := by simp [flts]
theorem flts_at {xs : List Nat} {i : Nat} (h : i < xs.length) : (flts xs)[i]? = some (.float .f32 (xs.getD i 0)) := by
  simp [flts, List.getElem?_map, List.getElem?_eq_getElem h, List.getD_eq_getElem?_getD]
theorem spn_drop {hs : List Int} {s : Nat} (h : s * 2 + 2 ≤ hs.length) : hs.drop (s * 2) = hs.getD (s * 2) 0 :: hs.getD (s * 2 + 1) 0 :: hs.drop ((s + 1) * 2) := by
  have h1 : s * 2 < hs.length := by omega
  have h2 : s * 2 + 1 < hs.length := by omega
  have e : (s + 1) * 2 = s * 2 + 1 + 1 := by omega
  rw [List.drop_eq_getElem_cons h1, List.drop_eq_getElem_cons h2, e]
  simp only [List.getD_eq_getElem?_getD, List.getElem?_eq_getElem h1, List.getElem?_eq_getElem h2, Option.getD_some]
theorem ldh {hs : List Int} {i : Nat} (h : i + 2 ≤ hs.length) : (if i + 2 ≤ (ints hs).length then some (Value.agg (List.toArray (List.take 2 (List.drop i (ints hs))))) else none) =
    some (.agg #[.int .i64 (hs.getD i 0), .int .i64 (hs.getD (i + 1) 0)]) := by
  rw [ints_len, if_pos h, ints_pair h]
theorem hix_kn : ∀ (hs : List Int) (i : Int) (k : Nat), decide (0 ≤ hix hs i k) = !knB hs i
  | [], _, _ => rfl
  | [_], _, _ => rfl
  | a :: b :: r, i, k => by
    rw [hix, knB]
    cases h : decide (a ≤ i) && decide (i < b) with
    | true => simp
    | false => simpa using hix_kn r i (k + 1)
set_option maxRecDepth 100000 in
theorem hx_ok {hs : List Int} {k c : Nat} {m : Bool} {i : Int} (hk : hs.length = k * 2) (h9 : k ≤ 100000) :
    SmallRes Tryd.prog 69 [.slice (some ⟨0, 0, none⟩) k c, cloH] [some (.row (ints hs) 2 m false true), some (.row [.int .i64 i] 0 false true true)] (.int .i64 (hix hs i 0)) [some (.row (ints hs) 2 m false true), some (.row [.int .i64 i] 0 false true true)] := by
  refine fnP_res hm cH1_ok (hs := hsHx hs k c m i) ?_
  rw [hx_t]
  refine ⟨⟨(0 : Nat), ⟨by omega, by rw [Nat.zero_mul, List.drop_zero]⟩, by first | trivial | rfl, by first | trivial | rfl⟩, fun s hs' => br_of (fun hc => ?_) (fun hc => ?_)⟩
  · have hc := lt_of_dec hc
    obtain ⟨i1, i2⟩ := hs'.out
    rw [spn_drop (show s * 2 + 2 ≤ hs.length by omega), hix] at i2
    simp only [Nat.zero_add, Int.toNat_natCast]
    refine ⟨⟨by omega, by omega⟩, ⟨ldh (by omega)⟩, br_of (fun hb => ?_) (fun hb => ⟨s + 1, ⟨hc, ?_⟩, ⟨by omega⟩, by rw [up1 hc (by omega)], by first | trivial | rfl⟩)⟩
    · rw [if_pos hb] at i2
      rw [← i2]
      exact ⟨by first | trivial | rfl, by first | trivial | rfl⟩
    · rw [if_neg (by rw [hb]; decide)] at i2
      exact i2
  · have hc := ge_of_dec hc
    obtain ⟨i1, i2⟩ := hs'.out
    rw [List.drop_eq_nil_of_le (by omega), hix] at i2
    · rw [← i2]
      exact ⟨by first | trivial | rfl, by first | trivial | rfl⟩
    · intro a b r h; cases h
noncomputable def orcHx (hs : List Int) : OrcV
  | [.slice (some ⟨0, 0, none⟩) k _, .func (.func 67) ⟨[]⟩ ⟨[.pointer (some ⟨1, 0, none⟩)]⟩], [some (.row e1 2 m false true), some (.row [.int .i64 i] 0 false true true)] =>
    some (.int .i64 (hix hs i 0), [some (.row e1 2 m false true), some (.row [.int .i64 i] 0 false true true)], e1 = ints hs ∧ hs.length = k * 2 ∧ k ≤ 100000)
  | _, _ => none
theorem okHx (hs : List Int) : OkV Tryd.prog 69 (orcHx hs) := by
  intro args H ret H' vc h hv
  unfold orcHx at h
  split at h
  · cases h
    obtain ⟨rfl, h1, h2⟩ := hv
    exact hx_ok h1 h2
  · cases h
noncomputable def hsHc (hs : List Int) : Hs Tryd.prog where
  au := auCalls [(69, hCa Tryd.prog 69 (orcHx hs) (okHx hs))]
theorem hc_t (hs : List Int) (k : Nat) (c : Nat) (m : Bool) (i : Int) (K : Value → Heap → Prop) :
    (fnP Tryd.prog c0 (hsHc hs) (66 : FuncId) [Value.slice (some { block := (0 : Nat), off := (0 : Nat) }) k c, cloH] [some (AObj.row (ints hs) (2 : Nat) m false true), some (AObj.row [Value.int IntKind.i64 i] (0 : Nat) false true true)] K) =
    (Is (ints hs = ints hs ∧ List.length hs = k * (2 : Nat) ∧ k ≤ (100000 : Nat)) ∧ K (Value.bool (decide ((0 : Int) ≤ hix hs i (0 : Nat)))) (some (AObj.row (ints hs) (2 : Nat) m false true) :: some (AObj.row [Value.int IntKind.i64 i] (0 : Nat) false true true) :: noH)) := by kernel_rfl
noncomputable def orcHc (hs : List Int) : OrcV
  | [.slice (some ⟨0, 0, none⟩) k _, .func (.func 67) ⟨[]⟩ ⟨[.pointer (some ⟨1, 0, none⟩)]⟩], [some (.row e1 2 m false true), some (.row [.int .i64 i] 0 false true true)] =>
    some (.bool (!knB hs i), [some (.row e1 2 m false true), some (.row [.int .i64 i] 0 false true true)], e1 = ints hs ∧ hs.length = k * 2 ∧ k ≤ 100000)
  | _, _ => none
theorem okHc (hs : List Int) : OkV Tryd.prog 66 (orcHc hs) := by
  intro args H ret H' vc h hv
  unfold orcHc at h
  split at h
  · rename_i k c e1 m i
    cases h
    obtain ⟨rfl, h1, h2⟩ := hv
    refine fnP_res hm c0_ok (hs := hsHc hs) ?_
    show fnP Tryd.prog c0 (hsHc hs) 66 [_, cloH] _ _
    rw [hc_t, ← hix_kn hs i 0]
    exact ⟨⟨by first | trivial | rfl, h1, h2⟩, by first | trivial | rfl, by first | trivial | rfl⟩
  · cases h
noncomputable def hsHd (hs : List Int) : Hs Tryd.prog where
  au := auCalls [(66, hCa Tryd.prog 66 (orcHc hs) (okHc hs))]
theorem hd_t (nm : ByteArray) (f : Int) (n : Nat) (c : Nat) (k : Nat) (d : Nat) (xs : List Nat) (hs : List Int) (m1 : Bool) (m2 : Bool) (i : Int) (K : Value → Heap → Prop) :
    (fnP Tryd.prog c0 (hsHd hs) (60 : FuncId) [Value.agg (List.toArray (runA nm f (0 : Nat) n c (1 : Nat) k d)), Value.int IntKind.i64 i] (hp2r xs hs m1 false m2 false []) K) =
    (Is (ints hs = ints hs ∧ List.length hs = k * (2 : Nat) ∧ k ≤ (100000 : Nat)) ∧ K (Value.bool !knB hs i) (some (AObj.row (flts xs) (1 : Nat) m1 false true) :: some (AObj.row (ints hs) (2 : Nat) m2 false true) :: noH)) := by kernel_rfl
noncomputable def isRn0 (xs : List Nat) (hs : List Int) (k : Nat) (e1 e2 : List Value) : Prop := e1 = flts xs ∧ e2 = ints hs ∧ hs.length = k * 2 ∧ k ≤ 100000
theorem hd_ok {nm : ByteArray} {f : Int} {n c k d : Nat} {xs : List Nat} {hs : List Int} {m1 m2 : Bool} {i : Int} (h1 : hs.length = k * 2) (h2 : k ≤ 100000) :
    SmallRes Tryd.prog 60 [.agg (runA nm f 0 n c 1 k d).toArray, .int .i64 i] (hp2r xs hs m1 false m2 false []) (.bool (!knB hs i)) (hp2r xs hs m1 false m2 false []) := by
  refine fnP_res hm c0_ok (hs := hsHd hs) ?_
  rw [hd_t]
  exact ⟨⟨by first | trivial | rfl, h1, h2⟩, by first | trivial | rfl, by first | trivial | rfl⟩
noncomputable def orcHd (xs : List Nat) (hs : List Int) : OrcV
  | [.agg ⟨[.string _, .int .i64 _, .slice (some ⟨0, 0, none⟩) _ _, .slice (some ⟨1, 0, none⟩) k _]⟩, .int .i64 i], [some (.row e1 1 m1 w true), some (.row e2 2 m2 w2 true)] =>
    some (.bool (!knB hs i), [some (.row e1 1 m1 w true), some (.row e2 2 m2 w2 true)], isRn0 xs hs k e1 e2 ∧ w = w2)
  | _, _ => none
theorem okHd (xs : List Nat) (hs : List Int) : OkV Tryd.prog 60 (orcHd xs hs) := by
  intro args H ret H' vc h hv
  unfold orcHd at h
  split at h
  · rename_i nm f n c k d i e1 m1 w e2 m2 w2
    cases h
    obtain ⟨⟨rfl, rfl, h1, h2⟩, rfl⟩ := hv
    cases w with
    | false => exact hd_ok h1 h2
    | true => exact regain (H := hp2r xs hs m1 true m2 true []) [0, 1] (hd_ok (m1 := m1) (m2 := m2) h1 h2) (by rfl) (by rfl)
  · cases h
set_option maxRecDepth 100000 in
theorem nzi_ok {xs : List Nat} {off n c : Nat} (hn : off + n ≤ xs.length) (h9 : n ≤ 100000) :
    SmallRes Tryd.prog 68 [.slice (some ⟨0, off, none⟩) n c, .func (.func 65) #[] #[]] [some (.row (flts xs) 1 true true true)] (.int .i64 (nzI ((xs.drop off).take n) 0)) [some (.row (flts xs) 1 true true true)] := by
  refine fnP_res hm cNz_ok (hs := hsNz xs off n c) ?_
  rw [nzi_t]
  have hl : ((xs.drop off).take n).length = n := by rw [List.length_take, List.length_drop]; omega
  refine ⟨⟨(0 : Nat), ⟨by omega, by rw [List.drop_zero]⟩, by first | trivial | rfl, by first | trivial | rfl⟩, fun s hs' => br_of (fun hc => ?_) (fun hc => ?_)⟩
  · have hc := lt_of_dec hc
    obtain ⟨i1, i2⟩ := hs'.out
    have e : ((xs.drop off).take n).drop s = xs.getD (off + s) 0 :: ((xs.drop off).take n).drop (s + 1) := by
      rw [List.drop_eq_getElem_cons (by omega)]
      congr 1
      simp only [List.getElem_take, List.getElem_drop, List.getD_eq_getElem?_getD, List.getElem?_eq_getElem (show off + s < xs.length by omega), Option.getD_some]
    rw [e, nzI] at i2
    simp only [Nat.mul_one, Int.toNat_natCast]
    refine ⟨⟨by omega, by omega⟩, ⟨flts_at (by omega)⟩, br_of (fun hb => ?_) (fun hb => ⟨s + 1, ⟨hc, ?_⟩, ⟨by omega⟩, by rw [up1 hc (by omega)], by first | trivial | rfl⟩)⟩
    · have hb : nzB (xs.getD (off + s) 0) = true := hb
      rw [if_pos hb] at i2
      rw [← i2]
      exact ⟨by first | trivial | rfl, by first | trivial | rfl⟩
    · have hb : nzB (xs.getD (off + s) 0) = false := hb
      rw [if_neg (by rw [hb]; decide)] at i2
      exact i2
  · have hc := ge_of_dec hc
    obtain ⟨i1, i2⟩ := hs'.out
    rw [List.drop_eq_nil_of_le (by omega), nzI] at i2
    rw [← i2]
    exact ⟨by first | trivial | rfl, by first | trivial | rfl⟩
theorem nzI_any : ∀ (l : List Nat) (k : Nat), decide (0 ≤ nzI l k) = l.any nzB
  | [], _ => rfl
  | x :: r, k => by
    rw [nzI, List.any_cons]
    cases h : nzB x with
    | true => simp
    | false => simpa using nzI_any r (k + 1)
noncomputable def orcNzi (xs : List Nat) : OrcV
  | [.slice (some ⟨0, off, none⟩) n _, .func (.func 65) ⟨[]⟩ ⟨[]⟩], [some (.row e1 1 true true true)] => some (.int .i64 (nzI ((xs.drop off).take n) 0), [some (.row e1 1 true true true)], e1 = flts xs ∧ off + n ≤ xs.length ∧ n ≤ 100000)
  | _, _ => none
theorem okNzi (xs : List Nat) : OkV Tryd.prog 68 (orcNzi xs) := by
  intro args H ret H' vc h hv
  unfold orcNzi at h
  split at h
  · cases h
    obtain ⟨rfl, h1, h2⟩ := hv
    exact nzi_ok h1 h2
  · cases h
noncomputable def hsNc (xs : List Nat) : Hs Tryd.prog where
  au := auCalls [(68, hCa Tryd.prog 68 (orcNzi xs) (okNzi xs))]
theorem nc_t (xs : List Nat) (off : Nat) (n : Nat) (c : Nat) (K : Value → Heap → Prop) :
    (fnP Tryd.prog c0 (hsNc xs) (64 : FuncId) [Value.slice (some { block := (0 : Nat), off := off }) n c, Value.func (Fn.func (65 : FuncId)) #[] #[]] [some (AObj.row (flts xs) (1 : Nat) true true true)] K) =
    (Is (flts xs = flts xs ∧ off + n ≤ List.length xs ∧ n ≤ (100000 : Nat)) ∧ K (Value.bool (decide ((0 : Int) ≤ nzI (List.take n (List.drop off xs)) (0 : Nat)))) (some (AObj.row (flts xs) (1 : Nat) true true true) :: noH)) := by kernel_rfl
noncomputable def orcNc (xs : List Nat) : OrcV
  | [.slice (some ⟨0, off, none⟩) n _, .func (.func 65) ⟨[]⟩ ⟨[]⟩], [some (.row e1 1 true true true)] => some (.bool (((xs.drop off).take n).any nzB), [some (.row e1 1 true true true)], e1 = flts xs ∧ off + n ≤ xs.length ∧ n ≤ 100000)
  | _, _ => none
theorem okNc (xs : List Nat) : OkV Tryd.prog 64 (orcNc xs) := by
  intro args H ret H' vc h hv
  unfold orcNc at h
  split at h
  · rename_i off n c e1
    cases h
    obtain ⟨rfl, h1, h2⟩ := hv
    refine fnP_res hm c0_ok (hs := hsNc xs) ?_
    show fnP Tryd.prog c0 (hsNc xs) 64 [_, .func (.func 65) #[] #[]] _ _
    rw [nc_t, ← nzI_any _ 0]
    exact ⟨⟨by first | trivial | rfl, h1, h2⟩, by first | trivial | rfl, by first | trivial | rfl⟩
  · cases h
end
end Qq
end
section
/- Runs, checked: the program. -/
open Go Go.Vm Go.Proofs Sp
namespace Sp
noncomputable section
noncomputable def runE (nm : ByteArray) (f : Int) (xs : List Nat) (n : Nat) (hs : List Int) : Int :=
  sel (fi [wh (!nameB nm) 8, wi f 0 100000000, wh (decide ((4096 : Int) < n)) 5]) (sel (fi [fi (xs.map sE), wh (decide ((100000000 : Int) < f + n)) 4]) (sel (hchk n hs (-1)) (wh (!hzH xs hs) 1)))
end
end Sp
namespace Qq
noncomputable section
/- The errors of samples. -/
noncomputable def fS1 : Value := .func (.func 38) #[] #[]
noncomputable def oneR (l : List Int) : Option AObj := some (.row (ints l) 1 true true true)
noncomputable def fR (xs : List Nat) : Option AObj := some (.row (flts xs) 1 true true true)
noncomputable def lpMe0 (xs : List Nat) (n c : Nat) : Lp where
  σ := Nat
  E _ := slots 22 [(0, .slice (some ⟨0, 0, none⟩) n c), (1, fS1), (5, .slice (some ⟨1, 0, none⟩) 0 0)]
  Hp _ := [fR xs, oneR []]
  I s := s = 0
  m _ := 0
noncomputable def lpMe (xs : List Nat) (n c : Nat) : Lp where
  σ := Nat
  E i := slots 22 [(1, fS1), (5, .slice (some ⟨1, 0, none⟩) i 0), (8, .slice (some ⟨0, 0, none⟩) n c), (9, .int .i64 (Int.ofNat n)), (10, .int .i64 (Int.ofNat i))]
  Hp i := [fR xs, oneR ((xs.take i).map sE)]
  I i := i ≤ n
  m i := n - i
noncomputable def hsMe (xs : List Nat) (n c : Nat) : Hs Tryd.prog where
  op y := if y = 400 then some (hIa Tryd.prog) else if y = 401 then some (hLd Tryd.prog (xF xs)) else if y = 505 then some (hAp Tryd.prog) else none
  cut y := if y = 2 then some (lpMe0 xs n c) else none
  lp _ := some (lpMe xs n c)
  cl y := if y = 2 then keep 22 [0, 1, 5] else keep 22 [1, 5, 8, 9, 10]
  nl y := if y = 2 then [.slot 5 1] else []
  au := au0 Tryd.prog
noncomputable def tMe : List (Nat × Orc) := [(38, orcSm1)]
noncomputable def cMe : CallF := ctx Tryd.prog tMe
theorem cMe_ok : CallOK Tryd.prog cMe := ctx_ok hm (all_cons okSm1 all_nil)
theorem me_t (xs : List Nat) (n : Nat) (c : Nat) (K : Value → Heap → Prop) :
    (fnP Tryd.prog cMe (hsMe xs n c) (56 : FuncId) [Value.slice (some { block := (0 : Nat), off := (0 : Nat) }) n c, fS1] [fR xs] K) =
    ((∃ (s : Nat), Is (s = (0 : Nat)) ∧ [Value.slice (some { block := (0 : Nat), off := (0 : Nat) }) n c, Value.func (Fn.func (38 : Nat)) #[] #[], poi, poi, poi, Value.slice (some { block := (1 : Nat), off := (0 : Nat) }) (0 : Nat) (0 : Nat), poi, poi, poi, poi, poi, poi, poi, poi, poi, poi, poi, poi, poi, poi, poi, poi] = [Value.slice (some { block := (0 : Nat), off := (0 : Nat) }) n c, Value.func (Fn.func (38 : Nat)) #[] #[], poi, poi, poi, Value.slice (some { block := (1 : Nat), off := (0 : Nat) }) (0 : Nat) (0 : Nat), poi, poi, poi, poi, poi, poi, poi, poi, poi, poi, poi, poi, poi, poi, poi, poi] ∧ some (AObj.row (flts xs) (1 : Nat) true true true) :: some (AObj.row [] (1 : Nat) true true true) :: noH = some (AObj.row (flts xs) (1 : Nat) true true true) :: some (AObj.row [] (1 : Nat) true true true) :: noH) ∧ ∀ (s : Nat), Is (s = (0 : Nat)) → (∃ (s : Nat), Is (s ≤ n) ∧ [poi, Value.func (Fn.func (38 : Nat)) #[] #[], poi, poi, poi, Value.slice (some { block := (1 : Nat), off := (0 : Nat) }) (0 : Nat) (0 : Nat), poi, poi, Value.slice (some { block := (0 : Nat), off := (0 : Nat) }) n c, Value.int IntKind.i64 (↑n : Int), Value.int IntKind.i64 (0 : Int), poi, poi, poi, poi, poi, poi, poi, poi, poi, poi, poi] = [poi, Value.func (Fn.func (38 : Nat)) #[] #[], poi, poi, poi, Value.slice (some { block := (1 : Nat), off := (0 : Nat) }) s (0 : Nat), poi, poi, Value.slice (some { block := (0 : Nat), off := (0 : Nat) }) n c, Value.int IntKind.i64 (↑n : Int), Value.int IntKind.i64 (↑s : Int), poi, poi, poi, poi, poi, poi, poi, poi, poi, poi, poi] ∧ some (AObj.row (flts xs) (1 : Nat) true true true) :: some (AObj.row [] (1 : Nat) true true true) :: noH = some (AObj.row (flts xs) (1 : Nat) true true true) :: some (AObj.row (ints (List.map sE (List.take s xs))) (1 : Nat) true true true) :: noH) ∧ ∀ (s : Nat), Is (s ≤ n) → br (decide ((↑s : Int) < (↑n : Int))) (Is ((0 : Int) ≤ (↑s : Int) ∧ (↑s : Int) < (↑n : Int)) ∧ Is ((flts xs)[(0 : Nat) + Int.toNat (↑s : Int) * (1 : Nat)]? = some (Value.float FloatKind.f32 (List.getD xs ((0 : Nat) + Int.toNat (↑s : Int) * (1 : Nat)) (0 : Nat)))) ∧ Is (List.length (ints (List.map sE (List.take s xs))) = s * (1 : Nat) ∧ (s + (1 : Nat)) * (8 : Nat) ≤ (140737488355328 : Nat) ∧ s + (1 : Nat) ≤ (9223372036854775807 : Nat)) ∧ ∃ (s' : Nat), Is (s' ≤ n) ∧ Is (n - s' < n - s) ∧ [poi, Value.func (Fn.func (38 : Nat)) #[] #[], poi, poi, poi, Value.slice (some { block := (1 : Nat), off := (0 : Nat) }) (s + (1 : Nat)) (0 : Nat), poi, poi, Value.slice (some { block := (0 : Nat), off := (0 : Nat) }) n c, Value.int IntKind.i64 (↑n : Int), Value.int IntKind.i64 (IntKind.wrap IntKind.i64 ((↑s : Int) + (1 : Int))), poi, poi, poi, poi, poi, poi, poi, poi, poi, poi, poi] = [poi, Value.func (Fn.func (38 : Nat)) #[] #[], poi, poi, poi, Value.slice (some { block := (1 : Nat), off := (0 : Nat) }) s' (0 : Nat), poi, poi, Value.slice (some { block := (0 : Nat), off := (0 : Nat) }) n c, Value.int IntKind.i64 (↑n : Int), Value.int IntKind.i64 (↑s' : Int), poi, poi, poi, poi, poi, poi, poi, poi, poi, poi, poi] ∧ some (AObj.row (flts xs) (1 : Nat) true true true) :: some (AObj.row (ints (List.map sE (List.take s xs)) ++ [Value.int IntKind.i64 (sE (List.getD xs ((0 : Nat) + Int.toNat (↑s : Int) * (1 : Nat)) (0 : Nat)))]) (1 : Nat) true true (List.all [Value.int IntKind.i64 (sE (List.getD xs ((0 : Nat) + Int.toNat (↑s : Int) * (1 : Nat)) (0 : Nat)))] atom)) :: noH = some (AObj.row (flts xs) (1 : Nat) true true true) :: some (AObj.row (ints (List.map sE (List.take s' xs))) (1 : Nat) true true true) :: noH) (K (Value.slice (some { block := (1 : Nat), off := (0 : Nat) }) s (0 : Nat)) (some (AObj.row (flts xs) (1 : Nat) true true true) :: some (AObj.row (ints (List.map sE (List.take s xs))) (1 : Nat) true true true) :: noH))) := by kernel_rfl
/- Holes. -/
noncomputable def runO (nm : ByteArray) (f : Int) (n c k d : Nat) : Option AObj := some (.row (runA nm f 0 n c 1 k d) 0 false true false)
noncomputable def lpCh1 (nm : ByteArray) (f : Int) (n c k d : Nat) (xs : List Nat) (hs : List Int) : Lp where
  σ := Nat × Int
  E s := slots 64 [(1, .pointer (some ⟨2, 0, none⟩)), (3, .int .i64 s.2), (10, .slice (some ⟨1, 0, none⟩) k d), (11, .int .i64 (Int.ofNat k)), (12, .int .i64 (Int.ofNat s.1))]
  Hp _ := hp2r xs hs true true true true [runO nm f n c k d]
  I s := s.1 ≤ k ∧ hchk n (hs.drop (s.1 * 2)) s.2 = hchk n hs (-1)
  m s := k - s.1
noncomputable def lpCh2 (nm : ByteArray) (f : Int) (n c k d : Nat) (xs : List Nat) (hs : List Int) : Lp where
  σ := Nat
  E s := slots 64 [(1, .pointer (some ⟨2, 0, none⟩)), (49, .slice (some ⟨1, 0, none⟩) k d), (50, .int .i64 (Int.ofNat k)), (51, .int .i64 (Int.ofNat s))]
  Hp _ := hp2r xs hs true true true true [runO nm f n c k d]
  I s := s ≤ k ∧ hzH xs (hs.drop (s * 2)) = hzH xs hs
  m s := k - s
noncomputable def hsCh (nm : ByteArray) (f : Int) (n c k d : Nat) (xs : List Nat) (hs : List Int) : Hs Tryd.prog where
  op y := if [400, 1200].contains y then some (hIa Tryd.prog) else if [401, 1201].contains y then some (hLd Tryd.prog (z2 hs)) else if y = 1306 then some (hSl Tryd.prog) else none
  lp y := if y = 3 then some (lpCh1 nm f n c k d xs hs) else some (lpCh2 nm f n c k d xs hs)
  cl y := if y = 3 then keep 64 [1, 3, 10, 11, 12] else keep 64 [1, 49, 50, 51]
  au := auCalls [(64, hCa Tryd.prog 64 (orcNc xs) (okNc xs))]
theorem ch_t (nm : ByteArray) (f : Int) (n : Nat) (c : Nat) (k : Nat) (d : Nat) (xs : List Nat) (hs : List Int) (K : Value → Heap → Prop) :
    (fnP Tryd.prog cs2 (hsCh nm f n c k d xs hs) (57 : FuncId) [Value.agg (List.toArray (runA nm f (0 : Nat) n c (1 : Nat) k d))] (hp2r xs hs true true true true []) K) =
    ((∃ (s : Nat × Int), Is (Prod.fst s ≤ k ∧ hchk (↑n : Int) (List.drop (Prod.fst s * (2 : Nat)) hs) (Prod.snd s) = hchk (↑n : Int) hs (-1 : Int)) ∧ [poi, Value.pointer (some { block := (2 : Nat), off := (0 : Nat) }), poi, Value.int IntKind.i64 (-1 : Int), poi, poi, poi, poi, poi, poi, Value.slice (some { block := (1 : Nat), off := (0 : Nat) }) k d, Value.int IntKind.i64 (↑k : Int), Value.int IntKind.i64 (0 : Int), poi, poi, poi, poi, poi, poi, poi, poi, poi, poi, poi, poi, poi, poi, poi, poi, poi, poi, poi, poi, poi, poi, poi, poi, poi, poi, poi, poi, poi, poi, poi, poi, poi, poi, poi, poi, poi, poi, poi, poi, poi, poi, poi, poi, poi, poi, poi, poi, poi, poi, poi] = [poi, Value.pointer (some { block := (2 : Nat), off := (0 : Nat) }), poi, Value.int IntKind.i64 (Prod.snd s), poi, poi, poi, poi, poi, poi, Value.slice (some { block := (1 : Nat), off := (0 : Nat) }) k d, Value.int IntKind.i64 (↑k : Int), Value.int IntKind.i64 (↑(Prod.fst s) : Int), poi, poi, poi, poi, poi, poi, poi, poi, poi, poi, poi, poi, poi, poi, poi, poi, poi, poi, poi, poi, poi, poi, poi, poi, poi, poi, poi, poi, poi, poi, poi, poi, poi, poi, poi, poi, poi, poi, poi, poi, poi, poi, poi, poi, poi, poi, poi, poi, poi, poi, poi] ∧ some (AObj.row (flts xs) (1 : Nat) true true true) :: some (AObj.row (ints hs) (2 : Nat) true true true) :: some (AObj.row [Value.string nm, Value.int IntKind.i64 f, Value.slice (some { block := (0 : Nat), off := (0 : Nat) }) n c, Value.slice (some { block := (1 : Nat), off := (0 : Nat) }) k d] (0 : Nat) false true (List.all [Value.string nm, Value.int IntKind.i64 f, Value.slice (some { block := (0 : Nat), off := (0 : Nat) }) n c, Value.slice (some { block := (1 : Nat), off := (0 : Nat) }) k d] atom)) :: noH = some (AObj.row (flts xs) (1 : Nat) true true true) :: some (AObj.row (ints hs) (2 : Nat) true true true) :: some (AObj.row [Value.string nm, Value.int IntKind.i64 f, Value.slice (some { block := (0 : Nat), off := (0 : Nat) }) n c, Value.slice (some { block := (1 : Nat), off := (0 : Nat) }) k d] (0 : Nat) false true false) :: noH) ∧ ∀ (s : Nat × Int), Is (Prod.fst s ≤ k ∧ hchk (↑n : Int) (List.drop (Prod.fst s * (2 : Nat)) hs) (Prod.snd s) = hchk (↑n : Int) hs (-1 : Int)) → br (decide ((↑(Prod.fst s) : Int) < (↑k : Int))) (Is ((0 : Int) ≤ (↑(Prod.fst s) : Int) ∧ (↑(Prod.fst s) : Int) < (↑k : Int)) ∧ Is ((if (0 : Nat) + Int.toNat (↑(Prod.fst s) : Int) * (2 : Nat) + (2 : Nat) ≤ List.length (ints hs) then some (Value.agg (List.toArray (List.take (2 : Nat) (List.drop ((0 : Nat) + Int.toNat (↑(Prod.fst s) : Int) * (2 : Nat)) (ints hs))))) else none) = some (Value.agg #[Value.int IntKind.i64 (List.getD hs ((0 : Nat) + Int.toNat (↑(Prod.fst s) : Int) * (2 : Nat)) (0 : Int)), Value.int IntKind.i64 (List.getD hs ((0 : Nat) + Int.toNat (↑(Prod.fst s) : Int) * (2 : Nat) + (1 : Nat)) (0 : Int))])) ∧ br (decide (List.getD hs ((0 : Nat) + Int.toNat (↑(Prod.fst s) : Int) * (2 : Nat)) (0 : Int) < (0 : Int))) (K (Value.int IntKind.i64 (fi [(14 : Int), wh (decide (List.getD hs ((0 : Nat) + Int.toNat (↑(Prod.fst s) : Int) * (2 : Nat)) (0 : Int) ≤ Prod.snd s)) (11 : Int)])) (some (AObj.row (flts xs) (1 : Nat) true true true) :: some (AObj.row (ints hs) (2 : Nat) true true true) :: noH)) (br (decide (List.getD hs ((0 : Nat) + Int.toNat (↑(Prod.fst s) : Int) * (2 : Nat) + (1 : Nat)) (0 : Int) ≤ List.getD hs ((0 : Nat) + Int.toNat (↑(Prod.fst s) : Int) * (2 : Nat)) (0 : Int))) (K (Value.int IntKind.i64 (fi [(14 : Int), wh (decide (List.getD hs ((0 : Nat) + Int.toNat (↑(Prod.fst s) : Int) * (2 : Nat)) (0 : Int) ≤ Prod.snd s)) (11 : Int)])) (some (AObj.row (flts xs) (1 : Nat) true true true) :: some (AObj.row (ints hs) (2 : Nat) true true true) :: noH)) (br (fi [wh (decide ((↑n : Int) < List.getD hs ((0 : Nat) + Int.toNat (↑(Prod.fst s) : Int) * (2 : Nat) + (1 : Nat)) (0 : Int))) (14 : Int), wh (decide (List.getD hs ((0 : Nat) + Int.toNat (↑(Prod.fst s) : Int) * (2 : Nat)) (0 : Int) ≤ Prod.snd s)) (11 : Int)] != (0 : Int)) (K (Value.int IntKind.i64 (fi [wh (decide ((↑n : Int) < List.getD hs ((0 : Nat) + Int.toNat (↑(Prod.fst s) : Int) * (2 : Nat) + (1 : Nat)) (0 : Int))) (14 : Int), wh (decide (List.getD hs ((0 : Nat) + Int.toNat (↑(Prod.fst s) : Int) * (2 : Nat)) (0 : Int) ≤ Prod.snd s)) (11 : Int)])) (some (AObj.row (flts xs) (1 : Nat) true true true) :: some (AObj.row (ints hs) (2 : Nat) true true true) :: noH)) (∃ (s' : Nat × Int), Is (Prod.fst s' ≤ k ∧ hchk (↑n : Int) (List.drop (Prod.fst s' * (2 : Nat)) hs) (Prod.snd s') = hchk (↑n : Int) hs (-1 : Int)) ∧ Is (k - Prod.fst s' < k - Prod.fst s) ∧ [poi, Value.pointer (some { block := (2 : Nat), off := (0 : Nat) }), poi, Value.int IntKind.i64 (List.getD hs ((0 : Nat) + Int.toNat (↑(Prod.fst s) : Int) * (2 : Nat) + (1 : Nat)) (0 : Int)), poi, poi, poi, poi, poi, poi, Value.slice (some { block := (1 : Nat), off := (0 : Nat) }) k d, Value.int IntKind.i64 (↑k : Int), Value.int IntKind.i64 (IntKind.wrap IntKind.i64 ((↑(Prod.fst s) : Int) + (1 : Int))), poi, poi, poi, poi, poi, poi, poi, poi, poi, poi, poi, poi, poi, poi, poi, poi, poi, poi, poi, poi, poi, poi, poi, poi, poi, poi, poi, poi, poi, poi, poi, poi, poi, poi, poi, poi, poi, poi, poi, poi, poi, poi, poi, poi, poi, poi, poi, poi, poi, poi, poi] = [poi, Value.pointer (some { block := (2 : Nat), off := (0 : Nat) }), poi, Value.int IntKind.i64 (Prod.snd s'), poi, poi, poi, poi, poi, poi, Value.slice (some { block := (1 : Nat), off := (0 : Nat) }) k d, Value.int IntKind.i64 (↑k : Int), Value.int IntKind.i64 (↑(Prod.fst s') : Int), poi, poi, poi, poi, poi, poi, poi, poi, poi, poi, poi, poi, poi, poi, poi, poi, poi, poi, poi, poi, poi, poi, poi, poi, poi, poi, poi, poi, poi, poi, poi, poi, poi, poi, poi, poi, poi, poi, poi, poi, poi, poi, poi, poi, poi, poi, poi, poi, poi, poi, poi] ∧ some (AObj.row (flts xs) (1 : Nat) true true true) :: some (AObj.row (ints hs) (2 : Nat) true true true) :: some (AObj.row [Value.string nm, Value.int IntKind.i64 f, Value.slice (some { block := (0 : Nat), off := (0 : Nat) }) n c, Value.slice (some { block := (1 : Nat), off := (0 : Nat) }) k d] (0 : Nat) false true false) :: noH = some (AObj.row (flts xs) (1 : Nat) true true true) :: some (AObj.row (ints hs) (2 : Nat) true true true) :: some (AObj.row [Value.string nm, Value.int IntKind.i64 f, Value.slice (some { block := (0 : Nat), off := (0 : Nat) }) n c, Value.slice (some { block := (1 : Nat), off := (0 : Nat) }) k d] (0 : Nat) false true false) :: noH)))) ((∃ (s : Nat), Is (s ≤ k ∧ hzH xs (List.drop (s * (2 : Nat)) hs) = hzH xs hs) ∧ [poi, Value.pointer (some { block := (2 : Nat), off := (0 : Nat) }), poi, poi, poi, poi, poi, poi, poi, poi, poi, poi, poi, poi, poi, poi, poi, poi, poi, poi, poi, poi, poi, poi, poi, poi, poi, poi, poi, poi, poi, poi, poi, poi, poi, poi, poi, poi, poi, poi, poi, poi, poi, poi, poi, poi, poi, poi, poi, Value.slice (some { block := (1 : Nat), off := (0 : Nat) }) k d, Value.int IntKind.i64 (↑k : Int), Value.int IntKind.i64 (0 : Int), poi, poi, poi, poi, poi, poi, poi, poi, poi, poi, poi, poi] = [poi, Value.pointer (some { block := (2 : Nat), off := (0 : Nat) }), poi, poi, poi, poi, poi, poi, poi, poi, poi, poi, poi, poi, poi, poi, poi, poi, poi, poi, poi, poi, poi, poi, poi, poi, poi, poi, poi, poi, poi, poi, poi, poi, poi, poi, poi, poi, poi, poi, poi, poi, poi, poi, poi, poi, poi, poi, poi, Value.slice (some { block := (1 : Nat), off := (0 : Nat) }) k d, Value.int IntKind.i64 (↑k : Int), Value.int IntKind.i64 (↑s : Int), poi, poi, poi, poi, poi, poi, poi, poi, poi, poi, poi, poi] ∧ some (AObj.row (flts xs) (1 : Nat) true true true) :: some (AObj.row (ints hs) (2 : Nat) true true true) :: some (AObj.row [Value.string nm, Value.int IntKind.i64 f, Value.slice (some { block := (0 : Nat), off := (0 : Nat) }) n c, Value.slice (some { block := (1 : Nat), off := (0 : Nat) }) k d] (0 : Nat) false true false) :: noH = some (AObj.row (flts xs) (1 : Nat) true true true) :: some (AObj.row (ints hs) (2 : Nat) true true true) :: some (AObj.row [Value.string nm, Value.int IntKind.i64 f, Value.slice (some { block := (0 : Nat), off := (0 : Nat) }) n c, Value.slice (some { block := (1 : Nat), off := (0 : Nat) }) k d] (0 : Nat) false true false) :: noH) ∧ ∀ (s : Nat), Is (s ≤ k ∧ hzH xs (List.drop (s * (2 : Nat)) hs) = hzH xs hs) → br (decide ((↑s : Int) < (↑k : Int))) (Is ((0 : Int) ≤ (↑s : Int) ∧ (↑s : Int) < (↑k : Int)) ∧ Is ((if (0 : Nat) + Int.toNat (↑s : Int) * (2 : Nat) + (2 : Nat) ≤ List.length (ints hs) then some (Value.agg (List.toArray (List.take (2 : Nat) (List.drop ((0 : Nat) + Int.toNat (↑s : Int) * (2 : Nat)) (ints hs))))) else none) = some (Value.agg #[Value.int IntKind.i64 (List.getD hs ((0 : Nat) + Int.toNat (↑s : Int) * (2 : Nat)) (0 : Int)), Value.int IntKind.i64 (List.getD hs ((0 : Nat) + Int.toNat (↑s : Int) * (2 : Nat) + (1 : Nat)) (0 : Int))])) ∧ Is ((0 : Int) ≤ List.getD hs ((0 : Nat) + Int.toNat (↑s : Int) * (2 : Nat)) (0 : Int) ∧ List.getD hs ((0 : Nat) + Int.toNat (↑s : Int) * (2 : Nat)) (0 : Int) ≤ List.getD hs ((0 : Nat) + Int.toNat (↑s : Int) * (2 : Nat) + (1 : Nat)) (0 : Int) ∧ List.getD hs ((0 : Nat) + Int.toNat (↑s : Int) * (2 : Nat) + (1 : Nat)) (0 : Int) ≤ (↑n : Int)) ∧ Is (flts xs = flts xs ∧ (0 : Nat) + Int.toNat (List.getD hs ((0 : Nat) + Int.toNat (↑s : Int) * (2 : Nat)) (0 : Int)) * (1 : Nat) + (Int.toNat (List.getD hs ((0 : Nat) + Int.toNat (↑s : Int) * (2 : Nat) + (1 : Nat)) (0 : Int)) - Int.toNat (List.getD hs ((0 : Nat) + Int.toNat (↑s : Int) * (2 : Nat)) (0 : Int))) ≤ List.length xs ∧ Int.toNat (List.getD hs ((0 : Nat) + Int.toNat (↑s : Int) * (2 : Nat) + (1 : Nat)) (0 : Int)) - Int.toNat (List.getD hs ((0 : Nat) + Int.toNat (↑s : Int) * (2 : Nat)) (0 : Int)) ≤ (100000 : Nat)) ∧ br (List.any (List.take (Int.toNat (List.getD hs ((0 : Nat) + Int.toNat (↑s : Int) * (2 : Nat) + (1 : Nat)) (0 : Int)) - Int.toNat (List.getD hs ((0 : Nat) + Int.toNat (↑s : Int) * (2 : Nat)) (0 : Int))) (List.drop ((0 : Nat) + Int.toNat (List.getD hs ((0 : Nat) + Int.toNat (↑s : Int) * (2 : Nat)) (0 : Int)) * (1 : Nat)) xs)) nzB) (K (Value.int IntKind.i64 (1 : Int)) (some (AObj.row (flts xs) (1 : Nat) true true true) :: some (AObj.row (ints hs) (2 : Nat) true true true) :: noH)) (∃ (s' : Nat), Is (s' ≤ k ∧ hzH xs (List.drop (s' * (2 : Nat)) hs) = hzH xs hs) ∧ Is (k - s' < k - s) ∧ [poi, Value.pointer (some { block := (2 : Nat), off := (0 : Nat) }), poi, poi, poi, poi, poi, poi, poi, poi, poi, poi, poi, poi, poi, poi, poi, poi, poi, poi, poi, poi, poi, poi, poi, poi, poi, poi, poi, poi, poi, poi, poi, poi, poi, poi, poi, poi, poi, poi, poi, poi, poi, poi, poi, poi, poi, poi, poi, Value.slice (some { block := (1 : Nat), off := (0 : Nat) }) k d, Value.int IntKind.i64 (↑k : Int), Value.int IntKind.i64 (IntKind.wrap IntKind.i64 ((↑s : Int) + (1 : Int))), poi, poi, poi, poi, poi, poi, poi, poi, poi, poi, poi, poi] = [poi, Value.pointer (some { block := (2 : Nat), off := (0 : Nat) }), poi, poi, poi, poi, poi, poi, poi, poi, poi, poi, poi, poi, poi, poi, poi, poi, poi, poi, poi, poi, poi, poi, poi, poi, poi, poi, poi, poi, poi, poi, poi, poi, poi, poi, poi, poi, poi, poi, poi, poi, poi, poi, poi, poi, poi, poi, poi, Value.slice (some { block := (1 : Nat), off := (0 : Nat) }) k d, Value.int IntKind.i64 (↑k : Int), Value.int IntKind.i64 (↑s' : Int), poi, poi, poi, poi, poi, poi, poi, poi, poi, poi, poi, poi] ∧ some (AObj.row (flts xs) (1 : Nat) true true true) :: some (AObj.row (ints hs) (2 : Nat) true true true) :: some (AObj.row [Value.string nm, Value.int IntKind.i64 f, Value.slice (some { block := (0 : Nat), off := (0 : Nat) }) n c, Value.slice (some { block := (1 : Nat), off := (0 : Nat) }) k d] (0 : Nat) false true false) :: noH = some (AObj.row (flts xs) (1 : Nat) true true true) :: some (AObj.row (ints hs) (2 : Nat) true true true) :: some (AObj.row [Value.string nm, Value.int IntKind.i64 f, Value.slice (some { block := (0 : Nat), off := (0 : Nat) }) n c, Value.slice (some { block := (1 : Nat), off := (0 : Nat) }) k d] (0 : Nat) false true false) :: noH)) (K (Value.int IntKind.i64 (0 : Int)) (some (AObj.row (flts xs) (1 : Nat) true true true) :: some (AObj.row (ints hs) (2 : Nat) true true true) :: noH)))) := by kernel_rfl
theorem take_one {xs : List Nat} {s : Nat} (h : s < xs.length) : xs.take (s + 1) = xs.take s ++ [xs.getD s 0] := by
  rw [List.take_add_one]
  simp [List.getD_eq_getElem?_getD, h]
set_option maxRecDepth 100000 in
theorem me_ok {xs : List Nat} {n c : Nat} (hn : xs.length = n) (h9 : n ≤ 100000) :
    SmallRes Tryd.prog 56 [.slice (some ⟨0, 0, none⟩) n c, fS1] [fR xs] (.slice (some ⟨1, 0, none⟩) n 0) [fR xs, oneR (xs.map sE)] := by
  refine fnP_res hm cMe_ok (hs := hsMe xs n c) ?_
  rw [me_t]
  refine ⟨⟨(0 : Nat), ⟨rfl⟩, by first | trivial | rfl, by first | trivial | rfl⟩, fun _ _ => ⟨⟨(0 : Nat), ⟨by omega⟩, by first | trivial | rfl, by first | trivial | rfl⟩, fun s hs' => br_of (fun hc => ?_) (fun hc => ?_)⟩⟩
  · have hc := lt_of_dec hc
    simp only [Nat.zero_add, Nat.mul_one, Int.toNat_natCast]
    refine ⟨⟨by omega, by omega⟩, ⟨flts_at (by omega)⟩, ⟨by rw [ints_len, List.length_map, List.length_take]; omega, by omega, by omega⟩, s + 1, ⟨hc⟩, ⟨by omega⟩, ?_, ?_⟩
    · rw [up1 hc (by omega)]
    · rw [take_one (by omega), List.map_append, ← ints_app]; rfl
  · have hc := ge_of_dec hc
    have : s = n := by have := hs'.out; omega
    subst this
    rw [← hn, List.take_length]
    exact ⟨by first | trivial | rfl, by first | trivial | rfl⟩
noncomputable def orcMe (xs : List Nat) : OrcV
  | [.slice (some ⟨0, 0, none⟩) n _, .func (.func 38) ⟨[]⟩ ⟨[]⟩], [some (.row e1 1 true true true)] => some (.slice (some ⟨1, 0, none⟩) n 0, [some (.row e1 1 true true true), oneR (xs.map sE)], e1 = flts xs ∧ xs.length = n ∧ n ≤ 100000)
  | _, _ => none
theorem okMe (xs : List Nat) : OkV Tryd.prog 56 (orcMe xs) := by
  intro args H ret H' vc h hv
  unfold orcMe at h
  split at h
  · cases h
    obtain ⟨rfl, h1, h2⟩ := hv
    exact me_ok h1 h2
  · cases h
set_option maxRecDepth 100000 in
theorem firstS_ok {l : List Int} {n c : Nat} {more rw' : Bool} (hn : l.length = n) (hlt : n ≤ 100000) :
    SmallRes Tryd.prog 53 [.slice (some ⟨0, 0, none⟩) n c] [some (.row (ints l) 1 more rw' true)] (.int .i64 (fi l)) [some (.row (ints l) 1 more rw' true)] := by
  subst hn
  refine fnP_res hm c0_ok (hs := hFirst l l.length c 1 more rw') ?_
  rw [firstS_t]
  refine ⟨⟨(0 : Nat), ⟨by simp, by simp⟩, rfl, rfl⟩, fun s hs => ?_⟩
  obtain ⟨h1, h2⟩ := hs.out
  refine br_of (fun hc => ?_) (fun hc => ?_)
  · have hc : s < l.length := by simpa using hc
    refine ⟨⟨by omega, by omega⟩, ⟨by simpa using ints_at hc⟩, br_of (fun hd => ?_) (fun hd => ?_)⟩
    · have := fi_drop hc
      have hd' : l.getD s 0 ≠ 0 := by simpa using hd
      rw [if_neg hd'] at this
      simp [← h2, this]
    · have := fi_drop hc
      have hd' : l.getD s 0 = 0 := by simpa using hd
      rw [if_pos hd'] at this
      refine ⟨s + 1, ⟨hc, by rw [← this, h2]⟩, ⟨by omega⟩, ?_, rfl⟩
      rw [wrap_eq (by omega) (by omega)]
      rfl
  · have hc : l.length ≤ s := by simpa using hc
    have : s = l.length := by omega
    subst this
    simp [← h2, fi]
noncomputable def orcFiV (l : List Int) : OrcV
  | [.slice (some ⟨0, 0, none⟩) n _], [some (.row e1 1 m w true)] => some (.int .i64 (fi l), [some (.row e1 1 m w true)], e1 = ints l ∧ l.length = n ∧ n ≤ 100000)
  | _, _ => none
theorem okFiV (l : List Int) : OkV Tryd.prog 53 (orcFiV l) := by
  intro args H ret H' vc h hv
  unfold orcFiV at h
  split at h
  · cases h
    obtain ⟨rfl, h1, h2⟩ := hv
    exact firstS_ok h1 h2
  · cases h
/-- A span that is checked. -/
theorem hchk_all {n : Int} : ∀ (hs : List Int) (last : Int), hchk n hs last = 0 → ∀ i, i * 2 + 2 ≤ hs.length → last < hs.getD (i * 2) 0 ∧ 0 ≤ hs.getD (i * 2) 0 ∧ hs.getD (i * 2) 0 < hs.getD (i * 2 + 1) 0 ∧ hs.getD (i * 2 + 1) 0 ≤ n
  | [], _, _, i, h => by simp at h
  | [_], _, _, i, h => by simp only [List.length_cons, List.length_nil] at h; omega
  | a :: b :: r, last, h, i, hi => by
    rw [hchk] at h
    obtain ⟨h1, h2⟩ := sel_zero.1 h
    have k1 := (wh_zero (by decide)).1 (fi_zero.1 h1 (wh (decide (a < 0) || (decide (b ≤ a) || decide (n < b))) 14) (by simp))
    have k2 := (wh_zero (by decide)).1 (fi_zero.1 h1 (wh (decide (a ≤ last)) 11) (by simp))
    simp only [Bool.or_eq_false_iff, decide_eq_false_iff_not] at k1 k2
    match i with
    | 0 => simp only [Nat.zero_mul, Nat.zero_add, List.getD_cons_zero, List.getD_cons_succ]; omega
    | i + 1 =>
      have := hchk_all r b h2 i (by simp only [List.length_cons] at hi; omega)
      rw [show (i + 1) * 2 = i * 2 + 1 + 1 by omega]
      simp only [List.getD_cons_succ]
      omega
set_option maxRecDepth 100000 in
theorem ch_ok {nm : ByteArray} {f : Int} {n c k d : Nat} {xs : List Nat} {hs : List Int} (hn : xs.length = n) (h9 : n ≤ 100000) (hk : hs.length = k * 2) (hk9 : k ≤ 100000) :
    SmallRes Tryd.prog 57 [.agg (runA nm f 0 n c 1 k d).toArray] (hp2r xs hs true true true true []) (.int .i64 (sel (hchk n hs (-1)) (wh (!hzH xs hs) 1))) (hp2r xs hs true true true true []) := by
  refine fnP_res hm cs2_ok (hs := hsCh nm f n c k d xs hs) ?_
  rw [ch_t]
  refine ⟨⟨((0 : Nat), (-1 : Int)), ⟨by omega, by rw [Nat.zero_mul, List.drop_zero]⟩, by first | trivial | rfl, by first | trivial | rfl⟩, fun s hs' => br_of (fun hc => ?_) (fun hc => ?_)⟩
  · have hc := lt_of_dec hc
    obtain ⟨i1, i2⟩ := hs'.out
    rw [spn_drop (show s.1 * 2 + 2 ≤ hs.length by omega), hchk] at i2
    simp only [Nat.zero_add, Int.toNat_natCast]
    have out : ∀ {e : Int}, fi [wh (decide (hs.getD (s.1 * 2) 0 < 0) || (decide (hs.getD (s.1 * 2 + 1) 0 ≤ hs.getD (s.1 * 2) 0) || decide ((n : Int) < hs.getD (s.1 * 2 + 1) 0))) 14, wh (decide (hs.getD (s.1 * 2) 0 ≤ s.2)) 11] = e → e ≠ 0 → sel (hchk n hs (-1)) (wh (!hzH xs hs) 1) = e := fun h h0 => by
      rw [h, sel, if_neg h0] at i2
      rw [← i2, sel, if_neg h0]
    refine ⟨⟨by omega, by omega⟩, ⟨ldh (by omega)⟩, br_of (fun h1 => ?_) (fun h1 => br_of (fun h2 => ?_) (fun h2 => br_of (fun h3 => ?_) (fun h3 => ⟨(s.1 + 1, hs.getD (s.1 * 2 + 1) 0), ⟨hc, ?_⟩, ⟨by simp only; omega⟩, ?_, by first | trivial | rfl⟩)))⟩
    · rw [out (e := fi [14, wh (decide (hs.getD (s.1 * 2) 0 ≤ s.2)) 11]) (by rw [h1]; rfl) (by simp [fi])]
      exact ⟨by first | trivial | rfl, by first | trivial | rfl⟩
    · rw [out (e := fi [14, wh (decide (hs.getD (s.1 * 2) 0 ≤ s.2)) 11]) (by rw [h1, h2]; rfl) (by simp [fi])]
      exact ⟨by first | trivial | rfl, by first | trivial | rfl⟩
    · rw [out (e := fi [wh (decide ((n : Int) < hs.getD (s.1 * 2 + 1) 0)) 14, wh (decide (hs.getD (s.1 * 2) 0 ≤ s.2)) 11]) (by rw [h1, h2]; rfl) (by simpa using h3)]
      exact ⟨by first | trivial | rfl, by first | trivial | rfl⟩
    · have h3 : fi [wh (decide ((n : Int) < hs.getD (s.1 * 2 + 1) 0)) 14, wh (decide (hs.getD (s.1 * 2) 0 ≤ s.2)) 11] = 0 := by simpa using h3
      rw [h1, h2, Bool.false_or, Bool.false_or, h3, sel, if_pos rfl] at i2
      exact i2
    · rw [up1 hc (by omega)]
  · have hc := ge_of_dec hc
    obtain ⟨i1, i2⟩ := hs'.out
    have m0 : hchk n hs (-1) = 0 := by
      rw [← i2, List.drop_eq_nil_of_le (by omega)]
      rfl
    have hall := hchk_all hs (-1) m0
    rw [m0]
    refine ⟨⟨(0 : Nat), ⟨by omega, by rw [Nat.zero_mul, List.drop_zero]⟩, by first | trivial | rfl, by first | trivial | rfl⟩, fun r hr => br_of (fun hc2 => ?_) (fun hc2 => ?_)⟩
    · have hc2 := lt_of_dec hc2
      obtain ⟨j1, j2⟩ := hr.out
      obtain ⟨_, a0, a1, a2⟩ := hall r (by omega)
      rw [spn_drop (show r * 2 + 2 ≤ hs.length by omega), hzH] at j2
      simp only [Nat.zero_add, Nat.mul_one, Int.toNat_natCast]
      refine ⟨⟨by omega, by omega⟩, ⟨ldh (by omega)⟩, ⟨by omega, by omega, by omega⟩, ⟨by first | trivial | rfl, by omega, by omega⟩, br_of (fun hb => ?_) (fun hb => ⟨r + 1, ⟨hc2, ?_⟩, ⟨by omega⟩, by rw [up1 hc2 (by omega)], by first | trivial | rfl⟩)⟩
      · rw [hb] at j2
        rw [← j2]
        exact ⟨by first | trivial | rfl, by first | trivial | rfl⟩
      · rw [hb, Bool.not_false, Bool.true_and] at j2
        exact j2
    · have hc2 := ge_of_dec hc2
      obtain ⟨j1, j2⟩ := hr.out
      rw [List.drop_eq_nil_of_le (by omega)] at j2
      rw [← j2]
      exact ⟨by first | trivial | rfl, by first | trivial | rfl⟩
noncomputable def isRun (xs : List Nat) (hs : List Int) (n k : Nat) (e1 e2 : List Value) : Prop := e1 = flts xs ∧ e2 = ints hs ∧ xs.length = n ∧ n ≤ 100000 ∧ hs.length = k * 2 ∧ k ≤ 100000
noncomputable def orcCh (xs : List Nat) (hs : List Int) : OrcV
  | [.agg ⟨[.string _, .int .i64 _, .slice (some ⟨0, 0, none⟩) n _, .slice (some ⟨1, 0, none⟩) k _]⟩], [some (.row e1 1 true true true), some (.row e2 2 true true true)] =>
    some (.int .i64 (sel (hchk n hs (-1)) (wh (!hzH xs hs) 1)), [some (.row e1 1 true true true), some (.row e2 2 true true true)], isRun xs hs n k e1 e2)
  | _, _ => none
theorem okCh (xs : List Nat) (hs : List Int) : OkV Tryd.prog 57 (orcCh xs hs) := by
  intro args H ret H' vc h hv
  unfold orcCh at h
  split at h
  · cases h
    obtain ⟨rfl, rfl, h1, h2, h3, h4⟩ := hv
    exact ch_ok h1 h2 h3 h4
  · cases h
noncomputable def s4 : List (Nat × Orc) := (39, orcName) :: s2
theorem s4_all : ∀ p ∈ s4, Ok Tryd.prog p.1 p.2 := all_cons okName s2_all
noncomputable def cs4 : CallF := ctx Tryd.prog s4
theorem cs4_ok : CallOK Tryd.prog cs4 := ctx_ok hm s4_all
noncomputable def hsCr (xs : List Nat) (hs : List Int) : Hs Tryd.prog where
  op y := if y = 403 then some (hCa Tryd.prog 53 (orcFiV (xs.map sE)) (okFiV _)) else none
  au := auCalls [(56, hCa Tryd.prog 56 (orcMe xs) (okMe xs)), (57, hCa Tryd.prog 57 (orcCh xs hs) (okCh xs hs))]
theorem cr_t (nm : ByteArray) (f : Int) (n : Nat) (c : Nat) (k : Nat) (d : Nat) (xs : List Nat) (hs : List Int) (K : Value → Heap → Prop) :
    (fnP Tryd.prog cs4 (hsCr xs hs) (45 : FuncId) [Value.agg (List.toArray (runA nm f (0 : Nat) n c (1 : Nat) k d))] (hp2r xs hs true true true true []) K) =
    (br (fi [wh (!nameB nm) (8 : Int), wi f (0 : Int) (100000000 : Int), wh (decide ((4096 : Int) < (↑n : Int))) (5 : Int)] != (0 : Int)) (K (Value.int IntKind.i64 (fi [wh (!nameB nm) (8 : Int), wi f (0 : Int) (100000000 : Int), wh (decide ((4096 : Int) < (↑n : Int))) (5 : Int)])) (some (AObj.row (flts xs) (1 : Nat) true true true) :: some (AObj.row (ints hs) (2 : Nat) true true true) :: noH)) (Is (flts xs = flts xs ∧ List.length xs = n ∧ n ≤ (100000 : Nat)) ∧ Is (ints (List.map sE xs) = ints (List.map sE xs) ∧ List.length (List.map sE xs) = n ∧ n ≤ (100000 : Nat)) ∧ br (fi [fi (List.map sE xs), wh (decide ((100000000 : Int) < IntKind.wrap IntKind.i64 (f + (↑n : Int)))) (4 : Int)] != (0 : Int)) (K (Value.int IntKind.i64 (fi [fi (List.map sE xs), wh (decide ((100000000 : Int) < IntKind.wrap IntKind.i64 (f + (↑n : Int)))) (4 : Int)])) (some (AObj.row (flts xs) (1 : Nat) true true true) :: some (AObj.row (ints hs) (2 : Nat) true true true) :: noH)) (Is (isRun xs hs n k (flts xs) (ints hs)) ∧ K (Value.int IntKind.i64 (sel (hchk (↑n : Int) hs (-1 : Int)) (wh (!hzH xs hs) (1 : Int)))) (some (AObj.row (flts xs) (1 : Nat) true true true) :: some (AObj.row (ints hs) (2 : Nat) true true true) :: noH)))) := by kernel_rfl
end
end Qq
end
section
/- Runs, checked: the reference; both say the same. -/
open Go Go.Vm Go.Proofs Sp
namespace Qq
noncomputable section
noncomputable def orcCrP (xs : List Nat) (hs : List Int) : OrcV
  | [.agg ⟨[.string nm, .int .i64 f, .slice (some ⟨0, 0, none⟩) n _, .slice (some ⟨1, 0, none⟩) k _]⟩], [some (.row e1 1 true true true), some (.row e2 2 true true true)] =>
    some (.int .i64 (runE nm f xs n hs), [some (.row e1 1 true true true), some (.row e2 2 true true true)], isRun xs hs n k e1 e2)
  | _, _ => none
theorem okCrP (xs : List Nat) (hs : List Int) : OkV Tryd.prog 45 (orcCrP xs hs) := by
  intro args H ret H' vc h hv
  unfold orcCrP at h
  split at h
  · rename_i nm f n c k d e1 e2
    cases h
    obtain ⟨rfl, rfl, h1, h2, h3, h4⟩ := hv
    refine fnP_res hm cs4_ok (hs := hsCr xs hs) ?_
    show fnP Tryd.prog cs4 (hsCr xs hs) 45 [.agg (runA nm f 0 n c 1 k d).toArray] (hp2r xs hs true true true true []) _
    rw [cr_t]
    refine br_of (fun h => ?_) (fun h => ⟨⟨rfl, h1, h2⟩, ⟨rfl, by rw [List.length_map]; exact h1, h2⟩, ?_⟩)
    · rw [runE, sel_ne h]; exact ⟨by first | trivial | rfl, by first | trivial | rfl⟩
    have h0 : fi [wh (!nameB nm) 8, wi f 0 100000000, wh (decide ((4096 : Int) < n)) 5] = 0 := by simpa using h
    have hf := wi_zero.1 (fi_zero.1 h0 (wi f 0 100000000) (by simp))
    rw [wrap_eq (x := f + n) (by omega) (by omega)]
    refine br_of (fun h3' => ?_) (fun h3' => ⟨⟨rfl, rfl, h1, h2, h3, h4⟩, ?_⟩)
    · rw [runE, sel_eq h, sel_ne h3']; exact ⟨by first | trivial | rfl, by first | trivial | rfl⟩
    · rw [runE, sel_eq h, sel_eq h3']; exact ⟨by first | trivial | rfl, by first | trivial | rfl⟩
  · cases h
/- The reference. -/
noncomputable def fRs (xs : List Nat) : Option AObj := some (.row (flts xs) 1 false false true)
noncomputable def lpSmR (xs : List Nat) (n c : Nat) : Lp where
  σ := Nat
  E s := slots 19 [(0, .slice (some ⟨0, 0, none⟩) n c), (3, .int .i64 (Int.ofNat s))]
  Hp _ := [fRs xs]
  I s := s ≤ n ∧ fi ((xs.drop s).map sE) = fi (xs.map sE)
  m s := n - s
noncomputable def hsSmR (xs : List Nat) (n c : Nat) : Hs Tryd.prog where
  op y := if y = 402 then some (hIa Tryd.prog) else if y = 403 then some (hLd Tryd.prog (xF xs)) else none
  lp _ := some (lpSmR xs n c)
  cl _ := keep 19 [0, 3]
  au := au0 Tryd.prog
noncomputable def csr4 : CallF := ctx Tryd.prog [(6, orcSm1)]
theorem csr4_ok : CallOK Tryd.prog csr4 := ctx_ok hm (all_cons okSm1R all_nil)
theorem smR_t (xs : List Nat) (n : Nat) (c : Nat) (K : Value → Heap → Prop) :
    (fnP Tryd.prog csr4 (hsSmR xs n c) (5 : FuncId) [Value.slice (some { block := (0 : Nat), off := (0 : Nat) }) n c] [fRs xs] K) =
    ((∃ (s : Nat), Is (s ≤ n ∧ fi (List.map sE (List.drop s xs)) = fi (List.map sE xs)) ∧ [Value.slice (some { block := (0 : Nat), off := (0 : Nat) }) n c, poi, poi, Value.int IntKind.i64 (0 : Int), poi, poi, poi, poi, poi, poi, poi, poi, poi, poi, poi, poi, poi, poi, poi] = [Value.slice (some { block := (0 : Nat), off := (0 : Nat) }) n c, poi, poi, Value.int IntKind.i64 (↑s : Int), poi, poi, poi, poi, poi, poi, poi, poi, poi, poi, poi, poi, poi, poi, poi] ∧ some (AObj.row (flts xs) (1 : Nat) false false true) :: noH = some (AObj.row (flts xs) (1 : Nat) false false true) :: noH) ∧ ∀ (s : Nat), Is (s ≤ n ∧ fi (List.map sE (List.drop s xs)) = fi (List.map sE xs)) → br (decide ((↑s : Int) < (↑n : Int))) (Is ((0 : Int) ≤ (↑s : Int) ∧ (↑s : Int) < (↑n : Int)) ∧ Is ((flts xs)[(0 : Nat) + Int.toNat (↑s : Int) * (1 : Nat)]? = some (Value.float FloatKind.f32 (List.getD xs ((0 : Nat) + Int.toNat (↑s : Int) * (1 : Nat)) (0 : Nat)))) ∧ br (sE (List.getD xs ((0 : Nat) + Int.toNat (↑s : Int) * (1 : Nat)) (0 : Nat)) != (0 : Int)) (K (Value.int IntKind.i64 (sE (List.getD xs ((0 : Nat) + Int.toNat (↑s : Int) * (1 : Nat)) (0 : Nat)))) (some (AObj.row (flts xs) (1 : Nat) false false true) :: noH)) (∃ (s' : Nat), Is (s' ≤ n ∧ fi (List.map sE (List.drop s' xs)) = fi (List.map sE xs)) ∧ Is (n - s' < n - s) ∧ [Value.slice (some { block := (0 : Nat), off := (0 : Nat) }) n c, poi, poi, Value.int IntKind.i64 (IntKind.wrap IntKind.i64 ((↑s : Int) + (1 : Int))), poi, poi, poi, poi, poi, poi, poi, poi, poi, poi, poi, poi, poi, poi, poi] = [Value.slice (some { block := (0 : Nat), off := (0 : Nat) }) n c, poi, poi, Value.int IntKind.i64 (↑s' : Int), poi, poi, poi, poi, poi, poi, poi, poi, poi, poi, poi, poi, poi, poi, poi] ∧ some (AObj.row (flts xs) (1 : Nat) false false true) :: noH = some (AObj.row (flts xs) (1 : Nat) false false true) :: noH)) (K (Value.int IntKind.i64 (0 : Int)) (some (AObj.row (flts xs) (1 : Nat) false false true) :: noH))) := by kernel_rfl
theorem fi_one {l : List Int} {i : Nat} (h : i < l.length) : fi (l.drop i) = if l.getD i 0 ≠ 0 then l.getD i 0 else fi (l.drop (i + 1)) := by
  rw [List.drop_eq_getElem_cons h, fi]
  simp only [List.getD_eq_getElem?_getD, List.getElem?_eq_getElem h, Option.getD_some]
  by_cases h0 : l[i] = 0 <;> simp [h0]
theorem map_getD {xs : List Nat} {i : Nat} (h : i < xs.length) : (xs.map sE).getD i 0 = sE (xs.getD i 0) := by
  simp [List.getD_eq_getElem?_getD, List.getElem?_eq_getElem h]
set_option maxRecDepth 100000 in
theorem smR_ok {xs : List Nat} {n c : Nat} (hn : xs.length = n) (h9 : n ≤ 100000) :
    SmallRes Tryd.prog 5 [.slice (some ⟨0, 0, none⟩) n c] [fRs xs] (.int .i64 (fi (xs.map sE))) [fRs xs] := by
  refine fnP_res hm csr4_ok (hs := hsSmR xs n c) ?_
  rw [smR_t]
  refine ⟨⟨(0 : Nat), ⟨by omega, by rw [List.drop_zero]⟩, by first | trivial | rfl, by first | trivial | rfl⟩, fun s hs' => br_of (fun hc => ?_) (fun hc => ?_)⟩
  · have hc := lt_of_dec hc
    obtain ⟨i1, i2⟩ := hs'.out
    have e := fi_one (l := xs.map sE) (i := s) (by rw [List.length_map]; omega)
    rw [map_getD (by omega)] at e
    rw [List.map_drop, e] at i2
    simp only [Nat.zero_add, Nat.mul_one, Int.toNat_natCast]
    refine ⟨⟨by omega, by omega⟩, ⟨flts_at (by omega)⟩, br_of (fun h => ?_) (fun h => ⟨s + 1, ⟨hc, ?_⟩, ⟨by omega⟩, by rw [up1 hc (by omega)], by first | trivial | rfl⟩)⟩
    · rw [if_pos (by simpa using h)] at i2
      rw [← i2]
      exact ⟨by first | trivial | rfl, by first | trivial | rfl⟩
    · rw [if_neg (by simpa using h)] at i2
      rw [List.map_drop]
      exact i2
  · have hc := ge_of_dec hc
    obtain ⟨i1, i2⟩ := hs'.out
    rw [List.drop_eq_nil_of_le (by omega)] at i2
    rw [← i2]
    exact ⟨by first | trivial | rfl, by first | trivial | rfl⟩
noncomputable def orcSmR (xs : List Nat) : OrcV
  | [.slice (some ⟨0, 0, none⟩) n _], [some (.row e1 1 false false true)] => some (.int .i64 (fi (xs.map sE)), [some (.row e1 1 false false true)], e1 = flts xs ∧ xs.length = n ∧ n ≤ 100000)
  | _, _ => none
theorem okSmR (xs : List Nat) : OkV Tryd.prog 5 (orcSmR xs) := by
  intro args H ret H' vc h hv
  unfold orcSmR at h
  split at h
  · cases h
    obtain ⟨rfl, h1, h2⟩ := hv
    exact smR_ok h1 h2
  · cases h
end
end Qq
end
section
/- The reference's CheckRun says what the program's does. -/
open Go Go.Vm Go.Proofs Sp
namespace Qq
noncomputable section
end
end Qq
end
