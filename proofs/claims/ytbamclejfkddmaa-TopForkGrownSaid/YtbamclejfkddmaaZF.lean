/- Parts of the proof: RA, RB, RC, RD, RE, RF, RG, FlC, FlE. -/
import Derived.Test.YtbamclejfkddmaaZC
import Derived.Test.YtbamclejfkddmaaZD
import Derived.Test.YtbamclejfkddmaaZE
import Derived.Test.YtbamclejfkddmaaZK
section
/- Samples, checked. -/
open Go Go.Vm Go.Proofs Sp
namespace Sp
noncomputable section
/-- The integer of a sample. -/
noncomputable def lev (x : Nat) : Int := fInt (fMul x 1098907648)
noncomputable def sE (x : Nat) : Int := sel (wh (!Fl.finB x) 1) (wh (fLt x 3296722944 || (fGt x 1149239296 || fNe (fMul x 1098907648) (fOf (lev x)))) 3)
end
end Sp
namespace Qq
noncomputable section
noncomputable def orcSmp : Orc
  | [.float .f32 x, .int .i64 1024], [] => some (.int .i64 (sE x), [])
  | _, _ => none
noncomputable def orcSm1 : Orc
  | [.float .f32 x], [] => some (.int .i64 (sE x), [])
  | _, _ => none
end
end Qq
namespace Fl
open Ieee Sp
theorem of_val {n : Int} (h : n.natAbs < 2 ^ 24) : IsF (fOf n) ∧ val (fOf n) = n * (one : Int) := by
  have hs : Has (.number (decide (n < 0)) n.natAbs 0) (-149) (n * (one : Int)) := by
    refine ⟨_, _, _, rfl, by decide, ?_⟩
    have e : (0 + 400 : Int).toNat = 400 := rfl
    rw [e, sg_mul, sg_self, one_nat]
  have hp := one_pos
  refine has_fin (lo := -149) (hs.write (by decide) ⟨?_, n.natAbs, 400, ?_, h, by decide⟩)
  · rw [Int.natAbs_mul, Int.natAbs_natCast]
    have : n.natAbs * one ≤ 2 ^ 24 * one := Nat.mul_le_mul_right one (Nat.le_of_lt h)
    have h2 : 2 ^ 24 * one < 2 ^ 500 := by decide +kernel
    exact Nat.lt_of_le_of_lt this h2
  · rw [Int.natAbs_mul, Int.natAbs_natCast, one_nat]
/-- What a sample is. -/
structure Smp (x : Nat) : Prop where
  fin : IsF x
  v : val x * 16 = lev x * (one : Int)
  few : (lev x).natAbs ≤ 16384
  m1 : fMulOk x 1098907648
  m2 : fMulOk 1098907648 x
  i1 : fIntOk (fMul x 1098907648)
theorem fin_true {x : Nat} (h : IsF x) : finB x = true := (isF_iff x).1 h
theorem fin_false {x : Nat} (h : ¬ IsF x) : finB x = false := by
  cases hb : finB x
  · rfl
  · exact absurd ((isF_iff x).2 hb) h
theorem sE_not {x : Nat} (h : ¬ IsF x) : sE x = 1 := by
  rw [sE, fin_false h]; rfl
theorem sE_fin {x : Nat} (h : IsF x) : sE x = Sp.wh (fLt x 3296722944 || (fGt x 1149239296 || fNe (fMul x 1098907648) (fOf (lev x)))) 3 := by
  rw [sE, fin_true h]; rfl
theorem in_range {x : Nat} (h : IsF x) (h1 : fLt x 3296722944 = false) (h2 : fGt x 1149239296 = false) :
    (val x).natAbs ≤ 1024 * one ∧ fMulOk x 1098907648 ∧ fMulOk 1098907648 x ∧ fIntOk (fMul x 1098907648) ∧ IsF (fMul x 1098907648) ∧ val (fMul x 1098907648) = val x * 16 ∧ (lev x).natAbs ≤ 1048576 := by
  have hb := range_test h h1 h2
  obtain ⟨m1, m2, m3⟩ := mul_16 h hb
  obtain ⟨i1, i2, _⟩ := int_ok m2 (by rw [m3, Int.natAbs_mul, show Int.natAbs 16 = 16 from rfl]; omega)
  exact ⟨hb, m1, (mulOk_comm _ _).1 m1, i1, m2, m3, i2⟩
theorem smp {x : Nat} (h : sE x = 0) : Smp x := by
  have hf : IsF x := by
    by_cases hn : IsF x
    · exact hn
    · rw [sE_not hn] at h; cases h
  rw [sE_fin hf] at h
  have h := (Qq.wh_zero (by decide)).1 h
  simp only [Bool.or_eq_false_iff] at h
  obtain ⟨h1, h2, h3⟩ := h
  obtain ⟨hb, m1, m2, i1, f1, e1, l1⟩ := in_range hf h1 h2
  obtain ⟨f2, e2⟩ := of_val (n := lev x) (by omega)
  rw [ne_val f1 f2, e1, e2] at h3
  have h3 : val x * 16 = lev x * (one : Int) := by simpa using h3
  refine ⟨hf, h3, ?_, m1, m2, i1⟩
  have hp := one_pos
  have h4 : (lev x).natAbs * one ≤ 16384 * one := by
    have e := congrArg Int.natAbs h3
    rw [Int.natAbs_mul, Int.natAbs_mul] at e
    have e2 : (one : Int).natAbs = one := Int.natAbs_natCast one
    rw [e2, show Int.natAbs 16 = 16 from rfl] at e
    rw [← e]
    omega
  exact Nat.le_of_mul_le_mul_right h4 hp
theorem ne_comm {x y : Nat} (hx : IsF x) (hy : IsF y) : fNe x y = fNe y x := by
  rw [ne_val hx hy, ne_val hy hx]
  exact decide_eq_decide.2 ⟨fun h e => h e.symm, fun h e => h e.symm⟩
/-- A sample is not 0 just if its integer is not. -/
theorem nz_lev {x : Nat} (h : Smp x) : fNe x 0 = decide (lev x ≠ 0) := by
  rw [ne_val h.fin fin_zero.1, fin_zero.2]
  have hp := one_pos
  refine decide_eq_decide.2 (not_congr ⟨fun e => ?_, fun e => ?_⟩)
  · have := h.v
    rw [e, Int.zero_mul] at this
    rcases Int.mul_eq_zero.1 this.symm with h | h
    · exact h
    · omega
  · have := h.v
    rw [e, Int.zero_mul] at this
    omega
end Fl
namespace Qq
noncomputable section
noncomputable def hsFl1 : Hs Try.prog where
  nd y := if y = 102 then some (hDf Try.prog) else none
  au := auF []
noncomputable def hsFl0 : Hs Try.prog where
  au := auF []
theorem cpS_t (x : Nat) (K : Value → Heap → Prop) :
    (fnP Try.prog cs2 hsFl1 (60 : FuncId) [Value.float FloatKind.f32 x, Value.int IntKind.i64 (1024 : Int)] [] K) =
    (∀ (x_1 : Nat), Is (fDif x x x_1) → Is True ∧ br (fNe x_1 (0 : Nat)) (K (Value.int IntKind.i64 (1 : Int)) noH) (Is True ∧ Is True ∧ br (fLt x (3296722944 : Nat)) (K (Value.int IntKind.i64 (3 : Int)) noH) (Is True ∧ Is True ∧ br (fGt x (1149239296 : Nat)) (K (Value.int IntKind.i64 (3 : Int)) noH) (Is (fMulOk x (1098907648 : Nat)) ∧ Is (fMulOk x (1098907648 : Nat)) ∧ Is (fIntOk (fMul x (1098907648 : Nat))) ∧ Is True ∧ Is True ∧ K (Value.int IntKind.i64 (wh (fNe (fMul x (1098907648 : Nat)) (fOf (Sp.fInt (fMul x (1098907648 : Nat))))) (3 : Int))) noH)))) := by kernel_rfl
theorem cpSR_t (x : Nat) (K : Value → Heap → Prop) :
    (fnP Try.prog cs2 hsFl0 (72 : FuncId) [Value.float FloatKind.f32 x, Value.int IntKind.i64 (1024 : Int)] [] K) =
    (Is True ∧ br (fNe x x) (K (Value.int IntKind.i64 (1 : Int)) noH) (Is True ∧ br (fGt x (2139095039 : Nat)) (K (Value.int IntKind.i64 (1 : Int)) noH) (Is True ∧ br (fLt x (4286578687 : Nat)) (K (Value.int IntKind.i64 (1 : Int)) noH) (Is True ∧ Is True ∧ br (fLt x (3296722944 : Nat)) (K (Value.int IntKind.i64 (3 : Int)) noH) (Is True ∧ Is True ∧ br (fGt x (1149239296 : Nat)) (K (Value.int IntKind.i64 (3 : Int)) noH) (Is (fMulOk (1098907648 : Nat) x) ∧ Is (fIntOk (fMul (1098907648 : Nat) x)) ∧ Is True ∧ Is (fMulOk (1098907648 : Nat) x) ∧ Is True ∧ br (fNe (fOf (Sp.fInt (fMul (1098907648 : Nat) x))) (fMul (1098907648 : Nat) x)) (K (Value.int IntKind.i64 (3 : Int)) noH) (K (Value.int IntKind.i64 (0 : Int)) noH))))))) := by kernel_rfl
theorem nz_t (x : Nat) (K : Value → Heap → Prop) :
    (fnP Try.prog cs2 hsFl0 (66 : FuncId) [Value.float FloatKind.f32 x] [] K) =
    (Is True ∧ K (Value.bool (fNe x (0 : Nat))) noH) := by kernel_rfl
theorem okSmp : Ok Try.prog 60 orcSmp := by
  intro args H ret H' h
  unfold orcSmp at h
  split at h
  · rename_i x
    cases h
    refine fnP_res hm cs2_ok (hs := hsFl1) ?_
    rw [cpS_t]
    intro r hr
    by_cases hf : Fl.IsF x
    · rw [Fl.dif_fin hf hr.out, Fl.sE_fin hf]
      refine ⟨⟨trivial⟩, br_of (fun h => by cases h) (fun _ => ⟨⟨trivial⟩, ⟨trivial⟩, br_of (fun h1 => ?_) (fun h1 => ⟨⟨trivial⟩, ⟨trivial⟩, br_of (fun h2 => ?_) (fun h2 => ?_)⟩)⟩)⟩
      · rw [h1]; exact ⟨by first | trivial | rfl, by first | trivial | rfl⟩
      · rw [h1, h2]; exact ⟨by first | trivial | rfl, by first | trivial | rfl⟩
      · obtain ⟨_, m1, _, i1, _⟩ := Fl.in_range hf h1 h2
        rw [h1, h2]
        exact ⟨⟨m1⟩, ⟨m1⟩, ⟨i1⟩, ⟨trivial⟩, ⟨trivial⟩, by first | trivial | rfl, by first | trivial | rfl⟩
    · rw [Fl.dif_not hf hr.out, Fl.sE_not hf]
      exact ⟨⟨trivial⟩, br_of (fun _ => ⟨by first | trivial | rfl, by first | trivial | rfl⟩) (fun h => by cases h)⟩
  · cases h
theorem okSmpR : Ok Try.prog 72 orcSmp := by
  intro args H ret H' h
  unfold orcSmp at h
  split at h
  · rename_i x
    cases h
    refine fnP_res hm cs2_ok (hs := hsFl0) ?_
    rw [cpSR_t]
    have ht := Fl.form_test x
    by_cases hf : Fl.IsF x
    · rw [Fl.fin_true hf] at ht
      simp only [Bool.or_eq_false_iff, Bool.not_true] at ht
      obtain ⟨t1, t2, t3⟩ := ht
      rw [t1, t2, t3, Fl.sE_fin hf]
      refine ⟨⟨trivial⟩, br_of (fun h => by cases h) (fun _ => ⟨⟨trivial⟩, br_of (fun h => by cases h) (fun _ => ⟨⟨trivial⟩, br_of (fun h => by cases h) (fun _ => ⟨⟨trivial⟩, ⟨trivial⟩, br_of (fun h1 => ?_) (fun h1 => ⟨⟨trivial⟩, ⟨trivial⟩, br_of (fun h2 => ?_) (fun h2 => ?_)⟩)⟩)⟩)⟩)⟩
      · rw [h1]; exact ⟨by first | trivial | rfl, by first | trivial | rfl⟩
      · rw [h1, h2]; exact ⟨by first | trivial | rfl, by first | trivial | rfl⟩
      · obtain ⟨_, m1, m2, i1, f1, e1, l1⟩ := Fl.in_range hf h1 h2
        obtain ⟨f2, _⟩ := Fl.of_val (n := lev x) (by omega)
        rw [h1, h2, Fl.mul_comm16 1098907648 x]
        have ec : fNe (fOf (Sp.fInt (fMul x 1098907648))) (fMul x 1098907648) = fNe (fMul x 1098907648) (fOf (lev x)) := Fl.ne_comm f2 f1
        rw [ec]
        refine ⟨⟨m2⟩, ⟨i1⟩, ⟨trivial⟩, ⟨m2⟩, ⟨trivial⟩, br_of (fun h3 => ?_) (fun h3 => ?_)⟩
        · rw [h3]; exact ⟨by first | trivial | rfl, by first | trivial | rfl⟩
        · rw [h3]; exact ⟨by first | trivial | rfl, by first | trivial | rfl⟩
    · rw [Fl.fin_false hf] at ht
      simp only [Bool.not_false, Bool.or_eq_true] at ht
      rw [Fl.sE_not hf]
      refine ⟨⟨trivial⟩, br_of (fun _ => ⟨by first | trivial | rfl, by first | trivial | rfl⟩) (fun t1 => ⟨⟨trivial⟩, br_of (fun _ => ⟨by first | trivial | rfl, by first | trivial | rfl⟩) (fun t2 => ⟨⟨trivial⟩, br_of (fun _ => ⟨by first | trivial | rfl, by first | trivial | rfl⟩) (fun t3 => ?_)⟩)⟩)⟩
      rw [t1, t2, t3] at ht
      simp at ht
  · cases h
noncomputable def s3 : List (Nat × Orc) := (60, orcSmp) :: s2
theorem s3_all : ∀ p ∈ s3, Ok Try.prog p.1 p.2 := all_cons okSmp s2_all
noncomputable def cs3 : CallF := ctx Try.prog s3
theorem cs3_ok : CallOK Try.prog cs3 := ctx_ok hm s3_all
noncomputable def sr3 : List (Nat × Orc) := [(72, orcSmp)]
noncomputable def csr3 : CallF := ctx Try.prog sr3
theorem csr3_ok : CallOK Try.prog csr3 := ctx_ok hm (all_cons okSmpR all_nil)
theorem cs1_t (x : Nat) (K : Value → Heap → Prop) :
    (fnP Try.prog cs3 h0 (41 : FuncId) [Value.float FloatKind.f32 x] [] K) =
    (K (Value.int IntKind.i64 (sE x)) noH) := by kernel_rfl
theorem csr1_t (x : Nat) (K : Value → Heap → Prop) :
    (fnP Try.prog csr3 h0 (69 : FuncId) [Value.float FloatKind.f32 x] [] K) =
    (K (Value.int IntKind.i64 (sE x)) noH) := by kernel_rfl
theorem okSm1 : Ok Try.prog 41 orcSm1 := by
  intro args H ret H' h
  unfold orcSm1 at h
  split at h
  · cases h
    refine fnP_res hm cs3_ok (hs := h0) ?_
    rw [cs1_t]
    exact ⟨by first | trivial | rfl, by first | trivial | rfl⟩
  · cases h
theorem okSm1R : Ok Try.prog 69 orcSm1 := by
  intro args H ret H' h
  unfold orcSm1 at h
  split at h
  · cases h
    refine fnP_res hm csr3_ok (hs := h0) ?_
    rw [csr1_t]
    exact ⟨by first | trivial | rfl, by first | trivial | rfl⟩
  · cases h
/- The integer of a sample. -/
noncomputable def orcLev : OrcV
  | [.float .f32 x], [] => some (.int .i64 (lev x), [], sE x = 0)
  | _, _ => none
noncomputable def orcNz : Orc
  | [.float .f32 x], [] => some (.bool (fNe x 0), [])
  | _, _ => none
theorem okNz : Ok Try.prog 66 orcNz := by
  intro args H ret H' h
  unfold orcNz at h
  split at h
  · cases h
    refine fnP_res hm cs2_ok (hs := hsFl0) ?_
    rw [nz_t]
    exact ⟨⟨trivial⟩, by first | trivial | rfl, by first | trivial | rfl⟩
  · cases h
end
end Qq
end
section
/- Holes, and what is known. -/
open Go Go.Vm Go.Proofs Sp
namespace Sp
noncomputable section
noncomputable def flts (xs : List Nat) : List Value := xs.map (Value.float .f32)
/-- Whether an index lies in no hole. -/
noncomputable def knB : List Int → Int → Bool
  | a :: b :: r, i => !(decide (a ≤ i) && decide (i < b)) && knB r i
  | _, _ => true
noncomputable def hchk (n : Int) : List Int → Int → Int
  | a :: b :: r, last => sel (fi [wh (decide (a < 0) || (decide (b ≤ a) || decide (n < b))) 14, wh (decide (a ≤ last)) 11]) (hchk n r b)
  | _, _ => 0
noncomputable def nzB (x : Nat) : Bool := fNe x 0
noncomputable def nzI : List Nat → Nat → Int
  | [], _ => -1
  | x :: r, k => if nzB x = true then (k : Int) else nzI r (k + 1)
/-- Nothing but 0 in the holes. -/
noncomputable def hzH (xs : List Nat) : List Int → Bool
  | a :: b :: r => !((xs.drop a.toNat).take (b.toNat - a.toNat)).any nzB && hzH xs r
  | _ => true
end
end Sp
namespace Qq
noncomputable section
noncomputable def runA (nm : ByteArray) (f : Int) (i n c j k d : Nat) : List Value := [.string nm, .int .i64 f, .slice (some ⟨i, 0, none⟩) n c, .slice (some ⟨j, 0, none⟩) k d]
noncomputable def hp2r (xs : List Nat) (hs : List Int) (m1 w1 m2 w2 : Bool) (l : List (Option AObj)) : Heap := some (.row (flts xs) 1 m1 w1 true) :: some (.row (ints hs) 2 m2 w2 true) :: l
noncomputable def xF (xs : List Nat) (off : Nat) : Value := .float .f32 (xs.getD off 0)
/- An index within a hole. -/
/- IsKnown of the reference. -/
noncomputable def lpKn (nm : ByteArray) (f : Int) (n c k d : Nat) (xs : List Nat) (hs : List Int) (m1 w1 m2 w2 : Bool) (i : Int) : Lp where
  σ := Nat
  E s := slots 31 [(1, .int .i64 i), (2, .pointer (some ⟨2, 0, none⟩)), (5, .int .i64 (Int.ofNat s))]
  Hp _ := hp2r xs hs m1 w1 m2 w2 [some (.row (runA nm f 0 n c 1 k d) 0 false true false)]
  I s := s ≤ k ∧ knB (hs.drop (s * 2)) i = knB hs i
  m s := k - s
noncomputable def hsKn (nm : ByteArray) (f : Int) (n c k d : Nat) (xs : List Nat) (hs : List Int) (m1 w1 m2 w2 : Bool) (i : Int) : Hs Try.prog where
  op y := if [404, 413].contains y then some (hIa Try.prog) else if [406, 415].contains y then some (hLd Try.prog (zI hs)) else none
  lp _ := some (lpKn nm f n c k d xs hs m1 w1 m2 w2 i)
  cl _ := keep 31 [1, 2, 5]
  au := au0 Try.prog
theorem kn_t (nm : ByteArray) (f : Int) (n : Nat) (c : Nat) (k : Nat) (d : Nat) (xs : List Nat) (hs : List Int) (m1 : Bool) (w1 : Bool) (m2 : Bool) (w2 : Bool) (i : Int) (K : Value → Heap → Prop) :
    (fnP Try.prog c0 (hsKn nm f n c k d xs hs m1 w1 m2 w2 i) (29 : FuncId) [Value.agg (List.toArray (runA nm f (0 : Nat) n c (1 : Nat) k d)), Value.int IntKind.i64 i] (hp2r xs hs m1 w1 m2 w2 []) K) =
    ((∃ (s : Nat), Is (s ≤ k ∧ knB (List.drop (s * (2 : Nat)) hs) i = knB hs i) ∧ [poi, Value.int IntKind.i64 i, Value.pointer (some { block := (2 : Nat), off := (0 : Nat) }), poi, poi, Value.int IntKind.i64 (0 : Int), poi, poi, poi, poi, poi, poi, poi, poi, poi, poi, poi, poi, poi, poi, poi, poi, poi, poi, poi, poi, poi, poi, poi, poi, poi] = [poi, Value.int IntKind.i64 i, Value.pointer (some { block := (2 : Nat), off := (0 : Nat) }), poi, poi, Value.int IntKind.i64 (↑s : Int), poi, poi, poi, poi, poi, poi, poi, poi, poi, poi, poi, poi, poi, poi, poi, poi, poi, poi, poi, poi, poi, poi, poi, poi, poi] ∧ some (AObj.row (flts xs) (1 : Nat) m1 w1 true) :: some (AObj.row (ints hs) (2 : Nat) m2 w2 true) :: some (AObj.row [Value.string nm, Value.int IntKind.i64 f, Value.slice (some { block := (0 : Nat), off := (0 : Nat) }) n c, Value.slice (some { block := (1 : Nat), off := (0 : Nat) }) k d] (0 : Nat) false true (List.all [Value.string nm, Value.int IntKind.i64 f, Value.slice (some { block := (0 : Nat), off := (0 : Nat) }) n c, Value.slice (some { block := (1 : Nat), off := (0 : Nat) }) k d] atom)) :: noH = some (AObj.row (flts xs) (1 : Nat) m1 w1 true) :: some (AObj.row (ints hs) (2 : Nat) m2 w2 true) :: some (AObj.row [Value.string nm, Value.int IntKind.i64 f, Value.slice (some { block := (0 : Nat), off := (0 : Nat) }) n c, Value.slice (some { block := (1 : Nat), off := (0 : Nat) }) k d] (0 : Nat) false true false) :: noH) ∧ ∀ (s : Nat), Is (s ≤ k ∧ knB (List.drop (s * (2 : Nat)) hs) i = knB hs i) → br (decide ((↑s : Int) < (↑k : Int))) (Is ((0 : Int) ≤ (↑s : Int) ∧ (↑s : Int) < (↑k : Int)) ∧ Is ((ints hs)[(0 : Nat) + Int.toNat (↑s : Int) * (2 : Nat) + (0 : Nat)]? = some (Value.int IntKind.i64 (List.getD hs ((0 : Nat) + Int.toNat (↑s : Int) * (2 : Nat) + (0 : Nat)) (0 : Int)))) ∧ br (decide (List.getD hs ((0 : Nat) + Int.toNat (↑s : Int) * (2 : Nat) + (0 : Nat)) (0 : Int) ≤ i)) (Is ((0 : Int) ≤ (↑s : Int) ∧ (↑s : Int) < (↑k : Int)) ∧ Is ((ints hs)[(0 : Nat) + Int.toNat (↑s : Int) * (2 : Nat) + (1 : Nat)]? = some (Value.int IntKind.i64 (List.getD hs ((0 : Nat) + Int.toNat (↑s : Int) * (2 : Nat) + (1 : Nat)) (0 : Int)))) ∧ br (decide (i < List.getD hs ((0 : Nat) + Int.toNat (↑s : Int) * (2 : Nat) + (1 : Nat)) (0 : Int))) (K (Value.bool false) (some (AObj.row (flts xs) (1 : Nat) m1 w1 true) :: some (AObj.row (ints hs) (2 : Nat) m2 w2 true) :: noH)) (∃ (s' : Nat), Is (s' ≤ k ∧ knB (List.drop (s' * (2 : Nat)) hs) i = knB hs i) ∧ Is (k - s' < k - s) ∧ [poi, Value.int IntKind.i64 i, Value.pointer (some { block := (2 : Nat), off := (0 : Nat) }), poi, poi, Value.int IntKind.i64 (IntKind.wrap IntKind.i64 ((↑s : Int) + (1 : Int))), poi, poi, poi, poi, poi, poi, poi, poi, poi, poi, poi, poi, poi, poi, poi, poi, poi, poi, poi, poi, poi, poi, poi, poi, poi] = [poi, Value.int IntKind.i64 i, Value.pointer (some { block := (2 : Nat), off := (0 : Nat) }), poi, poi, Value.int IntKind.i64 (↑s' : Int), poi, poi, poi, poi, poi, poi, poi, poi, poi, poi, poi, poi, poi, poi, poi, poi, poi, poi, poi, poi, poi, poi, poi, poi, poi] ∧ some (AObj.row (flts xs) (1 : Nat) m1 w1 true) :: some (AObj.row (ints hs) (2 : Nat) m2 w2 true) :: some (AObj.row [Value.string nm, Value.int IntKind.i64 f, Value.slice (some { block := (0 : Nat), off := (0 : Nat) }) n c, Value.slice (some { block := (1 : Nat), off := (0 : Nat) }) k d] (0 : Nat) false true false) :: noH = some (AObj.row (flts xs) (1 : Nat) m1 w1 true) :: some (AObj.row (ints hs) (2 : Nat) m2 w2 true) :: some (AObj.row [Value.string nm, Value.int IntKind.i64 f, Value.slice (some { block := (0 : Nat), off := (0 : Nat) }) n c, Value.slice (some { block := (1 : Nat), off := (0 : Nat) }) k d] (0 : Nat) false true false) :: noH)) (∃ (s' : Nat), Is (s' ≤ k ∧ knB (List.drop (s' * (2 : Nat)) hs) i = knB hs i) ∧ Is (k - s' < k - s) ∧ [poi, Value.int IntKind.i64 i, Value.pointer (some { block := (2 : Nat), off := (0 : Nat) }), poi, poi, Value.int IntKind.i64 (IntKind.wrap IntKind.i64 ((↑s : Int) + (1 : Int))), poi, poi, poi, poi, poi, poi, poi, poi, poi, poi, poi, poi, poi, poi, poi, poi, poi, poi, poi, poi, poi, poi, poi, poi, poi] = [poi, Value.int IntKind.i64 i, Value.pointer (some { block := (2 : Nat), off := (0 : Nat) }), poi, poi, Value.int IntKind.i64 (↑s' : Int), poi, poi, poi, poi, poi, poi, poi, poi, poi, poi, poi, poi, poi, poi, poi, poi, poi, poi, poi, poi, poi, poi, poi, poi, poi] ∧ some (AObj.row (flts xs) (1 : Nat) m1 w1 true) :: some (AObj.row (ints hs) (2 : Nat) m2 w2 true) :: some (AObj.row [Value.string nm, Value.int IntKind.i64 f, Value.slice (some { block := (0 : Nat), off := (0 : Nat) }) n c, Value.slice (some { block := (1 : Nat), off := (0 : Nat) }) k d] (0 : Nat) false true false) :: noH = some (AObj.row (flts xs) (1 : Nat) m1 w1 true) :: some (AObj.row (ints hs) (2 : Nat) m2 w2 true) :: some (AObj.row [Value.string nm, Value.int IntKind.i64 f, Value.slice (some { block := (0 : Nat), off := (0 : Nat) }) n c, Value.slice (some { block := (1 : Nat), off := (0 : Nat) }) k d] (0 : Nat) false true false) :: noH)) (K (Value.bool true) (some (AObj.row (flts xs) (1 : Nat) m1 w1 true) :: some (AObj.row (ints hs) (2 : Nat) m2 w2 true) :: noH))) := by kernel_rfl
/- A sample that is not 0. -/
noncomputable def lpNz (xs : List Nat) (off n c : Nat) : Lp where
  σ := Nat
  E s := slots 19 [(0, .slice (some ⟨0, off, none⟩) n c), (1, .func (.func 66) #[] #[]), (7, .int .i64 (Int.ofNat n)), (8, .int .i64 (Int.ofNat s))]
  Hp _ := [some (.row (flts xs) 1 true true true)]
  I s := s ≤ n ∧ nzI (((xs.drop off).take n).drop s) s = nzI ((xs.drop off).take n) 0
  m s := n - s
noncomputable def hsNz (xs : List Nat) (off n c : Nat) : Hs Try.prog where
  op y := if y = 403 then some (hIa Try.prog) else if y = 404 then some (hLd Try.prog (xF xs)) else none
  lp _ := some (lpNz xs off n c)
  cl _ := keep 19 [0, 1, 7, 8]
  au := au0 Try.prog
noncomputable def tNz : List (Nat × Orc) := [(66, orcNz)]
noncomputable def cNz : CallF := ctx Try.prog tNz
theorem cNz_ok : CallOK Try.prog cNz := ctx_ok hm (all_cons okNz all_nil)
theorem nzi_t (xs : List Nat) (off : Nat) (n : Nat) (c : Nat) (K : Value → Heap → Prop) :
    (fnP Try.prog cNz (hsNz xs off n c) (71 : FuncId) [Value.slice (some { block := (0 : Nat), off := off }) n c, Value.func (Fn.func (66 : FuncId)) #[] #[]] [some (AObj.row (flts xs) (1 : Nat) true true true)] K) =
    ((∃ (s : Nat), Is (s ≤ n ∧ nzI (List.drop s (List.take n (List.drop off xs))) s = nzI (List.take n (List.drop off xs)) (0 : Nat)) ∧ [Value.slice (some { block := (0 : Nat), off := off }) n c, Value.func (Fn.func (66 : Nat)) #[] #[], poi, poi, poi, poi, poi, Value.int IntKind.i64 (↑n : Int), Value.int IntKind.i64 (0 : Int), poi, poi, poi, poi, poi, poi, poi, poi, poi, poi] = [Value.slice (some { block := (0 : Nat), off := off }) n c, Value.func (Fn.func (66 : Nat)) #[] #[], poi, poi, poi, poi, poi, Value.int IntKind.i64 (↑n : Int), Value.int IntKind.i64 (↑s : Int), poi, poi, poi, poi, poi, poi, poi, poi, poi, poi] ∧ some (AObj.row (flts xs) (1 : Nat) true true true) :: noH = some (AObj.row (flts xs) (1 : Nat) true true true) :: noH) ∧ ∀ (s : Nat), Is (s ≤ n ∧ nzI (List.drop s (List.take n (List.drop off xs))) s = nzI (List.take n (List.drop off xs)) (0 : Nat)) → br (decide ((↑s : Int) < (↑n : Int))) (Is ((0 : Int) ≤ (↑s : Int) ∧ (↑s : Int) < (↑n : Int)) ∧ Is ((flts xs)[off + Int.toNat (↑s : Int) * (1 : Nat)]? = some (Value.float FloatKind.f32 (List.getD xs (off + Int.toNat (↑s : Int) * (1 : Nat)) (0 : Nat)))) ∧ br (fNe (List.getD xs (off + Int.toNat (↑s : Int) * (1 : Nat)) (0 : Nat)) (0 : Nat)) (K (Value.int IntKind.i64 (↑s : Int)) (some (AObj.row (flts xs) (1 : Nat) true true true) :: noH)) (∃ (s' : Nat), Is (s' ≤ n ∧ nzI (List.drop s' (List.take n (List.drop off xs))) s' = nzI (List.take n (List.drop off xs)) (0 : Nat)) ∧ Is (n - s' < n - s) ∧ [Value.slice (some { block := (0 : Nat), off := off }) n c, Value.func (Fn.func (66 : Nat)) #[] #[], poi, poi, poi, poi, poi, Value.int IntKind.i64 (↑n : Int), Value.int IntKind.i64 (IntKind.wrap IntKind.i64 ((↑s : Int) + (1 : Int))), poi, poi, poi, poi, poi, poi, poi, poi, poi, poi] = [Value.slice (some { block := (0 : Nat), off := off }) n c, Value.func (Fn.func (66 : Nat)) #[] #[], poi, poi, poi, poi, poi, Value.int IntKind.i64 (↑n : Int), Value.int IntKind.i64 (↑s' : Int), poi, poi, poi, poi, poi, poi, poi, poi, poi, poi] ∧ some (AObj.row (flts xs) (1 : Nat) true true true) :: noH = some (AObj.row (flts xs) (1 : Nat) true true true) :: noH)) (K (Value.int IntKind.i64 (-1 : Int)) (some (AObj.row (flts xs) (1 : Nat) true true true) :: noH))) := by kernel_rfl
theorem flts_len (xs : List Nat) : (flts xs).length = xs.length := by simp [flts]
theorem flts_at {xs : List Nat} {i : Nat} (h : i < xs.length) : (flts xs)[i]? = some (.float .f32 (xs.getD i 0)) := by
  simp [flts, List.getElem?_map, List.getElem?_eq_getElem h, List.getD_eq_getElem?_getD]
theorem flts_atom (xs : List Nat) : ∀ v ∈ flts xs, atom v = true := fun v hv => by
  obtain ⟨x, _, rfl⟩ := List.mem_map.1 hv
  rfl
theorem spn_drop {hs : List Int} {s : Nat} (h : s * 2 + 2 ≤ hs.length) : hs.drop (s * 2) = hs.getD (s * 2) 0 :: hs.getD (s * 2 + 1) 0 :: hs.drop ((s + 1) * 2) := by
  have h1 : s * 2 < hs.length := by omega
  have h2 : s * 2 + 1 < hs.length := by omega
  have e : (s + 1) * 2 = s * 2 + 1 + 1 := by omega
  rw [List.drop_eq_getElem_cons h1, List.drop_eq_getElem_cons h2, e]
  simp only [List.getD_eq_getElem?_getD, List.getElem?_eq_getElem h1, List.getElem?_eq_getElem h2, Option.getD_some]
theorem ldh {hs : List Int} {i : Nat} (h : i + 2 ≤ hs.length) : (if i + 2 ≤ (ints hs).length then some (Value.agg (List.toArray (List.take 2 (List.drop i (ints hs))))) else none) =
    some (.agg #[.int .i64 (hs.getD i 0), .int .i64 (hs.getD (i + 1) 0)]) := by
  rw [ints_len, if_pos h, ints_pair h]
noncomputable def isRn0 (xs : List Nat) (hs : List Int) (k : Nat) (e1 e2 : List Value) : Prop := e1 = flts xs ∧ e2 = ints hs ∧ hs.length = k * 2 ∧ k ≤ 100000
set_option maxRecDepth 100000 in
theorem kn_ok {nm : ByteArray} {f : Int} {n c k d : Nat} {xs : List Nat} {hs : List Int} {m1 w1 m2 w2 : Bool} {i : Int} (hk : hs.length = k * 2) (h9 : k ≤ 100000) :
    SmallRes Try.prog 29 [.agg (runA nm f 0 n c 1 k d).toArray, .int .i64 i] (hp2r xs hs m1 w1 m2 w2 []) (.bool (knB hs i)) (hp2r xs hs m1 w1 m2 w2 []) := by
  refine fnP_res hm c0_ok (hs := hsKn nm f n c k d xs hs m1 w1 m2 w2 i) ?_
  rw [kn_t]
  refine ⟨⟨(0 : Nat), ⟨by omega, by rw [Nat.zero_mul, List.drop_zero]⟩, by first | trivial | rfl, by first | trivial | rfl⟩, fun s hs' => br_of (fun hc => ?_) (fun hc => ?_)⟩
  · have hc := lt_of_dec hc
    obtain ⟨i1, i2⟩ := hs'.out
    rw [spn_drop (show s * 2 + 2 ≤ hs.length by omega), knB] at i2
    simp only [Nat.zero_add, Nat.add_zero, Int.toNat_natCast]
    have b1 : 0 ≤ (s : Int) ∧ (s : Int) < (k : Int) := by omega
    have next : knB (hs.drop ((s + 1) * 2)) i = knB hs i → ∃ s' : Nat, (s' ≤ k ∧ knB (hs.drop (s' * 2)) i = knB hs i) ∧ k - s' < k - s := fun h => ⟨s + 1, ⟨hc, h⟩, by omega⟩
    refine ⟨⟨b1⟩, ⟨zint_at (by omega)⟩, br_of (fun h1 => ⟨⟨b1⟩, ⟨zint_at (by omega)⟩, br_of (fun h2 => ?_) (fun h2 => ⟨s + 1, ⟨hc, ?_⟩, ⟨by omega⟩, by rw [up1 hc (by omega)], by first | trivial | rfl⟩)⟩) (fun h1 => ⟨s + 1, ⟨hc, ?_⟩, ⟨by omega⟩, by rw [up1 hc (by omega)], by first | trivial | rfl⟩)⟩
    · rw [h1, h2] at i2
      rw [← i2]
      exact ⟨by first | trivial | rfl, by first | trivial | rfl⟩
    · rw [h2, Bool.and_false, Bool.not_false, Bool.true_and] at i2
      exact i2
    · rw [h1, Bool.false_and, Bool.not_false, Bool.true_and] at i2
      exact i2
  · have hc := ge_of_dec hc
    obtain ⟨i1, i2⟩ := hs'.out
    rw [List.drop_eq_nil_of_le (by omega)] at i2
    rw [← i2]
    exact ⟨by first | trivial | rfl, by first | trivial | rfl⟩
noncomputable def orcKn (xs : List Nat) (hs : List Int) : OrcV
  | [.agg ⟨[.string _, .int .i64 _, .slice (some ⟨0, 0, none⟩) _ _, .slice (some ⟨1, 0, none⟩) k _]⟩, .int .i64 i], [some (.row e1 1 m1 w1 true), some (.row e2 2 m2 w2 true)] =>
    some (.bool (knB hs i), [some (.row e1 1 m1 w1 true), some (.row e2 2 m2 w2 true)], isRn0 xs hs k e1 e2)
  | _, _ => none
theorem okKn (xs : List Nat) (hs : List Int) : OkV Try.prog 29 (orcKn xs hs) := by
  intro args H ret H' vc h hv
  unfold orcKn at h
  split at h
  · cases h
    obtain ⟨rfl, rfl, h1, h2⟩ := hv
    exact kn_ok h1 h2
  · cases h
set_option maxRecDepth 100000 in
theorem nzi_ok {xs : List Nat} {off n c : Nat} (hn : off + n ≤ xs.length) (h9 : n ≤ 100000) :
    SmallRes Try.prog 71 [.slice (some ⟨0, off, none⟩) n c, .func (.func 66) #[] #[]] [some (.row (flts xs) 1 true true true)] (.int .i64 (nzI ((xs.drop off).take n) 0)) [some (.row (flts xs) 1 true true true)] := by
  refine fnP_res hm cNz_ok (hs := hsNz xs off n c) ?_
  rw [nzi_t]
  have hl : ((xs.drop off).take n).length = n := by rw [List.length_take, List.length_drop]; omega
  refine ⟨⟨(0 : Nat), ⟨by omega, by rw [List.drop_zero]⟩, by first | trivial | rfl, by first | trivial | rfl⟩, fun s hs' => br_of (fun hc => ?_) (fun hc => ?_)⟩
  · have hc := lt_of_dec hc
    obtain ⟨i1, i2⟩ := hs'.out
    have e : ((xs.drop off).take n).drop s = xs.getD (off + s) 0 :: ((xs.drop off).take n).drop (s + 1) := by
      rw [List.drop_eq_getElem_cons (by omega)]
      congr 1
      simp only [List.getElem_take, List.getElem_drop, List.getD_eq_getElem?_getD, List.getElem?_eq_getElem (show off + s < xs.length by omega), Option.getD_some]
    rw [e, nzI] at i2
    simp only [Nat.mul_one, Int.toNat_natCast]
    refine ⟨⟨by omega, by omega⟩, ⟨flts_at (by omega)⟩, br_of (fun hb => ?_) (fun hb => ⟨s + 1, ⟨hc, ?_⟩, ⟨by omega⟩, by rw [up1 hc (by omega)], by first | trivial | rfl⟩)⟩
    · have hb : nzB (xs.getD (off + s) 0) = true := hb
      rw [if_pos hb] at i2
      rw [← i2]
      exact ⟨by first | trivial | rfl, by first | trivial | rfl⟩
    · have hb : nzB (xs.getD (off + s) 0) = false := hb
      rw [if_neg (by rw [hb]; decide)] at i2
      exact i2
  · have hc := ge_of_dec hc
    obtain ⟨i1, i2⟩ := hs'.out
    rw [List.drop_eq_nil_of_le (by omega), nzI] at i2
    rw [← i2]
    exact ⟨by first | trivial | rfl, by first | trivial | rfl⟩
theorem nzI_any : ∀ (l : List Nat) (k : Nat), decide (0 ≤ nzI l k) = l.any nzB
  | [], _ => rfl
  | x :: r, k => by
    rw [nzI, List.any_cons]
    cases h : nzB x with
    | true => simp
    | false => simpa using nzI_any r (k + 1)
noncomputable def orcNzi (xs : List Nat) : OrcV
  | [.slice (some ⟨0, off, none⟩) n _, .func (.func 66) ⟨[]⟩ ⟨[]⟩], [some (.row e1 1 true true true)] => some (.int .i64 (nzI ((xs.drop off).take n) 0), [some (.row e1 1 true true true)], e1 = flts xs ∧ off + n ≤ xs.length ∧ n ≤ 100000)
  | _, _ => none
theorem okNzi (xs : List Nat) : OkV Try.prog 71 (orcNzi xs) := by
  intro args H ret H' vc h hv
  unfold orcNzi at h
  split at h
  · cases h
    obtain ⟨rfl, h1, h2⟩ := hv
    exact nzi_ok h1 h2
  · cases h
noncomputable def hsNc (xs : List Nat) : Hs Try.prog where
  au := auCalls [(71, hCa Try.prog 71 (orcNzi xs) (okNzi xs))]
theorem nc_t (xs : List Nat) (off : Nat) (n : Nat) (c : Nat) (K : Value → Heap → Prop) :
    (fnP Try.prog c0 (hsNc xs) (65 : FuncId) [Value.slice (some { block := (0 : Nat), off := off }) n c, Value.func (Fn.func (66 : FuncId)) #[] #[]] [some (AObj.row (flts xs) (1 : Nat) true true true)] K) =
    (Is (flts xs = flts xs ∧ off + n ≤ List.length xs ∧ n ≤ (100000 : Nat)) ∧ K (Value.bool (decide ((0 : Int) ≤ nzI (List.take n (List.drop off xs)) (0 : Nat)))) (some (AObj.row (flts xs) (1 : Nat) true true true) :: noH)) := by kernel_rfl
noncomputable def orcNc (xs : List Nat) : OrcV
  | [.slice (some ⟨0, off, none⟩) n _, .func (.func 66) ⟨[]⟩ ⟨[]⟩], [some (.row e1 1 true true true)] => some (.bool (((xs.drop off).take n).any nzB), [some (.row e1 1 true true true)], e1 = flts xs ∧ off + n ≤ xs.length ∧ n ≤ 100000)
  | _, _ => none
theorem okNc (xs : List Nat) : OkV Try.prog 65 (orcNc xs) := by
  intro args H ret H' vc h hv
  unfold orcNc at h
  split at h
  · rename_i off n c e1
    cases h
    obtain ⟨rfl, h1, h2⟩ := hv
    refine fnP_res hm c0_ok (hs := hsNc xs) ?_
    show fnP Try.prog c0 (hsNc xs) 65 [_, .func (.func 66) #[] #[]] _ _
    rw [nc_t, ← nzI_any _ 0]
    exact ⟨⟨by first | trivial | rfl, h1, h2⟩, by first | trivial | rfl, by first | trivial | rfl⟩
  · cases h
end
end Qq
end
section
/- Runs, checked: the program. -/
open Go Go.Vm Go.Proofs Sp
namespace Sp
noncomputable section
noncomputable def runE (nm : ByteArray) (f : Int) (xs : List Nat) (n : Nat) (hs : List Int) : Int :=
  sel (fi [wh (!nameB nm) 8, wi f 0 100000000, wh (decide ((4096 : Int) < n)) 5]) (sel (fi [fi (xs.map sE), wh (decide ((100000000 : Int) < f + n)) 4]) (sel (hchk n hs (-1)) (wh (!hzH xs hs) 1)))
end
end Sp
namespace Qq
noncomputable section
/- The errors of samples. -/
noncomputable def fS1 : Value := .func (.func 41) #[] #[]
noncomputable def oneR (l : List Int) : Option AObj := some (.row (ints l) 1 true true true)
noncomputable def fR (xs : List Nat) : Option AObj := some (.row (flts xs) 1 true true true)
noncomputable def lpMe0 (xs : List Nat) (n c : Nat) : Lp where
  σ := Nat
  E _ := slots 22 [(0, .slice (some ⟨0, 0, none⟩) n c), (1, fS1), (5, .slice (some ⟨1, 0, none⟩) 0 0)]
  Hp _ := [fR xs, oneR []]
  I s := s = 0
  m _ := 0
noncomputable def lpMe (xs : List Nat) (n c : Nat) : Lp where
  σ := Nat
  E i := slots 22 [(1, fS1), (5, .slice (some ⟨1, 0, none⟩) i 0), (8, .slice (some ⟨0, 0, none⟩) n c), (9, .int .i64 (Int.ofNat n)), (10, .int .i64 (Int.ofNat i))]
  Hp i := [fR xs, oneR ((xs.take i).map sE)]
  I i := i ≤ n
  m i := n - i
noncomputable def hsMe (xs : List Nat) (n c : Nat) : Hs Try.prog where
  op y := if y = 400 then some (hIa Try.prog) else if y = 401 then some (hLd Try.prog (xF xs)) else if y = 505 then some (hAp Try.prog) else none
  cut y := if y = 2 then some (lpMe0 xs n c) else none
  lp _ := some (lpMe xs n c)
  cl y := if y = 2 then keep 22 [0, 1, 5] else keep 22 [1, 5, 8, 9, 10]
  nl y := if y = 2 then [.slot 5 1] else []
  au := au0 Try.prog
noncomputable def tMe : List (Nat × Orc) := [(41, orcSm1)]
noncomputable def cMe : CallF := ctx Try.prog tMe
theorem cMe_ok : CallOK Try.prog cMe := ctx_ok hm (all_cons okSm1 all_nil)
theorem me_t (xs : List Nat) (n : Nat) (c : Nat) (K : Value → Heap → Prop) :
    (fnP Try.prog cMe (hsMe xs n c) (52 : FuncId) [Value.slice (some { block := (0 : Nat), off := (0 : Nat) }) n c, fS1] [fR xs] K) =
    ((∃ (s : Nat), Is (s = (0 : Nat)) ∧ [Value.slice (some { block := (0 : Nat), off := (0 : Nat) }) n c, Value.func (Fn.func (41 : Nat)) #[] #[], poi, poi, poi, Value.slice (some { block := (1 : Nat), off := (0 : Nat) }) (0 : Nat) (0 : Nat), poi, poi, poi, poi, poi, poi, poi, poi, poi, poi, poi, poi, poi, poi, poi, poi] = [Value.slice (some { block := (0 : Nat), off := (0 : Nat) }) n c, Value.func (Fn.func (41 : Nat)) #[] #[], poi, poi, poi, Value.slice (some { block := (1 : Nat), off := (0 : Nat) }) (0 : Nat) (0 : Nat), poi, poi, poi, poi, poi, poi, poi, poi, poi, poi, poi, poi, poi, poi, poi, poi] ∧ some (AObj.row (flts xs) (1 : Nat) true true true) :: some (AObj.row [] (1 : Nat) true true true) :: noH = some (AObj.row (flts xs) (1 : Nat) true true true) :: some (AObj.row [] (1 : Nat) true true true) :: noH) ∧ ∀ (s : Nat), Is (s = (0 : Nat)) → (∃ (s : Nat), Is (s ≤ n) ∧ [poi, Value.func (Fn.func (41 : Nat)) #[] #[], poi, poi, poi, Value.slice (some { block := (1 : Nat), off := (0 : Nat) }) (0 : Nat) (0 : Nat), poi, poi, Value.slice (some { block := (0 : Nat), off := (0 : Nat) }) n c, Value.int IntKind.i64 (↑n : Int), Value.int IntKind.i64 (0 : Int), poi, poi, poi, poi, poi, poi, poi, poi, poi, poi, poi] = [poi, Value.func (Fn.func (41 : Nat)) #[] #[], poi, poi, poi, Value.slice (some { block := (1 : Nat), off := (0 : Nat) }) s (0 : Nat), poi, poi, Value.slice (some { block := (0 : Nat), off := (0 : Nat) }) n c, Value.int IntKind.i64 (↑n : Int), Value.int IntKind.i64 (↑s : Int), poi, poi, poi, poi, poi, poi, poi, poi, poi, poi, poi] ∧ some (AObj.row (flts xs) (1 : Nat) true true true) :: some (AObj.row [] (1 : Nat) true true true) :: noH = some (AObj.row (flts xs) (1 : Nat) true true true) :: some (AObj.row (ints (List.map sE (List.take s xs))) (1 : Nat) true true true) :: noH) ∧ ∀ (s : Nat), Is (s ≤ n) → br (decide ((↑s : Int) < (↑n : Int))) (Is ((0 : Int) ≤ (↑s : Int) ∧ (↑s : Int) < (↑n : Int)) ∧ Is ((flts xs)[(0 : Nat) + Int.toNat (↑s : Int) * (1 : Nat)]? = some (Value.float FloatKind.f32 (List.getD xs ((0 : Nat) + Int.toNat (↑s : Int) * (1 : Nat)) (0 : Nat)))) ∧ Is (List.length (ints (List.map sE (List.take s xs))) = s * (1 : Nat) ∧ (s + (1 : Nat)) * (8 : Nat) ≤ (140737488355328 : Nat) ∧ s + (1 : Nat) ≤ (9223372036854775807 : Nat)) ∧ ∃ (s' : Nat), Is (s' ≤ n) ∧ Is (n - s' < n - s) ∧ [poi, Value.func (Fn.func (41 : Nat)) #[] #[], poi, poi, poi, Value.slice (some { block := (1 : Nat), off := (0 : Nat) }) (s + (1 : Nat)) (0 : Nat), poi, poi, Value.slice (some { block := (0 : Nat), off := (0 : Nat) }) n c, Value.int IntKind.i64 (↑n : Int), Value.int IntKind.i64 (IntKind.wrap IntKind.i64 ((↑s : Int) + (1 : Int))), poi, poi, poi, poi, poi, poi, poi, poi, poi, poi, poi] = [poi, Value.func (Fn.func (41 : Nat)) #[] #[], poi, poi, poi, Value.slice (some { block := (1 : Nat), off := (0 : Nat) }) s' (0 : Nat), poi, poi, Value.slice (some { block := (0 : Nat), off := (0 : Nat) }) n c, Value.int IntKind.i64 (↑n : Int), Value.int IntKind.i64 (↑s' : Int), poi, poi, poi, poi, poi, poi, poi, poi, poi, poi, poi] ∧ some (AObj.row (flts xs) (1 : Nat) true true true) :: some (AObj.row (ints (List.map sE (List.take s xs)) ++ [Value.int IntKind.i64 (sE (List.getD xs ((0 : Nat) + Int.toNat (↑s : Int) * (1 : Nat)) (0 : Nat)))]) (1 : Nat) true true (List.all [Value.int IntKind.i64 (sE (List.getD xs ((0 : Nat) + Int.toNat (↑s : Int) * (1 : Nat)) (0 : Nat)))] atom)) :: noH = some (AObj.row (flts xs) (1 : Nat) true true true) :: some (AObj.row (ints (List.map sE (List.take s' xs))) (1 : Nat) true true true) :: noH) (K (Value.slice (some { block := (1 : Nat), off := (0 : Nat) }) s (0 : Nat)) (some (AObj.row (flts xs) (1 : Nat) true true true) :: some (AObj.row (ints (List.map sE (List.take s xs))) (1 : Nat) true true true) :: noH))) := by kernel_rfl
/- Holes. -/
noncomputable def runO (nm : ByteArray) (f : Int) (n c k d : Nat) : Option AObj := some (.row (runA nm f 0 n c 1 k d) 0 false true false)
noncomputable def lpCh1 (nm : ByteArray) (f : Int) (n c k d : Nat) (xs : List Nat) (hs : List Int) : Lp where
  σ := Nat × Int
  E s := slots 64 [(1, .pointer (some ⟨2, 0, none⟩)), (3, .int .i64 s.2), (10, .slice (some ⟨1, 0, none⟩) k d), (11, .int .i64 (Int.ofNat k)), (12, .int .i64 (Int.ofNat s.1))]
  Hp _ := hp2r xs hs true true true true [runO nm f n c k d]
  I s := s.1 ≤ k ∧ hchk n (hs.drop (s.1 * 2)) s.2 = hchk n hs (-1)
  m s := k - s.1
noncomputable def lpCh2 (nm : ByteArray) (f : Int) (n c k d : Nat) (xs : List Nat) (hs : List Int) : Lp where
  σ := Nat
  E s := slots 64 [(1, .pointer (some ⟨2, 0, none⟩)), (49, .slice (some ⟨1, 0, none⟩) k d), (50, .int .i64 (Int.ofNat k)), (51, .int .i64 (Int.ofNat s))]
  Hp _ := hp2r xs hs true true true true [runO nm f n c k d]
  I s := s ≤ k ∧ hzH xs (hs.drop (s * 2)) = hzH xs hs
  m s := k - s
noncomputable def hsCh (nm : ByteArray) (f : Int) (n c k d : Nat) (xs : List Nat) (hs : List Int) : Hs Try.prog where
  op y := if [400, 1200].contains y then some (hIa Try.prog) else if [401, 1201].contains y then some (hLd Try.prog (z2 hs)) else if y = 1306 then some (hSl Try.prog) else none
  lp y := if y = 3 then some (lpCh1 nm f n c k d xs hs) else some (lpCh2 nm f n c k d xs hs)
  cl y := if y = 3 then keep 64 [1, 3, 10, 11, 12] else keep 64 [1, 49, 50, 51]
  au := auCalls [(65, hCa Try.prog 65 (orcNc xs) (okNc xs))]
theorem ch_t (nm : ByteArray) (f : Int) (n : Nat) (c : Nat) (k : Nat) (d : Nat) (xs : List Nat) (hs : List Int) (K : Value → Heap → Prop) :
    (fnP Try.prog cs2 (hsCh nm f n c k d xs hs) (53 : FuncId) [Value.agg (List.toArray (runA nm f (0 : Nat) n c (1 : Nat) k d))] (hp2r xs hs true true true true []) K) =
    ((∃ (s : Nat × Int), Is (Prod.fst s ≤ k ∧ hchk (↑n : Int) (List.drop (Prod.fst s * (2 : Nat)) hs) (Prod.snd s) = hchk (↑n : Int) hs (-1 : Int)) ∧ [poi, Value.pointer (some { block := (2 : Nat), off := (0 : Nat) }), poi, Value.int IntKind.i64 (-1 : Int), poi, poi, poi, poi, poi, poi, Value.slice (some { block := (1 : Nat), off := (0 : Nat) }) k d, Value.int IntKind.i64 (↑k : Int), Value.int IntKind.i64 (0 : Int), poi, poi, poi, poi, poi, poi, poi, poi, poi, poi, poi, poi, poi, poi, poi, poi, poi, poi, poi, poi, poi, poi, poi, poi, poi, poi, poi, poi, poi, poi, poi, poi, poi, poi, poi, poi, poi, poi, poi, poi, poi, poi, poi, poi, poi, poi, poi, poi, poi, poi, poi] = [poi, Value.pointer (some { block := (2 : Nat), off := (0 : Nat) }), poi, Value.int IntKind.i64 (Prod.snd s), poi, poi, poi, poi, poi, poi, Value.slice (some { block := (1 : Nat), off := (0 : Nat) }) k d, Value.int IntKind.i64 (↑k : Int), Value.int IntKind.i64 (↑(Prod.fst s) : Int), poi, poi, poi, poi, poi, poi, poi, poi, poi, poi, poi, poi, poi, poi, poi, poi, poi, poi, poi, poi, poi, poi, poi, poi, poi, poi, poi, poi, poi, poi, poi, poi, poi, poi, poi, poi, poi, poi, poi, poi, poi, poi, poi, poi, poi, poi, poi, poi, poi, poi, poi] ∧ some (AObj.row (flts xs) (1 : Nat) true true true) :: some (AObj.row (ints hs) (2 : Nat) true true true) :: some (AObj.row [Value.string nm, Value.int IntKind.i64 f, Value.slice (some { block := (0 : Nat), off := (0 : Nat) }) n c, Value.slice (some { block := (1 : Nat), off := (0 : Nat) }) k d] (0 : Nat) false true (List.all [Value.string nm, Value.int IntKind.i64 f, Value.slice (some { block := (0 : Nat), off := (0 : Nat) }) n c, Value.slice (some { block := (1 : Nat), off := (0 : Nat) }) k d] atom)) :: noH = some (AObj.row (flts xs) (1 : Nat) true true true) :: some (AObj.row (ints hs) (2 : Nat) true true true) :: some (AObj.row [Value.string nm, Value.int IntKind.i64 f, Value.slice (some { block := (0 : Nat), off := (0 : Nat) }) n c, Value.slice (some { block := (1 : Nat), off := (0 : Nat) }) k d] (0 : Nat) false true false) :: noH) ∧ ∀ (s : Nat × Int), Is (Prod.fst s ≤ k ∧ hchk (↑n : Int) (List.drop (Prod.fst s * (2 : Nat)) hs) (Prod.snd s) = hchk (↑n : Int) hs (-1 : Int)) → br (decide ((↑(Prod.fst s) : Int) < (↑k : Int))) (Is ((0 : Int) ≤ (↑(Prod.fst s) : Int) ∧ (↑(Prod.fst s) : Int) < (↑k : Int)) ∧ Is ((if (0 : Nat) + Int.toNat (↑(Prod.fst s) : Int) * (2 : Nat) + (2 : Nat) ≤ List.length (ints hs) then some (Value.agg (List.toArray (List.take (2 : Nat) (List.drop ((0 : Nat) + Int.toNat (↑(Prod.fst s) : Int) * (2 : Nat)) (ints hs))))) else none) = some (Value.agg #[Value.int IntKind.i64 (List.getD hs ((0 : Nat) + Int.toNat (↑(Prod.fst s) : Int) * (2 : Nat)) (0 : Int)), Value.int IntKind.i64 (List.getD hs ((0 : Nat) + Int.toNat (↑(Prod.fst s) : Int) * (2 : Nat) + (1 : Nat)) (0 : Int))])) ∧ br (decide (List.getD hs ((0 : Nat) + Int.toNat (↑(Prod.fst s) : Int) * (2 : Nat)) (0 : Int) < (0 : Int))) (K (Value.int IntKind.i64 (fi [(14 : Int), wh (decide (List.getD hs ((0 : Nat) + Int.toNat (↑(Prod.fst s) : Int) * (2 : Nat)) (0 : Int) ≤ Prod.snd s)) (11 : Int)])) (some (AObj.row (flts xs) (1 : Nat) true true true) :: some (AObj.row (ints hs) (2 : Nat) true true true) :: noH)) (br (decide (List.getD hs ((0 : Nat) + Int.toNat (↑(Prod.fst s) : Int) * (2 : Nat) + (1 : Nat)) (0 : Int) ≤ List.getD hs ((0 : Nat) + Int.toNat (↑(Prod.fst s) : Int) * (2 : Nat)) (0 : Int))) (K (Value.int IntKind.i64 (fi [(14 : Int), wh (decide (List.getD hs ((0 : Nat) + Int.toNat (↑(Prod.fst s) : Int) * (2 : Nat)) (0 : Int) ≤ Prod.snd s)) (11 : Int)])) (some (AObj.row (flts xs) (1 : Nat) true true true) :: some (AObj.row (ints hs) (2 : Nat) true true true) :: noH)) (br (fi [wh (decide ((↑n : Int) < List.getD hs ((0 : Nat) + Int.toNat (↑(Prod.fst s) : Int) * (2 : Nat) + (1 : Nat)) (0 : Int))) (14 : Int), wh (decide (List.getD hs ((0 : Nat) + Int.toNat (↑(Prod.fst s) : Int) * (2 : Nat)) (0 : Int) ≤ Prod.snd s)) (11 : Int)] != (0 : Int)) (K (Value.int IntKind.i64 (fi [wh (decide ((↑n : Int) < List.getD hs ((0 : Nat) + Int.toNat (↑(Prod.fst s) : Int) * (2 : Nat) + (1 : Nat)) (0 : Int))) (14 : Int), wh (decide (List.getD hs ((0 : Nat) + Int.toNat (↑(Prod.fst s) : Int) * (2 : Nat)) (0 : Int) ≤ Prod.snd s)) (11 : Int)])) (some (AObj.row (flts xs) (1 : Nat) true true true) :: some (AObj.row (ints hs) (2 : Nat) true true true) :: noH)) (∃ (s' : Nat × Int), Is (Prod.fst s' ≤ k ∧ hchk (↑n : Int) (List.drop (Prod.fst s' * (2 : Nat)) hs) (Prod.snd s') = hchk (↑n : Int) hs (-1 : Int)) ∧ Is (k - Prod.fst s' < k - Prod.fst s) ∧ [poi, Value.pointer (some { block := (2 : Nat), off := (0 : Nat) }), poi, Value.int IntKind.i64 (List.getD hs ((0 : Nat) + Int.toNat (↑(Prod.fst s) : Int) * (2 : Nat) + (1 : Nat)) (0 : Int)), poi, poi, poi, poi, poi, poi, Value.slice (some { block := (1 : Nat), off := (0 : Nat) }) k d, Value.int IntKind.i64 (↑k : Int), Value.int IntKind.i64 (IntKind.wrap IntKind.i64 ((↑(Prod.fst s) : Int) + (1 : Int))), poi, poi, poi, poi, poi, poi, poi, poi, poi, poi, poi, poi, poi, poi, poi, poi, poi, poi, poi, poi, poi, poi, poi, poi, poi, poi, poi, poi, poi, poi, poi, poi, poi, poi, poi, poi, poi, poi, poi, poi, poi, poi, poi, poi, poi, poi, poi, poi, poi, poi, poi] = [poi, Value.pointer (some { block := (2 : Nat), off := (0 : Nat) }), poi, Value.int IntKind.i64 (Prod.snd s'), poi, poi, poi, poi, poi, poi, Value.slice (some { block := (1 : Nat), off := (0 : Nat) }) k d, Value.int IntKind.i64 (↑k : Int), Value.int IntKind.i64 (↑(Prod.fst s') : Int), poi, poi, poi, poi, poi, poi, poi, poi, poi, poi, poi, poi, poi, poi, poi, poi, poi, poi, poi, poi, poi, poi, poi, poi, poi, poi, poi, poi, poi, poi, poi, poi, poi, poi, poi, poi, poi, poi, poi, poi, poi, poi, poi, poi, poi, poi, poi, poi, poi, poi, poi] ∧ some (AObj.row (flts xs) (1 : Nat) true true true) :: some (AObj.row (ints hs) (2 : Nat) true true true) :: some (AObj.row [Value.string nm, Value.int IntKind.i64 f, Value.slice (some { block := (0 : Nat), off := (0 : Nat) }) n c, Value.slice (some { block := (1 : Nat), off := (0 : Nat) }) k d] (0 : Nat) false true false) :: noH = some (AObj.row (flts xs) (1 : Nat) true true true) :: some (AObj.row (ints hs) (2 : Nat) true true true) :: some (AObj.row [Value.string nm, Value.int IntKind.i64 f, Value.slice (some { block := (0 : Nat), off := (0 : Nat) }) n c, Value.slice (some { block := (1 : Nat), off := (0 : Nat) }) k d] (0 : Nat) false true false) :: noH)))) ((∃ (s : Nat), Is (s ≤ k ∧ hzH xs (List.drop (s * (2 : Nat)) hs) = hzH xs hs) ∧ [poi, Value.pointer (some { block := (2 : Nat), off := (0 : Nat) }), poi, poi, poi, poi, poi, poi, poi, poi, poi, poi, poi, poi, poi, poi, poi, poi, poi, poi, poi, poi, poi, poi, poi, poi, poi, poi, poi, poi, poi, poi, poi, poi, poi, poi, poi, poi, poi, poi, poi, poi, poi, poi, poi, poi, poi, poi, poi, Value.slice (some { block := (1 : Nat), off := (0 : Nat) }) k d, Value.int IntKind.i64 (↑k : Int), Value.int IntKind.i64 (0 : Int), poi, poi, poi, poi, poi, poi, poi, poi, poi, poi, poi, poi] = [poi, Value.pointer (some { block := (2 : Nat), off := (0 : Nat) }), poi, poi, poi, poi, poi, poi, poi, poi, poi, poi, poi, poi, poi, poi, poi, poi, poi, poi, poi, poi, poi, poi, poi, poi, poi, poi, poi, poi, poi, poi, poi, poi, poi, poi, poi, poi, poi, poi, poi, poi, poi, poi, poi, poi, poi, poi, poi, Value.slice (some { block := (1 : Nat), off := (0 : Nat) }) k d, Value.int IntKind.i64 (↑k : Int), Value.int IntKind.i64 (↑s : Int), poi, poi, poi, poi, poi, poi, poi, poi, poi, poi, poi, poi] ∧ some (AObj.row (flts xs) (1 : Nat) true true true) :: some (AObj.row (ints hs) (2 : Nat) true true true) :: some (AObj.row [Value.string nm, Value.int IntKind.i64 f, Value.slice (some { block := (0 : Nat), off := (0 : Nat) }) n c, Value.slice (some { block := (1 : Nat), off := (0 : Nat) }) k d] (0 : Nat) false true false) :: noH = some (AObj.row (flts xs) (1 : Nat) true true true) :: some (AObj.row (ints hs) (2 : Nat) true true true) :: some (AObj.row [Value.string nm, Value.int IntKind.i64 f, Value.slice (some { block := (0 : Nat), off := (0 : Nat) }) n c, Value.slice (some { block := (1 : Nat), off := (0 : Nat) }) k d] (0 : Nat) false true false) :: noH) ∧ ∀ (s : Nat), Is (s ≤ k ∧ hzH xs (List.drop (s * (2 : Nat)) hs) = hzH xs hs) → br (decide ((↑s : Int) < (↑k : Int))) (Is ((0 : Int) ≤ (↑s : Int) ∧ (↑s : Int) < (↑k : Int)) ∧ Is ((if (0 : Nat) + Int.toNat (↑s : Int) * (2 : Nat) + (2 : Nat) ≤ List.length (ints hs) then some (Value.agg (List.toArray (List.take (2 : Nat) (List.drop ((0 : Nat) + Int.toNat (↑s : Int) * (2 : Nat)) (ints hs))))) else none) = some (Value.agg #[Value.int IntKind.i64 (List.getD hs ((0 : Nat) + Int.toNat (↑s : Int) * (2 : Nat)) (0 : Int)), Value.int IntKind.i64 (List.getD hs ((0 : Nat) + Int.toNat (↑s : Int) * (2 : Nat) + (1 : Nat)) (0 : Int))])) ∧ Is ((0 : Int) ≤ List.getD hs ((0 : Nat) + Int.toNat (↑s : Int) * (2 : Nat)) (0 : Int) ∧ List.getD hs ((0 : Nat) + Int.toNat (↑s : Int) * (2 : Nat)) (0 : Int) ≤ List.getD hs ((0 : Nat) + Int.toNat (↑s : Int) * (2 : Nat) + (1 : Nat)) (0 : Int) ∧ List.getD hs ((0 : Nat) + Int.toNat (↑s : Int) * (2 : Nat) + (1 : Nat)) (0 : Int) ≤ (↑n : Int)) ∧ Is (flts xs = flts xs ∧ (0 : Nat) + Int.toNat (List.getD hs ((0 : Nat) + Int.toNat (↑s : Int) * (2 : Nat)) (0 : Int)) * (1 : Nat) + (Int.toNat (List.getD hs ((0 : Nat) + Int.toNat (↑s : Int) * (2 : Nat) + (1 : Nat)) (0 : Int)) - Int.toNat (List.getD hs ((0 : Nat) + Int.toNat (↑s : Int) * (2 : Nat)) (0 : Int))) ≤ List.length xs ∧ Int.toNat (List.getD hs ((0 : Nat) + Int.toNat (↑s : Int) * (2 : Nat) + (1 : Nat)) (0 : Int)) - Int.toNat (List.getD hs ((0 : Nat) + Int.toNat (↑s : Int) * (2 : Nat)) (0 : Int)) ≤ (100000 : Nat)) ∧ br (List.any (List.take (Int.toNat (List.getD hs ((0 : Nat) + Int.toNat (↑s : Int) * (2 : Nat) + (1 : Nat)) (0 : Int)) - Int.toNat (List.getD hs ((0 : Nat) + Int.toNat (↑s : Int) * (2 : Nat)) (0 : Int))) (List.drop ((0 : Nat) + Int.toNat (List.getD hs ((0 : Nat) + Int.toNat (↑s : Int) * (2 : Nat)) (0 : Int)) * (1 : Nat)) xs)) nzB) (K (Value.int IntKind.i64 (1 : Int)) (some (AObj.row (flts xs) (1 : Nat) true true true) :: some (AObj.row (ints hs) (2 : Nat) true true true) :: noH)) (∃ (s' : Nat), Is (s' ≤ k ∧ hzH xs (List.drop (s' * (2 : Nat)) hs) = hzH xs hs) ∧ Is (k - s' < k - s) ∧ [poi, Value.pointer (some { block := (2 : Nat), off := (0 : Nat) }), poi, poi, poi, poi, poi, poi, poi, poi, poi, poi, poi, poi, poi, poi, poi, poi, poi, poi, poi, poi, poi, poi, poi, poi, poi, poi, poi, poi, poi, poi, poi, poi, poi, poi, poi, poi, poi, poi, poi, poi, poi, poi, poi, poi, poi, poi, poi, Value.slice (some { block := (1 : Nat), off := (0 : Nat) }) k d, Value.int IntKind.i64 (↑k : Int), Value.int IntKind.i64 (IntKind.wrap IntKind.i64 ((↑s : Int) + (1 : Int))), poi, poi, poi, poi, poi, poi, poi, poi, poi, poi, poi, poi] = [poi, Value.pointer (some { block := (2 : Nat), off := (0 : Nat) }), poi, poi, poi, poi, poi, poi, poi, poi, poi, poi, poi, poi, poi, poi, poi, poi, poi, poi, poi, poi, poi, poi, poi, poi, poi, poi, poi, poi, poi, poi, poi, poi, poi, poi, poi, poi, poi, poi, poi, poi, poi, poi, poi, poi, poi, poi, poi, Value.slice (some { block := (1 : Nat), off := (0 : Nat) }) k d, Value.int IntKind.i64 (↑k : Int), Value.int IntKind.i64 (↑s' : Int), poi, poi, poi, poi, poi, poi, poi, poi, poi, poi, poi, poi] ∧ some (AObj.row (flts xs) (1 : Nat) true true true) :: some (AObj.row (ints hs) (2 : Nat) true true true) :: some (AObj.row [Value.string nm, Value.int IntKind.i64 f, Value.slice (some { block := (0 : Nat), off := (0 : Nat) }) n c, Value.slice (some { block := (1 : Nat), off := (0 : Nat) }) k d] (0 : Nat) false true false) :: noH = some (AObj.row (flts xs) (1 : Nat) true true true) :: some (AObj.row (ints hs) (2 : Nat) true true true) :: some (AObj.row [Value.string nm, Value.int IntKind.i64 f, Value.slice (some { block := (0 : Nat), off := (0 : Nat) }) n c, Value.slice (some { block := (1 : Nat), off := (0 : Nat) }) k d] (0 : Nat) false true false) :: noH)) (K (Value.int IntKind.i64 (0 : Int)) (some (AObj.row (flts xs) (1 : Nat) true true true) :: some (AObj.row (ints hs) (2 : Nat) true true true) :: noH)))) := by kernel_rfl
theorem take_one {xs : List Nat} {s : Nat} (h : s < xs.length) : xs.take (s + 1) = xs.take s ++ [xs.getD s 0] := by
  rw [List.take_add_one]
  simp [List.getD_eq_getElem?_getD, h]
set_option maxRecDepth 100000 in
theorem me_ok {xs : List Nat} {n c : Nat} (hn : xs.length = n) (h9 : n ≤ 100000) :
    SmallRes Try.prog 52 [.slice (some ⟨0, 0, none⟩) n c, fS1] [fR xs] (.slice (some ⟨1, 0, none⟩) n 0) [fR xs, oneR (xs.map sE)] := by
  refine fnP_res hm cMe_ok (hs := hsMe xs n c) ?_
  rw [me_t]
  refine ⟨⟨(0 : Nat), ⟨rfl⟩, by first | trivial | rfl, by first | trivial | rfl⟩, fun _ _ => ⟨⟨(0 : Nat), ⟨by omega⟩, by first | trivial | rfl, by first | trivial | rfl⟩, fun s hs' => br_of (fun hc => ?_) (fun hc => ?_)⟩⟩
  · have hc := lt_of_dec hc
    simp only [Nat.zero_add, Nat.mul_one, Int.toNat_natCast]
    refine ⟨⟨by omega, by omega⟩, ⟨flts_at (by omega)⟩, ⟨by rw [ints_len, List.length_map, List.length_take]; omega, by omega, by omega⟩, s + 1, ⟨hc⟩, ⟨by omega⟩, ?_, ?_⟩
    · rw [up1 hc (by omega)]
    · rw [take_one (by omega), List.map_append, ← ints_app]; rfl
  · have hc := ge_of_dec hc
    have : s = n := by have := hs'.out; omega
    subst this
    rw [← hn, List.take_length]
    exact ⟨by first | trivial | rfl, by first | trivial | rfl⟩
noncomputable def orcMe (xs : List Nat) : OrcV
  | [.slice (some ⟨0, 0, none⟩) n _, .func (.func 41) ⟨[]⟩ ⟨[]⟩], [some (.row e1 1 true true true)] => some (.slice (some ⟨1, 0, none⟩) n 0, [some (.row e1 1 true true true), oneR (xs.map sE)], e1 = flts xs ∧ xs.length = n ∧ n ≤ 100000)
  | _, _ => none
theorem okMe (xs : List Nat) : OkV Try.prog 52 (orcMe xs) := by
  intro args H ret H' vc h hv
  unfold orcMe at h
  split at h
  · cases h
    obtain ⟨rfl, h1, h2⟩ := hv
    exact me_ok h1 h2
  · cases h
set_option maxRecDepth 100000 in
theorem firstS_ok {l : List Int} {n c : Nat} {more rw' : Bool} (hn : l.length = n) (hlt : n ≤ 100000) :
    SmallRes Try.prog 48 [.slice (some ⟨0, 0, none⟩) n c] [some (.row (ints l) 1 more rw' true)] (.int .i64 (fi l)) [some (.row (ints l) 1 more rw' true)] := by
  subst hn
  refine fnP_res hm c0_ok (hs := hFirst l l.length c 1 more rw') ?_
  rw [firstS_t]
  refine ⟨⟨(0 : Nat), ⟨by simp, by simp⟩, rfl, rfl⟩, fun s hs => ?_⟩
  obtain ⟨h1, h2⟩ := hs.out
  refine br_of (fun hc => ?_) (fun hc => ?_)
  · have hc : s < l.length := by simpa using hc
    refine ⟨⟨by omega, by omega⟩, ⟨by simpa using ints_at hc⟩, br_of (fun hd => ?_) (fun hd => ?_)⟩
    · have := fi_drop hc
      have hd' : l.getD s 0 ≠ 0 := by simpa using hd
      rw [if_neg hd'] at this
      simp [← h2, this]
    · have := fi_drop hc
      have hd' : l.getD s 0 = 0 := by simpa using hd
      rw [if_pos hd'] at this
      refine ⟨s + 1, ⟨hc, by rw [← this, h2]⟩, ⟨by omega⟩, ?_, rfl⟩
      rw [wrap_eq (by omega) (by omega)]
      rfl
  · have hc : l.length ≤ s := by simpa using hc
    have : s = l.length := by omega
    subst this
    simp [← h2, fi]
noncomputable def orcFiV (l : List Int) : OrcV
  | [.slice (some ⟨0, 0, none⟩) n _], [some (.row e1 1 m w true)] => some (.int .i64 (fi l), [some (.row e1 1 m w true)], e1 = ints l ∧ l.length = n ∧ n ≤ 100000)
  | _, _ => none
theorem okFiV (l : List Int) : OkV Try.prog 48 (orcFiV l) := by
  intro args H ret H' vc h hv
  unfold orcFiV at h
  split at h
  · cases h
    obtain ⟨rfl, h1, h2⟩ := hv
    exact firstS_ok h1 h2
  · cases h
/-- A span that is checked. -/
theorem hchk_all {n : Int} : ∀ (hs : List Int) (last : Int), hchk n hs last = 0 → ∀ i, i * 2 + 2 ≤ hs.length → last < hs.getD (i * 2) 0 ∧ 0 ≤ hs.getD (i * 2) 0 ∧ hs.getD (i * 2) 0 < hs.getD (i * 2 + 1) 0 ∧ hs.getD (i * 2 + 1) 0 ≤ n
  | [], _, _, i, h => by simp at h
  | [_], _, _, i, h => by simp only [List.length_cons, List.length_nil] at h; omega
  | a :: b :: r, last, h, i, hi => by
    rw [hchk] at h
    obtain ⟨h1, h2⟩ := sel_zero.1 h
    have k1 := (wh_zero (by decide)).1 (fi_zero.1 h1 (wh (decide (a < 0) || (decide (b ≤ a) || decide (n < b))) 14) (by simp))
    have k2 := (wh_zero (by decide)).1 (fi_zero.1 h1 (wh (decide (a ≤ last)) 11) (by simp))
    simp only [Bool.or_eq_false_iff, decide_eq_false_iff_not] at k1 k2
    match i with
    | 0 => simp only [Nat.zero_mul, Nat.zero_add, List.getD_cons_zero, List.getD_cons_succ]; omega
    | i + 1 =>
      have := hchk_all r b h2 i (by simp only [List.length_cons] at hi; omega)
      rw [show (i + 1) * 2 = i * 2 + 1 + 1 by omega]
      simp only [List.getD_cons_succ]
      omega
set_option maxRecDepth 100000 in
theorem ch_ok {nm : ByteArray} {f : Int} {n c k d : Nat} {xs : List Nat} {hs : List Int} (hn : xs.length = n) (h9 : n ≤ 100000) (hk : hs.length = k * 2) (hk9 : k ≤ 100000) :
    SmallRes Try.prog 53 [.agg (runA nm f 0 n c 1 k d).toArray] (hp2r xs hs true true true true []) (.int .i64 (sel (hchk n hs (-1)) (wh (!hzH xs hs) 1))) (hp2r xs hs true true true true []) := by
  refine fnP_res hm cs2_ok (hs := hsCh nm f n c k d xs hs) ?_
  rw [ch_t]
  refine ⟨⟨((0 : Nat), (-1 : Int)), ⟨by omega, by rw [Nat.zero_mul, List.drop_zero]⟩, by first | trivial | rfl, by first | trivial | rfl⟩, fun s hs' => br_of (fun hc => ?_) (fun hc => ?_)⟩
  · have hc := lt_of_dec hc
    obtain ⟨i1, i2⟩ := hs'.out
    rw [spn_drop (show s.1 * 2 + 2 ≤ hs.length by omega), hchk] at i2
    simp only [Nat.zero_add, Int.toNat_natCast]
    have out : ∀ {e : Int}, fi [wh (decide (hs.getD (s.1 * 2) 0 < 0) || (decide (hs.getD (s.1 * 2 + 1) 0 ≤ hs.getD (s.1 * 2) 0) || decide ((n : Int) < hs.getD (s.1 * 2 + 1) 0))) 14, wh (decide (hs.getD (s.1 * 2) 0 ≤ s.2)) 11] = e → e ≠ 0 → sel (hchk n hs (-1)) (wh (!hzH xs hs) 1) = e := fun h h0 => by
      rw [h, sel, if_neg h0] at i2
      rw [← i2, sel, if_neg h0]
    refine ⟨⟨by omega, by omega⟩, ⟨ldh (by omega)⟩, br_of (fun h1 => ?_) (fun h1 => br_of (fun h2 => ?_) (fun h2 => br_of (fun h3 => ?_) (fun h3 => ⟨(s.1 + 1, hs.getD (s.1 * 2 + 1) 0), ⟨hc, ?_⟩, ⟨by simp only; omega⟩, ?_, by first | trivial | rfl⟩)))⟩
    · rw [out (e := fi [14, wh (decide (hs.getD (s.1 * 2) 0 ≤ s.2)) 11]) (by rw [h1]; rfl) (by simp [fi])]
      exact ⟨by first | trivial | rfl, by first | trivial | rfl⟩
    · rw [out (e := fi [14, wh (decide (hs.getD (s.1 * 2) 0 ≤ s.2)) 11]) (by rw [h1, h2]; rfl) (by simp [fi])]
      exact ⟨by first | trivial | rfl, by first | trivial | rfl⟩
    · rw [out (e := fi [wh (decide ((n : Int) < hs.getD (s.1 * 2 + 1) 0)) 14, wh (decide (hs.getD (s.1 * 2) 0 ≤ s.2)) 11]) (by rw [h1, h2]; rfl) (by simpa using h3)]
      exact ⟨by first | trivial | rfl, by first | trivial | rfl⟩
    · have h3 : fi [wh (decide ((n : Int) < hs.getD (s.1 * 2 + 1) 0)) 14, wh (decide (hs.getD (s.1 * 2) 0 ≤ s.2)) 11] = 0 := by simpa using h3
      rw [h1, h2, Bool.false_or, Bool.false_or, h3, sel, if_pos rfl] at i2
      exact i2
    · rw [up1 hc (by omega)]
  · have hc := ge_of_dec hc
    obtain ⟨i1, i2⟩ := hs'.out
    have m0 : hchk n hs (-1) = 0 := by
      rw [← i2, List.drop_eq_nil_of_le (by omega)]
      rfl
    have hall := hchk_all hs (-1) m0
    rw [m0]
    refine ⟨⟨(0 : Nat), ⟨by omega, by rw [Nat.zero_mul, List.drop_zero]⟩, by first | trivial | rfl, by first | trivial | rfl⟩, fun r hr => br_of (fun hc2 => ?_) (fun hc2 => ?_)⟩
    · have hc2 := lt_of_dec hc2
      obtain ⟨j1, j2⟩ := hr.out
      obtain ⟨_, a0, a1, a2⟩ := hall r (by omega)
      rw [spn_drop (show r * 2 + 2 ≤ hs.length by omega), hzH] at j2
      simp only [Nat.zero_add, Nat.mul_one, Int.toNat_natCast]
      refine ⟨⟨by omega, by omega⟩, ⟨ldh (by omega)⟩, ⟨by omega, by omega, by omega⟩, ⟨by first | trivial | rfl, by omega, by omega⟩, br_of (fun hb => ?_) (fun hb => ⟨r + 1, ⟨hc2, ?_⟩, ⟨by omega⟩, by rw [up1 hc2 (by omega)], by first | trivial | rfl⟩)⟩
      · rw [hb] at j2
        rw [← j2]
        exact ⟨by first | trivial | rfl, by first | trivial | rfl⟩
      · rw [hb, Bool.not_false, Bool.true_and] at j2
        exact j2
    · have hc2 := ge_of_dec hc2
      obtain ⟨j1, j2⟩ := hr.out
      rw [List.drop_eq_nil_of_le (by omega)] at j2
      rw [← j2]
      exact ⟨by first | trivial | rfl, by first | trivial | rfl⟩
noncomputable def isRun (xs : List Nat) (hs : List Int) (n k : Nat) (e1 e2 : List Value) : Prop := e1 = flts xs ∧ e2 = ints hs ∧ xs.length = n ∧ n ≤ 100000 ∧ hs.length = k * 2 ∧ k ≤ 100000
noncomputable def orcCh (xs : List Nat) (hs : List Int) : OrcV
  | [.agg ⟨[.string _, .int .i64 _, .slice (some ⟨0, 0, none⟩) n _, .slice (some ⟨1, 0, none⟩) k _]⟩], [some (.row e1 1 true true true), some (.row e2 2 true true true)] =>
    some (.int .i64 (sel (hchk n hs (-1)) (wh (!hzH xs hs) 1)), [some (.row e1 1 true true true), some (.row e2 2 true true true)], isRun xs hs n k e1 e2)
  | _, _ => none
theorem okCh (xs : List Nat) (hs : List Int) : OkV Try.prog 53 (orcCh xs hs) := by
  intro args H ret H' vc h hv
  unfold orcCh at h
  split at h
  · cases h
    obtain ⟨rfl, rfl, h1, h2, h3, h4⟩ := hv
    exact ch_ok h1 h2 h3 h4
  · cases h
noncomputable def s4 : List (Nat × Orc) := (50, orcName) :: s2
theorem s4_all : ∀ p ∈ s4, Ok Try.prog p.1 p.2 := all_cons okName s2_all
noncomputable def cs4 : CallF := ctx Try.prog s4
theorem cs4_ok : CallOK Try.prog cs4 := ctx_ok hm s4_all
noncomputable def hsCr (xs : List Nat) (hs : List Int) : Hs Try.prog where
  op y := if y = 403 then some (hCa Try.prog 48 (orcFiV (xs.map sE)) (okFiV _)) else none
  au := auCalls [(52, hCa Try.prog 52 (orcMe xs) (okMe xs)), (53, hCa Try.prog 53 (orcCh xs hs) (okCh xs hs))]
theorem cr_t (nm : ByteArray) (f : Int) (n : Nat) (c : Nat) (k : Nat) (d : Nat) (xs : List Nat) (hs : List Int) (K : Value → Heap → Prop) :
    (fnP Try.prog cs4 (hsCr xs hs) (19 : FuncId) [Value.agg (List.toArray (runA nm f (0 : Nat) n c (1 : Nat) k d))] (hp2r xs hs true true true true []) K) =
    (br (fi [wh (!nameB nm) (8 : Int), wi f (0 : Int) (100000000 : Int), wh (decide ((4096 : Int) < (↑n : Int))) (5 : Int)] != (0 : Int)) (K (Value.int IntKind.i64 (fi [wh (!nameB nm) (8 : Int), wi f (0 : Int) (100000000 : Int), wh (decide ((4096 : Int) < (↑n : Int))) (5 : Int)])) (some (AObj.row (flts xs) (1 : Nat) true true true) :: some (AObj.row (ints hs) (2 : Nat) true true true) :: noH)) (Is (flts xs = flts xs ∧ List.length xs = n ∧ n ≤ (100000 : Nat)) ∧ Is (ints (List.map sE xs) = ints (List.map sE xs) ∧ List.length (List.map sE xs) = n ∧ n ≤ (100000 : Nat)) ∧ br (fi [fi (List.map sE xs), wh (decide ((100000000 : Int) < IntKind.wrap IntKind.i64 (f + (↑n : Int)))) (4 : Int)] != (0 : Int)) (K (Value.int IntKind.i64 (fi [fi (List.map sE xs), wh (decide ((100000000 : Int) < IntKind.wrap IntKind.i64 (f + (↑n : Int)))) (4 : Int)])) (some (AObj.row (flts xs) (1 : Nat) true true true) :: some (AObj.row (ints hs) (2 : Nat) true true true) :: noH)) (Is (isRun xs hs n k (flts xs) (ints hs)) ∧ K (Value.int IntKind.i64 (sel (hchk (↑n : Int) hs (-1 : Int)) (wh (!hzH xs hs) (1 : Int)))) (some (AObj.row (flts xs) (1 : Nat) true true true) :: some (AObj.row (ints hs) (2 : Nat) true true true) :: noH)))) := by kernel_rfl
end
end Qq
end
section
/- Runs, checked: the reference; both say the same. -/
open Go Go.Vm Go.Proofs Sp
namespace Qq
noncomputable section
noncomputable def orcCrP (xs : List Nat) (hs : List Int) : OrcV
  | [.agg ⟨[.string nm, .int .i64 f, .slice (some ⟨0, 0, none⟩) n _, .slice (some ⟨1, 0, none⟩) k _]⟩], [some (.row e1 1 true true true), some (.row e2 2 true true true)] =>
    some (.int .i64 (runE nm f xs n hs), [some (.row e1 1 true true true), some (.row e2 2 true true true)], isRun xs hs n k e1 e2)
  | _, _ => none
theorem okCrP (xs : List Nat) (hs : List Int) : OkV Try.prog 19 (orcCrP xs hs) := by
  intro args H ret H' vc h hv
  unfold orcCrP at h
  split at h
  · rename_i nm f n c k d e1 e2
    cases h
    obtain ⟨rfl, rfl, h1, h2, h3, h4⟩ := hv
    refine fnP_res hm cs4_ok (hs := hsCr xs hs) ?_
    show fnP Try.prog cs4 (hsCr xs hs) 19 [.agg (runA nm f 0 n c 1 k d).toArray] (hp2r xs hs true true true true []) _
    rw [cr_t]
    refine br_of (fun h => ?_) (fun h => ⟨⟨rfl, h1, h2⟩, ⟨rfl, by rw [List.length_map]; exact h1, h2⟩, ?_⟩)
    · rw [runE, sel_ne h]; exact ⟨by first | trivial | rfl, by first | trivial | rfl⟩
    have h0 : fi [wh (!nameB nm) 8, wi f 0 100000000, wh (decide ((4096 : Int) < n)) 5] = 0 := by simpa using h
    have hf := wi_zero.1 (fi_zero.1 h0 (wi f 0 100000000) (by simp))
    rw [wrap_eq (x := f + n) (by omega) (by omega)]
    refine br_of (fun h3' => ?_) (fun h3' => ⟨⟨rfl, rfl, h1, h2, h3, h4⟩, ?_⟩)
    · rw [runE, sel_eq h, sel_ne h3']; exact ⟨by first | trivial | rfl, by first | trivial | rfl⟩
    · rw [runE, sel_eq h, sel_eq h3']; exact ⟨by first | trivial | rfl, by first | trivial | rfl⟩
  · cases h
/- The reference. -/
theorem sp_t (a : Int) (b : Int) (n : Int) (K : Value → Heap → Prop) :
    (fnP Try.prog cr11 h0 (70 : FuncId) [Value.agg #[Value.int IntKind.i64 a, Value.int IntKind.i64 b], Value.int IntKind.i64 n] [] K) =
    (br (decide (a < (0 : Int))) (K (Value.int IntKind.i64 (14 : Int)) noH) (br (decide (b < a)) (K (Value.int IntKind.i64 (14 : Int)) noH) (K (Value.int IntKind.i64 (wh (decide (n < b)) (14 : Int))) noH))) := by kernel_rfl
noncomputable def orcSpn : Orc
  | [.agg ⟨[.int .i64 a, .int .i64 b]⟩, .int .i64 n], [] => some (.int .i64 (wh (decide (a < 0) || (decide (b < a) || decide (n < b))) 14), [])
  | _, _ => none
noncomputable def orcFul : Orc
  | [.agg ⟨[.int .i64 a, .int .i64 b]⟩, .int .i64 n], [] => some (.int .i64 (wh (decide (a < 0) || (decide (b ≤ a) || decide (n < b))) 14), [])
  | _, _ => none
theorem okSpn : Ok Try.prog 70 orcSpn := by
  intro args H ret H' h
  unfold orcSpn at h
  split at h
  · cases h
    refine fnP_res hm cr11_ok (hs := h0) ?_
    rw [sp_t]
    refine br_of (fun h1 => ?_) (fun h1 => br_of (fun h2 => ?_) (fun h2 => ?_))
    · rw [h1]; exact ⟨by first | trivial | rfl, by first | trivial | rfl⟩
    · rw [h1, h2]; exact ⟨by first | trivial | rfl, by first | trivial | rfl⟩
    · rw [h1, h2]; exact ⟨by first | trivial | rfl, by first | trivial | rfl⟩
  · cases h
noncomputable def r13 : List (Nat × Orc) := (70, orcSpn) :: r11
theorem r13_all : ∀ p ∈ r13, Ok Try.prog p.1 p.2 := all_cons okSpn (all_cons okCn r2_all)
noncomputable def cr13 : CallF := ctx Try.prog r13
theorem cr13_ok : CallOK Try.prog cr13 := ctx_ok hm r13_all
theorem ful_t (a : Int) (b : Int) (n : Int) (K : Value → Heap → Prop) :
    (fnP Try.prog cr13 h0 (56 : FuncId) [Value.agg #[Value.int IntKind.i64 a, Value.int IntKind.i64 b], Value.int IntKind.i64 n] [] K) =
    (K (Value.int IntKind.i64 (fi [wh (decide (a < (0 : Int)) || (decide (b < a) || decide (n < b))) (14 : Int), wh (a == b) (14 : Int)])) noH) := by kernel_rfl
theorem okFul : Ok Try.prog 56 orcFul := by
  intro args H ret H' h
  unfold orcFul at h
  split at h
  · rename_i a b n
    cases h
    refine fnP_res hm cr13_ok (hs := h0) ?_
    rw [ful_t]
    refine ⟨?_, by first | trivial | rfl⟩
    by_cases h1 : a < 0 <;> by_cases h2 : b < a <;> by_cases h3 : n < b <;> by_cases h4 : b ≤ a <;> by_cases h5 : a = b <;> simp [wh, fi, h1, h2, h3, h4, h5] <;> omega
  · cases h
noncomputable def r14 : List (Nat × Orc) := (56, orcFul) :: r13
theorem r14_all : ∀ p ∈ r14, Ok Try.prog p.1 p.2 := all_cons okFul r13_all
noncomputable def cr14 : CallF := ctx Try.prog r14
theorem cr14_ok : CallOK Try.prog cr14 := ctx_ok hm r14_all
noncomputable def lpChR (hs : List Int) (k d : Nat) (n : Int) : Lp where
  σ := Nat × Int
  E s := slots 42 [(0, .slice (some ⟨0, 0, none⟩) k d), (1, .int .i64 n), (5, .int .i64 (Int.ofNat s.1))]
  Hp _ := [some (.row (ints hs) 2 false false true)]
  I s := s.1 ≤ k ∧ hchk n (hs.drop (s.1 * 2)) s.2 = hchk n hs (-1) ∧ s.2 = if s.1 = 0 then -1 else hs.getD ((s.1 - 1) * 2 + 1) 0
  m s := k - s.1
noncomputable def hsChR (hs : List Int) (k d : Nat) (n : Int) : Hs Try.prog where
  op y := if [402, 411, 418].contains y then some (hIa Try.prog) else if y = 403 then some (hLd Try.prog (z2 hs)) else if [413, 420].contains y then some (hLd Try.prog (zI hs)) else none
  lp _ := some (lpChR hs k d n)
  cl _ := keep 42 [0, 1, 5]
  au := au0 Try.prog
theorem chR_t (hs : List Int) (k : Nat) (d : Nat) (n : Int) (K : Value → Heap → Prop) :
    (fnP Try.prog cr14 (hsChR hs k d n) (28 : FuncId) [Value.slice (some { block := (0 : Nat), off := (0 : Nat) }) k d, Value.int IntKind.i64 n] [some (AObj.row (ints hs) (2 : Nat) false false true)] K) =
    ((∃ (s : Nat × Int), Is (Prod.fst s ≤ k ∧ hchk n (List.drop (Prod.fst s * (2 : Nat)) hs) (Prod.snd s) = hchk n hs (-1 : Int) ∧ Prod.snd s = if Prod.fst s = (0 : Nat) then (-1 : Int) else List.getD hs ((Prod.fst s - (1 : Nat)) * (2 : Nat) + (1 : Nat)) (0 : Int)) ∧ [Value.slice (some { block := (0 : Nat), off := (0 : Nat) }) k d, Value.int IntKind.i64 n, poi, poi, poi, Value.int IntKind.i64 (0 : Int), poi, poi, poi, poi, poi, poi, poi, poi, poi, poi, poi, poi, poi, poi, poi, poi, poi, poi, poi, poi, poi, poi, poi, poi, poi, poi, poi, poi, poi, poi, poi, poi, poi, poi, poi, poi] = [Value.slice (some { block := (0 : Nat), off := (0 : Nat) }) k d, Value.int IntKind.i64 n, poi, poi, poi, Value.int IntKind.i64 (↑(Prod.fst s) : Int), poi, poi, poi, poi, poi, poi, poi, poi, poi, poi, poi, poi, poi, poi, poi, poi, poi, poi, poi, poi, poi, poi, poi, poi, poi, poi, poi, poi, poi, poi, poi, poi, poi, poi, poi, poi] ∧ some (AObj.row (ints hs) (2 : Nat) false false true) :: noH = some (AObj.row (ints hs) (2 : Nat) false false true) :: noH) ∧ ∀ (s : Nat × Int), Is (Prod.fst s ≤ k ∧ hchk n (List.drop (Prod.fst s * (2 : Nat)) hs) (Prod.snd s) = hchk n hs (-1 : Int) ∧ Prod.snd s = if Prod.fst s = (0 : Nat) then (-1 : Int) else List.getD hs ((Prod.fst s - (1 : Nat)) * (2 : Nat) + (1 : Nat)) (0 : Int)) → br (decide ((↑(Prod.fst s) : Int) < (↑k : Int))) (Is ((0 : Int) ≤ (↑(Prod.fst s) : Int) ∧ (↑(Prod.fst s) : Int) < (↑k : Int)) ∧ Is ((if (0 : Nat) + Int.toNat (↑(Prod.fst s) : Int) * (2 : Nat) + (2 : Nat) ≤ List.length (ints hs) then some (Value.agg (List.toArray (List.take (2 : Nat) (List.drop ((0 : Nat) + Int.toNat (↑(Prod.fst s) : Int) * (2 : Nat)) (ints hs))))) else none) = some (Value.agg #[Value.int IntKind.i64 (List.getD hs ((0 : Nat) + Int.toNat (↑(Prod.fst s) : Int) * (2 : Nat)) (0 : Int)), Value.int IntKind.i64 (List.getD hs ((0 : Nat) + Int.toNat (↑(Prod.fst s) : Int) * (2 : Nat) + (1 : Nat)) (0 : Int))])) ∧ br (decide ((0 : Int) < (↑(Prod.fst s) : Int))) (Is ((0 : Int) ≤ (↑(Prod.fst s) : Int) ∧ (↑(Prod.fst s) : Int) < (↑k : Int)) ∧ Is ((ints hs)[(0 : Nat) + Int.toNat (↑(Prod.fst s) : Int) * (2 : Nat) + (0 : Nat)]? = some (Value.int IntKind.i64 (List.getD hs ((0 : Nat) + Int.toNat (↑(Prod.fst s) : Int) * (2 : Nat) + (0 : Nat)) (0 : Int)))) ∧ Is (((0 : Int) ≤ if IntKind.wrap IntKind.i64 ((↑(Prod.fst s) : Int) - (1 : Int)) > (0 : Int) then IntKind.wrap IntKind.i64 ((↑(Prod.fst s) : Int) - (1 : Int)) else (0 : Int)) ∧ (if IntKind.wrap IntKind.i64 ((↑(Prod.fst s) : Int) - (1 : Int)) > (0 : Int) then IntKind.wrap IntKind.i64 ((↑(Prod.fst s) : Int) - (1 : Int)) else (0 : Int)) < (↑k : Int)) ∧ Is ((ints hs)[(0 : Nat) + Int.toNat (if IntKind.wrap IntKind.i64 ((↑(Prod.fst s) : Int) - (1 : Int)) > (0 : Int) then IntKind.wrap IntKind.i64 ((↑(Prod.fst s) : Int) - (1 : Int)) else (0 : Int)) * (2 : Nat) + (1 : Nat)]? = some (Value.int IntKind.i64 (List.getD hs ((0 : Nat) + Int.toNat (if IntKind.wrap IntKind.i64 ((↑(Prod.fst s) : Int) - (1 : Int)) > (0 : Int) then IntKind.wrap IntKind.i64 ((↑(Prod.fst s) : Int) - (1 : Int)) else (0 : Int)) * (2 : Nat) + (1 : Nat)) (0 : Int)))) ∧ br (fi [wh (decide (List.getD hs ((0 : Nat) + Int.toNat (↑(Prod.fst s) : Int) * (2 : Nat)) (0 : Int) < (0 : Int)) || (decide (List.getD hs ((0 : Nat) + Int.toNat (↑(Prod.fst s) : Int) * (2 : Nat) + (1 : Nat)) (0 : Int) ≤ List.getD hs ((0 : Nat) + Int.toNat (↑(Prod.fst s) : Int) * (2 : Nat)) (0 : Int)) || decide (n < List.getD hs ((0 : Nat) + Int.toNat (↑(Prod.fst s) : Int) * (2 : Nat) + (1 : Nat)) (0 : Int)))) (14 : Int), wh (decide (List.getD hs ((0 : Nat) + Int.toNat (↑(Prod.fst s) : Int) * (2 : Nat) + (0 : Nat)) (0 : Int) ≤ List.getD hs ((0 : Nat) + Int.toNat (if IntKind.wrap IntKind.i64 ((↑(Prod.fst s) : Int) - (1 : Int)) > (0 : Int) then IntKind.wrap IntKind.i64 ((↑(Prod.fst s) : Int) - (1 : Int)) else (0 : Int)) * (2 : Nat) + (1 : Nat)) (0 : Int))) (11 : Int)] != (0 : Int)) (K (Value.int IntKind.i64 (fi [wh (decide (List.getD hs ((0 : Nat) + Int.toNat (↑(Prod.fst s) : Int) * (2 : Nat)) (0 : Int) < (0 : Int)) || (decide (List.getD hs ((0 : Nat) + Int.toNat (↑(Prod.fst s) : Int) * (2 : Nat) + (1 : Nat)) (0 : Int) ≤ List.getD hs ((0 : Nat) + Int.toNat (↑(Prod.fst s) : Int) * (2 : Nat)) (0 : Int)) || decide (n < List.getD hs ((0 : Nat) + Int.toNat (↑(Prod.fst s) : Int) * (2 : Nat) + (1 : Nat)) (0 : Int)))) (14 : Int), wh (decide (List.getD hs ((0 : Nat) + Int.toNat (↑(Prod.fst s) : Int) * (2 : Nat) + (0 : Nat)) (0 : Int) ≤ List.getD hs ((0 : Nat) + Int.toNat (if IntKind.wrap IntKind.i64 ((↑(Prod.fst s) : Int) - (1 : Int)) > (0 : Int) then IntKind.wrap IntKind.i64 ((↑(Prod.fst s) : Int) - (1 : Int)) else (0 : Int)) * (2 : Nat) + (1 : Nat)) (0 : Int))) (11 : Int)])) (some (AObj.row (ints hs) (2 : Nat) false false true) :: noH)) (∃ (s' : Nat × Int), Is (Prod.fst s' ≤ k ∧ hchk n (List.drop (Prod.fst s' * (2 : Nat)) hs) (Prod.snd s') = hchk n hs (-1 : Int) ∧ Prod.snd s' = if Prod.fst s' = (0 : Nat) then (-1 : Int) else List.getD hs ((Prod.fst s' - (1 : Nat)) * (2 : Nat) + (1 : Nat)) (0 : Int)) ∧ Is (k - Prod.fst s' < k - Prod.fst s) ∧ [Value.slice (some { block := (0 : Nat), off := (0 : Nat) }) k d, Value.int IntKind.i64 n, poi, poi, poi, Value.int IntKind.i64 (IntKind.wrap IntKind.i64 ((↑(Prod.fst s) : Int) + (1 : Int))), poi, poi, poi, poi, poi, poi, poi, poi, poi, poi, poi, poi, poi, poi, poi, poi, poi, poi, poi, poi, poi, poi, poi, poi, poi, poi, poi, poi, poi, poi, poi, poi, poi, poi, poi, poi] = [Value.slice (some { block := (0 : Nat), off := (0 : Nat) }) k d, Value.int IntKind.i64 n, poi, poi, poi, Value.int IntKind.i64 (↑(Prod.fst s') : Int), poi, poi, poi, poi, poi, poi, poi, poi, poi, poi, poi, poi, poi, poi, poi, poi, poi, poi, poi, poi, poi, poi, poi, poi, poi, poi, poi, poi, poi, poi, poi, poi, poi, poi, poi, poi] ∧ some (AObj.row (ints hs) (2 : Nat) false false true) :: noH = some (AObj.row (ints hs) (2 : Nat) false false true) :: noH)) (br (fi [wh (decide (List.getD hs ((0 : Nat) + Int.toNat (↑(Prod.fst s) : Int) * (2 : Nat)) (0 : Int) < (0 : Int)) || (decide (List.getD hs ((0 : Nat) + Int.toNat (↑(Prod.fst s) : Int) * (2 : Nat) + (1 : Nat)) (0 : Int) ≤ List.getD hs ((0 : Nat) + Int.toNat (↑(Prod.fst s) : Int) * (2 : Nat)) (0 : Int)) || decide (n < List.getD hs ((0 : Nat) + Int.toNat (↑(Prod.fst s) : Int) * (2 : Nat) + (1 : Nat)) (0 : Int)))) (14 : Int), (0 : Int)] != (0 : Int)) (K (Value.int IntKind.i64 (fi [wh (decide (List.getD hs ((0 : Nat) + Int.toNat (↑(Prod.fst s) : Int) * (2 : Nat)) (0 : Int) < (0 : Int)) || (decide (List.getD hs ((0 : Nat) + Int.toNat (↑(Prod.fst s) : Int) * (2 : Nat) + (1 : Nat)) (0 : Int) ≤ List.getD hs ((0 : Nat) + Int.toNat (↑(Prod.fst s) : Int) * (2 : Nat)) (0 : Int)) || decide (n < List.getD hs ((0 : Nat) + Int.toNat (↑(Prod.fst s) : Int) * (2 : Nat) + (1 : Nat)) (0 : Int)))) (14 : Int), (0 : Int)])) (some (AObj.row (ints hs) (2 : Nat) false false true) :: noH)) (∃ (s' : Nat × Int), Is (Prod.fst s' ≤ k ∧ hchk n (List.drop (Prod.fst s' * (2 : Nat)) hs) (Prod.snd s') = hchk n hs (-1 : Int) ∧ Prod.snd s' = if Prod.fst s' = (0 : Nat) then (-1 : Int) else List.getD hs ((Prod.fst s' - (1 : Nat)) * (2 : Nat) + (1 : Nat)) (0 : Int)) ∧ Is (k - Prod.fst s' < k - Prod.fst s) ∧ [Value.slice (some { block := (0 : Nat), off := (0 : Nat) }) k d, Value.int IntKind.i64 n, poi, poi, poi, Value.int IntKind.i64 (IntKind.wrap IntKind.i64 ((↑(Prod.fst s) : Int) + (1 : Int))), poi, poi, poi, poi, poi, poi, poi, poi, poi, poi, poi, poi, poi, poi, poi, poi, poi, poi, poi, poi, poi, poi, poi, poi, poi, poi, poi, poi, poi, poi, poi, poi, poi, poi, poi, poi] = [Value.slice (some { block := (0 : Nat), off := (0 : Nat) }) k d, Value.int IntKind.i64 n, poi, poi, poi, Value.int IntKind.i64 (↑(Prod.fst s') : Int), poi, poi, poi, poi, poi, poi, poi, poi, poi, poi, poi, poi, poi, poi, poi, poi, poi, poi, poi, poi, poi, poi, poi, poi, poi, poi, poi, poi, poi, poi, poi, poi, poi, poi, poi, poi] ∧ some (AObj.row (ints hs) (2 : Nat) false false true) :: noH = some (AObj.row (ints hs) (2 : Nat) false false true) :: noH))) (K (Value.int IntKind.i64 (0 : Int)) (some (AObj.row (ints hs) (2 : Nat) false false true) :: noH))) := by kernel_rfl
noncomputable def fRs (xs : List Nat) : Option AObj := some (.row (flts xs) 1 false false true)
noncomputable def lpSmR (xs : List Nat) (n c : Nat) : Lp where
  σ := Nat
  E s := slots 19 [(0, .slice (some ⟨0, 0, none⟩) n c), (3, .int .i64 (Int.ofNat s))]
  Hp _ := [fRs xs]
  I s := s ≤ n ∧ fi ((xs.drop s).map sE) = fi (xs.map sE)
  m s := n - s
noncomputable def hsSmR (xs : List Nat) (n c : Nat) : Hs Try.prog where
  op y := if y = 402 then some (hIa Try.prog) else if y = 403 then some (hLd Try.prog (xF xs)) else none
  lp _ := some (lpSmR xs n c)
  cl _ := keep 19 [0, 3]
  au := au0 Try.prog
noncomputable def csr4 : CallF := ctx Try.prog [(69, orcSm1)]
theorem csr4_ok : CallOK Try.prog csr4 := ctx_ok hm (all_cons okSm1R all_nil)
theorem smR_t (xs : List Nat) (n : Nat) (c : Nat) (K : Value → Heap → Prop) :
    (fnP Try.prog csr4 (hsSmR xs n c) (55 : FuncId) [Value.slice (some { block := (0 : Nat), off := (0 : Nat) }) n c] [fRs xs] K) =
    ((∃ (s : Nat), Is (s ≤ n ∧ fi (List.map sE (List.drop s xs)) = fi (List.map sE xs)) ∧ [Value.slice (some { block := (0 : Nat), off := (0 : Nat) }) n c, poi, poi, Value.int IntKind.i64 (0 : Int), poi, poi, poi, poi, poi, poi, poi, poi, poi, poi, poi, poi, poi, poi, poi] = [Value.slice (some { block := (0 : Nat), off := (0 : Nat) }) n c, poi, poi, Value.int IntKind.i64 (↑s : Int), poi, poi, poi, poi, poi, poi, poi, poi, poi, poi, poi, poi, poi, poi, poi] ∧ some (AObj.row (flts xs) (1 : Nat) false false true) :: noH = some (AObj.row (flts xs) (1 : Nat) false false true) :: noH) ∧ ∀ (s : Nat), Is (s ≤ n ∧ fi (List.map sE (List.drop s xs)) = fi (List.map sE xs)) → br (decide ((↑s : Int) < (↑n : Int))) (Is ((0 : Int) ≤ (↑s : Int) ∧ (↑s : Int) < (↑n : Int)) ∧ Is ((flts xs)[(0 : Nat) + Int.toNat (↑s : Int) * (1 : Nat)]? = some (Value.float FloatKind.f32 (List.getD xs ((0 : Nat) + Int.toNat (↑s : Int) * (1 : Nat)) (0 : Nat)))) ∧ br (sE (List.getD xs ((0 : Nat) + Int.toNat (↑s : Int) * (1 : Nat)) (0 : Nat)) != (0 : Int)) (K (Value.int IntKind.i64 (sE (List.getD xs ((0 : Nat) + Int.toNat (↑s : Int) * (1 : Nat)) (0 : Nat)))) (some (AObj.row (flts xs) (1 : Nat) false false true) :: noH)) (∃ (s' : Nat), Is (s' ≤ n ∧ fi (List.map sE (List.drop s' xs)) = fi (List.map sE xs)) ∧ Is (n - s' < n - s) ∧ [Value.slice (some { block := (0 : Nat), off := (0 : Nat) }) n c, poi, poi, Value.int IntKind.i64 (IntKind.wrap IntKind.i64 ((↑s : Int) + (1 : Int))), poi, poi, poi, poi, poi, poi, poi, poi, poi, poi, poi, poi, poi, poi, poi] = [Value.slice (some { block := (0 : Nat), off := (0 : Nat) }) n c, poi, poi, Value.int IntKind.i64 (↑s' : Int), poi, poi, poi, poi, poi, poi, poi, poi, poi, poi, poi, poi, poi, poi, poi] ∧ some (AObj.row (flts xs) (1 : Nat) false false true) :: noH = some (AObj.row (flts xs) (1 : Nat) false false true) :: noH)) (K (Value.int IntKind.i64 (0 : Int)) (some (AObj.row (flts xs) (1 : Nat) false false true) :: noH))) := by kernel_rfl
set_option maxRecDepth 100000 in
theorem chR_ok {hs : List Int} {k d : Nat} {n : Int} (hk : hs.length = k * 2) (hk9 : k ≤ 100000) :
    SmallRes Try.prog 28 [.slice (some ⟨0, 0, none⟩) k d, .int .i64 n] [some (.row (ints hs) 2 false false true)] (.int .i64 (hchk n hs (-1))) [some (.row (ints hs) 2 false false true)] := by
  refine fnP_res hm cr14_ok (hs := hsChR hs k d n) ?_
  rw [chR_t]
  refine ⟨⟨((0 : Nat), (-1 : Int)), ⟨by omega, by rw [Nat.zero_mul, List.drop_zero], by first | trivial | rfl⟩, by first | trivial | rfl, by first | trivial | rfl⟩, fun s hs' => br_of (fun hc => ?_) (fun hc => ?_)⟩
  · have hc := lt_of_dec hc
    obtain ⟨i1, i2, i3⟩ := hs'.out
    rw [spn_drop (show s.1 * 2 + 2 ≤ hs.length by omega), hchk] at i2
    simp only [pred1 hc (by omega), Nat.zero_add, Nat.add_zero, Int.toNat_natCast]
    have b1 : 0 ≤ (s.1 : Int) ∧ (s.1 : Int) < (k : Int) := by omega
    refine ⟨⟨b1⟩, ⟨ldh (by omega)⟩, br_of (fun h1 => ⟨⟨b1⟩, ⟨zint_at (by omega)⟩, ⟨by omega, by omega⟩, ⟨zint_at (by omega)⟩, ?_⟩) (fun h1 => ?_)⟩
    · have h1 : 0 < s.1 := by have := of_decide_eq_true h1; omega
      rw [if_neg (show ¬ s.1 = 0 by omega)] at i3
      rw [← i3]
      refine br_of (fun h => ?_) (fun h => ⟨(s.1 + 1, hs.getD (s.1 * 2 + 1) 0), ⟨hc, ?_, ?_⟩, ⟨by simp only; omega⟩, ?_, by first | trivial | rfl⟩)
      · rw [sel_ne h] at i2
        rw [← i2]
        exact ⟨by first | trivial | rfl, by first | trivial | rfl⟩
      · rw [sel_eq h] at i2
        exact i2
      · rw [if_neg (by simp only; omega)]; rfl
      · rw [up1 hc (by omega)]
    · have h1 : s.1 = 0 := by have := of_decide_eq_false h1; omega
      rw [if_pos h1] at i3
      have e : ∀ {b : Bool}, (b = true → wh (decide (hs.getD (s.1 * 2) 0 < 0) || (decide (hs.getD (s.1 * 2 + 1) 0 ≤ hs.getD (s.1 * 2) 0) || decide (n < hs.getD (s.1 * 2 + 1) 0))) 14 ≠ 0) →
          fi [wh (decide (hs.getD (s.1 * 2) 0 < 0) || (decide (hs.getD (s.1 * 2 + 1) 0 ≤ hs.getD (s.1 * 2) 0) || decide (n < hs.getD (s.1 * 2 + 1) 0))) 14, wh b 11] = fi [wh (decide (hs.getD (s.1 * 2) 0 < 0) || (decide (hs.getD (s.1 * 2 + 1) 0 ≤ hs.getD (s.1 * 2) 0) || decide (n < hs.getD (s.1 * 2 + 1) 0))) 14, 0] := fun h => fi_late h
      rw [e (fun h => ?_)] at i2
      · refine br_of (fun h => ?_) (fun h => ⟨(s.1 + 1, hs.getD (s.1 * 2 + 1) 0), ⟨hc, ?_, ?_⟩, ⟨by simp only; omega⟩, ?_, by first | trivial | rfl⟩)
        · rw [sel_ne h] at i2
          rw [← i2]
          exact ⟨by first | trivial | rfl, by first | trivial | rfl⟩
        · rw [sel_eq h] at i2
          exact i2
        · rw [if_neg (by simp only; omega)]; rfl
        · rw [up1 hc (by omega)]
      · have h := of_decide_eq_true h
        have : decide (hs.getD (s.1 * 2) 0 < 0) = true := decide_eq_true (by omega)
        rw [this]; simp [wh]
  · have hc := ge_of_dec hc
    obtain ⟨i1, i2, _⟩ := hs'.out
    rw [List.drop_eq_nil_of_le (by omega)] at i2
    rw [← i2]
    exact ⟨by first | trivial | rfl, by first | trivial | rfl⟩
noncomputable def orcChR (hs : List Int) : OrcV
  | [.slice (some ⟨0, 0, none⟩) k _, .int .i64 n], [some (.row e1 2 false false true)] => some (.int .i64 (hchk n hs (-1)), [some (.row e1 2 false false true)], e1 = ints hs ∧ hs.length = k * 2 ∧ k ≤ 100000)
  | _, _ => none
theorem okChR (hs : List Int) : OkV Try.prog 28 (orcChR hs) := by
  intro args H ret H' vc h hv
  unfold orcChR at h
  split at h
  · cases h
    obtain ⟨rfl, h1, h2⟩ := hv
    exact chR_ok h1 h2
  · cases h
theorem fi_one {l : List Int} {i : Nat} (h : i < l.length) : fi (l.drop i) = if l.getD i 0 ≠ 0 then l.getD i 0 else fi (l.drop (i + 1)) := by
  rw [List.drop_eq_getElem_cons h, fi]
  simp only [List.getD_eq_getElem?_getD, List.getElem?_eq_getElem h, Option.getD_some]
  by_cases h0 : l[i] = 0 <;> simp [h0]
theorem map_getD {xs : List Nat} {i : Nat} (h : i < xs.length) : (xs.map sE).getD i 0 = sE (xs.getD i 0) := by
  simp [List.getD_eq_getElem?_getD, List.getElem?_eq_getElem h]
set_option maxRecDepth 100000 in
theorem smR_ok {xs : List Nat} {n c : Nat} (hn : xs.length = n) (h9 : n ≤ 100000) :
    SmallRes Try.prog 55 [.slice (some ⟨0, 0, none⟩) n c] [fRs xs] (.int .i64 (fi (xs.map sE))) [fRs xs] := by
  refine fnP_res hm csr4_ok (hs := hsSmR xs n c) ?_
  rw [smR_t]
  refine ⟨⟨(0 : Nat), ⟨by omega, by rw [List.drop_zero]⟩, by first | trivial | rfl, by first | trivial | rfl⟩, fun s hs' => br_of (fun hc => ?_) (fun hc => ?_)⟩
  · have hc := lt_of_dec hc
    obtain ⟨i1, i2⟩ := hs'.out
    have e := fi_one (l := xs.map sE) (i := s) (by rw [List.length_map]; omega)
    rw [map_getD (by omega)] at e
    rw [List.map_drop, e] at i2
    simp only [Nat.zero_add, Nat.mul_one, Int.toNat_natCast]
    refine ⟨⟨by omega, by omega⟩, ⟨flts_at (by omega)⟩, br_of (fun h => ?_) (fun h => ⟨s + 1, ⟨hc, ?_⟩, ⟨by omega⟩, by rw [up1 hc (by omega)], by first | trivial | rfl⟩)⟩
    · rw [if_pos (by simpa using h)] at i2
      rw [← i2]
      exact ⟨by first | trivial | rfl, by first | trivial | rfl⟩
    · rw [if_neg (by simpa using h)] at i2
      rw [List.map_drop]
      exact i2
  · have hc := ge_of_dec hc
    obtain ⟨i1, i2⟩ := hs'.out
    rw [List.drop_eq_nil_of_le (by omega)] at i2
    rw [← i2]
    exact ⟨by first | trivial | rfl, by first | trivial | rfl⟩
noncomputable def orcSmR (xs : List Nat) : OrcV
  | [.slice (some ⟨0, 0, none⟩) n _], [some (.row e1 1 false false true)] => some (.int .i64 (fi (xs.map sE)), [some (.row e1 1 false false true)], e1 = flts xs ∧ xs.length = n ∧ n ≤ 100000)
  | _, _ => none
theorem okSmR (xs : List Nat) : OkV Try.prog 55 (orcSmR xs) := by
  intro args H ret H' vc h hv
  unfold orcSmR at h
  split at h
  · cases h
    obtain ⟨rfl, h1, h2⟩ := hv
    exact smR_ok h1 h2
  · cases h
noncomputable def hsLi (xs : List Nat) : Hs Try.prog where
  au := auCalls [(55, hCa Try.prog 55 (orcSmR xs) (okSmR xs))]
theorem lsR_t (xs : List Nat) (n : Nat) (c : Nat) (K : Value → Heap → Prop) :
    (fnP Try.prog cr14 (hsLi xs) (26 : FuncId) [Value.slice (some { block := (0 : Nat), off := (0 : Nat) }) n c] [fRs xs] K) =
    (Is (flts xs = flts xs ∧ List.length xs = n ∧ n ≤ (100000 : Nat)) ∧ K (Value.int IntKind.i64 (fi [wh (decide ((4096 : Int) < (↑n : Int))) (5 : Int), fi (List.map sE xs)])) (some (AObj.row (flts xs) (1 : Nat) false false true) :: noH)) := by kernel_rfl
noncomputable def orcLiR (xs : List Nat) : OrcV
  | [.slice (some ⟨0, 0, none⟩) n _], [some (.row e1 1 false false true)] => some (.int .i64 (fi [wh (decide ((4096 : Int) < n)) 5, fi (xs.map sE)]), [some (.row e1 1 false false true)], e1 = flts xs ∧ xs.length = n ∧ n ≤ 100000)
  | _, _ => none
theorem okLiR (xs : List Nat) : OkV Try.prog 26 (orcLiR xs) := by
  intro args H ret H' vc h hv
  unfold orcLiR at h
  split at h
  · cases h
    obtain ⟨rfl, h1, h2⟩ := hv
    refine fnP_res hm cr14_ok (hs := hsLi xs) ?_
    show fnP Try.prog cr14 (hsLi xs) 26 _ [fRs xs] _
    rw [lsR_t]
    exact ⟨⟨rfl, h1, h2⟩, by first | trivial | rfl, by first | trivial | rfl⟩
  · cases h
noncomputable def runOs (nm : ByteArray) (f : Int) (n c k d : Nat) : Option AObj := some (.row (runA nm f 0 n c 1 k d) 0 false true false)
noncomputable def lpCrR (nm : ByteArray) (f : Int) (n c k d : Nat) (xs : List Nat) (hs : List Int) : Lp where
  σ := Nat
  E s := slots 62 [(1, .pointer (some ⟨2, 0, none⟩)), (5, .int .i64 (Int.ofNat s))]
  Hp _ := hp2r xs hs false false false false [runOs nm f n c k d]
  I s := s ≤ n ∧ ∀ j, j < s → nzB (xs.getD j 0) = true → knB hs (j : Int) = true
  m s := n - s
noncomputable def hsCrR (nm : ByteArray) (f : Int) (n c k d : Nat) (xs : List Nat) (hs : List Int) : Hs Try.prog where
  op y := if y = 1003 then some (hIa Try.prog) else if y = 1004 then some (hLd Try.prog (xF xs)) else none
  lp _ := some (lpCrR nm f n c k d xs hs)
  cl _ := keep 62 [1, 5]
  au := auF [(26, hCa Try.prog 26 (orcLiR xs) (okLiR xs)), (28, hCa Try.prog 28 (orcChR hs) (okChR hs)), (29, hCa Try.prog 29 (orcKn xs hs) (okKn xs hs))]
theorem crR_t (nm : ByteArray) (f : Int) (n : Nat) (c : Nat) (k : Nat) (d : Nat) (xs : List Nat) (hs : List Int) (K : Value → Heap → Prop) :
    (fnP Try.prog cr14 (hsCrR nm f n c k d xs hs) (9 : FuncId) [Value.agg (List.toArray (runA nm f (0 : Nat) n c (1 : Nat) k d))] (hp2r xs hs false false false false []) K) =
    (Is (flts xs = flts xs ∧ List.length xs = n ∧ n ≤ (100000 : Nat)) ∧ br (decide (IntKind.wrap IntKind.i64 ((100000000 : Int) - (↑n : Int)) < f)) (br (fi [wh (!nameB nm) (8 : Int), wi f (0 : Int) (100000000 : Int), fi [wh (decide ((4096 : Int) < (↑n : Int))) (5 : Int), fi (List.map sE xs)], wh (decide ((↑n : Int) ≤ (4096 : Int))) (4 : Int)] != (0 : Int)) (K (Value.int IntKind.i64 (fi [wh (!nameB nm) (8 : Int), wi f (0 : Int) (100000000 : Int), fi [wh (decide ((4096 : Int) < (↑n : Int))) (5 : Int), fi (List.map sE xs)], wh (decide ((↑n : Int) ≤ (4096 : Int))) (4 : Int)])) (some (AObj.row (flts xs) (1 : Nat) false false true) :: some (AObj.row (ints hs) (2 : Nat) false false true) :: noH)) (Is (ints hs = ints hs ∧ List.length hs = k * (2 : Nat) ∧ k ≤ (100000 : Nat)) ∧ br (hchk (↑n : Int) hs (-1 : Int) != (0 : Int)) (K (Value.int IntKind.i64 (hchk (↑n : Int) hs (-1 : Int))) (some (AObj.row (flts xs) (1 : Nat) false false true) :: some (AObj.row (ints hs) (2 : Nat) false false true) :: noH)) ((∃ (s : Nat), Is (s ≤ n ∧ ∀ (j : Nat), j < s → nzB (List.getD xs j (0 : Nat)) = true → knB hs (↑j : Int) = true) ∧ [poi, Value.pointer (some { block := (2 : Nat), off := (0 : Nat) }), poi, poi, poi, Value.int IntKind.i64 (0 : Int), poi, poi, poi, poi, poi, poi, poi, poi, poi, poi, poi, poi, poi, poi, poi, poi, poi, poi, poi, poi, poi, poi, poi, poi, poi, poi, poi, poi, poi, poi, poi, poi, poi, poi, poi, poi, poi, poi, poi, poi, poi, poi, poi, poi, poi, poi, poi, poi, poi, poi, poi, poi, poi, poi, poi, poi] = [poi, Value.pointer (some { block := (2 : Nat), off := (0 : Nat) }), poi, poi, poi, Value.int IntKind.i64 (↑s : Int), poi, poi, poi, poi, poi, poi, poi, poi, poi, poi, poi, poi, poi, poi, poi, poi, poi, poi, poi, poi, poi, poi, poi, poi, poi, poi, poi, poi, poi, poi, poi, poi, poi, poi, poi, poi, poi, poi, poi, poi, poi, poi, poi, poi, poi, poi, poi, poi, poi, poi, poi, poi, poi, poi, poi, poi] ∧ some (AObj.row (flts xs) (1 : Nat) false false true) :: some (AObj.row (ints hs) (2 : Nat) false false true) :: some (AObj.row [Value.string nm, Value.int IntKind.i64 f, Value.slice (some { block := (0 : Nat), off := (0 : Nat) }) n c, Value.slice (some { block := (1 : Nat), off := (0 : Nat) }) k d] (0 : Nat) false true (List.all [Value.string nm, Value.int IntKind.i64 f, Value.slice (some { block := (0 : Nat), off := (0 : Nat) }) n c, Value.slice (some { block := (1 : Nat), off := (0 : Nat) }) k d] atom)) :: noH = some (AObj.row (flts xs) (1 : Nat) false false true) :: some (AObj.row (ints hs) (2 : Nat) false false true) :: some (AObj.row [Value.string nm, Value.int IntKind.i64 f, Value.slice (some { block := (0 : Nat), off := (0 : Nat) }) n c, Value.slice (some { block := (1 : Nat), off := (0 : Nat) }) k d] (0 : Nat) false true false) :: noH) ∧ ∀ (s : Nat), Is (s ≤ n ∧ ∀ (j : Nat), j < s → nzB (List.getD xs j (0 : Nat)) = true → knB hs (↑j : Int) = true) → br (decide ((↑s : Int) < (↑n : Int))) (Is ((0 : Int) ≤ (↑s : Int) ∧ (↑s : Int) < (↑n : Int)) ∧ Is ((flts xs)[(0 : Nat) + Int.toNat (↑s : Int) * (1 : Nat)]? = some (Value.float FloatKind.f32 (List.getD xs ((0 : Nat) + Int.toNat (↑s : Int) * (1 : Nat)) (0 : Nat)))) ∧ Is True ∧ br (fNe (List.getD xs ((0 : Nat) + Int.toNat (↑s : Int) * (1 : Nat)) (0 : Nat)) (0 : Nat)) (Is (isRn0 xs hs k (flts xs) (ints hs)) ∧ br (!knB hs (↑s : Int)) (K (Value.int IntKind.i64 (1 : Int)) (some (AObj.row (flts xs) (1 : Nat) false false true) :: some (AObj.row (ints hs) (2 : Nat) false false true) :: noH)) (∃ (s' : Nat), Is (s' ≤ n ∧ ∀ (j : Nat), j < s' → nzB (List.getD xs j (0 : Nat)) = true → knB hs (↑j : Int) = true) ∧ Is (n - s' < n - s) ∧ [poi, Value.pointer (some { block := (2 : Nat), off := (0 : Nat) }), poi, poi, poi, Value.int IntKind.i64 (IntKind.wrap IntKind.i64 ((↑s : Int) + (1 : Int))), poi, poi, poi, poi, poi, poi, poi, poi, poi, poi, poi, poi, poi, poi, poi, poi, poi, poi, poi, poi, poi, poi, poi, poi, poi, poi, poi, poi, poi, poi, poi, poi, poi, poi, poi, poi, poi, poi, poi, poi, poi, poi, poi, poi, poi, poi, poi, poi, poi, poi, poi, poi, poi, poi, poi, poi] = [poi, Value.pointer (some { block := (2 : Nat), off := (0 : Nat) }), poi, poi, poi, Value.int IntKind.i64 (↑s' : Int), poi, poi, poi, poi, poi, poi, poi, poi, poi, poi, poi, poi, poi, poi, poi, poi, poi, poi, poi, poi, poi, poi, poi, poi, poi, poi, poi, poi, poi, poi, poi, poi, poi, poi, poi, poi, poi, poi, poi, poi, poi, poi, poi, poi, poi, poi, poi, poi, poi, poi, poi, poi, poi, poi, poi, poi] ∧ some (AObj.row (flts xs) (1 : Nat) false false true) :: some (AObj.row (ints hs) (2 : Nat) false false true) :: some (AObj.row [Value.string nm, Value.int IntKind.i64 f, Value.slice (some { block := (0 : Nat), off := (0 : Nat) }) n c, Value.slice (some { block := (1 : Nat), off := (0 : Nat) }) k d] (0 : Nat) false true false) :: noH = some (AObj.row (flts xs) (1 : Nat) false false true) :: some (AObj.row (ints hs) (2 : Nat) false false true) :: some (AObj.row [Value.string nm, Value.int IntKind.i64 f, Value.slice (some { block := (0 : Nat), off := (0 : Nat) }) n c, Value.slice (some { block := (1 : Nat), off := (0 : Nat) }) k d] (0 : Nat) false true false) :: noH)) (∃ (s' : Nat), Is (s' ≤ n ∧ ∀ (j : Nat), j < s' → nzB (List.getD xs j (0 : Nat)) = true → knB hs (↑j : Int) = true) ∧ Is (n - s' < n - s) ∧ [poi, Value.pointer (some { block := (2 : Nat), off := (0 : Nat) }), poi, poi, poi, Value.int IntKind.i64 (IntKind.wrap IntKind.i64 ((↑s : Int) + (1 : Int))), poi, poi, poi, poi, poi, poi, poi, poi, poi, poi, poi, poi, poi, poi, poi, poi, poi, poi, poi, poi, poi, poi, poi, poi, poi, poi, poi, poi, poi, poi, poi, poi, poi, poi, poi, poi, poi, poi, poi, poi, poi, poi, poi, poi, poi, poi, poi, poi, poi, poi, poi, poi, poi, poi, poi, poi] = [poi, Value.pointer (some { block := (2 : Nat), off := (0 : Nat) }), poi, poi, poi, Value.int IntKind.i64 (↑s' : Int), poi, poi, poi, poi, poi, poi, poi, poi, poi, poi, poi, poi, poi, poi, poi, poi, poi, poi, poi, poi, poi, poi, poi, poi, poi, poi, poi, poi, poi, poi, poi, poi, poi, poi, poi, poi, poi, poi, poi, poi, poi, poi, poi, poi, poi, poi, poi, poi, poi, poi, poi, poi, poi, poi, poi, poi] ∧ some (AObj.row (flts xs) (1 : Nat) false false true) :: some (AObj.row (ints hs) (2 : Nat) false false true) :: some (AObj.row [Value.string nm, Value.int IntKind.i64 f, Value.slice (some { block := (0 : Nat), off := (0 : Nat) }) n c, Value.slice (some { block := (1 : Nat), off := (0 : Nat) }) k d] (0 : Nat) false true false) :: noH = some (AObj.row (flts xs) (1 : Nat) false false true) :: some (AObj.row (ints hs) (2 : Nat) false false true) :: some (AObj.row [Value.string nm, Value.int IntKind.i64 f, Value.slice (some { block := (0 : Nat), off := (0 : Nat) }) n c, Value.slice (some { block := (1 : Nat), off := (0 : Nat) }) k d] (0 : Nat) false true false) :: noH)) (K (Value.int IntKind.i64 (0 : Int)) (some (AObj.row (flts xs) (1 : Nat) false false true) :: some (AObj.row (ints hs) (2 : Nat) false false true) :: noH))))) (br (fi [wh (!nameB nm) (8 : Int), wi f (0 : Int) (100000000 : Int), fi [wh (decide ((4096 : Int) < (↑n : Int))) (5 : Int), fi (List.map sE xs)], (0 : Int)] != (0 : Int)) (K (Value.int IntKind.i64 (fi [wh (!nameB nm) (8 : Int), wi f (0 : Int) (100000000 : Int), fi [wh (decide ((4096 : Int) < (↑n : Int))) (5 : Int), fi (List.map sE xs)], (0 : Int)])) (some (AObj.row (flts xs) (1 : Nat) false false true) :: some (AObj.row (ints hs) (2 : Nat) false false true) :: noH)) (Is (ints hs = ints hs ∧ List.length hs = k * (2 : Nat) ∧ k ≤ (100000 : Nat)) ∧ br (hchk (↑n : Int) hs (-1 : Int) != (0 : Int)) (K (Value.int IntKind.i64 (hchk (↑n : Int) hs (-1 : Int))) (some (AObj.row (flts xs) (1 : Nat) false false true) :: some (AObj.row (ints hs) (2 : Nat) false false true) :: noH)) ((∃ (s : Nat), Is (s ≤ n ∧ ∀ (j : Nat), j < s → nzB (List.getD xs j (0 : Nat)) = true → knB hs (↑j : Int) = true) ∧ [poi, Value.pointer (some { block := (2 : Nat), off := (0 : Nat) }), poi, poi, poi, Value.int IntKind.i64 (0 : Int), poi, poi, poi, poi, poi, poi, poi, poi, poi, poi, poi, poi, poi, poi, poi, poi, poi, poi, poi, poi, poi, poi, poi, poi, poi, poi, poi, poi, poi, poi, poi, poi, poi, poi, poi, poi, poi, poi, poi, poi, poi, poi, poi, poi, poi, poi, poi, poi, poi, poi, poi, poi, poi, poi, poi, poi] = [poi, Value.pointer (some { block := (2 : Nat), off := (0 : Nat) }), poi, poi, poi, Value.int IntKind.i64 (↑s : Int), poi, poi, poi, poi, poi, poi, poi, poi, poi, poi, poi, poi, poi, poi, poi, poi, poi, poi, poi, poi, poi, poi, poi, poi, poi, poi, poi, poi, poi, poi, poi, poi, poi, poi, poi, poi, poi, poi, poi, poi, poi, poi, poi, poi, poi, poi, poi, poi, poi, poi, poi, poi, poi, poi, poi, poi] ∧ some (AObj.row (flts xs) (1 : Nat) false false true) :: some (AObj.row (ints hs) (2 : Nat) false false true) :: some (AObj.row [Value.string nm, Value.int IntKind.i64 f, Value.slice (some { block := (0 : Nat), off := (0 : Nat) }) n c, Value.slice (some { block := (1 : Nat), off := (0 : Nat) }) k d] (0 : Nat) false true (List.all [Value.string nm, Value.int IntKind.i64 f, Value.slice (some { block := (0 : Nat), off := (0 : Nat) }) n c, Value.slice (some { block := (1 : Nat), off := (0 : Nat) }) k d] atom)) :: noH = some (AObj.row (flts xs) (1 : Nat) false false true) :: some (AObj.row (ints hs) (2 : Nat) false false true) :: some (AObj.row [Value.string nm, Value.int IntKind.i64 f, Value.slice (some { block := (0 : Nat), off := (0 : Nat) }) n c, Value.slice (some { block := (1 : Nat), off := (0 : Nat) }) k d] (0 : Nat) false true false) :: noH) ∧ ∀ (s : Nat), Is (s ≤ n ∧ ∀ (j : Nat), j < s → nzB (List.getD xs j (0 : Nat)) = true → knB hs (↑j : Int) = true) → br (decide ((↑s : Int) < (↑n : Int))) (Is ((0 : Int) ≤ (↑s : Int) ∧ (↑s : Int) < (↑n : Int)) ∧ Is ((flts xs)[(0 : Nat) + Int.toNat (↑s : Int) * (1 : Nat)]? = some (Value.float FloatKind.f32 (List.getD xs ((0 : Nat) + Int.toNat (↑s : Int) * (1 : Nat)) (0 : Nat)))) ∧ Is True ∧ br (fNe (List.getD xs ((0 : Nat) + Int.toNat (↑s : Int) * (1 : Nat)) (0 : Nat)) (0 : Nat)) (Is (isRn0 xs hs k (flts xs) (ints hs)) ∧ br (!knB hs (↑s : Int)) (K (Value.int IntKind.i64 (1 : Int)) (some (AObj.row (flts xs) (1 : Nat) false false true) :: some (AObj.row (ints hs) (2 : Nat) false false true) :: noH)) (∃ (s' : Nat), Is (s' ≤ n ∧ ∀ (j : Nat), j < s' → nzB (List.getD xs j (0 : Nat)) = true → knB hs (↑j : Int) = true) ∧ Is (n - s' < n - s) ∧ [poi, Value.pointer (some { block := (2 : Nat), off := (0 : Nat) }), poi, poi, poi, Value.int IntKind.i64 (IntKind.wrap IntKind.i64 ((↑s : Int) + (1 : Int))), poi, poi, poi, poi, poi, poi, poi, poi, poi, poi, poi, poi, poi, poi, poi, poi, poi, poi, poi, poi, poi, poi, poi, poi, poi, poi, poi, poi, poi, poi, poi, poi, poi, poi, poi, poi, poi, poi, poi, poi, poi, poi, poi, poi, poi, poi, poi, poi, poi, poi, poi, poi, poi, poi, poi, poi] = [poi, Value.pointer (some { block := (2 : Nat), off := (0 : Nat) }), poi, poi, poi, Value.int IntKind.i64 (↑s' : Int), poi, poi, poi, poi, poi, poi, poi, poi, poi, poi, poi, poi, poi, poi, poi, poi, poi, poi, poi, poi, poi, poi, poi, poi, poi, poi, poi, poi, poi, poi, poi, poi, poi, poi, poi, poi, poi, poi, poi, poi, poi, poi, poi, poi, poi, poi, poi, poi, poi, poi, poi, poi, poi, poi, poi, poi] ∧ some (AObj.row (flts xs) (1 : Nat) false false true) :: some (AObj.row (ints hs) (2 : Nat) false false true) :: some (AObj.row [Value.string nm, Value.int IntKind.i64 f, Value.slice (some { block := (0 : Nat), off := (0 : Nat) }) n c, Value.slice (some { block := (1 : Nat), off := (0 : Nat) }) k d] (0 : Nat) false true false) :: noH = some (AObj.row (flts xs) (1 : Nat) false false true) :: some (AObj.row (ints hs) (2 : Nat) false false true) :: some (AObj.row [Value.string nm, Value.int IntKind.i64 f, Value.slice (some { block := (0 : Nat), off := (0 : Nat) }) n c, Value.slice (some { block := (1 : Nat), off := (0 : Nat) }) k d] (0 : Nat) false true false) :: noH)) (∃ (s' : Nat), Is (s' ≤ n ∧ ∀ (j : Nat), j < s' → nzB (List.getD xs j (0 : Nat)) = true → knB hs (↑j : Int) = true) ∧ Is (n - s' < n - s) ∧ [poi, Value.pointer (some { block := (2 : Nat), off := (0 : Nat) }), poi, poi, poi, Value.int IntKind.i64 (IntKind.wrap IntKind.i64 ((↑s : Int) + (1 : Int))), poi, poi, poi, poi, poi, poi, poi, poi, poi, poi, poi, poi, poi, poi, poi, poi, poi, poi, poi, poi, poi, poi, poi, poi, poi, poi, poi, poi, poi, poi, poi, poi, poi, poi, poi, poi, poi, poi, poi, poi, poi, poi, poi, poi, poi, poi, poi, poi, poi, poi, poi, poi, poi, poi, poi, poi] = [poi, Value.pointer (some { block := (2 : Nat), off := (0 : Nat) }), poi, poi, poi, Value.int IntKind.i64 (↑s' : Int), poi, poi, poi, poi, poi, poi, poi, poi, poi, poi, poi, poi, poi, poi, poi, poi, poi, poi, poi, poi, poi, poi, poi, poi, poi, poi, poi, poi, poi, poi, poi, poi, poi, poi, poi, poi, poi, poi, poi, poi, poi, poi, poi, poi, poi, poi, poi, poi, poi, poi, poi, poi, poi, poi, poi, poi] ∧ some (AObj.row (flts xs) (1 : Nat) false false true) :: some (AObj.row (ints hs) (2 : Nat) false false true) :: some (AObj.row [Value.string nm, Value.int IntKind.i64 f, Value.slice (some { block := (0 : Nat), off := (0 : Nat) }) n c, Value.slice (some { block := (1 : Nat), off := (0 : Nat) }) k d] (0 : Nat) false true false) :: noH = some (AObj.row (flts xs) (1 : Nat) false false true) :: some (AObj.row (ints hs) (2 : Nat) false false true) :: some (AObj.row [Value.string nm, Value.int IntKind.i64 f, Value.slice (some { block := (0 : Nat), off := (0 : Nat) }) n c, Value.slice (some { block := (1 : Nat), off := (0 : Nat) }) k d] (0 : Nat) false true false) :: noH)) (K (Value.int IntKind.i64 (0 : Int)) (some (AObj.row (flts xs) (1 : Nat) false false true) :: some (AObj.row (ints hs) (2 : Nat) false false true) :: noH)))))) := by kernel_rfl
end
end Qq
end
section
/- The reference's CheckRun says what the program's does. -/
open Go Go.Vm Go.Proofs Sp
namespace Qq
noncomputable section
theorem any_none {xs : List Nat} {A B : Nat} (h : B ≤ xs.length) : ((xs.drop A).take (B - A)).any nzB = false ↔ ∀ j, A ≤ j → j < B → nzB (xs.getD j 0) = false := by
  rw [List.any_eq_false]
  constructor
  · intro h1 j hj hB
    have : xs.getD j 0 ∈ (xs.drop A).take (B - A) := by
      rw [List.mem_iff_getElem]
      refine ⟨j - A, by rw [List.length_take, List.length_drop]; omega, ?_⟩
      simp only [List.getElem_take, List.getElem_drop, List.getD_eq_getElem?_getD, List.getElem?_eq_getElem (show j < xs.length by omega), Option.getD_some]
      congr 1
      omega
    simpa using h1 _ this
  · intro h1 x hx
    obtain ⟨i, hi, rfl⟩ := List.mem_iff_getElem.1 hx
    rw [List.length_take, List.length_drop] at hi
    have := h1 (A + i) (by omega) (by omega)
    simp only [List.getElem_take, List.getElem_drop, List.getD_eq_getElem?_getD, List.getElem?_eq_getElem (show A + i < xs.length by omega), Option.getD_some] at this ⊢
    simpa using this
theorem hz_iff {xs : List Nat} : ∀ (hs : List Int) (last : Int), hchk xs.length hs last = 0 → (hzH xs hs = true ↔ ∀ j, j < xs.length → nzB (xs.getD j 0) = true → knB hs (j : Int) = true)
  | [], _, _ => ⟨fun _ _ _ _ => rfl, fun _ => rfl⟩
  | [_], _, _ => ⟨fun _ _ _ _ => rfl, fun _ => rfl⟩
  | a :: b :: r, last, h => by
    obtain ⟨_, a0, ab, bn⟩ := hchk_all (a :: b :: r) last h 0 (by simp only [List.length_cons]; omega)
    simp only [Nat.zero_mul, Nat.zero_add, List.getD_cons_zero, List.getD_cons_succ] at a0 ab bn
    have hr : hchk xs.length r b = 0 := by rw [hchk] at h; exact (sel_zero.1 h).2
    have ih := hz_iff r b hr
    rw [hzH, Bool.and_eq_true, Bool.not_eq_true', any_none (by omega), ih]
    simp only [knB, Bool.and_eq_true, Bool.not_eq_true', Bool.and_eq_false_iff, decide_eq_false_iff_not]
    constructor
    · rintro ⟨h1, h2⟩ j hj hz
      refine ⟨?_, h2 j hj hz⟩
      by_cases hin : a ≤ (j : Int) ∧ (j : Int) < b
      · rw [h1 j (by omega) (by omega)] at hz; cases hz
      · omega
    · intro h1
      refine ⟨fun j hj hB => ?_, fun j hj hz => (h1 j hj hz).2⟩
      cases hz : nzB (xs.getD j 0)
      · rfl
      · have := (h1 j (by omega) hz).1
        omega
set_option maxRecDepth 100000 in
theorem crR_ok {nm : ByteArray} {f : Int} {n c k d : Nat} {xs : List Nat} {hs : List Int} (hn : xs.length = n) (h9 : n ≤ 100000) (hk : hs.length = k * 2) (hk9 : k ≤ 100000) :
    SmallRes Try.prog 9 [.agg (runA nm f 0 n c 1 k d).toArray] (hp2r xs hs false false false false []) (.int .i64 (runE nm f xs n hs)) (hp2r xs hs false false false false []) := by
  refine fnP_res hm cr14_ok (hs := hsCrR nm f n c k d xs hs) ?_
  rw [crR_t, wrap_eq (x := 100000000 - (n : Int)) (by omega) (by omega)]
  have pre : ∀ {b : Bool} {e : Int}, wh b 4 = e → (b = true ↔ (100000000 : Int) < f + n ∧ n ≤ 4096) → runE nm f xs n hs = sel (fi [wh (!nameB nm) 8, wi f 0 100000000, fi [wh (decide ((4096 : Int) < n)) 5, fi (xs.map sE)], e]) (sel (hchk n hs (-1)) (wh (!hzH xs hs) 1)) := by
    intro b e he hb
    subst he
    have e4 : ∀ x : Int, wh (decide ((4096 : Int) < n)) 5 = 0 → fi [fi (xs.map sE), wh (decide ((100000000 : Int) < f + n)) 4] = fi [fi (xs.map sE), wh b 4] := fun _ h => by
      have h := (wh_zero (by decide)).1 h
      have h := of_decide_eq_false h
      have : decide ((100000000 : Int) < f + n) = b := by
        rw [Bool.eq_iff_iff, decide_eq_true_iff, hb]
        exact ⟨fun h1 => ⟨h1, by omega⟩, fun h1 => h1.1⟩
      rw [this]
    rw [runE]
    by_cases h1 : wh (!nameB nm) 8 = 0
    · by_cases h2 : wi f 0 100000000 = 0
      · by_cases h3 : wh (decide ((4096 : Int) < n)) 5 = 0
        · rw [e4 0 h3]
          by_cases h4 : fi (xs.map sE) = 0 <;> simp [fi, h1, h2, h3, h4, sel]
        · simp [fi, h1, h2, h3, sel]
      · simp [fi, h1, h2, sel]
    · simp [fi, h1, sel]
  have go : ∀ {e : Int}, runE nm f xs n hs = sel e (sel (hchk n hs (-1)) (wh (!hzH xs hs) 1)) → e = 0 → hchk n hs (-1) = 0 → runE nm f xs n hs = wh (!hzH xs hs) 1 := fun h h1 h2 => by rw [h, h1, h2]; rfl
  have yes : runE nm f xs n hs = wh (!hzH xs hs) 1 → hchk n hs (-1) = 0 → (∀ j, j < n → nzB (xs.getD j 0) = true → knB hs (j : Int) = true) → runE nm f xs n hs = 0 := fun h h1 h2 => by
    subst hn
    rw [h, (hz_iff hs (-1) h1).2 h2]; rfl
  have no : runE nm f xs n hs = wh (!hzH xs hs) 1 → hchk n hs (-1) = 0 → ∀ j, j < n → nzB (xs.getD j 0) = true → knB hs (j : Int) = false → runE nm f xs n hs = 1 := fun h h1 j hj h2 h3 => by
    subst hn
    have : hzH xs hs = false := by
      cases hz : hzH xs hs
      · rfl
      · rw [(hz_iff hs (-1) h1).1 hz j hj h2] at h3; cases h3
    rw [h, this]; rfl
  refine ⟨⟨rfl, hn, h9⟩, br_of (fun hb => ?_) (fun hb => ?_)⟩
  case' refine_1 => have P := pre (b := decide ((n : Int) ≤ 4096)) rfl (by rw [decide_eq_true_iff]; have := of_decide_eq_true hb; omega)
  case' refine_2 => have P := pre (b := false) (e := 0) rfl (by have := of_decide_eq_false hb; constructor <;> intro h; cases h; omega)
  all_goals
    refine br_of (fun h => ?_) (fun h => ⟨⟨rfl, hk, hk9⟩, br_of (fun h2 => ?_) (fun h2 => ?_)⟩)
    · rw [P]
      rw [sel_ne h]
      exact ⟨by first | trivial | rfl, by first | trivial | rfl⟩
    · rw [P]
      rw [sel_eq h, sel_ne h2]
      exact ⟨by first | trivial | rfl, by first | trivial | rfl⟩
    have h2' : hchk n hs (-1) = 0 := by simpa using h2
    have h0 : runE nm f xs n hs = wh (!hzH xs hs) 1 := go P (by simpa using h) h2'
    refine ⟨⟨(0 : Nat), ⟨by omega, fun j hj => by omega⟩, by first | trivial | rfl, by first | trivial | rfl⟩, fun s hs' => br_of (fun hc => ?_) (fun hc => ?_)⟩
    · have hc := lt_of_dec hc
      obtain ⟨i1, i2⟩ := hs'.out
      simp only [Nat.zero_add, Nat.mul_one, Int.toNat_natCast]
      have next : (nzB (xs.getD s 0) = true → knB hs (s : Int) = true) → ∀ j, j < s + 1 → nzB (xs.getD j 0) = true → knB hs (j : Int) = true := fun h j hj hz => by
        rcases Nat.lt_succ_iff_lt_or_eq.1 hj with h' | rfl
        · exact i2 j h' hz
        · exact h hz
      refine ⟨⟨by omega, by omega⟩, ⟨flts_at (by omega)⟩, ⟨trivial⟩, br_of (fun hz => ⟨⟨rfl, rfl, hk, hk9⟩, br_of (fun hkn => ?_) (fun hkn => ⟨s + 1, ⟨hc, next fun _ => by simpa using hkn⟩, ⟨by omega⟩, by rw [up1 hc (by omega)], by first | trivial | rfl⟩)⟩) (fun hz => ⟨s + 1, ⟨hc, next fun h => ?_⟩, ⟨by omega⟩, by rw [up1 hc (by omega)], by first | trivial | rfl⟩)⟩
      · rw [no h0 h2' s hc hz (by simpa using hkn)]
        exact ⟨by first | trivial | rfl, by first | trivial | rfl⟩
      · have hz : nzB (xs.getD s 0) = false := hz
        rw [hz] at h; cases h
    · have hc := ge_of_dec hc
      obtain ⟨i1, i2⟩ := hs'.out
      rw [yes h0 h2' (fun j hj => i2 j (by omega))]
      exact ⟨by first | trivial | rfl, by first | trivial | rfl⟩
noncomputable def orcCrR (xs : List Nat) (hs : List Int) : OrcV
  | [.agg ⟨[.string nm, .int .i64 f, .slice (some ⟨0, 0, none⟩) n _, .slice (some ⟨1, 0, none⟩) k _]⟩], [some (.row e1 1 false false true), some (.row e2 2 false false true)] =>
    some (.int .i64 (runE nm f xs n hs), [some (.row e1 1 false false true), some (.row e2 2 false false true)], isRun xs hs n k e1 e2)
  | _, _ => none
theorem okCrR (xs : List Nat) (hs : List Int) : OkV Try.prog 9 (orcCrR xs hs) := by
  intro args H ret H' vc h hv
  unfold orcCrR at h
  split at h
  · cases h
    obtain ⟨rfl, rfl, h1, h2, h3, h4⟩ := hv
    exact crR_ok h1 h2 h3 h4
  · cases h
end
end Qq
end
section
/- Moments of a run. -/
open Go Go.Vm Go.Proofs Sp
namespace Sp
noncomputable section
end
end Sp
namespace Qq
noncomputable section
noncomputable def isFl (e : List Value) : Prop := ∃ xs, e = flts xs
/- The reference. -/
/- Copies; short runs. -/
noncomputable def hsOw : Hs Try.prog where
  op y := if [107, 111].contains y then some (hAe Try.prog true) else none
theorem owR_t (nm : ByteArray) (f : Int) (n : Nat) (c : Nat) (k : Nat) (d : Nat) (xs : List Nat) (hs : List Int) (K : Value → Heap → Prop) :
    (fnP Try.prog c0 hsOw (22 : FuncId) [Value.agg (List.toArray (runA nm f (0 : Nat) n c (1 : Nat) k d))] (hp2r xs hs false false false false []) K) =
    (Is (List.length (flts xs) = n * (1 : Nat) ∧ (∀ (v : Value), v ∈ flts xs → atom v = true) ∧ n * (4 : Nat) ≤ (140737488355328 : Nat) ∧ n ≤ (9223372036854775807 : Nat)) ∧ Is (List.length (ints hs) = k * (2 : Nat) ∧ (∀ (v : Value), v ∈ ints hs → atom v = true) ∧ k * (16 : Nat) ≤ (140737488355328 : Nat) ∧ k ≤ (9223372036854775807 : Nat)) ∧ K (Value.agg #[Value.string nm, Value.int IntKind.i64 f, Value.slice (some { block := (2 : Nat), off := (0 : Nat) }) n (0 : Nat), Value.slice (some { block := (3 : Nat), off := (0 : Nat) }) k (0 : Nat)]) (some (AObj.row (flts xs) (1 : Nat) false false true) :: some (AObj.row (ints hs) (2 : Nat) false false true) :: some (AObj.row (flts xs) (1 : Nat) true true true) :: some (AObj.row (ints hs) (2 : Nat) true true true) :: noH)) := by kernel_rfl
theorem slR_t (xs : List Nat) (n : Nat) (c : Nat) (K : Value → Heap → Prop) :
    (fnP Try.prog c0 h0 (47 : FuncId) [Value.slice (some { block := (0 : Nat), off := (0 : Nat) }) n c] [fRs xs] K) =
    (br (decide ((↑n : Int) ≤ (40 : Int))) (K (Value.bool true) (some (AObj.row (flts xs) (1 : Nat) false false true) :: noH)) (K (Value.bool ((↑n : Int) == (4097 : Int))) (some (AObj.row (flts xs) (1 : Nat) false false true) :: noH))) := by kernel_rfl
noncomputable def orcSlR : OrcV
  | [.slice (some ⟨0, 0, none⟩) n _], [some (.row e1 1 false false true)] => some (.bool (decide (n ≤ 40) || n == 4097), [some (.row e1 1 false false true)], isFl e1)
  | _, _ => none
theorem okSlR : OkV Try.prog 47 orcSlR := by
  intro args H ret H' vc h hv
  unfold orcSlR at h
  split at h
  · rename_i n c e1
    cases h
    obtain ⟨xs, rfl⟩ := hv
    refine fnP_res hm c0_ok (hs := h0) ?_
    show fnP Try.prog c0 h0 47 _ [fRs xs] _
    rw [slR_t]
    refine br_of (fun h => ?_) (fun h => ?_)
    · have h : n ≤ 40 := by have := of_decide_eq_true h; omega
      rw [decide_eq_true h]
      exact ⟨by first | trivial | rfl, by first | trivial | rfl⟩
    · have h : ¬ n ≤ 40 := by have := of_decide_eq_false h; omega
      rw [decide_eq_false h, Bool.false_or]
      have e : ((n : Int) == 4097) = (n == 4097) := by
        rw [Bool.eq_iff_iff, beq_iff_eq, beq_iff_eq]; omega
      rw [← e]
      exact ⟨by first | trivial | rfl, by first | trivial | rfl⟩
  · cases h
noncomputable def hsShR : Hs Try.prog where
  au := auCalls [(47, hCa Try.prog 47 orcSlR okSlR)]
theorem srn_t (nm : ByteArray) (f : Int) (n : Nat) (c : Nat) (k : Nat) (d : Nat) (xs : List Nat) (hs : List Int) (K : Value → Heap → Prop) :
    (fnP Try.prog c0 hsShR (16 : FuncId) [Value.agg (List.toArray (runA nm f (0 : Nat) n c (1 : Nat) k d))] (hp2r xs hs false false false false []) K) =
    (br (decide ((↑(ByteArray.size nm) : Int) ≤ (40 : Int))) (Is (isFl (flts xs)) ∧ br (decide (n ≤ (40 : Nat)) || n == (4097 : Nat)) (K (Value.bool (decide ((↑k : Int) ≤ (12 : Int)))) (some (AObj.row (flts xs) (1 : Nat) false false true) :: some (AObj.row (ints hs) (2 : Nat) false false true) :: noH)) (K (Value.bool false) (some (AObj.row (flts xs) (1 : Nat) false false true) :: some (AObj.row (ints hs) (2 : Nat) false false true) :: noH))) (K (Value.bool false) (some (AObj.row (flts xs) (1 : Nat) false false true) :: some (AObj.row (ints hs) (2 : Nat) false false true) :: noH))) := by kernel_rfl
/-- What a run that is checked says. -/
theorem run_zero {nm : ByteArray} {f : Int} {xs : List Nat} {n : Nat} {hs : List Int} (h : runE nm f xs n hs = 0) :
    nameB nm = true ∧ (0 ≤ f ∧ f ≤ 100000000) ∧ n ≤ 4096 ∧ f + n ≤ 100000000 ∧ fi (xs.map sE) = 0 ∧ hchk n hs (-1) = 0 ∧ hzH xs hs = true := by
  obtain ⟨h1, h2⟩ := sel_zero.1 h
  obtain ⟨h3, h4⟩ := sel_zero.1 h2
  obtain ⟨h5, h6⟩ := sel_zero.1 h4
  have k1 := (wh_zero (by decide)).1 (fi_zero.1 h1 (wh (!nameB nm) 8) (by simp))
  have k2 := wi_zero.1 (fi_zero.1 h1 (wi f 0 100000000) (by simp))
  have k3 := of_decide_eq_false ((wh_zero (by decide)).1 (fi_zero.1 h1 (wh (decide ((4096 : Int) < n)) 5) (by simp)))
  have k4 := fi_zero.1 h3 (fi (xs.map sE)) (by simp)
  have k5 := of_decide_eq_false ((wh_zero (by decide)).1 (fi_zero.1 h3 (wh (decide ((100000000 : Int) < f + n)) 4) (by simp)))
  have k6 := (wh_zero (by decide)).1 h6
  exact ⟨by simpa using k1, k2, by omega, by omega, k4, h5, by simpa using k6⟩
theorem smps {xs : List Nat} (h : fi (xs.map sE) = 0) {j : Nat} (hj : j < xs.length) : sE (xs.getD j 0) = 0 := by
  refine fi_zero.1 h _ (List.mem_map.2 ⟨xs.getD j 0, ?_, rfl⟩)
  rw [List.getD_eq_getElem?_getD, List.getElem?_eq_getElem hj]
  exact List.getElem_mem _
/-- Moments are bounded. -/
structure MoB (m : Int × Int × Int) (i : Nat) : Prop where
  c0 : 0 ≤ m.1
  c1 : m.1 ≤ i
  s0 : -(16384 * (i : Int)) ≤ m.2.1
  s1 : m.2.1 ≤ 16384 * i
  q0 : 0 ≤ m.2.2
  q1 : m.2.2 ≤ 268435456 * i
theorem MoB.zero : MoB (0, 0, 0) 0 := ⟨by simp, by simp, by simp, by simp, by simp, by simp⟩
theorem MoB.more {m : Int × Int × Int} {i : Nat} (h : MoB m i) : MoB m (i + 1) := by
  obtain ⟨a, b, c, d, e, f⟩ := h
  exact ⟨a, by omega, by omega, by omega, e, by omega⟩
end
end Qq
end
section
/- The law about moments of parts. -/
open Go Go.Vm Go.Proofs Sp
namespace Sp
noncomputable section
noncomputable def shB (nm : ByteArray) (n k : Nat) : Bool := decide (nm.size ≤ 40) && ((decide (n ≤ 40) || n == 4097) && decide (k ≤ 12))
end
end Sp
namespace Qq
noncomputable section
noncomputable def orcOwR (xs : List Nat) (hs : List Int) : OrcV
  | [.agg ⟨[.string nm, .int .i64 f, .slice (some ⟨0, 0, none⟩) n _, .slice (some ⟨1, 0, none⟩) k _]⟩], [some (.row e1 1 false false true), some (.row e2 2 false false true)] =>
    some (.agg #[.string nm, .int .i64 f, .slice (some ⟨2, 0, none⟩) n 0, .slice (some ⟨3, 0, none⟩) k 0], [some (.row e1 1 false false true), some (.row e2 2 false false true), fR xs, some (.row (ints hs) 2 true true true)], isRun xs hs n k e1 e2)
  | _, _ => none
theorem okOwR (xs : List Nat) (hs : List Int) : OkV Try.prog 22 (orcOwR xs hs) := by
  intro args H ret H' vc h hv
  unfold orcOwR at h
  split at h
  · rename_i nm f n c k d e1 e2
    cases h
    obtain ⟨rfl, rfl, h1, h2, h3, h4⟩ := hv
    refine fnP_res hm c0_ok (hs := hsOw) ?_
    show fnP Try.prog c0 hsOw 22 [.agg (runA nm f 0 n c 1 k d).toArray] (hp2r xs hs false false false false []) _
    rw [owR_t]
    exact ⟨⟨by rw [flts_len]; omega, flts_atom xs, by omega, by omega⟩, ⟨by rw [ints_len]; omega, fun v hv => by obtain ⟨x, _, rfl⟩ := List.mem_map.1 hv; rfl, by omega, by omega⟩, by first | trivial | rfl, by first | trivial | rfl⟩
  · cases h
noncomputable def isRn1 (xs : List Nat) (hs : List Int) (e1 e2 : List Value) : Prop := e1 = flts xs ∧ e2 = ints hs
noncomputable def orcShR (xs : List Nat) (hs : List Int) : OrcV
  | [.agg ⟨[.string nm, .int .i64 _, .slice (some ⟨0, 0, none⟩) n _, .slice (some ⟨1, 0, none⟩) k _]⟩], [some (.row e1 1 false false true), some (.row e2 2 false false true)] =>
    some (.bool (shB nm n k), [some (.row e1 1 false false true), some (.row e2 2 false false true)], isRn1 xs hs e1 e2)
  | _, _ => none
theorem okShR (xs : List Nat) (hs : List Int) : OkV Try.prog 16 (orcShR xs hs) := by
  intro args H ret H' vc h hv
  unfold orcShR at h
  split at h
  · rename_i nm f n c k d e1 e2
    cases h
    obtain ⟨rfl, rfl⟩ := hv
    refine fnP_res hm c0_ok (hs := hsShR) ?_
    show fnP Try.prog c0 hsShR 16 [.agg (runA nm f 0 n c 1 k d).toArray] (hp2r xs hs false false false false []) _
    rw [srn_t]
    have e40 : decide ((nm.size : Int) ≤ 40) = decide (nm.size ≤ 40) := decide_eq_decide.2 (by omega)
    have e12 : decide ((k : Int) ≤ 12) = decide (k ≤ 12) := decide_eq_decide.2 (by omega)
    refine br_of (fun h => ⟨⟨xs, rfl⟩, br_of (fun h2 => ?_) (fun h2 => ?_)⟩) (fun h => ?_)
    · rw [shB, ← e40, h, h2, e12]; exact ⟨by first | trivial | rfl, by first | trivial | rfl⟩
    · rw [shB, ← e40, h, h2]; exact ⟨by first | trivial | rfl, by first | trivial | rfl⟩
    · rw [shB, ← e40, h]; exact ⟨by first | trivial | rfl, by first | trivial | rfl⟩
  · cases h
end
end Qq
end
section
/- Samples that are made of integers. -/
open Go
namespace Sp
noncomputable section
/-- The sample of an integer. -/
def smO (n : Int) : Nat := fDiv (fOf n) 1098907648
end
end Sp
namespace Fl
open Ieee Sp
theorem shl_div {m a b : Nat} (h : b ≤ a) : m <<< a / 2 ^ b = m * 2 ^ (a - b) ∧ m <<< a % 2 ^ b = 0 := by
  have e : m <<< a = m * 2 ^ (a - b) * 2 ^ b := by rw [Nat.shiftLeft_eq, Nat.mul_assoc, ← Nat.pow_add, Nat.sub_add_cancel h]
  rw [e]
  exact ⟨Nat.mul_div_cancel _ (Nat.pow_pos (by decide)), Nat.mul_mod_left _ _⟩
theorem pow4 {m a b c : Nat} (h : a + c + 1 + 4 = b) : 2 * (m * 2 ^ a) * 2 ^ c * 16 = m * 2 ^ b := by
  subst h
  simp only [Nat.pow_add, Nat.pow_one]
  have e : (2 : Nat) ^ 4 = 16 := rfl
  rw [e]
  generalize 2 ^ a = x
  generalize 2 ^ c = y
  grind
theorem read_16 : single.read 1098907648 = .number false (2 ^ 23) (-19) := by decide +kernel
theorem log_23 : (2 ^ 23).log2 = 23 := by decide +kernel
theorem Has.div16 {x : Nat} (h : IsF x) : ∃ r t, (single.read x).quotient 25 (single.read 1098907648) = some r ∧ Has r (-200) t ∧ t * 16 = val x := by
  obtain ⟨s, m, i, h1, h2, h3, h4⟩ := h
  rw [h1, read_16]
  have hl : m.log2 ≤ 23 := by
    by_cases h0 : m = 0
    · subst h0; decide
    · exact Nat.le_of_lt_succ ((Nat.log2_lt h0).2 h2)
  have hv : val x = sg s (m * 2 ^ (i + 400).toNat) := by rw [val, h1]
  rw [hv]
  obtain ⟨q1, q2⟩ := shl_div (m := m) (a := 25 + 23 - m.log2) (b := 23) (by omega)
  have e0 : (2 ^ 23 : Nat) ≠ 0 := by decide
  have hq : Datum.quotient 25 (.number s m i) (.number false (2 ^ 23) (-19)) = some (.number s (2 * (m * 2 ^ (25 + 23 - m.log2 - 23))) (i - -19 - ((25 + 23 - m.log2 : Nat) : Int) - 1)) := by
    simp only [Datum.quotient, if_neg e0, log_23, q1, q2, Bool.xor_false]
    rfl
  refine ⟨_, _, hq, ⟨_, _, _, rfl, by omega, rfl⟩, ?_⟩
  have e16 : (16 : Int) = ((16 : Nat) : Int) := rfl
  rw [e16, ← sg_mul]
  refine congrArg (sg s) ?_
  generalize hA : (i - -19 - ((25 + 23 - m.log2 : Nat) : Int) - 1 + 400).toNat = c
  generalize hB : (i + 400).toNat = b
  exact pow4 (by omega)
theorem pow_at {a b : Nat} (h : a + b = 400) : (2 : Nat) ^ a * 2 ^ b = one := by
  rw [← Nat.pow_add, h, one_nat]
theorem one_split {a b k : Nat} (h : a + b = 400) (hk : 2 ^ b = k) : ((2 ^ a : Nat) : Int) * (k : Int) = (one : Int) := by
  rw [← pow_at h, hk, Int.natCast_mul]
theorem rep_pow {n t : Int} {K : Nat} (h : n.natAbs < 2 ^ 24) (h1 : 24 + K ≤ 500) (h2 : 251 ≤ K) (ht : t = n * ((2 ^ K : Nat) : Int)) : Rep t := by
  have h3 := pow_up h1
  rw [ht]
  refine ⟨?_, n.natAbs, K, ?_, h, h2⟩
  · rw [Int.natAbs_mul, Int.natAbs_natCast]
    exact Nat.lt_of_lt_of_le (Nat.mul_lt_mul_of_pos_right h (Nat.pow_pos (by decide))) (by rw [← Nat.pow_add]; exact h3)
  · rw [Int.natAbs_mul, Int.natAbs_natCast]
theorem sm_ok {n : Int} (h : n.natAbs < 2 ^ 24) : fDivOk (fOf n) 1098907648 ∧ IsF (smO n) ∧ val (smO n) * 16 = n * (one : Int) := by
  obtain ⟨f1, f2⟩ := of_val h
  obtain ⟨r, t, e1, h1, e2⟩ := Has.div16 f1
  rw [f2] at e2
  have es : single.div (fOf n) 1098907648 = some (single.write r) := by
    have e3 : single.div (fOf n) 1098907648 = ((single.read (fOf n)).quotient 25 (single.read 1098907648)).map single.write := rfl
    rw [e3, e1]; rfl
  have ht : t = n * ((2 ^ 396 : Nat) : Int) := by
    have e4 : ((2 ^ 396 : Nat) : Int) * 16 = (one : Int) := one_split (a := 396) (b := 4) (k := 16) rfl rfl
    rw [← e4, ← Int.mul_assoc] at e2
    omega
  have hr : Rep t := rep_pow h (by decide) (by decide) ht
  have hw := has_fin (h1.write (by decide) hr)
  have em : smO n = single.write r := by rw [smO, fDiv, fmt32, es]; rfl
  exact ⟨by rw [fDivOk, fmt32, es]; rfl, by rw [em]; exact hw.1, by rw [em, hw.2, e2]⟩
theorem lev_sm {n : Int} (h : n.natAbs ≤ 16384) : lev (smO n) = n ∧ sE (smO n) = 0 := by
  obtain ⟨_, f1, e1⟩ := sm_ok (n := n) (by omega)
  have hp := one_pos
  have hb : (val (smO n)).natAbs ≤ 1024 * one := by
    have e := congrArg Int.natAbs e1
    rw [Int.natAbs_mul, Int.natAbs_mul] at e
    have e2 : (one : Int).natAbs = one := Int.natAbs_natCast one
    rw [e2, show Int.natAbs 16 = 16 from rfl] at e
    have := Nat.mul_le_mul_right one h
    omega
  obtain ⟨m1, m2, m3⟩ := mul_16 f1 hb
  rw [e1] at m3
  obtain ⟨i1, _, s, i3, i4⟩ := int_ok m2 (by
    rw [m3, Int.natAbs_mul, show Int.natAbs (one : Int) = one from Int.natAbs_natCast one]
    exact Nat.mul_le_mul_right one (by omega))
  have hl : lev (smO n) = n := by
    rw [lev, i4]
    rw [m3] at i3 ⊢
    rw [Int.natAbs_mul, show Int.natAbs (one : Int) = one from Int.natAbs_natCast one] at i3 ⊢
    rw [Nat.mul_div_cancel _ hp]
    rw [sg_mul] at i3
    exact Int.eq_of_mul_eq_mul_right (by omega) i3
  refine ⟨hl, ?_⟩
  obtain ⟨f2, e2⟩ := of_val (n := n) (by omega)
  rw [sE_fin f1, hl]
  refine (Qq.wh_zero (by decide)).2 ?_
  have q1 : fLt (smO n) 3296722944 = false := by
    rw [lt_val f1 fin_m1024.1, fin_m1024.2]; exact decide_eq_false (by omega)
  have q2 : fGt (smO n) 1149239296 = false := by
    rw [gt_val f1 fin_1024.1, fin_1024.2]; exact decide_eq_false (by omega)
  have q3 : fNe (fMul (smO n) 1098907648) (fOf n) = false := by
    rw [ne_val m2 f2, m3, e2]; exact decide_eq_false (by simp)
  rw [q1, q2, q3]; rfl
end Fl
end
section
/- The sum of two samples. -/
open Go
namespace Fl
open Ieee Sp
theorem smp_of {z : Nat} {n : Int} (f1 : IsF z) (e1 : val z * 16 = n * (one : Int)) (h : n.natAbs ≤ 16384) : lev z = n ∧ sE z = 0 := by
  have hp := one_pos
  have hb : (val z).natAbs ≤ 1024 * one := by
    have e := congrArg Int.natAbs e1
    rw [Int.natAbs_mul, Int.natAbs_mul] at e
    have e2 : (one : Int).natAbs = one := Int.natAbs_natCast one
    rw [e2, show Int.natAbs 16 = 16 from rfl] at e
    have := Nat.mul_le_mul_right one h
    omega
  obtain ⟨m1, m2, m3⟩ := mul_16 f1 hb
  rw [e1] at m3
  obtain ⟨i1, _, s, i3, i4⟩ := int_ok m2 (by
    rw [m3, Int.natAbs_mul, show Int.natAbs (one : Int) = one from Int.natAbs_natCast one]
    exact Nat.mul_le_mul_right one (by omega))
  have hl : lev z = n := by
    rw [lev, i4]
    rw [m3] at i3 ⊢
    rw [Int.natAbs_mul, show Int.natAbs (one : Int) = one from Int.natAbs_natCast one] at i3 ⊢
    rw [Nat.mul_div_cancel _ hp]
    rw [sg_mul] at i3
    exact Int.eq_of_mul_eq_mul_right (by omega) i3
  refine ⟨hl, ?_⟩
  obtain ⟨f2, e2⟩ := of_val (n := n) (by omega)
  rw [sE_fin f1, hl]
  refine (Qq.wh_zero (by decide)).2 ?_
  have q1 : fLt z 3296722944 = false := by
    rw [lt_val f1 fin_m1024.1, fin_m1024.2]; exact decide_eq_false (by omega)
  have q2 : fGt z 1149239296 = false := by
    rw [gt_val f1 fin_1024.1, fin_1024.2]; exact decide_eq_false (by omega)
  have q3 : fNe (fMul z 1098907648) (fOf n) = false := by
    rw [ne_val m2 f2, m3, e2]; exact decide_eq_false (by simp)
  rw [q1, q2, q3]; rfl
theorem add_ok {x y : Nat} (hx : Smp x) (hy : Smp y) (h : (lev x + lev y).natAbs ≤ 16384) : fAddOk x y ∧ lev (fAdd x y) = lev x + lev y ∧ sE (fAdd x y) = 0 := by
  obtain ⟨r, e1, h1⟩ := Has.sum (lo := -149) (by decide) hx.fin.has hy.fin.has
  have es : single.add x y = some (single.write r) := by
    have e3 : single.add x y = ((single.read x).sum (single.read y)).map single.write := rfl
    rw [e3, e1]; rfl
  have hv : (val x + val y) * 16 = (lev x + lev y) * (one : Int) := by rw [Int.add_mul, Int.add_mul, hx.v, hy.v]
  have ht : val x + val y = (lev x + lev y) * ((2 ^ 396 : Nat) : Int) := by
    have e4 : ((2 ^ 396 : Nat) : Int) * 16 = (one : Int) := one_split (a := 396) (b := 4) (k := 16) rfl rfl
    rw [← e4, ← Int.mul_assoc] at hv
    omega
  have hr : Rep (val x + val y) := rep_pow (by omega) (by decide) (by decide) ht
  have hw := has_fin (h1.write (by decide) hr)
  have em : fAdd x y = single.write r := by rw [fAdd, fmt32, es]; rfl
  have hz := smp_of (z := fAdd x y) (n := lev x + lev y) (by rw [em]; exact hw.1) (by rw [em, hw.2, hv]) h
  exact ⟨by rw [fAddOk, fmt32, es]; rfl, hz.1, hz.2⟩
theorem fin_10 : IsF 1092616192 ∧ val 1092616192 = 10 * (one : Int) :=
  has_fin (lo := -149) ⟨false, 10 * 2 ^ 20, -20, by decide +kernel, by decide, by decide +kernel⟩
theorem fin_m10 : IsF 3240099840 ∧ val 3240099840 = -(10 * (one : Int)) :=
  has_fin (lo := -149) ⟨true, 10 * 2 ^ 20, -20, by decide +kernel, by decide, by decide +kernel⟩
/-- A sample of at most 10. -/
theorem lev_10 {x : Nat} (h : Smp x) (h1 : fGt x 1092616192 = false) (h2 : fLt x 3240099840 = false) : (lev x).natAbs ≤ 160 := by
  rw [gt_val h.fin fin_10.1, fin_10.2] at h1
  rw [lt_val h.fin fin_m10.1, fin_m10.2] at h2
  have h1 := of_decide_eq_false h1
  have h2 := of_decide_eq_false h2
  have hv := h.v
  have hp := one_pos
  have a : lev x * (one : Int) ≤ 160 * (one : Int) := by omega
  have b : -160 * (one : Int) ≤ lev x * (one : Int) := by omega
  have a2 := Int.le_of_mul_le_mul_right a (by omega)
  have b2 := Int.le_of_mul_le_mul_right b (by omega)
  omega
/-- Two samples differ if their integers do. -/
theorem ne_lev {x y : Nat} (hx : Smp x) (hy : Smp y) : fNe x y = decide (lev x ≠ lev y) := by
  rw [ne_val hx.fin hy.fin]
  have hp := one_pos
  have h1 := hx.v
  have h2 := hy.v
  refine decide_eq_decide.2 (not_congr ⟨fun e => ?_, fun e => ?_⟩)
  · rw [e, h2] at h1
    exact (Int.eq_of_mul_eq_mul_right (by omega) h1).symm
  · rw [e, ← h2] at h1
    omega
end Fl
end
