/- Parts of the proof: LB, VmAO, LC, VG. -/
import Derived.Test.YtgcniklghjfogaaDoorZG
import Derived.Test.YtgcniklghjfogaaDoorZC
import Derived.Test.YtgcniklghjfogaaDoorZD
import Derived.Deep.MidRow
section
/- Errors, and lists that are made of lists. -/
open Go Go.Vm Go.Proofs Sp
namespace Sp
noncomputable section
/-- The error of a speed. -/
noncomputable def spE (n : Int) : Int := wi n 1 100
/-- The sample of the other direction. -/
noncomputable def tuO (x : Nat) : Nat := smO (-lev x)
end
end Sp
namespace Qq
noncomputable section
theorem firstI_t (l : List Int) (n : Nat) (c : Nat) (es : Nat) (more : Bool) (rw : Bool) (K : Value → Heap → Prop) :
    (fnP Tryd.prog c0 (hFirst l n c es more rw) (23 : FuncId) [Value.slice (some { block := (0 : Nat), off := (0 : Nat) }) n c] [some (AObj.row (ints l) es more rw true)] K) =
    ((∃ (s : Nat), Is (s ≤ List.length l ∧ fi (List.drop s l) = fi l) ∧ [poi, poi, poi, poi, poi, Value.slice (some { block := (0 : Nat), off := (0 : Nat) }) n c, Value.int IntKind.i64 (↑n : Int), Value.int IntKind.i64 (0 : Int), poi, poi, poi, poi, poi, poi, poi] = [poi, poi, poi, poi, poi, Value.slice (some { block := (0 : Nat), off := (0 : Nat) }) n c, Value.int IntKind.i64 (↑n : Int), Value.int IntKind.i64 (↑s : Int), poi, poi, poi, poi, poi, poi, poi] ∧ some (AObj.row (ints l) es more rw true) :: noH = some (AObj.row (ints l) es more rw true) :: noH) ∧ ∀ (s : Nat), Is (s ≤ List.length l ∧ fi (List.drop s l) = fi l) → br (decide ((↑s : Int) < (↑n : Int))) (Is ((0 : Int) ≤ (↑s : Int) ∧ (↑s : Int) < (↑n : Int)) ∧ Is ((ints l)[(0 : Nat) + Int.toNat (↑s : Int) * (1 : Nat)]? = some (Value.int IntKind.i64 (List.getD l ((0 : Nat) + Int.toNat (↑s : Int) * (1 : Nat)) (0 : Int)))) ∧ br (List.getD l ((0 : Nat) + Int.toNat (↑s : Int) * (1 : Nat)) (0 : Int) != (0 : Int)) (K (Value.int IntKind.i64 (List.getD l ((0 : Nat) + Int.toNat (↑s : Int) * (1 : Nat)) (0 : Int))) (some (AObj.row (ints l) es more rw true) :: noH)) (∃ (s' : Nat), Is (s' ≤ List.length l ∧ fi (List.drop s' l) = fi l) ∧ Is (List.length l - s' < List.length l - s) ∧ [poi, poi, poi, poi, poi, Value.slice (some { block := (0 : Nat), off := (0 : Nat) }) n c, Value.int IntKind.i64 (↑n : Int), Value.int IntKind.i64 (IntKind.wrap IntKind.i64 ((↑s : Int) + (1 : Int))), poi, poi, poi, poi, poi, poi, poi] = [poi, poi, poi, poi, poi, Value.slice (some { block := (0 : Nat), off := (0 : Nat) }) n c, Value.int IntKind.i64 (↑n : Int), Value.int IntKind.i64 (↑s' : Int), poi, poi, poi, poi, poi, poi, poi] ∧ some (AObj.row (ints l) es more rw true) :: noH = some (AObj.row (ints l) es more rw true) :: noH)) (K (Value.int IntKind.i64 (0 : Int)) (some (AObj.row (ints l) es more rw true) :: noH))) := by kernel_rfl
theorem whenI_t (b : Bool) (e : Int) (K : Value → Heap → Prop) :
    (fnP Tryd.prog c0 h0 (24 : FuncId) [Value.bool b, Value.int IntKind.i64 e] [] K) =
    (br b (K (Value.int IntKind.i64 e) noH) (K (Value.int IntKind.i64 (0 : Int)) noH)) := by kernel_rfl
theorem okWhenI : Ok Tryd.prog 24 orcWhen := by
  intro args H ret H' h
  unfold orcWhen at h
  split at h
  · cases h
    refine fnP_res hm c0_ok (hs := h0) ?_
    rw [whenI_t]
    exact br_of (fun h => by simp [wh, h]) (fun h => by simp [wh, h])
  · cases h
theorem okFirstI : Ok Tryd.prog 23 orcFirst := by
  intro args H ret H' h
  unfold orcFirst at h
  split at h
  · rename_i n c cells es more rw
    split at h
    · rename_i l hl
      split at h
      · rename_i hn
        cases h
        have := intsOf_eq hl
        subst this
        obtain ⟨hn, hlt⟩ := hn
        subst hn
        refine fnP_res hm c0_ok (hs := hFirst l l.length c es more rw) ?_
        rw [firstI_t]
        refine ⟨⟨(0 : Nat), ⟨by simp, by simp⟩, rfl, rfl⟩, fun s hs => ?_⟩
        obtain ⟨h1, h2⟩ := hs.out
        refine br_of (fun hc => ?_) (fun hc => ?_)
        · have hc : s < l.length := by simpa using hc
          refine ⟨⟨by omega, by omega⟩, ⟨by simpa using ints_at hc⟩, br_of (fun hd => ?_) (fun hd => ?_)⟩
          · have := fi_drop hc
            have hd' : l.getD s 0 ≠ 0 := by simpa using hd
            rw [if_neg hd'] at this
            simp [← h2, this]
          · have := fi_drop hc
            have hd' : l.getD s 0 = 0 := by simpa using hd
            rw [if_pos hd'] at this
            refine ⟨s + 1, ⟨hc, by rw [← this, h2]⟩, ⟨by omega⟩, ?_, rfl⟩
            rw [wrap_eq (by omega) (by omega)]
            rfl
        · have hc : l.length ≤ s := by simpa using hc
          have : s = l.length := by omega
          subst this
          simp [← h2, fi]
      · cases h
    · cases h
  · cases h
noncomputable def i1 : List (Nat × Orc) := [(24, orcWhen), (23, orcFirst)]
theorem i1_all : ∀ p ∈ i1, Ok Tryd.prog p.1 p.2 := all_cons okWhenI (all_cons okFirstI all_nil)
noncomputable def ci1 : CallF := ctx Tryd.prog i1
theorem ci1_ok : CallOK Tryd.prog ci1 := ctx_ok hm i1_all
theorem withinI_t (n : Int) (lo : Int) (hi : Int) (K : Value → Heap → Prop) :
    (fnP Tryd.prog ci1 h0 (40 : FuncId) [Value.int IntKind.i64 n, Value.int IntKind.i64 lo, Value.int IntKind.i64 hi] [] K) =
    (br (decide (n < lo)) (K (Value.int IntKind.i64 (3 : Int)) noH) (K (Value.int IntKind.i64 (wh (decide (hi < n)) (3 : Int))) noH)) := by kernel_rfl
theorem okWithinI : Ok Tryd.prog 40 orcWithin := by
  intro args H ret H' h
  unfold orcWithin at h
  split at h
  · cases h
    refine fnP_res hm ci1_ok (hs := h0) ?_
    rw [withinI_t]
    exact br_of (fun h => by simp [wi, of_decide_eq_true h]) (fun h => by simp [wi, wh, of_decide_eq_false h])
  · cases h
noncomputable def i2 : List (Nat × Orc) := (40, orcWithin) :: i1
theorem i2_all : ∀ p ∈ i2, Ok Tryd.prog p.1 p.2 := all_cons okWithinI i1_all
noncomputable def ci2 : CallF := ctx Tryd.prog i2
theorem ci2_ok : CallOK Tryd.prog ci2 := ctx_ok hm i2_all
set_option maxRecDepth 100000 in
theorem firstI_ok {l : List Int} {n c : Nat} {more rw' : Bool} (hn : l.length = n) (hlt : n ≤ 100000) :
    SmallRes Tryd.prog 23 [.slice (some ⟨0, 0, none⟩) n c] [some (.row (ints l) 1 more rw' true)] (.int .i64 (fi l)) [some (.row (ints l) 1 more rw' true)] := by
  subst hn
  refine fnP_res hm c0_ok (hs := hFirst l l.length c 1 more rw') ?_
  rw [firstI_t]
  refine ⟨⟨(0 : Nat), ⟨by simp, by simp⟩, rfl, rfl⟩, fun s hs => ?_⟩
  obtain ⟨h1, h2⟩ := hs.out
  refine br_of (fun hc => ?_) (fun hc => ?_)
  · have hc : s < l.length := by simpa using hc
    refine ⟨⟨by omega, by omega⟩, ⟨by simpa using ints_at hc⟩, br_of (fun hd => ?_) (fun hd => ?_)⟩
    · have := fi_drop hc
      have hd' : l.getD s 0 ≠ 0 := by simpa using hd
      rw [if_neg hd'] at this
      simp [← h2, this]
    · have := fi_drop hc
      have hd' : l.getD s 0 = 0 := by simpa using hd
      rw [if_pos hd'] at this
      refine ⟨s + 1, ⟨hc, by rw [← this, h2]⟩, ⟨by omega⟩, ?_, rfl⟩
      rw [wrap_eq (by omega) (by omega)]
      rfl
  · have hc : l.length ≤ s := by simpa using hc
    have : s = l.length := by omega
    subst this
    simp [← h2, fi]
noncomputable def orcFiI (l : List Int) : OrcV
  | [.slice (some ⟨0, 0, none⟩) n _], [some (.row e1 1 m w true)] => some (.int .i64 (fi l), [some (.row e1 1 m w true)], e1 = ints l ∧ l.length = n ∧ n ≤ 100000)
  | _, _ => none
theorem okFiI (l : List Int) : OkV Tryd.prog 23 (orcFiI l) := by
  intro args H ret H' vc h hv
  unfold orcFiI at h
  split at h
  · cases h
    obtain ⟨rfl, h1, h2⟩ := hv
    exact firstI_ok h1 h2
  · cases h
theorem wh_t (x : Nat) (K : Value → Heap → Prop) :
    (fnP Tryd.prog c0 hsFl0 (21 : FuncId) [Value.float FloatKind.f32 x] [] K) =
    (Is (fMulOk (1098907648 : Nat) x) ∧ Is (fIntOk (fMul (1098907648 : Nat) x)) ∧ K (Value.int IntKind.i64 (Sp.fInt (fMul (1098907648 : Nat) x))) noH) := by kernel_rfl
theorem pt_t (n : Int) (K : Value → Heap → Prop) :
    (fnP Tryd.prog c0 hsFl0 (20 : FuncId) [Value.int IntKind.i64 n] [] K) =
    (Is True ∧ Is (fDivOk (fOf n) (1098907648 : Nat)) ∧ K (Value.float FloatKind.f32 (fDiv (fOf n) (1098907648 : Nat))) noH) := by kernel_rfl
noncomputable def orcWl : OrcV
  | [.float .f32 x], [] => some (.int .i64 (lev x), [], sE x = 0)
  | _, _ => none
theorem okWl : OkV Tryd.prog 21 orcWl := by
  intro args H ret H' vc h hv
  unfold orcWl at h
  split at h
  · rename_i x
    cases h
    have hs := Fl.smp hv
    refine fnP_res hm c0_ok (hs := hsFl0) ?_
    rw [wh_t, Fl.mul_comm16 1098907648 x]
    exact ⟨⟨hs.m2⟩, ⟨hs.i1⟩, by first | trivial | rfl, by first | trivial | rfl⟩
  · cases h
noncomputable def orcPt : OrcV
  | [.int .i64 n], [] => some (.float .f32 (smO n), [], n.natAbs ≤ 16384)
  | _, _ => none
theorem okPt : OkV Tryd.prog 20 orcPt := by
  intro args H ret H' vc h hv
  unfold orcPt at h
  split at h
  · rename_i n
    cases h
    obtain ⟨d1, d2, d3⟩ := Fl.sm_ok (n := n) (by omega)
    refine fnP_res hm c0_ok (hs := hsFl0) ?_
    rw [pt_t]
    exact ⟨⟨trivial⟩, ⟨d1⟩, by first | trivial | rfl, by first | trivial | rfl⟩
  · cases h
noncomputable def hsTu1 : Hs Tryd.prog where
  au := auCalls [(21, hCa Tryd.prog 21 orcWl okWl), (20, hCa Tryd.prog 20 orcPt okPt)]
theorem tu1_t (x : Nat) (K : Value → Heap → Prop) :
    (fnP Tryd.prog c0 hsTu1 (19 : FuncId) [Value.float FloatKind.f32 x] [] K) =
    (Is (sE x = (0 : Int)) ∧ Is (Int.natAbs (IntKind.wrap IntKind.i64 ((0 : Int) - lev x)) ≤ (16384 : Nat)) ∧ K (Value.float FloatKind.f32 (smO (IntKind.wrap IntKind.i64 ((0 : Int) - lev x)))) noH) := by kernel_rfl
noncomputable def orcTu1 : OrcV
  | [.float .f32 x], [] => some (.float .f32 (tuO x), [], sE x = 0)
  | _, _ => none
theorem lev_few {x : Nat} (h : sE x = 0) : (lev x).natAbs ≤ 16384 := (Fl.smp h).few
theorem okTu1 : OkV Tryd.prog 19 orcTu1 := by
  intro args H ret H' vc h hv
  unfold orcTu1 at h
  split at h
  · rename_i x
    cases h
    have hf := lev_few hv
    refine fnP_res hm c0_ok (hs := hsTu1) ?_
    rw [tu1_t]
    have e : IntKind.wrap .i64 (0 - lev x) = -lev x := by rw [wrap_eq (by omega) (by omega)]; omega
    rw [e]
    exact ⟨⟨hv⟩, ⟨by omega⟩, by first | trivial | rfl, by first | trivial | rfl⟩
  · cases h
theorem sp1_t (n : Int) (K : Value → Heap → Prop) :
    (fnP Tryd.prog ci2 h0 (43 : FuncId) [Value.int IntKind.i64 n] [] K) =
    (K (Value.int IntKind.i64 (wi n (1 : Int) (100 : Int))) noH) := by kernel_rfl
noncomputable def orcSp1 : OrcV
  | [.int .i64 n], [] => some (.int .i64 (spE n), [], True)
  | _, _ => none
theorem okSp1 : OkV Tryd.prog 43 orcSp1 := by
  intro args H ret H' vc h hv
  unfold orcSp1 at h
  split at h
  · cases h
    refine fnP_res hm ci2_ok (hs := h0) ?_
    rw [sp1_t]
    exact ⟨by first | trivial | rfl, by first | trivial | rfl⟩
  · cases h
noncomputable def orcSm1V : OrcV
  | [.float .f32 x], [] => some (.int .i64 (sE x), [], True)
  | _, _ => none
theorem okSm1V : OkV Tryd.prog 38 orcSm1V := by
  intro args H ret H' vc h hv
  unfold orcSm1V at h
  split at h
  · cases h
    exact okSm1 _ _ _ _ rfl
  · cases h
/- The cells of lists. -/
theorem flts_add (a b : List Nat) : flts (a ++ b) = flts a ++ flts b := by rw [flts, List.map_append]; rfl
theorem take_oneF {xs : List Nat} {s : Nat} (h : s < xs.length) : xs.take (s + 1) = xs.take s ++ [xs.getD s 0] := by
  rw [List.take_add_one, List.getElem?_eq_getElem h, List.getD_eq_getElem?_getD, List.getElem?_eq_getElem h]; rfl
theorem take_oneI {xs : List Int} {s : Nat} (h : s < xs.length) : xs.take (s + 1) = xs.take s ++ [xs.getD s 0] := by
  rw [List.take_add_one, List.getElem?_eq_getElem h, List.getD_eq_getElem?_getD, List.getElem?_eq_getElem h]; rfl
/-- All samples are valid. -/
def allS (l : List Nat) : Prop := fi (l.map sE) = 0
/-- All integers are those of samples. -/
def fewI (l : List Int) : Prop := ∀ i, i < l.length → (l.getD i 0).natAbs ≤ 16384
noncomputable def fnMj : Value := .func (.func 38) #[] #[]
noncomputable def lpMj0 (l : List Nat) (n c : Nat) : Lp where
  σ := Nat
  E _ := slots 22 [(0, .slice (some ⟨0, 0, none⟩) n c), (1, fnMj), (5, .slice (some ⟨1, 0, none⟩) 0 0)]
  Hp _ := [fR l, oneR []]
  I s := s = 0
  m _ := 0
noncomputable def lpMj (l : List Nat) (n c : Nat) : Lp where
  σ := Nat
  E i := slots 22 [(1, fnMj), (5, .slice (some ⟨1, 0, none⟩) i 0), (8, .slice (some ⟨0, 0, none⟩) n c), (9, .int .i64 (Int.ofNat n)), (10, .int .i64 (Int.ofNat i))]
  Hp i := [fR l, oneR ((l.take i).map sE)]
  I i := i ≤ n
  m i := n - i
noncomputable def hsMj (l : List Nat) (n c : Nat) : Hs Tryd.prog where
  op y := if y = 400 then some (hIa Tryd.prog) else if y = 401 then some (hLd Tryd.prog (xF l)) else if y = 503 then some (hCa Tryd.prog 38 orcSm1V okSm1V) else if y = 505 then some (hAp Tryd.prog) else none
  cut y := if y = 2 then some (lpMj0 l n c) else none
  lp _ := some (lpMj l n c)
  cl y := if y = 2 then keep 22 [0, 1, 5] else keep 22 [1, 5, 8, 9, 10]
  nl y := if y = 2 then [.slot 5 1] else []
  au := au0 Tryd.prog
theorem mj_t (l : List Nat) (n : Nat) (c : Nat) (K : Value → Heap → Prop) :
    (fnP Tryd.prog c0 (hsMj l n c) (37 : FuncId) [Value.slice (some { block := (0 : Nat), off := (0 : Nat) }) n c, fnMj] [fR l] K) =
    ((∃ (s : Nat), Is (s = (0 : Nat)) ∧ [Value.slice (some { block := (0 : Nat), off := (0 : Nat) }) n c, Value.func (Fn.func (38 : Nat)) #[] #[], poi, poi, poi, Value.slice (some { block := (1 : Nat), off := (0 : Nat) }) (0 : Nat) (0 : Nat), poi, poi, poi, poi, poi, poi, poi, poi, poi, poi, poi, poi, poi, poi, poi, poi] = [Value.slice (some { block := (0 : Nat), off := (0 : Nat) }) n c, Value.func (Fn.func (38 : Nat)) #[] #[], poi, poi, poi, Value.slice (some { block := (1 : Nat), off := (0 : Nat) }) (0 : Nat) (0 : Nat), poi, poi, poi, poi, poi, poi, poi, poi, poi, poi, poi, poi, poi, poi, poi, poi] ∧ some (AObj.row (flts l) (1 : Nat) true true true) :: some (AObj.row [] (1 : Nat) true true true) :: noH = some (AObj.row (flts l) (1 : Nat) true true true) :: some (AObj.row [] (1 : Nat) true true true) :: noH) ∧ ∀ (s : Nat), Is (s = (0 : Nat)) → (∃ (s : Nat), Is (s ≤ n) ∧ [poi, Value.func (Fn.func (38 : Nat)) #[] #[], poi, poi, poi, Value.slice (some { block := (1 : Nat), off := (0 : Nat) }) (0 : Nat) (0 : Nat), poi, poi, Value.slice (some { block := (0 : Nat), off := (0 : Nat) }) n c, Value.int IntKind.i64 (↑n : Int), Value.int IntKind.i64 (0 : Int), poi, poi, poi, poi, poi, poi, poi, poi, poi, poi, poi] = [poi, Value.func (Fn.func (38 : Nat)) #[] #[], poi, poi, poi, Value.slice (some { block := (1 : Nat), off := (0 : Nat) }) s (0 : Nat), poi, poi, Value.slice (some { block := (0 : Nat), off := (0 : Nat) }) n c, Value.int IntKind.i64 (↑n : Int), Value.int IntKind.i64 (↑s : Int), poi, poi, poi, poi, poi, poi, poi, poi, poi, poi, poi] ∧ some (AObj.row (flts l) (1 : Nat) true true true) :: some (AObj.row [] (1 : Nat) true true true) :: noH = some (AObj.row (flts l) (1 : Nat) true true true) :: some (AObj.row (ints (List.map sE (List.take s l))) (1 : Nat) true true true) :: noH) ∧ ∀ (s : Nat), Is (s ≤ n) → br (decide ((↑s : Int) < (↑n : Int))) (Is ((0 : Int) ≤ (↑s : Int) ∧ (↑s : Int) < (↑n : Int)) ∧ Is ((flts l)[(0 : Nat) + Int.toNat (↑s : Int) * (1 : Nat)]? = some (Value.float FloatKind.f32 (List.getD l ((0 : Nat) + Int.toNat (↑s : Int) * (1 : Nat)) (0 : Nat)))) ∧ Is True ∧ Is (List.length (ints (List.map sE (List.take s l))) = s * (1 : Nat) ∧ (s + (1 : Nat)) * (8 : Nat) ≤ (140737488355328 : Nat) ∧ s + (1 : Nat) ≤ (9223372036854775807 : Nat)) ∧ ∃ (s' : Nat), Is (s' ≤ n) ∧ Is (n - s' < n - s) ∧ [poi, Value.func (Fn.func (38 : Nat)) #[] #[], poi, poi, poi, Value.slice (some { block := (1 : Nat), off := (0 : Nat) }) (s + (1 : Nat)) (0 : Nat), poi, poi, Value.slice (some { block := (0 : Nat), off := (0 : Nat) }) n c, Value.int IntKind.i64 (↑n : Int), Value.int IntKind.i64 (IntKind.wrap IntKind.i64 ((↑s : Int) + (1 : Int))), poi, poi, poi, poi, poi, poi, poi, poi, poi, poi, poi] = [poi, Value.func (Fn.func (38 : Nat)) #[] #[], poi, poi, poi, Value.slice (some { block := (1 : Nat), off := (0 : Nat) }) s' (0 : Nat), poi, poi, Value.slice (some { block := (0 : Nat), off := (0 : Nat) }) n c, Value.int IntKind.i64 (↑n : Int), Value.int IntKind.i64 (↑s' : Int), poi, poi, poi, poi, poi, poi, poi, poi, poi, poi, poi] ∧ some (AObj.row (flts l) (1 : Nat) true true true) :: some (AObj.row (ints (List.map sE (List.take s l)) ++ [Value.int IntKind.i64 (sE (List.getD l ((0 : Nat) + Int.toNat (↑s : Int) * (1 : Nat)) (0 : Nat)))]) (1 : Nat) true true (List.all [Value.int IntKind.i64 (sE (List.getD l ((0 : Nat) + Int.toNat (↑s : Int) * (1 : Nat)) (0 : Nat)))] atom)) :: noH = some (AObj.row (flts l) (1 : Nat) true true true) :: some (AObj.row (ints (List.map sE (List.take s' l))) (1 : Nat) true true true) :: noH) (K (Value.slice (some { block := (1 : Nat), off := (0 : Nat) }) s (0 : Nat)) (some (AObj.row (flts l) (1 : Nat) true true true) :: some (AObj.row (ints (List.map sE (List.take s l))) (1 : Nat) true true true) :: noH))) := by kernel_rfl
set_option maxRecDepth 100000 in
theorem mj_ok {l : List Nat} {n c : Nat} (hn : l.length = n) (h9 : n ≤ 100000) (_hx : True) :
    SmallRes Tryd.prog 37 [.slice (some ⟨0, 0, none⟩) n c, fnMj] [fR l] (.slice (some ⟨1, 0, none⟩) n 0) [fR l, oneR (l.map sE)] := by
  refine fnP_res hm c0_ok (hs := hsMj l n c) ?_
  rw [mj_t]
  refine ⟨⟨(0 : Nat), ⟨rfl⟩, by first | trivial | rfl, by first | trivial | rfl⟩, fun _ _ => ⟨⟨(0 : Nat), ⟨by omega⟩, by first | trivial | rfl, by first | trivial | rfl⟩, fun s hs' => br_of (fun hc => ?_) (fun hc => ?_)⟩⟩
  · have hc := lt_of_dec hc
    simp only [Nat.zero_add, Nat.mul_one, Int.toNat_natCast]
    refine ⟨⟨by omega, by omega⟩, ⟨flts_at (by omega)⟩, ⟨trivial⟩, ⟨by rw [ints_len, List.length_map, List.length_take]; omega, by omega, by omega⟩, s + 1, ⟨hc⟩, ⟨by omega⟩, ?_, ?_⟩
    · rw [up1 hc (by omega)]
    · rw [take_oneF (by omega), List.map_append, ← ints_app]; rfl
  · have hc := ge_of_dec hc
    have : s = n := by have := hs'.out; omega
    subst this
    rw [← hn, List.take_length]
    exact ⟨by first | trivial | rfl, by first | trivial | rfl⟩
noncomputable def orcMj (l : List Nat) : OrcV
  | [.slice (some ⟨0, 0, none⟩) n _, .func (.func 38) ⟨[]⟩ ⟨[]⟩], [some (.row e1 1 true true true)] => some (.slice (some ⟨1, 0, none⟩) n 0, [some (.row e1 1 true true true), oneR (l.map sE)], e1 = flts l ∧ l.length = n ∧ n ≤ 100000 ∧ True)
  | _, _ => none
theorem okMj (l : List Nat) : OkV Tryd.prog 37 (orcMj l) := by
  intro args H ret H' vc h hv
  unfold orcMj at h
  split at h
  · cases h
    obtain ⟨rfl, h1, h2, h3⟩ := hv
    exact mj_ok h1 h2 h3
  · cases h
noncomputable def fnMt : Value := .func (.func 19) #[] #[]
noncomputable def lpMt0 (l : List Nat) (n c : Nat) : Lp where
  σ := Nat
  E _ := slots 22 [(0, .slice (some ⟨0, 0, none⟩) n c), (1, fnMt), (5, .slice (some ⟨1, 0, none⟩) 0 0)]
  Hp _ := [fR l, fR []]
  I s := s = 0
  m _ := 0
noncomputable def lpMt (l : List Nat) (n c : Nat) : Lp where
  σ := Nat
  E i := slots 22 [(1, fnMt), (5, .slice (some ⟨1, 0, none⟩) i 0), (8, .slice (some ⟨0, 0, none⟩) n c), (9, .int .i64 (Int.ofNat n)), (10, .int .i64 (Int.ofNat i))]
  Hp i := [fR l, fR ((l.take i).map tuO)]
  I i := i ≤ n
  m i := n - i
noncomputable def hsMt (l : List Nat) (n c : Nat) : Hs Tryd.prog where
  op y := if y = 400 then some (hIa Tryd.prog) else if y = 401 then some (hLd Tryd.prog (xF l)) else if y = 503 then some (hCa Tryd.prog 19 orcTu1 okTu1) else if y = 505 then some (hAp Tryd.prog) else none
  cut y := if y = 2 then some (lpMt0 l n c) else none
  lp _ := some (lpMt l n c)
  cl y := if y = 2 then keep 22 [0, 1, 5] else keep 22 [1, 5, 8, 9, 10]
  nl y := if y = 2 then [.slot 5 1] else []
  au := au0 Tryd.prog
theorem mt_t (l : List Nat) (n : Nat) (c : Nat) (K : Value → Heap → Prop) :
    (fnP Tryd.prog c0 (hsMt l n c) (18 : FuncId) [Value.slice (some { block := (0 : Nat), off := (0 : Nat) }) n c, fnMt] [fR l] K) =
    ((∃ (s : Nat), Is (s = (0 : Nat)) ∧ [Value.slice (some { block := (0 : Nat), off := (0 : Nat) }) n c, Value.func (Fn.func (19 : Nat)) #[] #[], poi, poi, poi, Value.slice (some { block := (1 : Nat), off := (0 : Nat) }) (0 : Nat) (0 : Nat), poi, poi, poi, poi, poi, poi, poi, poi, poi, poi, poi, poi, poi, poi, poi, poi] = [Value.slice (some { block := (0 : Nat), off := (0 : Nat) }) n c, Value.func (Fn.func (19 : Nat)) #[] #[], poi, poi, poi, Value.slice (some { block := (1 : Nat), off := (0 : Nat) }) (0 : Nat) (0 : Nat), poi, poi, poi, poi, poi, poi, poi, poi, poi, poi, poi, poi, poi, poi, poi, poi] ∧ some (AObj.row (flts l) (1 : Nat) true true true) :: some (AObj.row [] (1 : Nat) true true true) :: noH = some (AObj.row (flts l) (1 : Nat) true true true) :: some (AObj.row [] (1 : Nat) true true true) :: noH) ∧ ∀ (s : Nat), Is (s = (0 : Nat)) → (∃ (s : Nat), Is (s ≤ n) ∧ [poi, Value.func (Fn.func (19 : Nat)) #[] #[], poi, poi, poi, Value.slice (some { block := (1 : Nat), off := (0 : Nat) }) (0 : Nat) (0 : Nat), poi, poi, Value.slice (some { block := (0 : Nat), off := (0 : Nat) }) n c, Value.int IntKind.i64 (↑n : Int), Value.int IntKind.i64 (0 : Int), poi, poi, poi, poi, poi, poi, poi, poi, poi, poi, poi] = [poi, Value.func (Fn.func (19 : Nat)) #[] #[], poi, poi, poi, Value.slice (some { block := (1 : Nat), off := (0 : Nat) }) s (0 : Nat), poi, poi, Value.slice (some { block := (0 : Nat), off := (0 : Nat) }) n c, Value.int IntKind.i64 (↑n : Int), Value.int IntKind.i64 (↑s : Int), poi, poi, poi, poi, poi, poi, poi, poi, poi, poi, poi] ∧ some (AObj.row (flts l) (1 : Nat) true true true) :: some (AObj.row [] (1 : Nat) true true true) :: noH = some (AObj.row (flts l) (1 : Nat) true true true) :: some (AObj.row (flts (List.map tuO (List.take s l))) (1 : Nat) true true true) :: noH) ∧ ∀ (s : Nat), Is (s ≤ n) → br (decide ((↑s : Int) < (↑n : Int))) (Is ((0 : Int) ≤ (↑s : Int) ∧ (↑s : Int) < (↑n : Int)) ∧ Is ((flts l)[(0 : Nat) + Int.toNat (↑s : Int) * (1 : Nat)]? = some (Value.float FloatKind.f32 (List.getD l ((0 : Nat) + Int.toNat (↑s : Int) * (1 : Nat)) (0 : Nat)))) ∧ Is (sE (List.getD l ((0 : Nat) + Int.toNat (↑s : Int) * (1 : Nat)) (0 : Nat)) = (0 : Int)) ∧ Is (List.length (flts (List.map tuO (List.take s l))) = s * (1 : Nat) ∧ (s + (1 : Nat)) * (4 : Nat) ≤ (140737488355328 : Nat) ∧ s + (1 : Nat) ≤ (9223372036854775807 : Nat)) ∧ ∃ (s' : Nat), Is (s' ≤ n) ∧ Is (n - s' < n - s) ∧ [poi, Value.func (Fn.func (19 : Nat)) #[] #[], poi, poi, poi, Value.slice (some { block := (1 : Nat), off := (0 : Nat) }) (s + (1 : Nat)) (0 : Nat), poi, poi, Value.slice (some { block := (0 : Nat), off := (0 : Nat) }) n c, Value.int IntKind.i64 (↑n : Int), Value.int IntKind.i64 (IntKind.wrap IntKind.i64 ((↑s : Int) + (1 : Int))), poi, poi, poi, poi, poi, poi, poi, poi, poi, poi, poi] = [poi, Value.func (Fn.func (19 : Nat)) #[] #[], poi, poi, poi, Value.slice (some { block := (1 : Nat), off := (0 : Nat) }) s' (0 : Nat), poi, poi, Value.slice (some { block := (0 : Nat), off := (0 : Nat) }) n c, Value.int IntKind.i64 (↑n : Int), Value.int IntKind.i64 (↑s' : Int), poi, poi, poi, poi, poi, poi, poi, poi, poi, poi, poi] ∧ some (AObj.row (flts l) (1 : Nat) true true true) :: some (AObj.row (flts (List.map tuO (List.take s l)) ++ [Value.float FloatKind.f32 (tuO (List.getD l ((0 : Nat) + Int.toNat (↑s : Int) * (1 : Nat)) (0 : Nat)))]) (1 : Nat) true true (List.all [Value.float FloatKind.f32 (tuO (List.getD l ((0 : Nat) + Int.toNat (↑s : Int) * (1 : Nat)) (0 : Nat)))] atom)) :: noH = some (AObj.row (flts l) (1 : Nat) true true true) :: some (AObj.row (flts (List.map tuO (List.take s' l))) (1 : Nat) true true true) :: noH) (K (Value.slice (some { block := (1 : Nat), off := (0 : Nat) }) s (0 : Nat)) (some (AObj.row (flts l) (1 : Nat) true true true) :: some (AObj.row (flts (List.map tuO (List.take s l))) (1 : Nat) true true true) :: noH))) := by kernel_rfl
set_option maxRecDepth 100000 in
theorem mt_ok {l : List Nat} {n c : Nat} (hn : l.length = n) (h9 : n ≤ 100000) (hx : allS l) :
    SmallRes Tryd.prog 18 [.slice (some ⟨0, 0, none⟩) n c, fnMt] [fR l] (.slice (some ⟨1, 0, none⟩) n 0) [fR l, fR (l.map tuO)] := by
  refine fnP_res hm c0_ok (hs := hsMt l n c) ?_
  rw [mt_t]
  refine ⟨⟨(0 : Nat), ⟨rfl⟩, by first | trivial | rfl, by first | trivial | rfl⟩, fun _ _ => ⟨⟨(0 : Nat), ⟨by omega⟩, by first | trivial | rfl, by first | trivial | rfl⟩, fun s hs' => br_of (fun hc => ?_) (fun hc => ?_)⟩⟩
  · have hc := lt_of_dec hc
    simp only [Nat.zero_add, Nat.mul_one, Int.toNat_natCast]
    refine ⟨⟨by omega, by omega⟩, ⟨flts_at (by omega)⟩, ⟨smps hx (by omega)⟩, ⟨by rw [flts_len, List.length_map, List.length_take]; omega, by omega, by omega⟩, s + 1, ⟨hc⟩, ⟨by omega⟩, ?_, ?_⟩
    · rw [up1 hc (by omega)]
    · rw [take_oneF (by omega), List.map_append, flts_add]; rfl
  · have hc := ge_of_dec hc
    have : s = n := by have := hs'.out; omega
    subst this
    rw [← hn, List.take_length]
    exact ⟨by first | trivial | rfl, by first | trivial | rfl⟩
noncomputable def orcMt (l : List Nat) : OrcV
  | [.slice (some ⟨0, 0, none⟩) n _, .func (.func 19) ⟨[]⟩ ⟨[]⟩], [some (.row e1 1 true true true)] => some (.slice (some ⟨1, 0, none⟩) n 0, [some (.row e1 1 true true true), fR (l.map tuO)], e1 = flts l ∧ l.length = n ∧ n ≤ 100000 ∧ allS l)
  | _, _ => none
theorem okMt (l : List Nat) : OkV Tryd.prog 18 (orcMt l) := by
  intro args H ret H' vc h hv
  unfold orcMt at h
  split at h
  · cases h
    obtain ⟨rfl, h1, h2, h3⟩ := hv
    exact mt_ok h1 h2 h3
  · cases h
noncomputable def fnMw : Value := .func (.func 21) #[] #[]
noncomputable def lpMw0 (l : List Nat) (n c : Nat) : Lp where
  σ := Nat
  E _ := slots 22 [(0, .slice (some ⟨0, 0, none⟩) n c), (1, fnMw), (5, .slice (some ⟨1, 0, none⟩) 0 0)]
  Hp _ := [fR l, oneR []]
  I s := s = 0
  m _ := 0
noncomputable def lpMw (l : List Nat) (n c : Nat) : Lp where
  σ := Nat
  E i := slots 22 [(1, fnMw), (5, .slice (some ⟨1, 0, none⟩) i 0), (8, .slice (some ⟨0, 0, none⟩) n c), (9, .int .i64 (Int.ofNat n)), (10, .int .i64 (Int.ofNat i))]
  Hp i := [fR l, oneR ((l.take i).map lev)]
  I i := i ≤ n
  m i := n - i
noncomputable def hsMw (l : List Nat) (n c : Nat) : Hs Tryd.prog where
  op y := if y = 400 then some (hIa Tryd.prog) else if y = 401 then some (hLd Tryd.prog (xF l)) else if y = 503 then some (hCa Tryd.prog 21 orcWl okWl) else if y = 505 then some (hAp Tryd.prog) else none
  cut y := if y = 2 then some (lpMw0 l n c) else none
  lp _ := some (lpMw l n c)
  cl y := if y = 2 then keep 22 [0, 1, 5] else keep 22 [1, 5, 8, 9, 10]
  nl y := if y = 2 then [.slot 5 1] else []
  au := au0 Tryd.prog
theorem mw_t (l : List Nat) (n : Nat) (c : Nat) (K : Value → Heap → Prop) :
    (fnP Tryd.prog c0 (hsMw l n c) (30 : FuncId) [Value.slice (some { block := (0 : Nat), off := (0 : Nat) }) n c, fnMw] [fR l] K) =
    ((∃ (s : Nat), Is (s = (0 : Nat)) ∧ [Value.slice (some { block := (0 : Nat), off := (0 : Nat) }) n c, Value.func (Fn.func (21 : Nat)) #[] #[], poi, poi, poi, Value.slice (some { block := (1 : Nat), off := (0 : Nat) }) (0 : Nat) (0 : Nat), poi, poi, poi, poi, poi, poi, poi, poi, poi, poi, poi, poi, poi, poi, poi, poi] = [Value.slice (some { block := (0 : Nat), off := (0 : Nat) }) n c, Value.func (Fn.func (21 : Nat)) #[] #[], poi, poi, poi, Value.slice (some { block := (1 : Nat), off := (0 : Nat) }) (0 : Nat) (0 : Nat), poi, poi, poi, poi, poi, poi, poi, poi, poi, poi, poi, poi, poi, poi, poi, poi] ∧ some (AObj.row (flts l) (1 : Nat) true true true) :: some (AObj.row [] (1 : Nat) true true true) :: noH = some (AObj.row (flts l) (1 : Nat) true true true) :: some (AObj.row [] (1 : Nat) true true true) :: noH) ∧ ∀ (s : Nat), Is (s = (0 : Nat)) → (∃ (s : Nat), Is (s ≤ n) ∧ [poi, Value.func (Fn.func (21 : Nat)) #[] #[], poi, poi, poi, Value.slice (some { block := (1 : Nat), off := (0 : Nat) }) (0 : Nat) (0 : Nat), poi, poi, Value.slice (some { block := (0 : Nat), off := (0 : Nat) }) n c, Value.int IntKind.i64 (↑n : Int), Value.int IntKind.i64 (0 : Int), poi, poi, poi, poi, poi, poi, poi, poi, poi, poi, poi] = [poi, Value.func (Fn.func (21 : Nat)) #[] #[], poi, poi, poi, Value.slice (some { block := (1 : Nat), off := (0 : Nat) }) s (0 : Nat), poi, poi, Value.slice (some { block := (0 : Nat), off := (0 : Nat) }) n c, Value.int IntKind.i64 (↑n : Int), Value.int IntKind.i64 (↑s : Int), poi, poi, poi, poi, poi, poi, poi, poi, poi, poi, poi] ∧ some (AObj.row (flts l) (1 : Nat) true true true) :: some (AObj.row [] (1 : Nat) true true true) :: noH = some (AObj.row (flts l) (1 : Nat) true true true) :: some (AObj.row (ints (List.map lev (List.take s l))) (1 : Nat) true true true) :: noH) ∧ ∀ (s : Nat), Is (s ≤ n) → br (decide ((↑s : Int) < (↑n : Int))) (Is ((0 : Int) ≤ (↑s : Int) ∧ (↑s : Int) < (↑n : Int)) ∧ Is ((flts l)[(0 : Nat) + Int.toNat (↑s : Int) * (1 : Nat)]? = some (Value.float FloatKind.f32 (List.getD l ((0 : Nat) + Int.toNat (↑s : Int) * (1 : Nat)) (0 : Nat)))) ∧ Is (sE (List.getD l ((0 : Nat) + Int.toNat (↑s : Int) * (1 : Nat)) (0 : Nat)) = (0 : Int)) ∧ Is (List.length (ints (List.map lev (List.take s l))) = s * (1 : Nat) ∧ (s + (1 : Nat)) * (8 : Nat) ≤ (140737488355328 : Nat) ∧ s + (1 : Nat) ≤ (9223372036854775807 : Nat)) ∧ ∃ (s' : Nat), Is (s' ≤ n) ∧ Is (n - s' < n - s) ∧ [poi, Value.func (Fn.func (21 : Nat)) #[] #[], poi, poi, poi, Value.slice (some { block := (1 : Nat), off := (0 : Nat) }) (s + (1 : Nat)) (0 : Nat), poi, poi, Value.slice (some { block := (0 : Nat), off := (0 : Nat) }) n c, Value.int IntKind.i64 (↑n : Int), Value.int IntKind.i64 (IntKind.wrap IntKind.i64 ((↑s : Int) + (1 : Int))), poi, poi, poi, poi, poi, poi, poi, poi, poi, poi, poi] = [poi, Value.func (Fn.func (21 : Nat)) #[] #[], poi, poi, poi, Value.slice (some { block := (1 : Nat), off := (0 : Nat) }) s' (0 : Nat), poi, poi, Value.slice (some { block := (0 : Nat), off := (0 : Nat) }) n c, Value.int IntKind.i64 (↑n : Int), Value.int IntKind.i64 (↑s' : Int), poi, poi, poi, poi, poi, poi, poi, poi, poi, poi, poi] ∧ some (AObj.row (flts l) (1 : Nat) true true true) :: some (AObj.row (ints (List.map lev (List.take s l)) ++ [Value.int IntKind.i64 (lev (List.getD l ((0 : Nat) + Int.toNat (↑s : Int) * (1 : Nat)) (0 : Nat)))]) (1 : Nat) true true (List.all [Value.int IntKind.i64 (lev (List.getD l ((0 : Nat) + Int.toNat (↑s : Int) * (1 : Nat)) (0 : Nat)))] atom)) :: noH = some (AObj.row (flts l) (1 : Nat) true true true) :: some (AObj.row (ints (List.map lev (List.take s' l))) (1 : Nat) true true true) :: noH) (K (Value.slice (some { block := (1 : Nat), off := (0 : Nat) }) s (0 : Nat)) (some (AObj.row (flts l) (1 : Nat) true true true) :: some (AObj.row (ints (List.map lev (List.take s l))) (1 : Nat) true true true) :: noH))) := by kernel_rfl
set_option maxRecDepth 100000 in
theorem mw_ok {l : List Nat} {n c : Nat} (hn : l.length = n) (h9 : n ≤ 100000) (hx : allS l) :
    SmallRes Tryd.prog 30 [.slice (some ⟨0, 0, none⟩) n c, fnMw] [fR l] (.slice (some ⟨1, 0, none⟩) n 0) [fR l, oneR (l.map lev)] := by
  refine fnP_res hm c0_ok (hs := hsMw l n c) ?_
  rw [mw_t]
  refine ⟨⟨(0 : Nat), ⟨rfl⟩, by first | trivial | rfl, by first | trivial | rfl⟩, fun _ _ => ⟨⟨(0 : Nat), ⟨by omega⟩, by first | trivial | rfl, by first | trivial | rfl⟩, fun s hs' => br_of (fun hc => ?_) (fun hc => ?_)⟩⟩
  · have hc := lt_of_dec hc
    simp only [Nat.zero_add, Nat.mul_one, Int.toNat_natCast]
    refine ⟨⟨by omega, by omega⟩, ⟨flts_at (by omega)⟩, ⟨smps hx (by omega)⟩, ⟨by rw [ints_len, List.length_map, List.length_take]; omega, by omega, by omega⟩, s + 1, ⟨hc⟩, ⟨by omega⟩, ?_, ?_⟩
    · rw [up1 hc (by omega)]
    · rw [take_oneF (by omega), List.map_append, ← ints_app]; rfl
  · have hc := ge_of_dec hc
    have : s = n := by have := hs'.out; omega
    subst this
    rw [← hn, List.take_length]
    exact ⟨by first | trivial | rfl, by first | trivial | rfl⟩
noncomputable def orcMw (l : List Nat) : OrcV
  | [.slice (some ⟨0, 0, none⟩) n _, .func (.func 21) ⟨[]⟩ ⟨[]⟩], [some (.row e1 1 true true true)] => some (.slice (some ⟨1, 0, none⟩) n 0, [some (.row e1 1 true true true), oneR (l.map lev)], e1 = flts l ∧ l.length = n ∧ n ≤ 100000 ∧ allS l)
  | _, _ => none
theorem okMw (l : List Nat) : OkV Tryd.prog 30 (orcMw l) := by
  intro args H ret H' vc h hv
  unfold orcMw at h
  split at h
  · cases h
    obtain ⟨rfl, h1, h2, h3⟩ := hv
    exact mw_ok h1 h2 h3
  · cases h
noncomputable def fnMp : Value := .func (.func 20) #[] #[]
noncomputable def lpMp0 (l : List Int) (n c : Nat) : Lp where
  σ := Nat
  E _ := slots 22 [(0, .slice (some ⟨0, 0, none⟩) n c), (1, fnMp), (5, .slice (some ⟨1, 0, none⟩) 0 0)]
  Hp _ := [oneR l, fR []]
  I s := s = 0
  m _ := 0
noncomputable def lpMp (l : List Int) (n c : Nat) : Lp where
  σ := Nat
  E i := slots 22 [(1, fnMp), (5, .slice (some ⟨1, 0, none⟩) i 0), (8, .slice (some ⟨0, 0, none⟩) n c), (9, .int .i64 (Int.ofNat n)), (10, .int .i64 (Int.ofNat i))]
  Hp i := [oneR l, fR ((l.take i).map smO)]
  I i := i ≤ n
  m i := n - i
noncomputable def hsMp (l : List Int) (n c : Nat) : Hs Tryd.prog where
  op y := if y = 400 then some (hIa Tryd.prog) else if y = 401 then some (hLd Tryd.prog (zI l)) else if y = 503 then some (hCa Tryd.prog 20 orcPt okPt) else if y = 505 then some (hAp Tryd.prog) else none
  cut y := if y = 2 then some (lpMp0 l n c) else none
  lp _ := some (lpMp l n c)
  cl y := if y = 2 then keep 22 [0, 1, 5] else keep 22 [1, 5, 8, 9, 10]
  nl y := if y = 2 then [.slot 5 1] else []
  au := au0 Tryd.prog
theorem mp_t (l : List Int) (n : Nat) (c : Nat) (K : Value → Heap → Prop) :
    (fnP Tryd.prog c0 (hsMp l n c) (41 : FuncId) [Value.slice (some { block := (0 : Nat), off := (0 : Nat) }) n c, fnMp] [oneR l] K) =
    ((∃ (s : Nat), Is (s = (0 : Nat)) ∧ [Value.slice (some { block := (0 : Nat), off := (0 : Nat) }) n c, Value.func (Fn.func (20 : Nat)) #[] #[], poi, poi, poi, Value.slice (some { block := (1 : Nat), off := (0 : Nat) }) (0 : Nat) (0 : Nat), poi, poi, poi, poi, poi, poi, poi, poi, poi, poi, poi, poi, poi, poi, poi, poi] = [Value.slice (some { block := (0 : Nat), off := (0 : Nat) }) n c, Value.func (Fn.func (20 : Nat)) #[] #[], poi, poi, poi, Value.slice (some { block := (1 : Nat), off := (0 : Nat) }) (0 : Nat) (0 : Nat), poi, poi, poi, poi, poi, poi, poi, poi, poi, poi, poi, poi, poi, poi, poi, poi] ∧ some (AObj.row (ints l) (1 : Nat) true true true) :: some (AObj.row [] (1 : Nat) true true true) :: noH = some (AObj.row (ints l) (1 : Nat) true true true) :: some (AObj.row [] (1 : Nat) true true true) :: noH) ∧ ∀ (s : Nat), Is (s = (0 : Nat)) → (∃ (s : Nat), Is (s ≤ n) ∧ [poi, Value.func (Fn.func (20 : Nat)) #[] #[], poi, poi, poi, Value.slice (some { block := (1 : Nat), off := (0 : Nat) }) (0 : Nat) (0 : Nat), poi, poi, Value.slice (some { block := (0 : Nat), off := (0 : Nat) }) n c, Value.int IntKind.i64 (↑n : Int), Value.int IntKind.i64 (0 : Int), poi, poi, poi, poi, poi, poi, poi, poi, poi, poi, poi] = [poi, Value.func (Fn.func (20 : Nat)) #[] #[], poi, poi, poi, Value.slice (some { block := (1 : Nat), off := (0 : Nat) }) s (0 : Nat), poi, poi, Value.slice (some { block := (0 : Nat), off := (0 : Nat) }) n c, Value.int IntKind.i64 (↑n : Int), Value.int IntKind.i64 (↑s : Int), poi, poi, poi, poi, poi, poi, poi, poi, poi, poi, poi] ∧ some (AObj.row (ints l) (1 : Nat) true true true) :: some (AObj.row [] (1 : Nat) true true true) :: noH = some (AObj.row (ints l) (1 : Nat) true true true) :: some (AObj.row (flts (List.map smO (List.take s l))) (1 : Nat) true true true) :: noH) ∧ ∀ (s : Nat), Is (s ≤ n) → br (decide ((↑s : Int) < (↑n : Int))) (Is ((0 : Int) ≤ (↑s : Int) ∧ (↑s : Int) < (↑n : Int)) ∧ Is ((ints l)[(0 : Nat) + Int.toNat (↑s : Int) * (1 : Nat)]? = some (Value.int IntKind.i64 (List.getD l ((0 : Nat) + Int.toNat (↑s : Int) * (1 : Nat)) (0 : Int)))) ∧ Is (Int.natAbs (List.getD l ((0 : Nat) + Int.toNat (↑s : Int) * (1 : Nat)) (0 : Int)) ≤ (16384 : Nat)) ∧ Is (List.length (flts (List.map smO (List.take s l))) = s * (1 : Nat) ∧ (s + (1 : Nat)) * (4 : Nat) ≤ (140737488355328 : Nat) ∧ s + (1 : Nat) ≤ (9223372036854775807 : Nat)) ∧ ∃ (s' : Nat), Is (s' ≤ n) ∧ Is (n - s' < n - s) ∧ [poi, Value.func (Fn.func (20 : Nat)) #[] #[], poi, poi, poi, Value.slice (some { block := (1 : Nat), off := (0 : Nat) }) (s + (1 : Nat)) (0 : Nat), poi, poi, Value.slice (some { block := (0 : Nat), off := (0 : Nat) }) n c, Value.int IntKind.i64 (↑n : Int), Value.int IntKind.i64 (IntKind.wrap IntKind.i64 ((↑s : Int) + (1 : Int))), poi, poi, poi, poi, poi, poi, poi, poi, poi, poi, poi] = [poi, Value.func (Fn.func (20 : Nat)) #[] #[], poi, poi, poi, Value.slice (some { block := (1 : Nat), off := (0 : Nat) }) s' (0 : Nat), poi, poi, Value.slice (some { block := (0 : Nat), off := (0 : Nat) }) n c, Value.int IntKind.i64 (↑n : Int), Value.int IntKind.i64 (↑s' : Int), poi, poi, poi, poi, poi, poi, poi, poi, poi, poi, poi] ∧ some (AObj.row (ints l) (1 : Nat) true true true) :: some (AObj.row (flts (List.map smO (List.take s l)) ++ [Value.float FloatKind.f32 (smO (List.getD l ((0 : Nat) + Int.toNat (↑s : Int) * (1 : Nat)) (0 : Int)))]) (1 : Nat) true true (List.all [Value.float FloatKind.f32 (smO (List.getD l ((0 : Nat) + Int.toNat (↑s : Int) * (1 : Nat)) (0 : Int)))] atom)) :: noH = some (AObj.row (ints l) (1 : Nat) true true true) :: some (AObj.row (flts (List.map smO (List.take s' l))) (1 : Nat) true true true) :: noH) (K (Value.slice (some { block := (1 : Nat), off := (0 : Nat) }) s (0 : Nat)) (some (AObj.row (ints l) (1 : Nat) true true true) :: some (AObj.row (flts (List.map smO (List.take s l))) (1 : Nat) true true true) :: noH))) := by kernel_rfl
set_option maxRecDepth 100000 in
theorem mp_ok {l : List Int} {n c : Nat} (hn : l.length = n) (h9 : n ≤ 100000) (hx : fewI l) :
    SmallRes Tryd.prog 41 [.slice (some ⟨0, 0, none⟩) n c, fnMp] [oneR l] (.slice (some ⟨1, 0, none⟩) n 0) [oneR l, fR (l.map smO)] := by
  refine fnP_res hm c0_ok (hs := hsMp l n c) ?_
  rw [mp_t]
  refine ⟨⟨(0 : Nat), ⟨rfl⟩, by first | trivial | rfl, by first | trivial | rfl⟩, fun _ _ => ⟨⟨(0 : Nat), ⟨by omega⟩, by first | trivial | rfl, by first | trivial | rfl⟩, fun s hs' => br_of (fun hc => ?_) (fun hc => ?_)⟩⟩
  · have hc := lt_of_dec hc
    simp only [Nat.zero_add, Nat.mul_one, Int.toNat_natCast]
    refine ⟨⟨by omega, by omega⟩, ⟨zint_at (by omega)⟩, ⟨hx _ (by omega)⟩, ⟨by rw [flts_len, List.length_map, List.length_take]; omega, by omega, by omega⟩, s + 1, ⟨hc⟩, ⟨by omega⟩, ?_, ?_⟩
    · rw [up1 hc (by omega)]
    · rw [take_oneI (by omega), List.map_append, flts_add]; rfl
  · have hc := ge_of_dec hc
    have : s = n := by have := hs'.out; omega
    subst this
    rw [← hn, List.take_length]
    exact ⟨by first | trivial | rfl, by first | trivial | rfl⟩
noncomputable def orcMp (l : List Int) : OrcV
  | [.slice (some ⟨0, 0, none⟩) n _, .func (.func 20) ⟨[]⟩ ⟨[]⟩], [some (.row e1 1 true true true)] => some (.slice (some ⟨1, 0, none⟩) n 0, [some (.row e1 1 true true true), fR (l.map smO)], e1 = ints l ∧ l.length = n ∧ n ≤ 100000 ∧ fewI l)
  | _, _ => none
theorem okMp (l : List Int) : OkV Tryd.prog 41 (orcMp l) := by
  intro args H ret H' vc h hv
  unfold orcMp at h
  split at h
  · cases h
    obtain ⟨rfl, h1, h2, h3⟩ := hv
    exact mp_ok h1 h2 h3
  · cases h
noncomputable def fnMs : Value := .func (.func 43) #[] #[]
noncomputable def lpMs0 (l : List Int) (n c : Nat) : Lp where
  σ := Nat
  E _ := slots 22 [(0, .slice (some ⟨0, 0, none⟩) n c), (1, fnMs), (5, .slice (some ⟨1, 0, none⟩) 0 0)]
  Hp _ := [oneR l, oneR []]
  I s := s = 0
  m _ := 0
noncomputable def lpMs (l : List Int) (n c : Nat) : Lp where
  σ := Nat
  E i := slots 22 [(1, fnMs), (5, .slice (some ⟨1, 0, none⟩) i 0), (8, .slice (some ⟨0, 0, none⟩) n c), (9, .int .i64 (Int.ofNat n)), (10, .int .i64 (Int.ofNat i))]
  Hp i := [oneR l, oneR ((l.take i).map spE)]
  I i := i ≤ n
  m i := n - i
noncomputable def hsMs (l : List Int) (n c : Nat) : Hs Tryd.prog where
  op y := if y = 400 then some (hIa Tryd.prog) else if y = 401 then some (hLd Tryd.prog (zI l)) else if y = 503 then some (hCa Tryd.prog 43 orcSp1 okSp1) else if y = 505 then some (hAp Tryd.prog) else none
  cut y := if y = 2 then some (lpMs0 l n c) else none
  lp _ := some (lpMs l n c)
  cl y := if y = 2 then keep 22 [0, 1, 5] else keep 22 [1, 5, 8, 9, 10]
  nl y := if y = 2 then [.slot 5 1] else []
  au := au0 Tryd.prog
theorem ms_t (l : List Int) (n : Nat) (c : Nat) (K : Value → Heap → Prop) :
    (fnP Tryd.prog c0 (hsMs l n c) (42 : FuncId) [Value.slice (some { block := (0 : Nat), off := (0 : Nat) }) n c, fnMs] [oneR l] K) =
    ((∃ (s : Nat), Is (s = (0 : Nat)) ∧ [Value.slice (some { block := (0 : Nat), off := (0 : Nat) }) n c, Value.func (Fn.func (43 : Nat)) #[] #[], poi, poi, poi, Value.slice (some { block := (1 : Nat), off := (0 : Nat) }) (0 : Nat) (0 : Nat), poi, poi, poi, poi, poi, poi, poi, poi, poi, poi, poi, poi, poi, poi, poi, poi] = [Value.slice (some { block := (0 : Nat), off := (0 : Nat) }) n c, Value.func (Fn.func (43 : Nat)) #[] #[], poi, poi, poi, Value.slice (some { block := (1 : Nat), off := (0 : Nat) }) (0 : Nat) (0 : Nat), poi, poi, poi, poi, poi, poi, poi, poi, poi, poi, poi, poi, poi, poi, poi, poi] ∧ some (AObj.row (ints l) (1 : Nat) true true true) :: some (AObj.row [] (1 : Nat) true true true) :: noH = some (AObj.row (ints l) (1 : Nat) true true true) :: some (AObj.row [] (1 : Nat) true true true) :: noH) ∧ ∀ (s : Nat), Is (s = (0 : Nat)) → (∃ (s : Nat), Is (s ≤ n) ∧ [poi, Value.func (Fn.func (43 : Nat)) #[] #[], poi, poi, poi, Value.slice (some { block := (1 : Nat), off := (0 : Nat) }) (0 : Nat) (0 : Nat), poi, poi, Value.slice (some { block := (0 : Nat), off := (0 : Nat) }) n c, Value.int IntKind.i64 (↑n : Int), Value.int IntKind.i64 (0 : Int), poi, poi, poi, poi, poi, poi, poi, poi, poi, poi, poi] = [poi, Value.func (Fn.func (43 : Nat)) #[] #[], poi, poi, poi, Value.slice (some { block := (1 : Nat), off := (0 : Nat) }) s (0 : Nat), poi, poi, Value.slice (some { block := (0 : Nat), off := (0 : Nat) }) n c, Value.int IntKind.i64 (↑n : Int), Value.int IntKind.i64 (↑s : Int), poi, poi, poi, poi, poi, poi, poi, poi, poi, poi, poi] ∧ some (AObj.row (ints l) (1 : Nat) true true true) :: some (AObj.row [] (1 : Nat) true true true) :: noH = some (AObj.row (ints l) (1 : Nat) true true true) :: some (AObj.row (ints (List.map spE (List.take s l))) (1 : Nat) true true true) :: noH) ∧ ∀ (s : Nat), Is (s ≤ n) → br (decide ((↑s : Int) < (↑n : Int))) (Is ((0 : Int) ≤ (↑s : Int) ∧ (↑s : Int) < (↑n : Int)) ∧ Is ((ints l)[(0 : Nat) + Int.toNat (↑s : Int) * (1 : Nat)]? = some (Value.int IntKind.i64 (List.getD l ((0 : Nat) + Int.toNat (↑s : Int) * (1 : Nat)) (0 : Int)))) ∧ Is True ∧ Is (List.length (ints (List.map spE (List.take s l))) = s * (1 : Nat) ∧ (s + (1 : Nat)) * (8 : Nat) ≤ (140737488355328 : Nat) ∧ s + (1 : Nat) ≤ (9223372036854775807 : Nat)) ∧ ∃ (s' : Nat), Is (s' ≤ n) ∧ Is (n - s' < n - s) ∧ [poi, Value.func (Fn.func (43 : Nat)) #[] #[], poi, poi, poi, Value.slice (some { block := (1 : Nat), off := (0 : Nat) }) (s + (1 : Nat)) (0 : Nat), poi, poi, Value.slice (some { block := (0 : Nat), off := (0 : Nat) }) n c, Value.int IntKind.i64 (↑n : Int), Value.int IntKind.i64 (IntKind.wrap IntKind.i64 ((↑s : Int) + (1 : Int))), poi, poi, poi, poi, poi, poi, poi, poi, poi, poi, poi] = [poi, Value.func (Fn.func (43 : Nat)) #[] #[], poi, poi, poi, Value.slice (some { block := (1 : Nat), off := (0 : Nat) }) s' (0 : Nat), poi, poi, Value.slice (some { block := (0 : Nat), off := (0 : Nat) }) n c, Value.int IntKind.i64 (↑n : Int), Value.int IntKind.i64 (↑s' : Int), poi, poi, poi, poi, poi, poi, poi, poi, poi, poi, poi] ∧ some (AObj.row (ints l) (1 : Nat) true true true) :: some (AObj.row (ints (List.map spE (List.take s l)) ++ [Value.int IntKind.i64 (spE (List.getD l ((0 : Nat) + Int.toNat (↑s : Int) * (1 : Nat)) (0 : Int)))]) (1 : Nat) true true (List.all [Value.int IntKind.i64 (spE (List.getD l ((0 : Nat) + Int.toNat (↑s : Int) * (1 : Nat)) (0 : Int)))] atom)) :: noH = some (AObj.row (ints l) (1 : Nat) true true true) :: some (AObj.row (ints (List.map spE (List.take s' l))) (1 : Nat) true true true) :: noH) (K (Value.slice (some { block := (1 : Nat), off := (0 : Nat) }) s (0 : Nat)) (some (AObj.row (ints l) (1 : Nat) true true true) :: some (AObj.row (ints (List.map spE (List.take s l))) (1 : Nat) true true true) :: noH))) := by kernel_rfl
set_option maxRecDepth 100000 in
theorem ms_ok {l : List Int} {n c : Nat} (hn : l.length = n) (h9 : n ≤ 100000) (_hx : True) :
    SmallRes Tryd.prog 42 [.slice (some ⟨0, 0, none⟩) n c, fnMs] [oneR l] (.slice (some ⟨1, 0, none⟩) n 0) [oneR l, oneR (l.map spE)] := by
  refine fnP_res hm c0_ok (hs := hsMs l n c) ?_
  rw [ms_t]
  refine ⟨⟨(0 : Nat), ⟨rfl⟩, by first | trivial | rfl, by first | trivial | rfl⟩, fun _ _ => ⟨⟨(0 : Nat), ⟨by omega⟩, by first | trivial | rfl, by first | trivial | rfl⟩, fun s hs' => br_of (fun hc => ?_) (fun hc => ?_)⟩⟩
  · have hc := lt_of_dec hc
    simp only [Nat.zero_add, Nat.mul_one, Int.toNat_natCast]
    refine ⟨⟨by omega, by omega⟩, ⟨zint_at (by omega)⟩, ⟨trivial⟩, ⟨by rw [ints_len, List.length_map, List.length_take]; omega, by omega, by omega⟩, s + 1, ⟨hc⟩, ⟨by omega⟩, ?_, ?_⟩
    · rw [up1 hc (by omega)]
    · rw [take_oneI (by omega), List.map_append, ← ints_app]; rfl
  · have hc := ge_of_dec hc
    have : s = n := by have := hs'.out; omega
    subst this
    rw [← hn, List.take_length]
    exact ⟨by first | trivial | rfl, by first | trivial | rfl⟩
noncomputable def orcMs (l : List Int) : OrcV
  | [.slice (some ⟨0, 0, none⟩) n _, .func (.func 43) ⟨[]⟩ ⟨[]⟩], [some (.row e1 1 true true true)] => some (.slice (some ⟨1, 0, none⟩) n 0, [some (.row e1 1 true true true), oneR (l.map spE)], e1 = ints l ∧ l.length = n ∧ n ≤ 100000 ∧ True)
  | _, _ => none
theorem okMs (l : List Int) : OkV Tryd.prog 42 (orcMs l) := by
  intro args H ret H' vc h hv
  unfold orcMs at h
  split at h
  · cases h
    obtain ⟨rfl, h1, h2, h3⟩ := hv
    exact ms_ok h1 h2 h3
  · cases h
end
end Qq
end
section
/- A load whose value is told from the cells. -/
namespace Sp
noncomputable section
/-- The integer in a cell. -/
def iAt (cells : List Go.Value) (off : Nat) : Int := match cells[off]? with
  | some (.int _ n) => n
  | _ => 0
def gI (cells : List Go.Value) (off : Nat) : Go.Value := .int .i64 (iAt cells off)
end
end Sp
namespace Go.Vm
noncomputable section
def fLc (P : Program) (g : List Value → Nat → Value) (o : Oper) (env : List Value) (H : Heap) : Option (Out × Prop) :=
  match o.op with
  | .load t x =>
    match ev env x with
    | .pointer (some ⟨id, off, none⟩) =>
      match rd H id with
      | some (.row cells _ _ _ _) => some (⟨g cells off, [], [id], []⟩, evPart P t cells off = some (g cells off))
      | _ => none
    | _ => none
  | _ => none

def hLc (P : Program) (g : List Value → Nat → Value) : Hint P where
  fn := fLc P g
  ok := by
    intro o env H out vc h hv
    unfold fLc at h
    split at h
    · rename_i t x ho
      refine load_ok ho ?_
      unfold evLoad
      split at h
      · rename_i id off hx
        rw [hx]
        simp only
        split at h
        · rename_i hr
          rw [hr]; cases h
          simp only [hv, Option.map_some]
        · cases h
      · cases h
    · cases h
/-- The cells, with others from a place on. -/
def _root_.Sp.putL (cells : List Value) (off : Nat) (cs : List Value) : List Value := splice cells off cs
def fSp (P : Program) (o : Oper) (env : List Value) (H : Heap) : Option (Out × Prop) :=
  match o.op with
  | .store t x y =>
    match ev env x with
    | .pointer (some ⟨id, off, none⟩) =>
      match rd H id, P.info? t with
      | some (.row cells es more true flat), some i =>
        if (okv (ev env y) && Nat.beq (ev env y).cells.toList.length i.size && Nat.blt 0 (ev env y).cells.toList.length) = true then
          some (⟨undef, [(id, some (.row (Sp.putL cells off (ev env y).cells.toList) es more true (flat && (ev env y).cells.toList.all atom)))], [id], []⟩, off + (ev env y).cells.toList.length ≤ cells.length)
        else none
      | _, _ => none
    | _ => none
  | _ => none

def hSp (P : Program) : Hint P where
  fn := fSp P
  ok := by
    intro o env H out vc h hv
    unfold fSp at h
    split at h
    · rename_i t x y ho
      split at h
      · rename_i id off hx
        split at h
        · rename_i cells es more flat i hrd hi
          split at h
          · rename_i hc
            simp only [Bool.and_eq_true] at hc
            obtain ⟨⟨c1, c2⟩, c3⟩ := hc
            have c2 := Nat.eq_of_beq_eq_true c2
            have c3 : 0 < (ev env y).cells.toList.length := Nat.lt_of_lt_of_le (Nat.lt_succ_self 0) (Nat.le_of_ble_eq_true c3)
            cases h
            refine store_ok ho ?_
            unfold evStore
            rw [hx]
            simp only [hrd, hi]
            have hif : (okv (ev env y) && decide ((ev env y).cells.toList.length = i.size) && decide (off + (ev env y).cells.toList.length ≤ cells.length) && decide (0 < (ev env y).cells.toList.length)) = true := by
              rw [c1, decide_eq_true c2, decide_eq_true hv, decide_eq_true c3]; rfl
            rw [if_pos hif]
            rfl
          · cases h
        · cases h
      · cases h
    · cases h
end
end Go.Vm
end
section
/- Signals: checked, turned, as integers and back. -/
open Go Go.Vm Go.Proofs Sp
namespace Sp
noncomputable section
/-- A list, of which the first s and the last s are exchanged. -/
noncomputable def rvF (xs : List Nat) (s : Nat) (k : Nat) : Nat := if k < s ∨ xs.length ≤ k + s then xs.getD (xs.length - 1 - k) 0 else xs.getD k 0
noncomputable def rvL (xs : List Nat) : List Nat := (List.range xs.length).map fun k => xs.getD (xs.length - 1 - k) 0
/-- The error of a signal. -/
noncomputable def sgE (xs : List Nat) (n : Nat) : Int := if (4096 : Int) < n then 5 else fi (xs.map sE)
noncomputable def spsE (l : List Int) (n : Nat) : Int := if (4096 : Int) < n then 5 else fi (l.map spE)
/-- Second differences. -/
noncomputable def bnD (l : List Int) (k : Nat) : Int := l.getD k 0 - 2 * l.getD (k + 1) 0 + l.getD (k + 2) 0
noncomputable def bnL (l : List Int) (m : Nat) : List Int := (List.range m).map (bnD l)
end
end Sp
namespace Qq
noncomputable section
noncomputable def lpRf (xs : List Nat) (n c : Nat) : Lp where
  σ := Nat
  E s := slots 28 [(0, .slice (some ⟨0, 0, none⟩) n c), (2, .int .i64 (Int.ofNat s)), (3, .int .i64 ((n : Int) - 1 - s))]
  Hp s := [fR ((List.range n).map (rvF xs s))]
  I s := 2 * s ≤ n
  m s := n - s
noncomputable def hsRf (xs : List Nat) (n c : Nat) : Hs Tryd.prog where
  op y := if [306, 310, 312, 314].contains y then some (hIa Tryd.prog) else if [307, 311].contains y then some (hLd Tryd.prog (xF xs)) else if [313, 315].contains y then some (hSp Tryd.prog) else none
  lp _ := some (lpRf xs n c)
  cl _ := keep 28 [0, 2, 3]
  au := au0 Tryd.prog
theorem rvf_t (xs : List Nat) (n : Nat) (c : Nat) (K : Value → Heap → Prop) :
    (fnP Tryd.prog c0 (hsRf xs n c) (22 : FuncId) [Value.slice (some { block := (0 : Nat), off := (0 : Nat) }) n c] [fR xs] K) =
    ((∃ (s : Nat), Is ((2 : Nat) * s ≤ n) ∧ [Value.slice (some { block := (0 : Nat), off := (0 : Nat) }) n c, poi, Value.int IntKind.i64 (0 : Int), Value.int IntKind.i64 (IntKind.wrap IntKind.i64 ((↑n : Int) - (1 : Int))), poi, poi, poi, poi, poi, poi, poi, poi, poi, poi, poi, poi, poi, poi, poi, poi, poi, poi, poi, poi, poi, poi, poi, poi] = [Value.slice (some { block := (0 : Nat), off := (0 : Nat) }) n c, poi, Value.int IntKind.i64 (↑s : Int), Value.int IntKind.i64 ((↑n : Int) - (1 : Int) - (↑s : Int)), poi, poi, poi, poi, poi, poi, poi, poi, poi, poi, poi, poi, poi, poi, poi, poi, poi, poi, poi, poi, poi, poi, poi, poi] ∧ some (AObj.row (flts xs) (1 : Nat) true true true) :: noH = some (AObj.row (flts (List.map (rvF xs s) (List.range n))) (1 : Nat) true true true) :: noH) ∧ ∀ (s : Nat), Is ((2 : Nat) * s ≤ n) → br (decide ((↑s : Int) < (↑n : Int) - (1 : Int) - (↑s : Int))) (Is ((0 : Int) ≤ (↑n : Int) - (1 : Int) - (↑s : Int) ∧ (↑n : Int) - (1 : Int) - (↑s : Int) < (↑n : Int)) ∧ Is ((flts (List.map (rvF xs s) (List.range n)))[(0 : Nat) + Int.toNat ((↑n : Int) - (1 : Int) - (↑s : Int)) * (1 : Nat)]? = some (Value.float FloatKind.f32 (List.getD xs ((0 : Nat) + Int.toNat ((↑n : Int) - (1 : Int) - (↑s : Int)) * (1 : Nat)) (0 : Nat)))) ∧ Is ((0 : Int) ≤ (↑s : Int) ∧ (↑s : Int) < (↑n : Int)) ∧ Is ((flts (List.map (rvF xs s) (List.range n)))[(0 : Nat) + Int.toNat (↑s : Int) * (1 : Nat)]? = some (Value.float FloatKind.f32 (List.getD xs ((0 : Nat) + Int.toNat (↑s : Int) * (1 : Nat)) (0 : Nat)))) ∧ Is ((0 : Int) ≤ (↑s : Int) ∧ (↑s : Int) < (↑n : Int)) ∧ Is ((0 : Nat) + Int.toNat (↑s : Int) * (1 : Nat) + List.length [Value.float FloatKind.f32 (List.getD xs ((0 : Nat) + Int.toNat ((↑n : Int) - (1 : Int) - (↑s : Int)) * (1 : Nat)) (0 : Nat))] ≤ List.length (flts (List.map (rvF xs s) (List.range n)))) ∧ Is ((0 : Int) ≤ (↑n : Int) - (1 : Int) - (↑s : Int) ∧ (↑n : Int) - (1 : Int) - (↑s : Int) < (↑n : Int)) ∧ Is ((0 : Nat) + Int.toNat ((↑n : Int) - (1 : Int) - (↑s : Int)) * (1 : Nat) + List.length [Value.float FloatKind.f32 (List.getD xs ((0 : Nat) + Int.toNat (↑s : Int) * (1 : Nat)) (0 : Nat))] ≤ List.length (putL (flts (List.map (rvF xs s) (List.range n))) ((0 : Nat) + Int.toNat (↑s : Int) * (1 : Nat)) [Value.float FloatKind.f32 (List.getD xs ((0 : Nat) + Int.toNat ((↑n : Int) - (1 : Int) - (↑s : Int)) * (1 : Nat)) (0 : Nat))])) ∧ ∃ (s' : Nat), Is ((2 : Nat) * s' ≤ n) ∧ Is (n - s' < n - s) ∧ [Value.slice (some { block := (0 : Nat), off := (0 : Nat) }) n c, poi, Value.int IntKind.i64 (IntKind.wrap IntKind.i64 ((↑s : Int) + (1 : Int))), Value.int IntKind.i64 (IntKind.wrap IntKind.i64 ((↑n : Int) - (1 : Int) - (↑s : Int) - (1 : Int))), poi, poi, poi, poi, poi, poi, poi, poi, poi, poi, poi, poi, poi, poi, poi, poi, poi, poi, poi, poi, poi, poi, poi, poi] = [Value.slice (some { block := (0 : Nat), off := (0 : Nat) }) n c, poi, Value.int IntKind.i64 (↑s' : Int), Value.int IntKind.i64 ((↑n : Int) - (1 : Int) - (↑s' : Int)), poi, poi, poi, poi, poi, poi, poi, poi, poi, poi, poi, poi, poi, poi, poi, poi, poi, poi, poi, poi, poi, poi, poi, poi] ∧ some (AObj.row (putL (putL (flts (List.map (rvF xs s) (List.range n))) ((0 : Nat) + Int.toNat (↑s : Int) * (1 : Nat)) [Value.float FloatKind.f32 (List.getD xs ((0 : Nat) + Int.toNat ((↑n : Int) - (1 : Int) - (↑s : Int)) * (1 : Nat)) (0 : Nat))]) ((0 : Nat) + Int.toNat ((↑n : Int) - (1 : Int) - (↑s : Int)) * (1 : Nat)) [Value.float FloatKind.f32 (List.getD xs ((0 : Nat) + Int.toNat (↑s : Int) * (1 : Nat)) (0 : Nat))]) (1 : Nat) true true (true && List.all [Value.float FloatKind.f32 (List.getD xs ((0 : Nat) + Int.toNat ((↑n : Int) - (1 : Int) - (↑s : Int)) * (1 : Nat)) (0 : Nat))] atom && List.all [Value.float FloatKind.f32 (List.getD xs ((0 : Nat) + Int.toNat (↑s : Int) * (1 : Nat)) (0 : Nat))] atom)) :: noH = some (AObj.row (flts (List.map (rvF xs s') (List.range n))) (1 : Nat) true true true) :: noH) (K undef (some (AObj.row (flts (List.map (rvF xs s) (List.range n))) (1 : Nat) true true true) :: noH))) := by kernel_rfl
noncomputable def hsSg (xs : List Nat) : Hs Tryd.prog where
  au := auCalls [(37, hCa Tryd.prog 37 (orcMj xs) (okMj xs)), (23, hCa Tryd.prog 23 (orcFiI (xs.map sE)) (okFiI (xs.map sE)))]
theorem sg_t (xs : List Nat) (n : Nat) (c : Nat) (K : Value → Heap → Prop) :
    (fnP Tryd.prog c0 (hsSg xs) (17 : FuncId) [Value.slice (some { block := (0 : Nat), off := (0 : Nat) }) n c] [fR xs] K) =
    (br (decide ((4096 : Int) < (↑n : Int))) (K (Value.int IntKind.i64 (5 : Int)) (some (AObj.row (flts xs) (1 : Nat) true true true) :: noH)) (Is (flts xs = flts xs ∧ List.length xs = n ∧ n ≤ (100000 : Nat) ∧ True) ∧ Is (ints (List.map sE xs) = ints (List.map sE xs) ∧ List.length (List.map sE xs) = n ∧ n ≤ (100000 : Nat)) ∧ K (Value.int IntKind.i64 (fi (List.map sE xs))) (some (AObj.row (flts xs) (1 : Nat) true true true) :: noH))) := by kernel_rfl
noncomputable def hsSs (l : List Int) : Hs Tryd.prog where
  au := auCalls [(42, hCa Tryd.prog 42 (orcMs l) (okMs l)), (23, hCa Tryd.prog 23 (orcFiI (l.map spE)) (okFiI (l.map spE)))]
theorem sps_t (l : List Int) (n : Nat) (c : Nat) (K : Value → Heap → Prop) :
    (fnP Tryd.prog c0 (hsSs l) (34 : FuncId) [Value.slice (some { block := (0 : Nat), off := (0 : Nat) }) n c] [oneR l] K) =
    (br (decide ((4096 : Int) < (↑n : Int))) (K (Value.int IntKind.i64 (5 : Int)) (some (AObj.row (ints l) (1 : Nat) true true true) :: noH)) (Is (ints l = ints l ∧ List.length l = n ∧ n ≤ (100000 : Nat) ∧ True) ∧ Is (ints (List.map spE l) = ints (List.map spE l) ∧ List.length (List.map spE l) = n ∧ n ≤ (100000 : Nat)) ∧ K (Value.int IntKind.i64 (fi (List.map spE l))) (some (AObj.row (ints l) (1 : Nat) true true true) :: noH))) := by kernel_rfl
noncomputable def hsWs (xs : List Nat) : Hs Tryd.prog where
  au := auCalls [(30, hCa Tryd.prog 30 (orcMw xs) (okMw xs))]
theorem ws_t (xs : List Nat) (n : Nat) (c : Nat) (K : Value → Heap → Prop) :
    (fnP Tryd.prog c0 (hsWs xs) (27 : FuncId) [Value.slice (some { block := (0 : Nat), off := (0 : Nat) }) n c] [fR xs] K) =
    (Is (flts xs = flts xs ∧ List.length xs = n ∧ n ≤ (100000 : Nat) ∧ allS xs) ∧ K (Value.slice (some { block := (1 : Nat), off := (0 : Nat) }) n (0 : Nat)) (some (AObj.row (flts xs) (1 : Nat) true true true) :: some (AObj.row (ints (List.map lev xs)) (1 : Nat) true true true) :: noH)) := by kernel_rfl
theorem ct_t (xs : List Nat) (n : Nat) (c : Nat) (K : Value → Heap → Prop) :
    (fnP Tryd.prog ci2 h0 (32 : FuncId) [Value.slice (some { block := (0 : Nat), off := (0 : Nat) }) n c] [fR xs] K) =
    (K (Value.int IntKind.i64 (wh (decide ((↑n : Int) < (2 : Int))) (16 : Int))) (some (AObj.row (flts xs) (1 : Nat) true true true) :: noH)) := by kernel_rfl
theorem rnI_t (a : Int) (b : Int) (K : Value → Heap → Prop) :
    (fnP Tryd.prog c0 h0 (25 : FuncId) [Value.int IntKind.i64 a, Value.int IntKind.i64 b] [] K) =
    (Is (IntKind.wrap IntKind.i64 ((2 : Int) * b) ≠ (0 : Int)) ∧ br (decide (IntKind.wrap IntKind.i64 (IntKind.wrap IntKind.i64 ((2 : Int) * a) + b) < IntKind.wrap IntKind.i64 (IntKind.wrap IntKind.i64 (Int.tdiv (IntKind.wrap IntKind.i64 (IntKind.wrap IntKind.i64 ((2 : Int) * a) + b)) (IntKind.wrap IntKind.i64 ((2 : Int) * b))) * IntKind.wrap IntKind.i64 ((2 : Int) * b)))) (K (Value.int IntKind.i64 (IntKind.wrap IntKind.i64 (IntKind.wrap IntKind.i64 (Int.tdiv (IntKind.wrap IntKind.i64 (IntKind.wrap IntKind.i64 ((2 : Int) * a) + b)) (IntKind.wrap IntKind.i64 ((2 : Int) * b))) - (1 : Int)))) noH) (K (Value.int IntKind.i64 (IntKind.wrap IntKind.i64 (Int.tdiv (IntKind.wrap IntKind.i64 (IntKind.wrap IntKind.i64 ((2 : Int) * a) + b)) (IntKind.wrap IntKind.i64 ((2 : Int) * b))))) noH)) := by kernel_rfl
noncomputable def lpTo (l : List Int) (n c : Nat) : Lp where
  σ := Nat
  E s := slots 17 [(3, .int .i64 (su (fun j => l.getD j 0) s)), (6, .slice (some ⟨0, 0, none⟩) n c), (7, .int .i64 (Int.ofNat n)), (8, .int .i64 (Int.ofNat s))]
  Hp _ := [oneR l]
  I s := s ≤ n
  m s := n - s
noncomputable def hsTo (l : List Int) (n c : Nat) : Hs Tryd.prog where
  op y := if y = 400 then some (hIa Tryd.prog) else if y = 401 then some (hLd Tryd.prog (zI l)) else none
  lp _ := some (lpTo l n c)
  cl _ := keep 17 [3, 6, 7, 8]
  au := au0 Tryd.prog
theorem to_t (l : List Int) (n : Nat) (c : Nat) (K : Value → Heap → Prop) :
    (fnP Tryd.prog c0 (hsTo l n c) (26 : FuncId) [Value.slice (some { block := (0 : Nat), off := (0 : Nat) }) n c] [oneR l] K) =
    ((∃ (s : Nat), Is (s ≤ n) ∧ [poi, poi, poi, Value.int IntKind.i64 (0 : Int), poi, poi, Value.slice (some { block := (0 : Nat), off := (0 : Nat) }) n c, Value.int IntKind.i64 (↑n : Int), Value.int IntKind.i64 (0 : Int), poi, poi, poi, poi, poi, poi, poi, poi] = [poi, poi, poi, Value.int IntKind.i64 (su (fun (j : Nat) => List.getD l j (0 : Int)) s), poi, poi, Value.slice (some { block := (0 : Nat), off := (0 : Nat) }) n c, Value.int IntKind.i64 (↑n : Int), Value.int IntKind.i64 (↑s : Int), poi, poi, poi, poi, poi, poi, poi, poi] ∧ some (AObj.row (ints l) (1 : Nat) true true true) :: noH = some (AObj.row (ints l) (1 : Nat) true true true) :: noH) ∧ ∀ (s : Nat), Is (s ≤ n) → br (decide ((↑s : Int) < (↑n : Int))) (Is ((0 : Int) ≤ (↑s : Int) ∧ (↑s : Int) < (↑n : Int)) ∧ Is ((ints l)[(0 : Nat) + Int.toNat (↑s : Int) * (1 : Nat)]? = some (Value.int IntKind.i64 (List.getD l ((0 : Nat) + Int.toNat (↑s : Int) * (1 : Nat)) (0 : Int)))) ∧ ∃ (s' : Nat), Is (s' ≤ n) ∧ Is (n - s' < n - s) ∧ [poi, poi, poi, Value.int IntKind.i64 (IntKind.wrap IntKind.i64 (su (fun (j : Nat) => List.getD l j (0 : Int)) s + List.getD l ((0 : Nat) + Int.toNat (↑s : Int) * (1 : Nat)) (0 : Int))), poi, poi, Value.slice (some { block := (0 : Nat), off := (0 : Nat) }) n c, Value.int IntKind.i64 (↑n : Int), Value.int IntKind.i64 (IntKind.wrap IntKind.i64 ((↑s : Int) + (1 : Int))), poi, poi, poi, poi, poi, poi, poi, poi] = [poi, poi, poi, Value.int IntKind.i64 (su (fun (j : Nat) => List.getD l j (0 : Int)) s'), poi, poi, Value.slice (some { block := (0 : Nat), off := (0 : Nat) }) n c, Value.int IntKind.i64 (↑n : Int), Value.int IntKind.i64 (↑s' : Int), poi, poi, poi, poi, poi, poi, poi, poi] ∧ some (AObj.row (ints l) (1 : Nat) true true true) :: noH = some (AObj.row (ints l) (1 : Nat) true true true) :: noH) (K (Value.int IntKind.i64 (su (fun (j : Nat) => List.getD l j (0 : Int)) s)) (some (AObj.row (ints l) (1 : Nat) true true true) :: noH))) := by kernel_rfl
noncomputable def lpPs (l : List Int) (n c : Nat) : Lp where
  σ := Nat
  E s := slots 18 [(0, .slice (some ⟨0, 0, none⟩) n c), (6, .slice (some ⟨0, 0, none⟩) n c), (7, .int .i64 (Int.ofNat n)), (8, .int .i64 (Int.ofNat s))]
  Hp _ := [oneR l]
  I s := s ≤ n
  m s := n - s
noncomputable def hsPs (l : List Int) (n c : Nat) : Hs Tryd.prog where
  op y := if y = 300 then some (hIa Tryd.prog) else if y = 301 then some (hLd Tryd.prog (zI l)) else none
  lp _ := some (lpPs l n c)
  cl _ := keep 18 [0, 6, 7, 8]
  au := auCalls [(41, hCa Tryd.prog 41 (orcMp l) (okMp l))]
theorem ps_t (l : List Int) (n : Nat) (c : Nat) (K : Value → Heap → Prop) :
    (fnP Tryd.prog ci2 (hsPs l n c) (29 : FuncId) [Value.slice (some { block := (0 : Nat), off := (0 : Nat) }) n c] [oneR l] K) =
    ((∃ (s : Nat), Is (s ≤ n) ∧ [Value.slice (some { block := (0 : Nat), off := (0 : Nat) }) n c, poi, poi, poi, poi, poi, Value.slice (some { block := (0 : Nat), off := (0 : Nat) }) n c, Value.int IntKind.i64 (↑n : Int), Value.int IntKind.i64 (0 : Int), poi, poi, poi, poi, poi, poi, poi, poi, poi] = [Value.slice (some { block := (0 : Nat), off := (0 : Nat) }) n c, poi, poi, poi, poi, poi, Value.slice (some { block := (0 : Nat), off := (0 : Nat) }) n c, Value.int IntKind.i64 (↑n : Int), Value.int IntKind.i64 (↑s : Int), poi, poi, poi, poi, poi, poi, poi, poi, poi] ∧ some (AObj.row (ints l) (1 : Nat) true true true) :: noH = some (AObj.row (ints l) (1 : Nat) true true true) :: noH) ∧ ∀ (s : Nat), Is (s ≤ n) → br (decide ((↑s : Int) < (↑n : Int))) (Is ((0 : Int) ≤ (↑s : Int) ∧ (↑s : Int) < (↑n : Int)) ∧ Is ((ints l)[(0 : Nat) + Int.toNat (↑s : Int) * (1 : Nat)]? = some (Value.int IntKind.i64 (List.getD l ((0 : Nat) + Int.toNat (↑s : Int) * (1 : Nat)) (0 : Int)))) ∧ br (wi (List.getD l ((0 : Nat) + Int.toNat (↑s : Int) * (1 : Nat)) (0 : Int)) (-16384 : Int) (16384 : Int) != (0 : Int)) (K (Value.tuple #[Value.slice none (0 : Nat) (0 : Nat), Value.int IntKind.i64 (4 : Int)]) (some (AObj.row (ints l) (1 : Nat) true true true) :: noH)) (∃ (s' : Nat), Is (s' ≤ n) ∧ Is (n - s' < n - s) ∧ [Value.slice (some { block := (0 : Nat), off := (0 : Nat) }) n c, poi, poi, poi, poi, poi, Value.slice (some { block := (0 : Nat), off := (0 : Nat) }) n c, Value.int IntKind.i64 (↑n : Int), Value.int IntKind.i64 (IntKind.wrap IntKind.i64 ((↑s : Int) + (1 : Int))), poi, poi, poi, poi, poi, poi, poi, poi, poi] = [Value.slice (some { block := (0 : Nat), off := (0 : Nat) }) n c, poi, poi, poi, poi, poi, Value.slice (some { block := (0 : Nat), off := (0 : Nat) }) n c, Value.int IntKind.i64 (↑n : Int), Value.int IntKind.i64 (↑s' : Int), poi, poi, poi, poi, poi, poi, poi, poi, poi] ∧ some (AObj.row (ints l) (1 : Nat) true true true) :: noH = some (AObj.row (ints l) (1 : Nat) true true true) :: noH)) (Is (ints l = ints l ∧ List.length l = n ∧ n ≤ (100000 : Nat) ∧ fewI l) ∧ K (Value.tuple #[Value.slice (some { block := (1 : Nat), off := (0 : Nat) }) n (0 : Nat), Value.int IntKind.i64 (0 : Int)]) (some (AObj.row (ints l) (1 : Nat) true true true) :: some (AObj.row (flts (List.map smO l)) (1 : Nat) true true true) :: noH))) := by kernel_rfl
theorem put_set {l : List Value} {i : Nat} {v : Value} (h : i < l.length) : putL l i [v] = l.set i v := by
  rw [List.set_eq_take_append_cons_drop, if_pos h, putL, splice]
  simp
theorem set_range {α : Type} {g : Nat → α} {n i : Nat} {x : α} : ((List.range n).map g).set i x = (List.range n).map fun k => if k = i then x else g k := by
  refine List.ext_getElem (by simp) fun j h1 h2 => ?_
  rw [List.getElem_set]
  by_cases h : i = j
  · subst h; simp
  · rw [if_neg h, List.getElem_map, List.getElem_map, List.getElem_range, if_neg (fun e => h e.symm)]
theorem put_flt {g : Nat → Nat} {n i x : Nat} (h : i < n) : putL (flts ((List.range n).map g)) i [.float .f32 x] = flts ((List.range n).map fun k => if k = i then x else g k) := by
  rw [put_set (by rw [flts_len, List.length_map, List.length_range]; exact h), ← set_range, flts, flts, List.map_set]
theorem rng_at {g : Nat → Nat} {n i : Nat} (h : i < n) : ((List.range n).map g).getD i 0 = g i := by
  rw [List.getD_eq_getElem?_getD, List.getElem?_map, List.getElem?_range h]; rfl
theorem rngI_at {g : Nat → Int} {n i : Nat} (h : i < n) : ((List.range n).map g).getD i 0 = g i := by
  rw [List.getD_eq_getElem?_getD, List.getElem?_map, List.getElem?_range h]; rfl
theorem flt_rng {g : Nat → Nat} {n i x : Nat} (h : i < n) (e : g i = x) : (flts ((List.range n).map g))[i]? = some (.float .f32 x) := by
  rw [flts_at (by rw [List.length_map, List.length_range]; exact h), rng_at h, e]
set_option maxRecDepth 100000 in
theorem rvf_ok {xs : List Nat} {n c : Nat} (hn : xs.length = n) (h9 : n ≤ 100000) : SmallRes Tryd.prog 22 [.slice (some ⟨0, 0, none⟩) n c] [fR xs] undef [fR (rvL xs)] := by
  subst hn
  refine fnP_res hm c0_ok (hs := hsRf xs xs.length c) ?_
  rw [rvf_t]
  have e0 : (List.range xs.length).map (rvF xs 0) = xs := by
    refine List.ext_getElem (by simp) fun j h1 h2 => ?_
    rw [List.getElem_map, List.getElem_range, rvF, if_neg (by omega), List.getD_eq_getElem?_getD, List.getElem?_eq_getElem h2]; rfl
  refine ⟨⟨(0 : Nat), ⟨by omega⟩, ?_, by rw [e0]; first | done | trivial | rfl⟩, fun s hs' => br_of (fun hc => ?_) (fun hc => ?_)⟩
  · rw [wrap_eq (by omega) (by omega), show ((xs.length : Int) - 1 - ((0 : Nat) : Int)) = (xs.length : Int) - 1 by omega]; first | done | trivial | rfl
  · have hc : (s : Int) < (xs.length : Int) - 1 - s := of_decide_eq_true hc
    have ej : (xs.length : Int) - 1 - (s : Int) = ((xs.length - 1 - s : Nat) : Int) := by omega
    have ej2 : IntKind.wrap .i64 ((xs.length : Int) - 1 - (s : Int) - 1) = (xs.length : Int) - 1 - ((s + 1 : Nat) : Int) := by rw [wrap_eq (by omega) (by omega)]; omega
    rw [ej2, up1 (show s < xs.length by omega) (by omega)]
    rw [ej]
    simp only [Nat.zero_add, Nat.mul_one, Int.toNat_natCast]
    have g1 : rvF xs s s = xs.getD s 0 := by rw [rvF, if_neg (by omega)]
    have g2 : rvF xs s (xs.length - 1 - s) = xs.getD (xs.length - 1 - s) 0 := by rw [rvF, if_neg (by omega)]
    have e3 : (List.range xs.length).map (fun k => if k = xs.length - 1 - s then xs.getD s 0 else if k = s then xs.getD (xs.length - 1 - s) 0 else rvF xs s k) = (List.range xs.length).map (rvF xs (s + 1)) := by
      refine List.map_congr_left fun k hk => ?_
      have hk := List.mem_range.1 hk
      by_cases h1 : k = xs.length - 1 - s
      · rw [if_pos h1, rvF, if_pos (by omega), h1, show xs.length - 1 - (xs.length - 1 - s) = s by omega]
      · rw [if_neg h1]
        by_cases h2 : k = s
        · rw [if_pos h2, rvF, if_pos (by omega), h2]
        · rw [if_neg h2, rvF, rvF]
          by_cases h3 : k < s ∨ xs.length ≤ k + s
          · rw [if_pos h3, if_pos (by omega)]
          · rw [if_neg h3, if_neg (by omega)]
    rw [put_flt (by omega), put_flt (by omega), e3]
    refine ⟨⟨by omega, by omega⟩, ⟨flt_rng (by omega) g2⟩, ⟨by omega, by omega⟩, ⟨flt_rng (by omega) g1⟩, ⟨by omega, by omega⟩, ⟨by rw [flts_len, List.length_map, List.length_range]; simp only [List.length_cons, List.length_nil]; omega⟩, ⟨by omega, by omega⟩, ⟨by rw [flts_len, List.length_map, List.length_range]; simp only [List.length_cons, List.length_nil]; omega⟩, s + 1, ⟨by omega⟩, ⟨by omega⟩, by first | trivial | rfl, by first | trivial | rfl⟩
  · have hc : ¬ (s : Int) < (xs.length : Int) - 1 - s := of_decide_eq_false hc
    have h1 := hs'.out
    have e : (List.range xs.length).map (rvF xs s) = rvL xs := List.map_congr_left fun k hk => by
      have hk := List.mem_range.1 hk
      rw [rvF]
      split
      · rfl
      · rw [show xs.length - 1 - k = k by omega]
    rw [e]
    exact ⟨by first | trivial | rfl, by first | trivial | rfl⟩
noncomputable def orcRf (xs : List Nat) : OrcV
  | [.slice (some ⟨0, 0, none⟩) n _], [some (.row e1 1 true true true)] => some (undef, [fR (rvL xs)], e1 = flts xs ∧ xs.length = n ∧ n ≤ 100000)
  | _, _ => none
theorem okRf (xs : List Nat) : OkV Tryd.prog 22 (orcRf xs) := by
  intro args H ret H' vc h hv
  unfold orcRf at h
  split at h
  · cases h
    obtain ⟨rfl, h1, h2⟩ := hv
    exact rvf_ok h1 h2
  · cases h
noncomputable def orcSg (xs : List Nat) : OrcV
  | [.slice (some ⟨0, 0, none⟩) n _], [some (.row e1 1 true true true)] => some (.int .i64 (sgE xs n), [some (.row e1 1 true true true)], e1 = flts xs ∧ xs.length = n ∧ n ≤ 100000)
  | _, _ => none
theorem okSg (xs : List Nat) : OkV Tryd.prog 17 (orcSg xs) := by
  intro args H ret H' vc h hv
  unfold orcSg at h
  split at h
  · rename_i n c e1
    cases h
    obtain ⟨rfl, h1, h2⟩ := hv
    refine fnP_res hm c0_ok (hs := hsSg xs) ?_
    show fnP Tryd.prog c0 (hsSg xs) 17 [.slice (some ⟨0, 0, none⟩) n _] [fR xs] _
    rw [sg_t, sgE]
    refine br_of (fun h => ?_) (fun h => ⟨⟨by first | trivial | rfl, h1, h2, trivial⟩, ⟨by first | trivial | rfl, by rw [List.length_map]; exact h1, h2⟩, ?_⟩)
    · rw [if_pos (of_decide_eq_true h)]; exact ⟨by first | trivial | rfl, by first | trivial | rfl⟩
    · rw [if_neg (of_decide_eq_false h)]; exact ⟨by first | trivial | rfl, by first | trivial | rfl⟩
  · cases h
noncomputable def orcSps (l : List Int) : OrcV
  | [.slice (some ⟨0, 0, none⟩) n _], [some (.row e1 1 true true true)] => some (.int .i64 (spsE l n), [some (.row e1 1 true true true)], e1 = ints l ∧ l.length = n ∧ n ≤ 100000)
  | _, _ => none
theorem okSps (l : List Int) : OkV Tryd.prog 34 (orcSps l) := by
  intro args H ret H' vc h hv
  unfold orcSps at h
  split at h
  · rename_i n c e1
    cases h
    obtain ⟨rfl, h1, h2⟩ := hv
    refine fnP_res hm c0_ok (hs := hsSs l) ?_
    show fnP Tryd.prog c0 (hsSs l) 34 [.slice (some ⟨0, 0, none⟩) n _] [oneR l] _
    rw [sps_t, spsE]
    refine br_of (fun h => ?_) (fun h => ⟨⟨by first | trivial | rfl, h1, h2, trivial⟩, ⟨by first | trivial | rfl, by rw [List.length_map]; exact h1, h2⟩, ?_⟩)
    · rw [if_pos (of_decide_eq_true h)]; exact ⟨by first | trivial | rfl, by first | trivial | rfl⟩
    · rw [if_neg (of_decide_eq_false h)]; exact ⟨by first | trivial | rfl, by first | trivial | rfl⟩
  · cases h
noncomputable def orcWs (xs : List Nat) : OrcV
  | [.slice (some ⟨0, 0, none⟩) n _], [some (.row e1 1 true true true)] => some (.slice (some ⟨1, 0, none⟩) n 0, [some (.row e1 1 true true true), oneR (xs.map lev)], e1 = flts xs ∧ xs.length = n ∧ n ≤ 100000 ∧ allS xs)
  | _, _ => none
theorem okWs (xs : List Nat) : OkV Tryd.prog 27 (orcWs xs) := by
  intro args H ret H' vc h hv
  unfold orcWs at h
  split at h
  · rename_i n c e1
    cases h
    obtain ⟨rfl, h1, h2, h3⟩ := hv
    refine fnP_res hm c0_ok (hs := hsWs xs) ?_
    show fnP Tryd.prog c0 (hsWs xs) 27 [.slice (some ⟨0, 0, none⟩) n _] [fR xs] _
    rw [ws_t]
    exact ⟨⟨by first | trivial | rfl, h1, h2, h3⟩, by first | trivial | rfl, by first | trivial | rfl⟩
  · cases h
noncomputable def orcCt (xs : List Nat) : OrcV
  | [.slice (some ⟨0, 0, none⟩) n _], [some (.row e1 1 true true true)] => some (.int .i64 (wh (decide ((n : Int) < 2)) 16), [some (.row e1 1 true true true)], e1 = flts xs)
  | _, _ => none
theorem okCt (xs : List Nat) : OkV Tryd.prog 32 (orcCt xs) := by
  intro args H ret H' vc h hv
  unfold orcCt at h
  split at h
  · rename_i n c e1
    cases h
    have h := hv
    subst h
    refine fnP_res hm ci2_ok (hs := h0) ?_
    show fnP Tryd.prog ci2 h0 32 [.slice (some ⟨0, 0, none⟩) n _] [fR xs] _
    rw [ct_t]
    exact ⟨by first | trivial | rfl, by first | trivial | rfl⟩
  · cases h
theorem okRnI : OkV Tryd.prog 25 orcRnd := by
  intro args H ret H' vc h hv
  unfold orcRnd at h
  split at h
  · rename_i a b
    cases h
    obtain ⟨b0, b1, a0, a1⟩ := hv
    refine fnP_res hm c0_ok (hs := h0) ?_
    obtain ⟨q1, q2, q3, q4, q5⟩ := floor_law (a := 2 * a + b) (b := 2 * b) (by omega) (by omega) (by omega) (by omega)
    rw [rnI_t, wrap_eq (x := 2 * a) (by omega) (by omega), wrap_eq (x := 2 * b) (by omega) (by omega), wrap_eq (x := 2 * a + b) (by omega) (by omega)]
    simp only [W] at q1 q2 q3
    rw [q1, q2, q3]
    refine ⟨⟨by omega⟩, br_of (fun h => ?_) (fun h => ?_)⟩
    · rw [q4 (of_decide_eq_true h)]; exact ⟨by first | trivial | rfl, by first | trivial | rfl⟩
    · rw [q5 (of_decide_eq_false h)]; exact ⟨by first | trivial | rfl, by first | trivial | rfl⟩
  · cases h
theorem su_bd {g : Nat → Int} {B : Nat} : ∀ {n : Nat}, (∀ i, i < n → (g i).natAbs ≤ B) → (su g n).natAbs ≤ n * B
  | 0, _ => by simp [su]
  | n + 1, h => by
    have h1 := su_bd (n := n) (fun i hi => h i (by omega))
    have h2 := h n (by omega)
    rw [su, Nat.add_mul, Nat.one_mul]
    omega
noncomputable def orcTo (l : List Int) : OrcV
  | [.slice (some ⟨0, 0, none⟩) n _], [some (.row e1 1 true true true)] => some (.int .i64 (su (fun j => l.getD j 0) n), [some (.row e1 1 true true true)], e1 = ints l ∧ l.length = n ∧ n ≤ 100000 ∧ fewI l)
  | _, _ => none
theorem okTo (l : List Int) : OkV Tryd.prog 26 (orcTo l) := by
  intro args H ret H' vc h hv
  unfold orcTo at h
  split at h
  · rename_i n c e1
    cases h
    obtain ⟨rfl, h1, h2, h3⟩ := hv
    refine fnP_res hm c0_ok (hs := hsTo l n c) ?_
    show fnP Tryd.prog c0 (hsTo l n c) 26 [.slice (some ⟨0, 0, none⟩) n _] [oneR l] _
    rw [to_t]
    refine ⟨⟨(0 : Nat), ⟨by omega⟩, by first | trivial | rfl, by first | trivial | rfl⟩, fun s hs' => br_of (fun hc => ?_) (fun hc => ?_)⟩
    · have hc := lt_of_dec hc
      simp only [Nat.zero_add, Nat.mul_one, Int.toNat_natCast]
      have hb := su_bd (g := fun j => l.getD j 0) (B := 16384) (n := s + 1) (fun i hi => h3 i (by omega))
      have e : IntKind.wrap .i64 (su (fun j => l.getD j 0) s + l.getD s 0) = su (fun j => l.getD j 0) (s + 1) := by
        rw [su] at hb
        rw [su, wrap_eq (by omega) (by omega)]
      rw [e]
      exact ⟨⟨by omega, by omega⟩, ⟨zint_at (by omega)⟩, s + 1, ⟨hc⟩, ⟨by omega⟩, by rw [up1 hc (by omega)], by first | trivial | rfl⟩
    · have hc := ge_of_dec hc
      have : s = n := by have := hs'.out; omega
      subst this
      exact ⟨by first | trivial | rfl, by first | trivial | rfl⟩
  · cases h
noncomputable def orcPs (l : List Int) : OrcV
  | [.slice (some ⟨0, 0, none⟩) n _], [some (.row e1 1 true true true)] => some (.tuple #[.slice (some ⟨1, 0, none⟩) n 0, .int .i64 0], [some (.row e1 1 true true true), fR (l.map smO)], e1 = ints l ∧ l.length = n ∧ n ≤ 100000 ∧ fewI l)
  | _, _ => none
theorem okPs (l : List Int) : OkV Tryd.prog 29 (orcPs l) := by
  intro args H ret H' vc h hv
  unfold orcPs at h
  split at h
  · rename_i n c e1
    cases h
    obtain ⟨rfl, h1, h2, h3⟩ := hv
    refine fnP_res hm ci2_ok (hs := hsPs l n c) ?_
    show fnP Tryd.prog ci2 (hsPs l n c) 29 [.slice (some ⟨0, 0, none⟩) n _] [oneR l] _
    rw [ps_t]
    refine ⟨⟨(0 : Nat), ⟨by omega⟩, by first | trivial | rfl, by first | trivial | rfl⟩, fun s hs' => br_of (fun hc => ?_) (fun hc => ?_)⟩
    · have hc := lt_of_dec hc
      simp only [Nat.zero_add, Nat.mul_one, Int.toNat_natCast]
      have hw : wi (l.getD s 0) (-16384) 16384 = 0 := wi_zero.2 (by have := h3 s (by omega); omega)
      rw [hw]
      exact ⟨⟨by omega, by omega⟩, ⟨zint_at (by omega)⟩, br_of (fun h => by cases h) (fun _ => ⟨s + 1, ⟨hc⟩, ⟨by omega⟩, by rw [up1 hc (by omega)], by first | trivial | rfl⟩)⟩
    · exact ⟨⟨by first | trivial | rfl, h1, h2, h3⟩, by first | trivial | rfl, by first | trivial | rfl⟩
  · cases h
end
end Qq
end
section
/- A variable of the package, laid: loaded whole. -/
namespace Go.Vm
noncomputable section
theorem HRel.laysw {P : Program} {F : Fr P} {A : Nat → Prop} {ψ : Nat → Gh} {H : Heap} {w : World} (h : HRel F A ψ H w) : lays P w := h.fr.lay w h.fr.block h.fr.size
def wts : List Int := [1, -2, 1]
def fGl (P : Program) (o : Oper) (_ : List Value) (_ : Heap) : Option (Out × Prop) :=
  match o.op with
  | .load t (.global g) =>
    match P.underlying t, P.info? t with
    | some d, some i => if (d.isRow && Nat.beq i.size 3) = true then some (⟨.agg (wts.map (Value.int .i64)).toArray, [], [], []⟩, P.globalNamed "versine/inertia.weights" = some g) else none
    | _, _ => none
  | _ => none
def hGl (P : Program) : Hint P where
  fn := fGl P
  ok := by
    intro o env H out vc h hv
    unfold fGl at h
    split at h
    · rename_i t g ho
      split at h
      · rename_i d i hu hi
        split at h
        · rename_i hc
          simp only [Bool.and_eq_true] at hc
          obtain ⟨c1, c2⟩ := hc
          have c2 := Nat.eq_of_beq_eq_true c2
          cases h
          refine StepOK.value fun F A ψ env1 H1 a w hr he hD => ⟨.agg (wts.map (Value.int .i64)).toArray, ?_, .refl_ground (by rfl)⟩
          have hl := (HRel.laysw hr.heap).2 (by rw [hv]; simp)
          unfold Lib.TabIs World.var? at hl
          rw [hv] at hl
          simp only [Option.bind_some] at hl
          have hr2 : w.rangeAt g 0 (wts.map (Value.int .i64)) := by
            split at hl
            · rename_i cs x1 x2 hh
              cases hl
              intro j v hj
              rw [World.cell?, hh]
              simp only [Nat.zero_add, List.getElem?_toArray]
              exact hj
            · cases hl
          have := run_loadAt_mid w g 0 t (wts.map (Value.int .i64)) d hr2 hu c1 (by rw [hi]; simp [c2, wts])
          simp only [execOp, ho, Act.eval]
          rw [Sem.run_bind, this]; rfl
        · cases h
      · cases h
    · cases h
end
end Go.Vm
end
