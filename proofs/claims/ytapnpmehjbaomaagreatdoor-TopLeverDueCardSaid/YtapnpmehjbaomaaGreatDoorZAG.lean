/- Parts of the proof: LB, LC, VG, LD, VN, LE, LF, VL, LG, LI, HA, HB, QII, QJJ, QRA, QXA, QXD, HD, HC. -/
import Derived.Test.YtapnpmehjbaomaaGreatDoorZAF
import Derived.Test.YtapnpmehjbaomaaGreatDoorZAC
import Derived.Deep.MidRow
import Derived.Test.YtapnpmehjbaomaaGreatDoorZAB
import Derived.Test.YtapnpmehjbaomaaGreatDoorZAE
section
/- Errors, and lists that are made of lists. -/
open Go Go.Vm Go.Proofs Sp
namespace Sp
noncomputable section
/-- The sample of the other direction. -/
noncomputable def tuO (x : Nat) : Nat := smO (-lev x)
end
end Sp
namespace Qq
noncomputable section
theorem firstI_t (l : List Int) (n : Nat) (c : Nat) (es : Nat) (more : Bool) (rw : Bool) (K : Value → Heap → Prop) :
    (fnP Tryz.prog c0 (hFirst l n c es more rw) (54 : FuncId) [Value.slice (some { block := (0 : Nat), off := (0 : Nat) }) n c] [some (AObj.row (ints l) es more rw true)] K) =
    ((∃ (s : Nat), Is (s ≤ List.length l ∧ fi (List.drop s l) = fi l) ∧ [poi, poi, poi, poi, poi, Value.slice (some { block := (0 : Nat), off := (0 : Nat) }) n c, Value.int IntKind.i64 (↑n : Int), Value.int IntKind.i64 (0 : Int), poi, poi, poi, poi, poi, poi, poi] = [poi, poi, poi, poi, poi, Value.slice (some { block := (0 : Nat), off := (0 : Nat) }) n c, Value.int IntKind.i64 (↑n : Int), Value.int IntKind.i64 (↑s : Int), poi, poi, poi, poi, poi, poi, poi] ∧ some (AObj.row (ints l) es more rw true) :: noH = some (AObj.row (ints l) es more rw true) :: noH) ∧ ∀ (s : Nat), Is (s ≤ List.length l ∧ fi (List.drop s l) = fi l) → br (decide ((↑s : Int) < (↑n : Int))) (Is ((0 : Int) ≤ (↑s : Int) ∧ (↑s : Int) < (↑n : Int)) ∧ Is ((ints l)[(0 : Nat) + Int.toNat (↑s : Int) * (1 : Nat)]? = some (Value.int IntKind.i64 (List.getD l ((0 : Nat) + Int.toNat (↑s : Int) * (1 : Nat)) (0 : Int)))) ∧ br (List.getD l ((0 : Nat) + Int.toNat (↑s : Int) * (1 : Nat)) (0 : Int) != (0 : Int)) (K (Value.int IntKind.i64 (List.getD l ((0 : Nat) + Int.toNat (↑s : Int) * (1 : Nat)) (0 : Int))) (some (AObj.row (ints l) es more rw true) :: noH)) (∃ (s' : Nat), Is (s' ≤ List.length l ∧ fi (List.drop s' l) = fi l) ∧ Is (List.length l - s' < List.length l - s) ∧ [poi, poi, poi, poi, poi, Value.slice (some { block := (0 : Nat), off := (0 : Nat) }) n c, Value.int IntKind.i64 (↑n : Int), Value.int IntKind.i64 (IntKind.wrap IntKind.i64 ((↑s : Int) + (1 : Int))), poi, poi, poi, poi, poi, poi, poi] = [poi, poi, poi, poi, poi, Value.slice (some { block := (0 : Nat), off := (0 : Nat) }) n c, Value.int IntKind.i64 (↑n : Int), Value.int IntKind.i64 (↑s' : Int), poi, poi, poi, poi, poi, poi, poi] ∧ some (AObj.row (ints l) es more rw true) :: noH = some (AObj.row (ints l) es more rw true) :: noH)) (K (Value.int IntKind.i64 (0 : Int)) (some (AObj.row (ints l) es more rw true) :: noH))) := by kernel_rfl
theorem whenI_t (b : Bool) (e : Int) (K : Value → Heap → Prop) :
    (fnP Tryz.prog c0 h0 (80 : FuncId) [Value.bool b, Value.int IntKind.i64 e] [] K) =
    (br b (K (Value.int IntKind.i64 e) noH) (K (Value.int IntKind.i64 (0 : Int)) noH)) := by kernel_rfl
theorem okWhenI : Ok Tryz.prog 80 orcWhen := by
  intro args H ret H' h
  unfold orcWhen at h
  split at h
  · cases h
    refine fnP_res hm c0_ok (hs := h0) ?_
    rw [whenI_t]
    exact br_of (fun h => by simp [wh, h]) (fun h => by simp [wh, h])
  · cases h
theorem okFirstI : Ok Tryz.prog 54 orcFirst := by
  intro args H ret H' h
  unfold orcFirst at h
  split at h
  · rename_i n c cells es more rw
    split at h
    · rename_i l hl
      split at h
      · rename_i hn
        cases h
        have := intsOf_eq hl
        subst this
        obtain ⟨hn, hlt⟩ := hn
        subst hn
        refine fnP_res hm c0_ok (hs := hFirst l l.length c es more rw) ?_
        rw [firstI_t]
        refine ⟨⟨(0 : Nat), ⟨by simp, by simp⟩, rfl, rfl⟩, fun s hs => ?_⟩
        obtain ⟨h1, h2⟩ := hs.out
        refine br_of (fun hc => ?_) (fun hc => ?_)
        · have hc : s < l.length := by simpa using hc
          refine ⟨⟨by omega, by omega⟩, ⟨by simpa using ints_at hc⟩, br_of (fun hd => ?_) (fun hd => ?_)⟩
          · have := fi_drop hc
            have hd' : l.getD s 0 ≠ 0 := by simpa using hd
            rw [if_neg hd'] at this
            simp [← h2, this]
          · have := fi_drop hc
            have hd' : l.getD s 0 = 0 := by simpa using hd
            rw [if_pos hd'] at this
            refine ⟨s + 1, ⟨hc, by rw [← this, h2]⟩, ⟨by omega⟩, ?_, rfl⟩
            rw [wrap_eq (by omega) (by omega)]
            rfl
        · have hc : l.length ≤ s := by simpa using hc
          have : s = l.length := by omega
          subst this
          simp [← h2, fi]
      · cases h
    · cases h
  · cases h
noncomputable def i1 : List (Nat × Orc) := [(80, orcWhen), (54, orcFirst)]
theorem i1_all : ∀ p ∈ i1, Ok Tryz.prog p.1 p.2 := all_cons okWhenI (all_cons okFirstI all_nil)
noncomputable def ci1 : CallF := ctx Tryz.prog i1
theorem ci1_ok : CallOK Tryz.prog ci1 := ctx_ok hm i1_all
theorem withinI_t (n : Int) (lo : Int) (hi : Int) (K : Value → Heap → Prop) :
    (fnP Tryz.prog ci1 h0 (81 : FuncId) [Value.int IntKind.i64 n, Value.int IntKind.i64 lo, Value.int IntKind.i64 hi] [] K) =
    (br (decide (n < lo)) (K (Value.int IntKind.i64 (3 : Int)) noH) (K (Value.int IntKind.i64 (wh (decide (hi < n)) (3 : Int))) noH)) := by kernel_rfl
theorem okWithinI : Ok Tryz.prog 81 orcWithin := by
  intro args H ret H' h
  unfold orcWithin at h
  split at h
  · cases h
    refine fnP_res hm ci1_ok (hs := h0) ?_
    rw [withinI_t]
    exact br_of (fun h => by simp [wi, of_decide_eq_true h]) (fun h => by simp [wi, wh, of_decide_eq_false h])
  · cases h
noncomputable def i2 : List (Nat × Orc) := (81, orcWithin) :: i1
theorem i2_all : ∀ p ∈ i2, Ok Tryz.prog p.1 p.2 := all_cons okWithinI i1_all
noncomputable def ci2 : CallF := ctx Tryz.prog i2
theorem ci2_ok : CallOK Tryz.prog ci2 := ctx_ok hm i2_all
set_option maxRecDepth 100000 in
theorem firstI_ok {l : List Int} {n c : Nat} {more rw' : Bool} (hn : l.length = n) (hlt : n ≤ 100000) :
    SmallRes Tryz.prog 54 [.slice (some ⟨0, 0, none⟩) n c] [some (.row (ints l) 1 more rw' true)] (.int .i64 (fi l)) [some (.row (ints l) 1 more rw' true)] := by
  subst hn
  refine fnP_res hm c0_ok (hs := hFirst l l.length c 1 more rw') ?_
  rw [firstI_t]
  refine ⟨⟨(0 : Nat), ⟨by simp, by simp⟩, rfl, rfl⟩, fun s hs => ?_⟩
  obtain ⟨h1, h2⟩ := hs.out
  refine br_of (fun hc => ?_) (fun hc => ?_)
  · have hc : s < l.length := by simpa using hc
    refine ⟨⟨by omega, by omega⟩, ⟨by simpa using ints_at hc⟩, br_of (fun hd => ?_) (fun hd => ?_)⟩
    · have := fi_drop hc
      have hd' : l.getD s 0 ≠ 0 := by simpa using hd
      rw [if_neg hd'] at this
      simp [← h2, this]
    · have := fi_drop hc
      have hd' : l.getD s 0 = 0 := by simpa using hd
      rw [if_pos hd'] at this
      refine ⟨s + 1, ⟨hc, by rw [← this, h2]⟩, ⟨by omega⟩, ?_, rfl⟩
      rw [wrap_eq (by omega) (by omega)]
      rfl
  · have hc : l.length ≤ s := by simpa using hc
    have : s = l.length := by omega
    subst this
    simp [← h2, fi]
noncomputable def orcFiI (l : List Int) : OrcV
  | [.slice (some ⟨0, 0, none⟩) n _], [some (.row e1 1 m w true)] => some (.int .i64 (fi l), [some (.row e1 1 m w true)], e1 = ints l ∧ l.length = n ∧ n ≤ 100000)
  | _, _ => none
theorem okFiI (l : List Int) : OkV Tryz.prog 54 (orcFiI l) := by
  intro args H ret H' vc h hv
  unfold orcFiI at h
  split at h
  · cases h
    obtain ⟨rfl, h1, h2⟩ := hv
    exact firstI_ok h1 h2
  · cases h
theorem wh_t (x : Nat) (K : Value → Heap → Prop) :
    (fnP Tryz.prog c0 hsFl0 (52 : FuncId) [Value.float FloatKind.f32 x] [] K) =
    (Is (fMulOk (1098907648 : Nat) x) ∧ Is (fIntOk (fMul (1098907648 : Nat) x)) ∧ K (Value.int IntKind.i64 (Sp.fInt (fMul (1098907648 : Nat) x))) noH) := by kernel_rfl
theorem pt_t (n : Int) (K : Value → Heap → Prop) :
    (fnP Tryz.prog c0 hsFl0 (51 : FuncId) [Value.int IntKind.i64 n] [] K) =
    (Is True ∧ Is (fDivOk (fOf n) (1098907648 : Nat)) ∧ K (Value.float FloatKind.f32 (fDiv (fOf n) (1098907648 : Nat))) noH) := by kernel_rfl
noncomputable def orcWl : OrcV
  | [.float .f32 x], [] => some (.int .i64 (lev x), [], sE x = 0)
  | _, _ => none
theorem okWl : OkV Tryz.prog 52 orcWl := by
  intro args H ret H' vc h hv
  unfold orcWl at h
  split at h
  · rename_i x
    cases h
    have hs := Fl.smp hv
    refine fnP_res hm c0_ok (hs := hsFl0) ?_
    rw [wh_t, Fl.mul_comm16 1098907648 x]
    exact ⟨⟨hs.m2⟩, ⟨hs.i1⟩, by first | trivial | rfl, by first | trivial | rfl⟩
  · cases h
noncomputable def orcPt : OrcV
  | [.int .i64 n], [] => some (.float .f32 (smO n), [], n.natAbs ≤ 16384)
  | _, _ => none
theorem okPt : OkV Tryz.prog 51 orcPt := by
  intro args H ret H' vc h hv
  unfold orcPt at h
  split at h
  · rename_i n
    cases h
    obtain ⟨d1, d2, d3⟩ := Fl.sm_ok (n := n) (by omega)
    refine fnP_res hm c0_ok (hs := hsFl0) ?_
    rw [pt_t]
    exact ⟨⟨trivial⟩, ⟨d1⟩, by first | trivial | rfl, by first | trivial | rfl⟩
  · cases h
noncomputable def hsTu1 : Hs Tryz.prog where
  au := auCalls [(52, hCa Tryz.prog 52 orcWl okWl), (51, hCa Tryz.prog 51 orcPt okPt)]
theorem tu1_t (x : Nat) (K : Value → Heap → Prop) :
    (fnP Tryz.prog c0 hsTu1 (50 : FuncId) [Value.float FloatKind.f32 x] [] K) =
    (Is (sE x = (0 : Int)) ∧ Is (Int.natAbs (IntKind.wrap IntKind.i64 ((0 : Int) - lev x)) ≤ (16384 : Nat)) ∧ K (Value.float FloatKind.f32 (smO (IntKind.wrap IntKind.i64 ((0 : Int) - lev x)))) noH) := by kernel_rfl
noncomputable def orcTu1 : OrcV
  | [.float .f32 x], [] => some (.float .f32 (tuO x), [], sE x = 0)
  | _, _ => none
theorem lev_few {x : Nat} (h : sE x = 0) : (lev x).natAbs ≤ 16384 := (Fl.smp h).few
theorem okTu1 : OkV Tryz.prog 50 orcTu1 := by
  intro args H ret H' vc h hv
  unfold orcTu1 at h
  split at h
  · rename_i x
    cases h
    have hf := lev_few hv
    refine fnP_res hm c0_ok (hs := hsTu1) ?_
    rw [tu1_t]
    have e : IntKind.wrap .i64 (0 - lev x) = -lev x := by rw [wrap_eq (by omega) (by omega)]; omega
    rw [e]
    exact ⟨⟨hv⟩, ⟨by omega⟩, by first | trivial | rfl, by first | trivial | rfl⟩
  · cases h
noncomputable def orcSm1V : OrcV
  | [.float .f32 x], [] => some (.int .i64 (sE x), [], True)
  | _, _ => none
theorem okSm1V : OkV Tryz.prog 66 orcSm1V := by
  intro args H ret H' vc h hv
  unfold orcSm1V at h
  split at h
  · cases h
    exact okSm1 _ _ _ _ rfl
  · cases h
/- The cells of lists. -/
theorem flts_add (a b : List Nat) : flts (a ++ b) = flts a ++ flts b := by rw [flts, List.map_append]; rfl
theorem take_oneF {xs : List Nat} {s : Nat} (h : s < xs.length) : xs.take (s + 1) = xs.take s ++ [xs.getD s 0] := by
  rw [List.take_add_one, List.getElem?_eq_getElem h, List.getD_eq_getElem?_getD, List.getElem?_eq_getElem h]; rfl
theorem take_oneI {xs : List Int} {s : Nat} (h : s < xs.length) : xs.take (s + 1) = xs.take s ++ [xs.getD s 0] := by
  rw [List.take_add_one, List.getElem?_eq_getElem h, List.getD_eq_getElem?_getD, List.getElem?_eq_getElem h]; rfl
/-- All samples are valid. -/
def allS (l : List Nat) : Prop := fi (l.map sE) = 0
/-- All integers are those of samples. -/
def fewI (l : List Int) : Prop := ∀ i, i < l.length → (l.getD i 0).natAbs ≤ 16384
noncomputable def fnMj : Value := .func (.func 66) #[] #[]
noncomputable def lpMj0 (l : List Nat) (n c : Nat) : Lp where
  σ := Nat
  E _ := slots 22 [(0, .slice (some ⟨0, 0, none⟩) n c), (1, fnMj), (5, .slice (some ⟨1, 0, none⟩) 0 0)]
  Hp _ := [fR l, oneR []]
  I s := s = 0
  m _ := 0
noncomputable def lpMj (l : List Nat) (n c : Nat) : Lp where
  σ := Nat
  E i := slots 22 [(1, fnMj), (5, .slice (some ⟨1, 0, none⟩) i 0), (8, .slice (some ⟨0, 0, none⟩) n c), (9, .int .i64 (Int.ofNat n)), (10, .int .i64 (Int.ofNat i))]
  Hp i := [fR l, oneR ((l.take i).map sE)]
  I i := i ≤ n
  m i := n - i
noncomputable def hsMj (l : List Nat) (n c : Nat) : Hs Tryz.prog where
  op y := if y = 400 then some (hIa Tryz.prog) else if y = 401 then some (hLd Tryz.prog (xF l)) else if y = 503 then some (hCa Tryz.prog 66 orcSm1V okSm1V) else if y = 505 then some (hAp Tryz.prog) else none
  cut y := if y = 2 then some (lpMj0 l n c) else none
  lp _ := some (lpMj l n c)
  cl y := if y = 2 then keep 22 [0, 1, 5] else keep 22 [1, 5, 8, 9, 10]
  nl y := if y = 2 then [.slot 5 1] else []
  au := au0 Tryz.prog
theorem mj_t (l : List Nat) (n : Nat) (c : Nat) (K : Value → Heap → Prop) :
    (fnP Tryz.prog c0 (hsMj l n c) (79 : FuncId) [Value.slice (some { block := (0 : Nat), off := (0 : Nat) }) n c, fnMj] [fR l] K) =
    ((∃ (s : Nat), Is (s = (0 : Nat)) ∧ [Value.slice (some { block := (0 : Nat), off := (0 : Nat) }) n c, Value.func (Fn.func (66 : Nat)) #[] #[], poi, poi, poi, Value.slice (some { block := (1 : Nat), off := (0 : Nat) }) (0 : Nat) (0 : Nat), poi, poi, poi, poi, poi, poi, poi, poi, poi, poi, poi, poi, poi, poi, poi, poi] = [Value.slice (some { block := (0 : Nat), off := (0 : Nat) }) n c, Value.func (Fn.func (66 : Nat)) #[] #[], poi, poi, poi, Value.slice (some { block := (1 : Nat), off := (0 : Nat) }) (0 : Nat) (0 : Nat), poi, poi, poi, poi, poi, poi, poi, poi, poi, poi, poi, poi, poi, poi, poi, poi] ∧ some (AObj.row (flts l) (1 : Nat) true true true) :: some (AObj.row [] (1 : Nat) true true true) :: noH = some (AObj.row (flts l) (1 : Nat) true true true) :: some (AObj.row [] (1 : Nat) true true true) :: noH) ∧ ∀ (s : Nat), Is (s = (0 : Nat)) → (∃ (s : Nat), Is (s ≤ n) ∧ [poi, Value.func (Fn.func (66 : Nat)) #[] #[], poi, poi, poi, Value.slice (some { block := (1 : Nat), off := (0 : Nat) }) (0 : Nat) (0 : Nat), poi, poi, Value.slice (some { block := (0 : Nat), off := (0 : Nat) }) n c, Value.int IntKind.i64 (↑n : Int), Value.int IntKind.i64 (0 : Int), poi, poi, poi, poi, poi, poi, poi, poi, poi, poi, poi] = [poi, Value.func (Fn.func (66 : Nat)) #[] #[], poi, poi, poi, Value.slice (some { block := (1 : Nat), off := (0 : Nat) }) s (0 : Nat), poi, poi, Value.slice (some { block := (0 : Nat), off := (0 : Nat) }) n c, Value.int IntKind.i64 (↑n : Int), Value.int IntKind.i64 (↑s : Int), poi, poi, poi, poi, poi, poi, poi, poi, poi, poi, poi] ∧ some (AObj.row (flts l) (1 : Nat) true true true) :: some (AObj.row [] (1 : Nat) true true true) :: noH = some (AObj.row (flts l) (1 : Nat) true true true) :: some (AObj.row (ints (List.map sE (List.take s l))) (1 : Nat) true true true) :: noH) ∧ ∀ (s : Nat), Is (s ≤ n) → br (decide ((↑s : Int) < (↑n : Int))) (Is ((0 : Int) ≤ (↑s : Int) ∧ (↑s : Int) < (↑n : Int)) ∧ Is ((flts l)[(0 : Nat) + Int.toNat (↑s : Int) * (1 : Nat)]? = some (Value.float FloatKind.f32 (List.getD l ((0 : Nat) + Int.toNat (↑s : Int) * (1 : Nat)) (0 : Nat)))) ∧ Is True ∧ Is (List.length (ints (List.map sE (List.take s l))) = s * (1 : Nat) ∧ (s + (1 : Nat)) * (8 : Nat) ≤ (140737488355328 : Nat) ∧ s + (1 : Nat) ≤ (9223372036854775807 : Nat)) ∧ ∃ (s' : Nat), Is (s' ≤ n) ∧ Is (n - s' < n - s) ∧ [poi, Value.func (Fn.func (66 : Nat)) #[] #[], poi, poi, poi, Value.slice (some { block := (1 : Nat), off := (0 : Nat) }) (s + (1 : Nat)) (0 : Nat), poi, poi, Value.slice (some { block := (0 : Nat), off := (0 : Nat) }) n c, Value.int IntKind.i64 (↑n : Int), Value.int IntKind.i64 (IntKind.wrap IntKind.i64 ((↑s : Int) + (1 : Int))), poi, poi, poi, poi, poi, poi, poi, poi, poi, poi, poi] = [poi, Value.func (Fn.func (66 : Nat)) #[] #[], poi, poi, poi, Value.slice (some { block := (1 : Nat), off := (0 : Nat) }) s' (0 : Nat), poi, poi, Value.slice (some { block := (0 : Nat), off := (0 : Nat) }) n c, Value.int IntKind.i64 (↑n : Int), Value.int IntKind.i64 (↑s' : Int), poi, poi, poi, poi, poi, poi, poi, poi, poi, poi, poi] ∧ some (AObj.row (flts l) (1 : Nat) true true true) :: some (AObj.row (ints (List.map sE (List.take s l)) ++ [Value.int IntKind.i64 (sE (List.getD l ((0 : Nat) + Int.toNat (↑s : Int) * (1 : Nat)) (0 : Nat)))]) (1 : Nat) true true (List.all [Value.int IntKind.i64 (sE (List.getD l ((0 : Nat) + Int.toNat (↑s : Int) * (1 : Nat)) (0 : Nat)))] atom)) :: noH = some (AObj.row (flts l) (1 : Nat) true true true) :: some (AObj.row (ints (List.map sE (List.take s' l))) (1 : Nat) true true true) :: noH) (K (Value.slice (some { block := (1 : Nat), off := (0 : Nat) }) s (0 : Nat)) (some (AObj.row (flts l) (1 : Nat) true true true) :: some (AObj.row (ints (List.map sE (List.take s l))) (1 : Nat) true true true) :: noH))) := by kernel_rfl
set_option maxRecDepth 100000 in
theorem mj_ok {l : List Nat} {n c : Nat} (hn : l.length = n) (h9 : n ≤ 100000) (_hx : True) :
    SmallRes Tryz.prog 79 [.slice (some ⟨0, 0, none⟩) n c, fnMj] [fR l] (.slice (some ⟨1, 0, none⟩) n 0) [fR l, oneR (l.map sE)] := by
  refine fnP_res hm c0_ok (hs := hsMj l n c) ?_
  rw [mj_t]
  refine ⟨⟨(0 : Nat), ⟨rfl⟩, by first | trivial | rfl, by first | trivial | rfl⟩, fun _ _ => ⟨⟨(0 : Nat), ⟨by omega⟩, by first | trivial | rfl, by first | trivial | rfl⟩, fun s hs' => br_of (fun hc => ?_) (fun hc => ?_)⟩⟩
  · have hc := lt_of_dec hc
    simp only [Nat.zero_add, Nat.mul_one, Int.toNat_natCast]
    refine ⟨⟨by omega, by omega⟩, ⟨flts_at (by omega)⟩, ⟨trivial⟩, ⟨by rw [ints_len, List.length_map, List.length_take]; omega, by omega, by omega⟩, s + 1, ⟨hc⟩, ⟨by omega⟩, ?_, ?_⟩
    · rw [up1 hc (by omega)]
    · rw [take_oneF (by omega), List.map_append, ← ints_app]; rfl
  · have hc := ge_of_dec hc
    have : s = n := by have := hs'.out; omega
    subst this
    rw [← hn, List.take_length]
    exact ⟨by first | trivial | rfl, by first | trivial | rfl⟩
noncomputable def orcMj (l : List Nat) : OrcV
  | [.slice (some ⟨0, 0, none⟩) n _, .func (.func 66) ⟨[]⟩ ⟨[]⟩], [some (.row e1 1 true true true)] => some (.slice (some ⟨1, 0, none⟩) n 0, [some (.row e1 1 true true true), oneR (l.map sE)], e1 = flts l ∧ l.length = n ∧ n ≤ 100000 ∧ True)
  | _, _ => none
theorem okMj (l : List Nat) : OkV Tryz.prog 79 (orcMj l) := by
  intro args H ret H' vc h hv
  unfold orcMj at h
  split at h
  · cases h
    obtain ⟨rfl, h1, h2, h3⟩ := hv
    exact mj_ok h1 h2 h3
  · cases h
noncomputable def fnMt : Value := .func (.func 50) #[] #[]
noncomputable def lpMt0 (l : List Nat) (n c : Nat) : Lp where
  σ := Nat
  E _ := slots 22 [(0, .slice (some ⟨0, 0, none⟩) n c), (1, fnMt), (5, .slice (some ⟨1, 0, none⟩) 0 0)]
  Hp _ := [fR l, fR []]
  I s := s = 0
  m _ := 0
noncomputable def lpMt (l : List Nat) (n c : Nat) : Lp where
  σ := Nat
  E i := slots 22 [(1, fnMt), (5, .slice (some ⟨1, 0, none⟩) i 0), (8, .slice (some ⟨0, 0, none⟩) n c), (9, .int .i64 (Int.ofNat n)), (10, .int .i64 (Int.ofNat i))]
  Hp i := [fR l, fR ((l.take i).map tuO)]
  I i := i ≤ n
  m i := n - i
noncomputable def hsMt (l : List Nat) (n c : Nat) : Hs Tryz.prog where
  op y := if y = 400 then some (hIa Tryz.prog) else if y = 401 then some (hLd Tryz.prog (xF l)) else if y = 503 then some (hCa Tryz.prog 50 orcTu1 okTu1) else if y = 505 then some (hAp Tryz.prog) else none
  cut y := if y = 2 then some (lpMt0 l n c) else none
  lp _ := some (lpMt l n c)
  cl y := if y = 2 then keep 22 [0, 1, 5] else keep 22 [1, 5, 8, 9, 10]
  nl y := if y = 2 then [.slot 5 1] else []
  au := au0 Tryz.prog
theorem mt_t (l : List Nat) (n : Nat) (c : Nat) (K : Value → Heap → Prop) :
    (fnP Tryz.prog c0 (hsMt l n c) (49 : FuncId) [Value.slice (some { block := (0 : Nat), off := (0 : Nat) }) n c, fnMt] [fR l] K) =
    ((∃ (s : Nat), Is (s = (0 : Nat)) ∧ [Value.slice (some { block := (0 : Nat), off := (0 : Nat) }) n c, Value.func (Fn.func (50 : Nat)) #[] #[], poi, poi, poi, Value.slice (some { block := (1 : Nat), off := (0 : Nat) }) (0 : Nat) (0 : Nat), poi, poi, poi, poi, poi, poi, poi, poi, poi, poi, poi, poi, poi, poi, poi, poi] = [Value.slice (some { block := (0 : Nat), off := (0 : Nat) }) n c, Value.func (Fn.func (50 : Nat)) #[] #[], poi, poi, poi, Value.slice (some { block := (1 : Nat), off := (0 : Nat) }) (0 : Nat) (0 : Nat), poi, poi, poi, poi, poi, poi, poi, poi, poi, poi, poi, poi, poi, poi, poi, poi] ∧ some (AObj.row (flts l) (1 : Nat) true true true) :: some (AObj.row [] (1 : Nat) true true true) :: noH = some (AObj.row (flts l) (1 : Nat) true true true) :: some (AObj.row [] (1 : Nat) true true true) :: noH) ∧ ∀ (s : Nat), Is (s = (0 : Nat)) → (∃ (s : Nat), Is (s ≤ n) ∧ [poi, Value.func (Fn.func (50 : Nat)) #[] #[], poi, poi, poi, Value.slice (some { block := (1 : Nat), off := (0 : Nat) }) (0 : Nat) (0 : Nat), poi, poi, Value.slice (some { block := (0 : Nat), off := (0 : Nat) }) n c, Value.int IntKind.i64 (↑n : Int), Value.int IntKind.i64 (0 : Int), poi, poi, poi, poi, poi, poi, poi, poi, poi, poi, poi] = [poi, Value.func (Fn.func (50 : Nat)) #[] #[], poi, poi, poi, Value.slice (some { block := (1 : Nat), off := (0 : Nat) }) s (0 : Nat), poi, poi, Value.slice (some { block := (0 : Nat), off := (0 : Nat) }) n c, Value.int IntKind.i64 (↑n : Int), Value.int IntKind.i64 (↑s : Int), poi, poi, poi, poi, poi, poi, poi, poi, poi, poi, poi] ∧ some (AObj.row (flts l) (1 : Nat) true true true) :: some (AObj.row [] (1 : Nat) true true true) :: noH = some (AObj.row (flts l) (1 : Nat) true true true) :: some (AObj.row (flts (List.map tuO (List.take s l))) (1 : Nat) true true true) :: noH) ∧ ∀ (s : Nat), Is (s ≤ n) → br (decide ((↑s : Int) < (↑n : Int))) (Is ((0 : Int) ≤ (↑s : Int) ∧ (↑s : Int) < (↑n : Int)) ∧ Is ((flts l)[(0 : Nat) + Int.toNat (↑s : Int) * (1 : Nat)]? = some (Value.float FloatKind.f32 (List.getD l ((0 : Nat) + Int.toNat (↑s : Int) * (1 : Nat)) (0 : Nat)))) ∧ Is (sE (List.getD l ((0 : Nat) + Int.toNat (↑s : Int) * (1 : Nat)) (0 : Nat)) = (0 : Int)) ∧ Is (List.length (flts (List.map tuO (List.take s l))) = s * (1 : Nat) ∧ (s + (1 : Nat)) * (4 : Nat) ≤ (140737488355328 : Nat) ∧ s + (1 : Nat) ≤ (9223372036854775807 : Nat)) ∧ ∃ (s' : Nat), Is (s' ≤ n) ∧ Is (n - s' < n - s) ∧ [poi, Value.func (Fn.func (50 : Nat)) #[] #[], poi, poi, poi, Value.slice (some { block := (1 : Nat), off := (0 : Nat) }) (s + (1 : Nat)) (0 : Nat), poi, poi, Value.slice (some { block := (0 : Nat), off := (0 : Nat) }) n c, Value.int IntKind.i64 (↑n : Int), Value.int IntKind.i64 (IntKind.wrap IntKind.i64 ((↑s : Int) + (1 : Int))), poi, poi, poi, poi, poi, poi, poi, poi, poi, poi, poi] = [poi, Value.func (Fn.func (50 : Nat)) #[] #[], poi, poi, poi, Value.slice (some { block := (1 : Nat), off := (0 : Nat) }) s' (0 : Nat), poi, poi, Value.slice (some { block := (0 : Nat), off := (0 : Nat) }) n c, Value.int IntKind.i64 (↑n : Int), Value.int IntKind.i64 (↑s' : Int), poi, poi, poi, poi, poi, poi, poi, poi, poi, poi, poi] ∧ some (AObj.row (flts l) (1 : Nat) true true true) :: some (AObj.row (flts (List.map tuO (List.take s l)) ++ [Value.float FloatKind.f32 (tuO (List.getD l ((0 : Nat) + Int.toNat (↑s : Int) * (1 : Nat)) (0 : Nat)))]) (1 : Nat) true true (List.all [Value.float FloatKind.f32 (tuO (List.getD l ((0 : Nat) + Int.toNat (↑s : Int) * (1 : Nat)) (0 : Nat)))] atom)) :: noH = some (AObj.row (flts l) (1 : Nat) true true true) :: some (AObj.row (flts (List.map tuO (List.take s' l))) (1 : Nat) true true true) :: noH) (K (Value.slice (some { block := (1 : Nat), off := (0 : Nat) }) s (0 : Nat)) (some (AObj.row (flts l) (1 : Nat) true true true) :: some (AObj.row (flts (List.map tuO (List.take s l))) (1 : Nat) true true true) :: noH))) := by kernel_rfl
set_option maxRecDepth 100000 in
theorem mt_ok {l : List Nat} {n c : Nat} (hn : l.length = n) (h9 : n ≤ 100000) (hx : allS l) :
    SmallRes Tryz.prog 49 [.slice (some ⟨0, 0, none⟩) n c, fnMt] [fR l] (.slice (some ⟨1, 0, none⟩) n 0) [fR l, fR (l.map tuO)] := by
  refine fnP_res hm c0_ok (hs := hsMt l n c) ?_
  rw [mt_t]
  refine ⟨⟨(0 : Nat), ⟨rfl⟩, by first | trivial | rfl, by first | trivial | rfl⟩, fun _ _ => ⟨⟨(0 : Nat), ⟨by omega⟩, by first | trivial | rfl, by first | trivial | rfl⟩, fun s hs' => br_of (fun hc => ?_) (fun hc => ?_)⟩⟩
  · have hc := lt_of_dec hc
    simp only [Nat.zero_add, Nat.mul_one, Int.toNat_natCast]
    refine ⟨⟨by omega, by omega⟩, ⟨flts_at (by omega)⟩, ⟨smps hx (by omega)⟩, ⟨by rw [flts_len, List.length_map, List.length_take]; omega, by omega, by omega⟩, s + 1, ⟨hc⟩, ⟨by omega⟩, ?_, ?_⟩
    · rw [up1 hc (by omega)]
    · rw [take_oneF (by omega), List.map_append, flts_add]; rfl
  · have hc := ge_of_dec hc
    have : s = n := by have := hs'.out; omega
    subst this
    rw [← hn, List.take_length]
    exact ⟨by first | trivial | rfl, by first | trivial | rfl⟩
noncomputable def orcMt (l : List Nat) : OrcV
  | [.slice (some ⟨0, 0, none⟩) n _, .func (.func 50) ⟨[]⟩ ⟨[]⟩], [some (.row e1 1 true true true)] => some (.slice (some ⟨1, 0, none⟩) n 0, [some (.row e1 1 true true true), fR (l.map tuO)], e1 = flts l ∧ l.length = n ∧ n ≤ 100000 ∧ allS l)
  | _, _ => none
theorem okMt (l : List Nat) : OkV Tryz.prog 49 (orcMt l) := by
  intro args H ret H' vc h hv
  unfold orcMt at h
  split at h
  · cases h
    obtain ⟨rfl, h1, h2, h3⟩ := hv
    exact mt_ok h1 h2 h3
  · cases h
noncomputable def fnMw : Value := .func (.func 52) #[] #[]
noncomputable def lpMw0 (l : List Nat) (n c : Nat) : Lp where
  σ := Nat
  E _ := slots 22 [(0, .slice (some ⟨0, 0, none⟩) n c), (1, fnMw), (5, .slice (some ⟨1, 0, none⟩) 0 0)]
  Hp _ := [fR l, oneR []]
  I s := s = 0
  m _ := 0
noncomputable def lpMw (l : List Nat) (n c : Nat) : Lp where
  σ := Nat
  E i := slots 22 [(1, fnMw), (5, .slice (some ⟨1, 0, none⟩) i 0), (8, .slice (some ⟨0, 0, none⟩) n c), (9, .int .i64 (Int.ofNat n)), (10, .int .i64 (Int.ofNat i))]
  Hp i := [fR l, oneR ((l.take i).map lev)]
  I i := i ≤ n
  m i := n - i
noncomputable def hsMw (l : List Nat) (n c : Nat) : Hs Tryz.prog where
  op y := if y = 400 then some (hIa Tryz.prog) else if y = 401 then some (hLd Tryz.prog (xF l)) else if y = 503 then some (hCa Tryz.prog 52 orcWl okWl) else if y = 505 then some (hAp Tryz.prog) else none
  cut y := if y = 2 then some (lpMw0 l n c) else none
  lp _ := some (lpMw l n c)
  cl y := if y = 2 then keep 22 [0, 1, 5] else keep 22 [1, 5, 8, 9, 10]
  nl y := if y = 2 then [.slot 5 1] else []
  au := au0 Tryz.prog
theorem mw_t (l : List Nat) (n : Nat) (c : Nat) (K : Value → Heap → Prop) :
    (fnP Tryz.prog c0 (hsMw l n c) (83 : FuncId) [Value.slice (some { block := (0 : Nat), off := (0 : Nat) }) n c, fnMw] [fR l] K) =
    ((∃ (s : Nat), Is (s = (0 : Nat)) ∧ [Value.slice (some { block := (0 : Nat), off := (0 : Nat) }) n c, Value.func (Fn.func (52 : Nat)) #[] #[], poi, poi, poi, Value.slice (some { block := (1 : Nat), off := (0 : Nat) }) (0 : Nat) (0 : Nat), poi, poi, poi, poi, poi, poi, poi, poi, poi, poi, poi, poi, poi, poi, poi, poi] = [Value.slice (some { block := (0 : Nat), off := (0 : Nat) }) n c, Value.func (Fn.func (52 : Nat)) #[] #[], poi, poi, poi, Value.slice (some { block := (1 : Nat), off := (0 : Nat) }) (0 : Nat) (0 : Nat), poi, poi, poi, poi, poi, poi, poi, poi, poi, poi, poi, poi, poi, poi, poi, poi] ∧ some (AObj.row (flts l) (1 : Nat) true true true) :: some (AObj.row [] (1 : Nat) true true true) :: noH = some (AObj.row (flts l) (1 : Nat) true true true) :: some (AObj.row [] (1 : Nat) true true true) :: noH) ∧ ∀ (s : Nat), Is (s = (0 : Nat)) → (∃ (s : Nat), Is (s ≤ n) ∧ [poi, Value.func (Fn.func (52 : Nat)) #[] #[], poi, poi, poi, Value.slice (some { block := (1 : Nat), off := (0 : Nat) }) (0 : Nat) (0 : Nat), poi, poi, Value.slice (some { block := (0 : Nat), off := (0 : Nat) }) n c, Value.int IntKind.i64 (↑n : Int), Value.int IntKind.i64 (0 : Int), poi, poi, poi, poi, poi, poi, poi, poi, poi, poi, poi] = [poi, Value.func (Fn.func (52 : Nat)) #[] #[], poi, poi, poi, Value.slice (some { block := (1 : Nat), off := (0 : Nat) }) s (0 : Nat), poi, poi, Value.slice (some { block := (0 : Nat), off := (0 : Nat) }) n c, Value.int IntKind.i64 (↑n : Int), Value.int IntKind.i64 (↑s : Int), poi, poi, poi, poi, poi, poi, poi, poi, poi, poi, poi] ∧ some (AObj.row (flts l) (1 : Nat) true true true) :: some (AObj.row [] (1 : Nat) true true true) :: noH = some (AObj.row (flts l) (1 : Nat) true true true) :: some (AObj.row (ints (List.map lev (List.take s l))) (1 : Nat) true true true) :: noH) ∧ ∀ (s : Nat), Is (s ≤ n) → br (decide ((↑s : Int) < (↑n : Int))) (Is ((0 : Int) ≤ (↑s : Int) ∧ (↑s : Int) < (↑n : Int)) ∧ Is ((flts l)[(0 : Nat) + Int.toNat (↑s : Int) * (1 : Nat)]? = some (Value.float FloatKind.f32 (List.getD l ((0 : Nat) + Int.toNat (↑s : Int) * (1 : Nat)) (0 : Nat)))) ∧ Is (sE (List.getD l ((0 : Nat) + Int.toNat (↑s : Int) * (1 : Nat)) (0 : Nat)) = (0 : Int)) ∧ Is (List.length (ints (List.map lev (List.take s l))) = s * (1 : Nat) ∧ (s + (1 : Nat)) * (8 : Nat) ≤ (140737488355328 : Nat) ∧ s + (1 : Nat) ≤ (9223372036854775807 : Nat)) ∧ ∃ (s' : Nat), Is (s' ≤ n) ∧ Is (n - s' < n - s) ∧ [poi, Value.func (Fn.func (52 : Nat)) #[] #[], poi, poi, poi, Value.slice (some { block := (1 : Nat), off := (0 : Nat) }) (s + (1 : Nat)) (0 : Nat), poi, poi, Value.slice (some { block := (0 : Nat), off := (0 : Nat) }) n c, Value.int IntKind.i64 (↑n : Int), Value.int IntKind.i64 (IntKind.wrap IntKind.i64 ((↑s : Int) + (1 : Int))), poi, poi, poi, poi, poi, poi, poi, poi, poi, poi, poi] = [poi, Value.func (Fn.func (52 : Nat)) #[] #[], poi, poi, poi, Value.slice (some { block := (1 : Nat), off := (0 : Nat) }) s' (0 : Nat), poi, poi, Value.slice (some { block := (0 : Nat), off := (0 : Nat) }) n c, Value.int IntKind.i64 (↑n : Int), Value.int IntKind.i64 (↑s' : Int), poi, poi, poi, poi, poi, poi, poi, poi, poi, poi, poi] ∧ some (AObj.row (flts l) (1 : Nat) true true true) :: some (AObj.row (ints (List.map lev (List.take s l)) ++ [Value.int IntKind.i64 (lev (List.getD l ((0 : Nat) + Int.toNat (↑s : Int) * (1 : Nat)) (0 : Nat)))]) (1 : Nat) true true (List.all [Value.int IntKind.i64 (lev (List.getD l ((0 : Nat) + Int.toNat (↑s : Int) * (1 : Nat)) (0 : Nat)))] atom)) :: noH = some (AObj.row (flts l) (1 : Nat) true true true) :: some (AObj.row (ints (List.map lev (List.take s' l))) (1 : Nat) true true true) :: noH) (K (Value.slice (some { block := (1 : Nat), off := (0 : Nat) }) s (0 : Nat)) (some (AObj.row (flts l) (1 : Nat) true true true) :: some (AObj.row (ints (List.map lev (List.take s l))) (1 : Nat) true true true) :: noH))) := by kernel_rfl
set_option maxRecDepth 100000 in
theorem mw_ok {l : List Nat} {n c : Nat} (hn : l.length = n) (h9 : n ≤ 100000) (hx : allS l) :
    SmallRes Tryz.prog 83 [.slice (some ⟨0, 0, none⟩) n c, fnMw] [fR l] (.slice (some ⟨1, 0, none⟩) n 0) [fR l, oneR (l.map lev)] := by
  refine fnP_res hm c0_ok (hs := hsMw l n c) ?_
  rw [mw_t]
  refine ⟨⟨(0 : Nat), ⟨rfl⟩, by first | trivial | rfl, by first | trivial | rfl⟩, fun _ _ => ⟨⟨(0 : Nat), ⟨by omega⟩, by first | trivial | rfl, by first | trivial | rfl⟩, fun s hs' => br_of (fun hc => ?_) (fun hc => ?_)⟩⟩
  · have hc := lt_of_dec hc
    simp only [Nat.zero_add, Nat.mul_one, Int.toNat_natCast]
    refine ⟨⟨by omega, by omega⟩, ⟨flts_at (by omega)⟩, ⟨smps hx (by omega)⟩, ⟨by rw [ints_len, List.length_map, List.length_take]; omega, by omega, by omega⟩, s + 1, ⟨hc⟩, ⟨by omega⟩, ?_, ?_⟩
    · rw [up1 hc (by omega)]
    · rw [take_oneF (by omega), List.map_append, ← ints_app]; rfl
  · have hc := ge_of_dec hc
    have : s = n := by have := hs'.out; omega
    subst this
    rw [← hn, List.take_length]
    exact ⟨by first | trivial | rfl, by first | trivial | rfl⟩
noncomputable def orcMw (l : List Nat) : OrcV
  | [.slice (some ⟨0, 0, none⟩) n _, .func (.func 52) ⟨[]⟩ ⟨[]⟩], [some (.row e1 1 true true true)] => some (.slice (some ⟨1, 0, none⟩) n 0, [some (.row e1 1 true true true), oneR (l.map lev)], e1 = flts l ∧ l.length = n ∧ n ≤ 100000 ∧ allS l)
  | _, _ => none
theorem okMw (l : List Nat) : OkV Tryz.prog 83 (orcMw l) := by
  intro args H ret H' vc h hv
  unfold orcMw at h
  split at h
  · cases h
    obtain ⟨rfl, h1, h2, h3⟩ := hv
    exact mw_ok h1 h2 h3
  · cases h
noncomputable def fnMp : Value := .func (.func 51) #[] #[]
noncomputable def lpMp0 (l : List Int) (n c : Nat) : Lp where
  σ := Nat
  E _ := slots 22 [(0, .slice (some ⟨0, 0, none⟩) n c), (1, fnMp), (5, .slice (some ⟨1, 0, none⟩) 0 0)]
  Hp _ := [oneR l, fR []]
  I s := s = 0
  m _ := 0
noncomputable def lpMpZ9 (l : List Int) (n c : Nat) : Lp where
  σ := Nat
  E i := slots 22 [(1, fnMp), (5, .slice (some ⟨1, 0, none⟩) i 0), (8, .slice (some ⟨0, 0, none⟩) n c), (9, .int .i64 (Int.ofNat n)), (10, .int .i64 (Int.ofNat i))]
  Hp i := [oneR l, fR ((l.take i).map smO)]
  I i := i ≤ n
  m i := n - i
noncomputable def hsMpZ9 (l : List Int) (n c : Nat) : Hs Tryz.prog where
  op y := if y = 400 then some (hIa Tryz.prog) else if y = 401 then some (hLd Tryz.prog (zI l)) else if y = 503 then some (hCa Tryz.prog 51 orcPt okPt) else if y = 505 then some (hAp Tryz.prog) else none
  cut y := if y = 2 then some (lpMp0 l n c) else none
  lp _ := some (lpMpZ9 l n c)
  cl y := if y = 2 then keep 22 [0, 1, 5] else keep 22 [1, 5, 8, 9, 10]
  nl y := if y = 2 then [.slot 5 1] else []
  au := au0 Tryz.prog
theorem mp_tZ9 (l : List Int) (n : Nat) (c : Nat) (K : Value → Heap → Prop) :
    (fnP Tryz.prog c0 (hsMpZ9 l n c) (82 : FuncId) [Value.slice (some { block := (0 : Nat), off := (0 : Nat) }) n c, fnMp] [oneR l] K) =
    ((∃ (s : Nat), Is (s = (0 : Nat)) ∧ [Value.slice (some { block := (0 : Nat), off := (0 : Nat) }) n c, Value.func (Fn.func (51 : Nat)) #[] #[], poi, poi, poi, Value.slice (some { block := (1 : Nat), off := (0 : Nat) }) (0 : Nat) (0 : Nat), poi, poi, poi, poi, poi, poi, poi, poi, poi, poi, poi, poi, poi, poi, poi, poi] = [Value.slice (some { block := (0 : Nat), off := (0 : Nat) }) n c, Value.func (Fn.func (51 : Nat)) #[] #[], poi, poi, poi, Value.slice (some { block := (1 : Nat), off := (0 : Nat) }) (0 : Nat) (0 : Nat), poi, poi, poi, poi, poi, poi, poi, poi, poi, poi, poi, poi, poi, poi, poi, poi] ∧ some (AObj.row (ints l) (1 : Nat) true true true) :: some (AObj.row [] (1 : Nat) true true true) :: noH = some (AObj.row (ints l) (1 : Nat) true true true) :: some (AObj.row [] (1 : Nat) true true true) :: noH) ∧ ∀ (s : Nat), Is (s = (0 : Nat)) → (∃ (s : Nat), Is (s ≤ n) ∧ [poi, Value.func (Fn.func (51 : Nat)) #[] #[], poi, poi, poi, Value.slice (some { block := (1 : Nat), off := (0 : Nat) }) (0 : Nat) (0 : Nat), poi, poi, Value.slice (some { block := (0 : Nat), off := (0 : Nat) }) n c, Value.int IntKind.i64 (↑n : Int), Value.int IntKind.i64 (0 : Int), poi, poi, poi, poi, poi, poi, poi, poi, poi, poi, poi] = [poi, Value.func (Fn.func (51 : Nat)) #[] #[], poi, poi, poi, Value.slice (some { block := (1 : Nat), off := (0 : Nat) }) s (0 : Nat), poi, poi, Value.slice (some { block := (0 : Nat), off := (0 : Nat) }) n c, Value.int IntKind.i64 (↑n : Int), Value.int IntKind.i64 (↑s : Int), poi, poi, poi, poi, poi, poi, poi, poi, poi, poi, poi] ∧ some (AObj.row (ints l) (1 : Nat) true true true) :: some (AObj.row [] (1 : Nat) true true true) :: noH = some (AObj.row (ints l) (1 : Nat) true true true) :: some (AObj.row (flts (List.map smO (List.take s l))) (1 : Nat) true true true) :: noH) ∧ ∀ (s : Nat), Is (s ≤ n) → br (decide ((↑s : Int) < (↑n : Int))) (Is ((0 : Int) ≤ (↑s : Int) ∧ (↑s : Int) < (↑n : Int)) ∧ Is ((ints l)[(0 : Nat) + Int.toNat (↑s : Int) * (1 : Nat)]? = some (Value.int IntKind.i64 (List.getD l ((0 : Nat) + Int.toNat (↑s : Int) * (1 : Nat)) (0 : Int)))) ∧ Is (Int.natAbs (List.getD l ((0 : Nat) + Int.toNat (↑s : Int) * (1 : Nat)) (0 : Int)) ≤ (16384 : Nat)) ∧ Is (List.length (flts (List.map smO (List.take s l))) = s * (1 : Nat) ∧ (s + (1 : Nat)) * (4 : Nat) ≤ (140737488355328 : Nat) ∧ s + (1 : Nat) ≤ (9223372036854775807 : Nat)) ∧ ∃ (s' : Nat), Is (s' ≤ n) ∧ Is (n - s' < n - s) ∧ [poi, Value.func (Fn.func (51 : Nat)) #[] #[], poi, poi, poi, Value.slice (some { block := (1 : Nat), off := (0 : Nat) }) (s + (1 : Nat)) (0 : Nat), poi, poi, Value.slice (some { block := (0 : Nat), off := (0 : Nat) }) n c, Value.int IntKind.i64 (↑n : Int), Value.int IntKind.i64 (IntKind.wrap IntKind.i64 ((↑s : Int) + (1 : Int))), poi, poi, poi, poi, poi, poi, poi, poi, poi, poi, poi] = [poi, Value.func (Fn.func (51 : Nat)) #[] #[], poi, poi, poi, Value.slice (some { block := (1 : Nat), off := (0 : Nat) }) s' (0 : Nat), poi, poi, Value.slice (some { block := (0 : Nat), off := (0 : Nat) }) n c, Value.int IntKind.i64 (↑n : Int), Value.int IntKind.i64 (↑s' : Int), poi, poi, poi, poi, poi, poi, poi, poi, poi, poi, poi] ∧ some (AObj.row (ints l) (1 : Nat) true true true) :: some (AObj.row (flts (List.map smO (List.take s l)) ++ [Value.float FloatKind.f32 (smO (List.getD l ((0 : Nat) + Int.toNat (↑s : Int) * (1 : Nat)) (0 : Int)))]) (1 : Nat) true true (List.all [Value.float FloatKind.f32 (smO (List.getD l ((0 : Nat) + Int.toNat (↑s : Int) * (1 : Nat)) (0 : Int)))] atom)) :: noH = some (AObj.row (ints l) (1 : Nat) true true true) :: some (AObj.row (flts (List.map smO (List.take s' l))) (1 : Nat) true true true) :: noH) (K (Value.slice (some { block := (1 : Nat), off := (0 : Nat) }) s (0 : Nat)) (some (AObj.row (ints l) (1 : Nat) true true true) :: some (AObj.row (flts (List.map smO (List.take s l))) (1 : Nat) true true true) :: noH))) := by kernel_rfl
set_option maxRecDepth 100000 in
theorem mp_okZ9 {l : List Int} {n c : Nat} (hn : l.length = n) (h9 : n ≤ 100000) (hx : fewI l) :
    SmallRes Tryz.prog 82 [.slice (some ⟨0, 0, none⟩) n c, fnMp] [oneR l] (.slice (some ⟨1, 0, none⟩) n 0) [oneR l, fR (l.map smO)] := by
  refine fnP_res hm c0_ok (hs := hsMpZ9 l n c) ?_
  rw [mp_tZ9]
  refine ⟨⟨(0 : Nat), ⟨rfl⟩, by first | trivial | rfl, by first | trivial | rfl⟩, fun _ _ => ⟨⟨(0 : Nat), ⟨by omega⟩, by first | trivial | rfl, by first | trivial | rfl⟩, fun s hs' => br_of (fun hc => ?_) (fun hc => ?_)⟩⟩
  · have hc := lt_of_dec hc
    simp only [Nat.zero_add, Nat.mul_one, Int.toNat_natCast]
    refine ⟨⟨by omega, by omega⟩, ⟨zint_at (by omega)⟩, ⟨hx _ (by omega)⟩, ⟨by rw [flts_len, List.length_map, List.length_take]; omega, by omega, by omega⟩, s + 1, ⟨hc⟩, ⟨by omega⟩, ?_, ?_⟩
    · rw [up1 hc (by omega)]
    · rw [take_oneI (by omega), List.map_append, flts_add]; rfl
  · have hc := ge_of_dec hc
    have : s = n := by have := hs'.out; omega
    subst this
    rw [← hn, List.take_length]
    exact ⟨by first | trivial | rfl, by first | trivial | rfl⟩
noncomputable def orcMp (l : List Int) : OrcV
  | [.slice (some ⟨0, 0, none⟩) n _, .func (.func 51) ⟨[]⟩ ⟨[]⟩], [some (.row e1 1 true true true)] => some (.slice (some ⟨1, 0, none⟩) n 0, [some (.row e1 1 true true true), fR (l.map smO)], e1 = ints l ∧ l.length = n ∧ n ≤ 100000 ∧ fewI l)
  | _, _ => none
theorem okMp (l : List Int) : OkV Tryz.prog 82 (orcMp l) := by
  intro args H ret H' vc h hv
  unfold orcMp at h
  split at h
  · cases h
    obtain ⟨rfl, h1, h2, h3⟩ := hv
    exact mp_okZ9 h1 h2 h3
  · cases h
end
end Qq
end
section
/- Signals: checked, turned, as integers and back. -/
open Go Go.Vm Go.Proofs Sp
namespace Sp
noncomputable section
/-- A list, of which the first s and the last s are exchanged. -/
noncomputable def rvF (xs : List Nat) (s : Nat) (k : Nat) : Nat := if k < s ∨ xs.length ≤ k + s then xs.getD (xs.length - 1 - k) 0 else xs.getD k 0
noncomputable def rvL (xs : List Nat) : List Nat := (List.range xs.length).map fun k => xs.getD (xs.length - 1 - k) 0
/-- The error of a signal. -/
noncomputable def sgE (xs : List Nat) (n : Nat) : Int := if (4096 : Int) < n then 5 else fi (xs.map sE)
/-- Second differences. -/
noncomputable def bnD (l : List Int) (k : Nat) : Int := l.getD k 0 - 2 * l.getD (k + 1) 0 + l.getD (k + 2) 0
noncomputable def bnL (l : List Int) (m : Nat) : List Int := (List.range m).map (bnD l)
end
end Sp
namespace Qq
noncomputable section
noncomputable def lpRf (xs : List Nat) (n c : Nat) : Lp where
  σ := Nat
  E s := slots 28 [(0, .slice (some ⟨0, 0, none⟩) n c), (2, .int .i64 (Int.ofNat s)), (3, .int .i64 ((n : Int) - 1 - s))]
  Hp s := [fR ((List.range n).map (rvF xs s))]
  I s := 2 * s ≤ n
  m s := n - s
noncomputable def hsRfZ9 (xs : List Nat) (n c : Nat) : Hs Tryz.prog where
  op y := if [306, 310, 312, 314].contains y then some (hIa Tryz.prog) else if [307, 311].contains y then some (hLd Tryz.prog (xF xs)) else if [313, 315].contains y then some (hSp Tryz.prog) else none
  lp _ := some (lpRf xs n c)
  cl _ := keep 28 [0, 2, 3]
  au := au0 Tryz.prog
theorem rvf_t (xs : List Nat) (n : Nat) (c : Nat) (K : Value → Heap → Prop) :
    (fnP Tryz.prog c0 (hsRfZ9 xs n c) (53 : FuncId) [Value.slice (some { block := (0 : Nat), off := (0 : Nat) }) n c] [fR xs] K) =
    ((∃ (s : Nat), Is ((2 : Nat) * s ≤ n) ∧ [Value.slice (some { block := (0 : Nat), off := (0 : Nat) }) n c, poi, Value.int IntKind.i64 (0 : Int), Value.int IntKind.i64 (IntKind.wrap IntKind.i64 ((↑n : Int) - (1 : Int))), poi, poi, poi, poi, poi, poi, poi, poi, poi, poi, poi, poi, poi, poi, poi, poi, poi, poi, poi, poi, poi, poi, poi, poi] = [Value.slice (some { block := (0 : Nat), off := (0 : Nat) }) n c, poi, Value.int IntKind.i64 (↑s : Int), Value.int IntKind.i64 ((↑n : Int) - (1 : Int) - (↑s : Int)), poi, poi, poi, poi, poi, poi, poi, poi, poi, poi, poi, poi, poi, poi, poi, poi, poi, poi, poi, poi, poi, poi, poi, poi] ∧ some (AObj.row (flts xs) (1 : Nat) true true true) :: noH = some (AObj.row (flts (List.map (rvF xs s) (List.range n))) (1 : Nat) true true true) :: noH) ∧ ∀ (s : Nat), Is ((2 : Nat) * s ≤ n) → br (decide ((↑s : Int) < (↑n : Int) - (1 : Int) - (↑s : Int))) (Is ((0 : Int) ≤ (↑n : Int) - (1 : Int) - (↑s : Int) ∧ (↑n : Int) - (1 : Int) - (↑s : Int) < (↑n : Int)) ∧ Is ((flts (List.map (rvF xs s) (List.range n)))[(0 : Nat) + Int.toNat ((↑n : Int) - (1 : Int) - (↑s : Int)) * (1 : Nat)]? = some (Value.float FloatKind.f32 (List.getD xs ((0 : Nat) + Int.toNat ((↑n : Int) - (1 : Int) - (↑s : Int)) * (1 : Nat)) (0 : Nat)))) ∧ Is ((0 : Int) ≤ (↑s : Int) ∧ (↑s : Int) < (↑n : Int)) ∧ Is ((flts (List.map (rvF xs s) (List.range n)))[(0 : Nat) + Int.toNat (↑s : Int) * (1 : Nat)]? = some (Value.float FloatKind.f32 (List.getD xs ((0 : Nat) + Int.toNat (↑s : Int) * (1 : Nat)) (0 : Nat)))) ∧ Is ((0 : Int) ≤ (↑s : Int) ∧ (↑s : Int) < (↑n : Int)) ∧ Is ((0 : Nat) + Int.toNat (↑s : Int) * (1 : Nat) + List.length [Value.float FloatKind.f32 (List.getD xs ((0 : Nat) + Int.toNat ((↑n : Int) - (1 : Int) - (↑s : Int)) * (1 : Nat)) (0 : Nat))] ≤ List.length (flts (List.map (rvF xs s) (List.range n)))) ∧ Is ((0 : Int) ≤ (↑n : Int) - (1 : Int) - (↑s : Int) ∧ (↑n : Int) - (1 : Int) - (↑s : Int) < (↑n : Int)) ∧ Is ((0 : Nat) + Int.toNat ((↑n : Int) - (1 : Int) - (↑s : Int)) * (1 : Nat) + List.length [Value.float FloatKind.f32 (List.getD xs ((0 : Nat) + Int.toNat (↑s : Int) * (1 : Nat)) (0 : Nat))] ≤ List.length (putL (flts (List.map (rvF xs s) (List.range n))) ((0 : Nat) + Int.toNat (↑s : Int) * (1 : Nat)) [Value.float FloatKind.f32 (List.getD xs ((0 : Nat) + Int.toNat ((↑n : Int) - (1 : Int) - (↑s : Int)) * (1 : Nat)) (0 : Nat))])) ∧ ∃ (s' : Nat), Is ((2 : Nat) * s' ≤ n) ∧ Is (n - s' < n - s) ∧ [Value.slice (some { block := (0 : Nat), off := (0 : Nat) }) n c, poi, Value.int IntKind.i64 (IntKind.wrap IntKind.i64 ((↑s : Int) + (1 : Int))), Value.int IntKind.i64 (IntKind.wrap IntKind.i64 ((↑n : Int) - (1 : Int) - (↑s : Int) - (1 : Int))), poi, poi, poi, poi, poi, poi, poi, poi, poi, poi, poi, poi, poi, poi, poi, poi, poi, poi, poi, poi, poi, poi, poi, poi] = [Value.slice (some { block := (0 : Nat), off := (0 : Nat) }) n c, poi, Value.int IntKind.i64 (↑s' : Int), Value.int IntKind.i64 ((↑n : Int) - (1 : Int) - (↑s' : Int)), poi, poi, poi, poi, poi, poi, poi, poi, poi, poi, poi, poi, poi, poi, poi, poi, poi, poi, poi, poi, poi, poi, poi, poi] ∧ some (AObj.row (putL (putL (flts (List.map (rvF xs s) (List.range n))) ((0 : Nat) + Int.toNat (↑s : Int) * (1 : Nat)) [Value.float FloatKind.f32 (List.getD xs ((0 : Nat) + Int.toNat ((↑n : Int) - (1 : Int) - (↑s : Int)) * (1 : Nat)) (0 : Nat))]) ((0 : Nat) + Int.toNat ((↑n : Int) - (1 : Int) - (↑s : Int)) * (1 : Nat)) [Value.float FloatKind.f32 (List.getD xs ((0 : Nat) + Int.toNat (↑s : Int) * (1 : Nat)) (0 : Nat))]) (1 : Nat) true true (true && List.all [Value.float FloatKind.f32 (List.getD xs ((0 : Nat) + Int.toNat ((↑n : Int) - (1 : Int) - (↑s : Int)) * (1 : Nat)) (0 : Nat))] atom && List.all [Value.float FloatKind.f32 (List.getD xs ((0 : Nat) + Int.toNat (↑s : Int) * (1 : Nat)) (0 : Nat))] atom)) :: noH = some (AObj.row (flts (List.map (rvF xs s') (List.range n))) (1 : Nat) true true true) :: noH) (K undef (some (AObj.row (flts (List.map (rvF xs s) (List.range n))) (1 : Nat) true true true) :: noH))) := by kernel_rfl
noncomputable def hsSg (xs : List Nat) : Hs Tryz.prog where
  au := auCalls [(79, hCa Tryz.prog 79 (orcMj xs) (okMj xs)), (54, hCa Tryz.prog 54 (orcFiI (xs.map sE)) (okFiI (xs.map sE)))]
theorem sg_t (xs : List Nat) (n : Nat) (c : Nat) (K : Value → Heap → Prop) :
    (fnP Tryz.prog c0 (hsSg xs) (48 : FuncId) [Value.slice (some { block := (0 : Nat), off := (0 : Nat) }) n c] [fR xs] K) =
    (br (decide ((4096 : Int) < (↑n : Int))) (K (Value.int IntKind.i64 (5 : Int)) (some (AObj.row (flts xs) (1 : Nat) true true true) :: noH)) (Is (flts xs = flts xs ∧ List.length xs = n ∧ n ≤ (100000 : Nat) ∧ True) ∧ Is (ints (List.map sE xs) = ints (List.map sE xs) ∧ List.length (List.map sE xs) = n ∧ n ≤ (100000 : Nat)) ∧ K (Value.int IntKind.i64 (fi (List.map sE xs))) (some (AObj.row (flts xs) (1 : Nat) true true true) :: noH))) := by kernel_rfl
noncomputable def hsWs (xs : List Nat) : Hs Tryz.prog where
  au := auCalls [(83, hCa Tryz.prog 83 (orcMw xs) (okMw xs))]
theorem ws_t (xs : List Nat) (n : Nat) (c : Nat) (K : Value → Heap → Prop) :
    (fnP Tryz.prog c0 (hsWs xs) (58 : FuncId) [Value.slice (some { block := (0 : Nat), off := (0 : Nat) }) n c] [fR xs] K) =
    (Is (flts xs = flts xs ∧ List.length xs = n ∧ n ≤ (100000 : Nat) ∧ allS xs) ∧ K (Value.slice (some { block := (1 : Nat), off := (0 : Nat) }) n (0 : Nat)) (some (AObj.row (flts xs) (1 : Nat) true true true) :: some (AObj.row (ints (List.map lev xs)) (1 : Nat) true true true) :: noH)) := by kernel_rfl
theorem ct_t (xs : List Nat) (n : Nat) (c : Nat) (K : Value → Heap → Prop) :
    (fnP Tryz.prog ci2 h0 (55 : FuncId) [Value.slice (some { block := (0 : Nat), off := (0 : Nat) }) n c] [fR xs] K) =
    (K (Value.int IntKind.i64 (wh (decide ((↑n : Int) < (2 : Int))) (16 : Int))) (some (AObj.row (flts xs) (1 : Nat) true true true) :: noH)) := by kernel_rfl
noncomputable def lpPs (l : List Int) (n c : Nat) : Lp where
  σ := Nat
  E s := slots 18 [(0, .slice (some ⟨0, 0, none⟩) n c), (6, .slice (some ⟨0, 0, none⟩) n c), (7, .int .i64 (Int.ofNat n)), (8, .int .i64 (Int.ofNat s))]
  Hp _ := [oneR l]
  I s := s ≤ n
  m s := n - s
noncomputable def hsPs (l : List Int) (n c : Nat) : Hs Tryz.prog where
  op y := if y = 300 then some (hIa Tryz.prog) else if y = 301 then some (hLd Tryz.prog (zI l)) else none
  lp _ := some (lpPs l n c)
  cl _ := keep 18 [0, 6, 7, 8]
  au := auCalls [(82, hCa Tryz.prog 82 (orcMp l) (okMp l))]
theorem ps_t (l : List Int) (n : Nat) (c : Nat) (K : Value → Heap → Prop) :
    (fnP Tryz.prog ci2 (hsPs l n c) (56 : FuncId) [Value.slice (some { block := (0 : Nat), off := (0 : Nat) }) n c] [oneR l] K) =
    ((∃ (s : Nat), Is (s ≤ n) ∧ [Value.slice (some { block := (0 : Nat), off := (0 : Nat) }) n c, poi, poi, poi, poi, poi, Value.slice (some { block := (0 : Nat), off := (0 : Nat) }) n c, Value.int IntKind.i64 (↑n : Int), Value.int IntKind.i64 (0 : Int), poi, poi, poi, poi, poi, poi, poi, poi, poi] = [Value.slice (some { block := (0 : Nat), off := (0 : Nat) }) n c, poi, poi, poi, poi, poi, Value.slice (some { block := (0 : Nat), off := (0 : Nat) }) n c, Value.int IntKind.i64 (↑n : Int), Value.int IntKind.i64 (↑s : Int), poi, poi, poi, poi, poi, poi, poi, poi, poi] ∧ some (AObj.row (ints l) (1 : Nat) true true true) :: noH = some (AObj.row (ints l) (1 : Nat) true true true) :: noH) ∧ ∀ (s : Nat), Is (s ≤ n) → br (decide ((↑s : Int) < (↑n : Int))) (Is ((0 : Int) ≤ (↑s : Int) ∧ (↑s : Int) < (↑n : Int)) ∧ Is ((ints l)[(0 : Nat) + Int.toNat (↑s : Int) * (1 : Nat)]? = some (Value.int IntKind.i64 (List.getD l ((0 : Nat) + Int.toNat (↑s : Int) * (1 : Nat)) (0 : Int)))) ∧ br (wi (List.getD l ((0 : Nat) + Int.toNat (↑s : Int) * (1 : Nat)) (0 : Int)) (-16384 : Int) (16384 : Int) != (0 : Int)) (K (Value.tuple #[Value.slice none (0 : Nat) (0 : Nat), Value.int IntKind.i64 (4 : Int)]) (some (AObj.row (ints l) (1 : Nat) true true true) :: noH)) (∃ (s' : Nat), Is (s' ≤ n) ∧ Is (n - s' < n - s) ∧ [Value.slice (some { block := (0 : Nat), off := (0 : Nat) }) n c, poi, poi, poi, poi, poi, Value.slice (some { block := (0 : Nat), off := (0 : Nat) }) n c, Value.int IntKind.i64 (↑n : Int), Value.int IntKind.i64 (IntKind.wrap IntKind.i64 ((↑s : Int) + (1 : Int))), poi, poi, poi, poi, poi, poi, poi, poi, poi] = [Value.slice (some { block := (0 : Nat), off := (0 : Nat) }) n c, poi, poi, poi, poi, poi, Value.slice (some { block := (0 : Nat), off := (0 : Nat) }) n c, Value.int IntKind.i64 (↑n : Int), Value.int IntKind.i64 (↑s' : Int), poi, poi, poi, poi, poi, poi, poi, poi, poi] ∧ some (AObj.row (ints l) (1 : Nat) true true true) :: noH = some (AObj.row (ints l) (1 : Nat) true true true) :: noH)) (Is (ints l = ints l ∧ List.length l = n ∧ n ≤ (100000 : Nat) ∧ fewI l) ∧ K (Value.tuple #[Value.slice (some { block := (1 : Nat), off := (0 : Nat) }) n (0 : Nat), Value.int IntKind.i64 (0 : Int)]) (some (AObj.row (ints l) (1 : Nat) true true true) :: some (AObj.row (flts (List.map smO l)) (1 : Nat) true true true) :: noH))) := by kernel_rfl
theorem put_set {l : List Value} {i : Nat} {v : Value} (h : i < l.length) : putL l i [v] = l.set i v := by
  rw [List.set_eq_take_append_cons_drop, if_pos h, putL, splice]
  simp
theorem set_range {α : Type} {g : Nat → α} {n i : Nat} {x : α} : ((List.range n).map g).set i x = (List.range n).map fun k => if k = i then x else g k := by
  refine List.ext_getElem (by simp) fun j h1 h2 => ?_
  rw [List.getElem_set]
  by_cases h : i = j
  · subst h; simp
  · rw [if_neg h, List.getElem_map, List.getElem_map, List.getElem_range, if_neg (fun e => h e.symm)]
theorem put_flt {g : Nat → Nat} {n i x : Nat} (h : i < n) : putL (flts ((List.range n).map g)) i [.float .f32 x] = flts ((List.range n).map fun k => if k = i then x else g k) := by
  rw [put_set (by rw [flts_len, List.length_map, List.length_range]; exact h), ← set_range, flts, flts, List.map_set]
theorem rng_at {g : Nat → Nat} {n i : Nat} (h : i < n) : ((List.range n).map g).getD i 0 = g i := by
  rw [List.getD_eq_getElem?_getD, List.getElem?_map, List.getElem?_range h]; rfl
theorem rngI_at {g : Nat → Int} {n i : Nat} (h : i < n) : ((List.range n).map g).getD i 0 = g i := by
  rw [List.getD_eq_getElem?_getD, List.getElem?_map, List.getElem?_range h]; rfl
theorem flt_rng {g : Nat → Nat} {n i x : Nat} (h : i < n) (e : g i = x) : (flts ((List.range n).map g))[i]? = some (.float .f32 x) := by
  rw [flts_at (by rw [List.length_map, List.length_range]; exact h), rng_at h, e]
set_option maxRecDepth 100000 in
theorem rvf_ok {xs : List Nat} {n c : Nat} (hn : xs.length = n) (h9 : n ≤ 100000) : SmallRes Tryz.prog 53 [.slice (some ⟨0, 0, none⟩) n c] [fR xs] undef [fR (rvL xs)] := by
  subst hn
  refine fnP_res hm c0_ok (hs := hsRfZ9 xs xs.length c) ?_
  rw [rvf_t]
  have e0 : (List.range xs.length).map (rvF xs 0) = xs := by
    refine List.ext_getElem (by simp) fun j h1 h2 => ?_
    rw [List.getElem_map, List.getElem_range, rvF, if_neg (by omega), List.getD_eq_getElem?_getD, List.getElem?_eq_getElem h2]; rfl
  refine ⟨⟨(0 : Nat), ⟨by omega⟩, ?_, by rw [e0]; first | done | trivial | rfl⟩, fun s hs' => br_of (fun hc => ?_) (fun hc => ?_)⟩
  · rw [wrap_eq (by omega) (by omega), show ((xs.length : Int) - 1 - ((0 : Nat) : Int)) = (xs.length : Int) - 1 by omega]; first | done | trivial | rfl
  · have hc : (s : Int) < (xs.length : Int) - 1 - s := of_decide_eq_true hc
    have ej : (xs.length : Int) - 1 - (s : Int) = ((xs.length - 1 - s : Nat) : Int) := by omega
    have ej2 : IntKind.wrap .i64 ((xs.length : Int) - 1 - (s : Int) - 1) = (xs.length : Int) - 1 - ((s + 1 : Nat) : Int) := by rw [wrap_eq (by omega) (by omega)]; omega
    rw [ej2, up1 (show s < xs.length by omega) (by omega)]
    rw [ej]
    simp only [Nat.zero_add, Nat.mul_one, Int.toNat_natCast]
    have g1 : rvF xs s s = xs.getD s 0 := by rw [rvF, if_neg (by omega)]
    have g2 : rvF xs s (xs.length - 1 - s) = xs.getD (xs.length - 1 - s) 0 := by rw [rvF, if_neg (by omega)]
    have e3 : (List.range xs.length).map (fun k => if k = xs.length - 1 - s then xs.getD s 0 else if k = s then xs.getD (xs.length - 1 - s) 0 else rvF xs s k) = (List.range xs.length).map (rvF xs (s + 1)) := by
      refine List.map_congr_left fun k hk => ?_
      have hk := List.mem_range.1 hk
      by_cases h1 : k = xs.length - 1 - s
      · rw [if_pos h1, rvF, if_pos (by omega), h1, show xs.length - 1 - (xs.length - 1 - s) = s by omega]
      · rw [if_neg h1]
        by_cases h2 : k = s
        · rw [if_pos h2, rvF, if_pos (by omega), h2]
        · rw [if_neg h2, rvF, rvF]
          by_cases h3 : k < s ∨ xs.length ≤ k + s
          · rw [if_pos h3, if_pos (by omega)]
          · rw [if_neg h3, if_neg (by omega)]
    rw [put_flt (by omega), put_flt (by omega), e3]
    refine ⟨⟨by omega, by omega⟩, ⟨flt_rng (by omega) g2⟩, ⟨by omega, by omega⟩, ⟨flt_rng (by omega) g1⟩, ⟨by omega, by omega⟩, ⟨by rw [flts_len, List.length_map, List.length_range]; simp only [List.length_cons, List.length_nil]; omega⟩, ⟨by omega, by omega⟩, ⟨by rw [flts_len, List.length_map, List.length_range]; simp only [List.length_cons, List.length_nil]; omega⟩, s + 1, ⟨by omega⟩, ⟨by omega⟩, by first | trivial | rfl, by first | trivial | rfl⟩
  · have hc : ¬ (s : Int) < (xs.length : Int) - 1 - s := of_decide_eq_false hc
    have h1 := hs'.out
    have e : (List.range xs.length).map (rvF xs s) = rvL xs := List.map_congr_left fun k hk => by
      have hk := List.mem_range.1 hk
      rw [rvF]
      split
      · rfl
      · rw [show xs.length - 1 - k = k by omega]
    rw [e]
    exact ⟨by first | trivial | rfl, by first | trivial | rfl⟩
noncomputable def orcRfZ9 (xs : List Nat) : OrcV
  | [.slice (some ⟨0, 0, none⟩) n _], [some (.row e1 1 true true true)] => some (undef, [fR (rvL xs)], e1 = flts xs ∧ xs.length = n ∧ n ≤ 100000)
  | _, _ => none
theorem okRfZ9 (xs : List Nat) : OkV Tryz.prog 53 (orcRfZ9 xs) := by
  intro args H ret H' vc h hv
  unfold orcRfZ9 at h
  split at h
  · cases h
    obtain ⟨rfl, h1, h2⟩ := hv
    exact rvf_ok h1 h2
  · cases h
noncomputable def orcSg (xs : List Nat) : OrcV
  | [.slice (some ⟨0, 0, none⟩) n _], [some (.row e1 1 true true true)] => some (.int .i64 (sgE xs n), [some (.row e1 1 true true true)], e1 = flts xs ∧ xs.length = n ∧ n ≤ 100000)
  | _, _ => none
theorem okSg (xs : List Nat) : OkV Tryz.prog 48 (orcSg xs) := by
  intro args H ret H' vc h hv
  unfold orcSg at h
  split at h
  · rename_i n c e1
    cases h
    obtain ⟨rfl, h1, h2⟩ := hv
    refine fnP_res hm c0_ok (hs := hsSg xs) ?_
    show fnP Tryz.prog c0 (hsSg xs) 48 [.slice (some ⟨0, 0, none⟩) n _] [fR xs] _
    rw [sg_t, sgE]
    refine br_of (fun h => ?_) (fun h => ⟨⟨by first | trivial | rfl, h1, h2, trivial⟩, ⟨by first | trivial | rfl, by rw [List.length_map]; exact h1, h2⟩, ?_⟩)
    · rw [if_pos (of_decide_eq_true h)]; exact ⟨by first | trivial | rfl, by first | trivial | rfl⟩
    · rw [if_neg (of_decide_eq_false h)]; exact ⟨by first | trivial | rfl, by first | trivial | rfl⟩
  · cases h
noncomputable def orcWs (xs : List Nat) : OrcV
  | [.slice (some ⟨0, 0, none⟩) n _], [some (.row e1 1 true true true)] => some (.slice (some ⟨1, 0, none⟩) n 0, [some (.row e1 1 true true true), oneR (xs.map lev)], e1 = flts xs ∧ xs.length = n ∧ n ≤ 100000 ∧ allS xs)
  | _, _ => none
theorem okWs (xs : List Nat) : OkV Tryz.prog 58 (orcWs xs) := by
  intro args H ret H' vc h hv
  unfold orcWs at h
  split at h
  · rename_i n c e1
    cases h
    obtain ⟨rfl, h1, h2, h3⟩ := hv
    refine fnP_res hm c0_ok (hs := hsWs xs) ?_
    show fnP Tryz.prog c0 (hsWs xs) 58 [.slice (some ⟨0, 0, none⟩) n _] [fR xs] _
    rw [ws_t]
    exact ⟨⟨by first | trivial | rfl, h1, h2, h3⟩, by first | trivial | rfl, by first | trivial | rfl⟩
  · cases h
noncomputable def orcCt (xs : List Nat) : OrcV
  | [.slice (some ⟨0, 0, none⟩) n _], [some (.row e1 1 true true true)] => some (.int .i64 (wh (decide ((n : Int) < 2)) 16), [some (.row e1 1 true true true)], e1 = flts xs)
  | _, _ => none
theorem okCt (xs : List Nat) : OkV Tryz.prog 55 (orcCt xs) := by
  intro args H ret H' vc h hv
  unfold orcCt at h
  split at h
  · rename_i n c e1
    cases h
    have h := hv
    subst h
    refine fnP_res hm ci2_ok (hs := h0) ?_
    show fnP Tryz.prog ci2 h0 55 [.slice (some ⟨0, 0, none⟩) n _] [fR xs] _
    rw [ct_t]
    exact ⟨by first | trivial | rfl, by first | trivial | rfl⟩
  · cases h
noncomputable def orcPs (l : List Int) : OrcV
  | [.slice (some ⟨0, 0, none⟩) n _], [some (.row e1 1 true true true)] => some (.tuple #[.slice (some ⟨1, 0, none⟩) n 0, .int .i64 0], [some (.row e1 1 true true true), fR (l.map smO)], e1 = ints l ∧ l.length = n ∧ n ≤ 100000 ∧ fewI l)
  | _, _ => none
theorem okPs (l : List Int) : OkV Tryz.prog 56 (orcPs l) := by
  intro args H ret H' vc h hv
  unfold orcPs at h
  split at h
  · rename_i n c e1
    cases h
    obtain ⟨rfl, h1, h2, h3⟩ := hv
    refine fnP_res hm ci2_ok (hs := hsPs l n c) ?_
    show fnP Tryz.prog ci2 (hsPs l n c) 56 [.slice (some ⟨0, 0, none⟩) n _] [oneR l] _
    rw [ps_t]
    refine ⟨⟨(0 : Nat), ⟨by omega⟩, by first | trivial | rfl, by first | trivial | rfl⟩, fun s hs' => br_of (fun hc => ?_) (fun hc => ?_)⟩
    · have hc := lt_of_dec hc
      simp only [Nat.zero_add, Nat.mul_one, Int.toNat_natCast]
      have hw : wi (l.getD s 0) (-16384) 16384 = 0 := wi_zero.2 (by have := h3 s (by omega); omega)
      rw [hw]
      exact ⟨⟨by omega, by omega⟩, ⟨zint_at (by omega)⟩, br_of (fun h => by cases h) (fun _ => ⟨s + 1, ⟨hc⟩, ⟨by omega⟩, by rw [up1 hc (by omega)], by first | trivial | rfl⟩)⟩
    · exact ⟨⟨by first | trivial | rfl, h1, h2, h3⟩, by first | trivial | rfl, by first | trivial | rfl⟩
  · cases h
end
end Qq
end
section
/- A variable of the package, laid: loaded whole. -/
namespace Go.Vm
noncomputable section
theorem HRel.laysw {P : Program} {F : Fr P} {A : Nat → Prop} {ψ : Nat → Gh} {H : Heap} {w : World} (h : HRel F A ψ H w) : lays P w := h.fr.lay w h.fr.block h.fr.size
def wts : List Int := [1, -2, 1]
def fGl (P : Program) (o : Oper) (_ : List Value) (_ : Heap) : Option (Out × Prop) :=
  match o.op with
  | .load t (.global g) =>
    match P.underlying t, P.info? t with
    | some d, some i => if (d.isRow && Nat.beq i.size 3) = true then some (⟨.agg (wts.map (Value.int .i64)).toArray, [], [], []⟩, P.globalNamed "versine/inertia.weights" = some g) else none
    | _, _ => none
  | _ => none
def hGl (P : Program) : Hint P where
  fn := fGl P
  ok := by
    intro o env H out vc h hv
    unfold fGl at h
    split at h
    · rename_i t g ho
      split at h
      · rename_i d i hu hi
        split at h
        · rename_i hc
          simp only [Bool.and_eq_true] at hc
          obtain ⟨c1, c2⟩ := hc
          have c2 := Nat.eq_of_beq_eq_true c2
          cases h
          refine StepOK.value fun F A ψ env1 H1 a w hr he hD => ⟨.agg (wts.map (Value.int .i64)).toArray, ?_, .refl_ground (by rfl)⟩
          have hl := (HRel.laysw hr.heap).2 (by rw [hv]; simp)
          unfold Lib.TabIs World.var? at hl
          rw [hv] at hl
          simp only [Option.bind_some] at hl
          have hr2 : w.rangeAt g 0 (wts.map (Value.int .i64)) := by
            split at hl
            · rename_i cs x1 x2 hh
              cases hl
              intro j v hj
              rw [World.cell?, hh]
              simp only [Nat.zero_add, List.getElem?_toArray]
              exact hj
            · cases hl
          have := run_loadAt_mid w g 0 t (wts.map (Value.int .i64)) d hr2 hu c1 (by rw [hi]; simp [c2, wts])
          simp only [execOp, ho, Act.eval]
          rw [Sem.run_bind, this]; rfl
        · cases h
      · cases h
    · cases h
end
end Go.Vm
end
section
/- Turned, Offset, second differences. -/
open Go Go.Vm Go.Proofs Sp
namespace Qq
noncomputable section
noncomputable def hsTn (xs : List Nat) : Hs Tryz.prog where
  au := auCalls [(48, hCa Tryz.prog 48 (orcSg xs) (okSg xs)), (49, hCa Tryz.prog 49 (orcMt xs) (okMt xs)), (53, hCa Tryz.prog 53 (orcRfZ9 (xs.map tuO)) (okRfZ9 (xs.map tuO)))]
theorem tn_t (xs : List Nat) (n : Nat) (c : Nat) (K : Value → Heap → Prop) :
    (fnP Tryz.prog c0 (hsTn xs) (17 : FuncId) [Value.slice (some { block := (0 : Nat), off := (0 : Nat) }) n c] [fR xs] K) =
    (Is (flts xs = flts xs ∧ List.length xs = n ∧ n ≤ (100000 : Nat)) ∧ br (sgE xs n != (0 : Int)) (K (Value.tuple #[Value.slice none (0 : Nat) (0 : Nat), Value.int IntKind.i64 (sgE xs n)]) (some (AObj.row (flts xs) (1 : Nat) true true true) :: noH)) (Is (flts xs = flts xs ∧ List.length xs = n ∧ n ≤ (100000 : Nat) ∧ allS xs) ∧ Is (flts (List.map tuO xs) = flts (List.map tuO xs) ∧ List.length (List.map tuO xs) = n ∧ n ≤ (100000 : Nat)) ∧ K (Value.tuple #[Value.slice (some { block := (1 : Nat), off := (0 : Nat) }) n (0 : Nat), Value.int IntKind.i64 (0 : Int)]) (some (AObj.row (flts xs) (1 : Nat) true true true) :: some (AObj.row (flts (rvL (List.map tuO xs))) (1 : Nat) true true true) :: noH))) := by kernel_rfl
noncomputable def lpBn0 (l : List Int) (n c : Nat) : Lp where
  σ := Nat
  E _ := slots 37 [(0, .slice (some ⟨0, 0, none⟩) n c), (3, .slice (some ⟨1, 0, none⟩) 0 0)]
  Hp _ := [oneR l, oneR []]
  I s := s = 0
  m _ := 0
noncomputable def lpBn (l : List Int) (n c : Nat) : Lp where
  σ := Nat
  E k := slots 37 [(0, .slice (some ⟨0, 0, none⟩) n c), (3, .slice (some ⟨1, 0, none⟩) k 0), (11, .int .i64 (Int.ofNat (n - 2))), (12, .int .i64 (Int.ofNat k))]
  Hp k := [oneR l, oneR (bnL l k)]
  I k := k ≤ n - 2
  m k := n - k
noncomputable def hsBn (l : List Int) (n c : Nat) : Hs Tryz.prog where
  op y := if y = 600 then some (hGl Tryz.prog) else if y = 906 then some (hIa Tryz.prog) else if y = 907 then some (hLd Tryz.prog (zI l)) else if y = 1103 then some (hAp Tryz.prog) else none
  cut y := if y = 2 then some (lpBn0 l n c) else none
  lp y := if y = 3 then some (lpBn l n c) else none
  cl y := if y = 2 then keep 37 [0, 3] else if y = 7 then keep 37 [0, 3, 4, 5, 11, 12, 15, 16] else keep 37 [0, 3, 11, 12]
  nl y := if y = 2 then [.slot 3 1] else []
  au := au0 Tryz.prog
theorem bn_t (l : List Int) (n : Nat) (c : Nat) (K : Value → Heap → Prop) :
    (fnP Tryz.prog c0 (hsBn l n c) (57 : FuncId) [Value.slice (some { block := (0 : Nat), off := (0 : Nat) }) n c] [oneR l] K) =
    ((∃ (s : Nat), Is (s = (0 : Nat)) ∧ [Value.slice (some { block := (0 : Nat), off := (0 : Nat) }) n c, poi, poi, Value.slice (some { block := (1 : Nat), off := (0 : Nat) }) (0 : Nat) (0 : Nat), poi, poi, poi, poi, poi, poi, poi, poi, poi, poi, poi, poi, poi, poi, poi, poi, poi, poi, poi, poi, poi, poi, poi, poi, poi, poi, poi, poi, poi, poi, poi, poi, poi] = [Value.slice (some { block := (0 : Nat), off := (0 : Nat) }) n c, poi, poi, Value.slice (some { block := (1 : Nat), off := (0 : Nat) }) (0 : Nat) (0 : Nat), poi, poi, poi, poi, poi, poi, poi, poi, poi, poi, poi, poi, poi, poi, poi, poi, poi, poi, poi, poi, poi, poi, poi, poi, poi, poi, poi, poi, poi, poi, poi, poi, poi] ∧ some (AObj.row (ints l) (1 : Nat) true true true) :: some (AObj.row [] (1 : Nat) true true true) :: noH = some (AObj.row (ints l) (1 : Nat) true true true) :: some (AObj.row [] (1 : Nat) true true true) :: noH) ∧ ∀ (s : Nat), Is (s = (0 : Nat)) → (∃ (s : Nat), Is (s ≤ n - (2 : Nat)) ∧ [Value.slice (some { block := (0 : Nat), off := (0 : Nat) }) n c, poi, poi, Value.slice (some { block := (1 : Nat), off := (0 : Nat) }) (0 : Nat) (0 : Nat), poi, poi, poi, poi, poi, poi, poi, Value.int IntKind.i64 (if IntKind.wrap IntKind.i64 ((↑n : Int) - (2 : Int)) > (0 : Int) then IntKind.wrap IntKind.i64 ((↑n : Int) - (2 : Int)) else (0 : Int)), Value.int IntKind.i64 (0 : Int), poi, poi, poi, poi, poi, poi, poi, poi, poi, poi, poi, poi, poi, poi, poi, poi, poi, poi, poi, poi, poi, poi, poi, poi] = [Value.slice (some { block := (0 : Nat), off := (0 : Nat) }) n c, poi, poi, Value.slice (some { block := (1 : Nat), off := (0 : Nat) }) s (0 : Nat), poi, poi, poi, poi, poi, poi, poi, Value.int IntKind.i64 (↑(n - (2 : Nat)) : Int), Value.int IntKind.i64 (↑s : Int), poi, poi, poi, poi, poi, poi, poi, poi, poi, poi, poi, poi, poi, poi, poi, poi, poi, poi, poi, poi, poi, poi, poi, poi] ∧ some (AObj.row (ints l) (1 : Nat) true true true) :: some (AObj.row [] (1 : Nat) true true true) :: noH = some (AObj.row (ints l) (1 : Nat) true true true) :: some (AObj.row (ints (bnL l s)) (1 : Nat) true true true) :: noH) ∧ ∀ (s : Nat), Is (s ≤ n - (2 : Nat)) → br (decide ((↑s : Int) < (↑(n - (2 : Nat)) : Int))) (Is (some (0 : Nat) = some (0 : Nat)) ∧ Is ((0 : Int) ≤ IntKind.wrap IntKind.i64 ((↑s : Int) + (0 : Int)) ∧ IntKind.wrap IntKind.i64 ((↑s : Int) + (0 : Int)) < (↑n : Int)) ∧ Is ((ints l)[(0 : Nat) + Int.toNat (IntKind.wrap IntKind.i64 ((↑s : Int) + (0 : Int))) * (1 : Nat)]? = some (Value.int IntKind.i64 (List.getD l ((0 : Nat) + Int.toNat (IntKind.wrap IntKind.i64 ((↑s : Int) + (0 : Int))) * (1 : Nat)) (0 : Int)))) ∧ Is ((0 : Int) ≤ IntKind.wrap IntKind.i64 ((↑s : Int) + (1 : Int)) ∧ IntKind.wrap IntKind.i64 ((↑s : Int) + (1 : Int)) < (↑n : Int)) ∧ Is ((ints l)[(0 : Nat) + Int.toNat (IntKind.wrap IntKind.i64 ((↑s : Int) + (1 : Int))) * (1 : Nat)]? = some (Value.int IntKind.i64 (List.getD l ((0 : Nat) + Int.toNat (IntKind.wrap IntKind.i64 ((↑s : Int) + (1 : Int))) * (1 : Nat)) (0 : Int)))) ∧ Is ((0 : Int) ≤ IntKind.wrap IntKind.i64 ((↑s : Int) + (2 : Int)) ∧ IntKind.wrap IntKind.i64 ((↑s : Int) + (2 : Int)) < (↑n : Int)) ∧ Is ((ints l)[(0 : Nat) + Int.toNat (IntKind.wrap IntKind.i64 ((↑s : Int) + (2 : Int))) * (1 : Nat)]? = some (Value.int IntKind.i64 (List.getD l ((0 : Nat) + Int.toNat (IntKind.wrap IntKind.i64 ((↑s : Int) + (2 : Int))) * (1 : Nat)) (0 : Int)))) ∧ Is (List.length (ints (bnL l s)) = s * (1 : Nat) ∧ (s + (1 : Nat)) * (8 : Nat) ≤ (140737488355328 : Nat) ∧ s + (1 : Nat) ≤ (9223372036854775807 : Nat)) ∧ ∃ (s' : Nat), Is (s' ≤ n - (2 : Nat)) ∧ Is (n - s' < n - s) ∧ [Value.slice (some { block := (0 : Nat), off := (0 : Nat) }) n c, poi, poi, Value.slice (some { block := (1 : Nat), off := (0 : Nat) }) (s + (1 : Nat)) (0 : Nat), poi, poi, poi, poi, poi, poi, poi, Value.int IntKind.i64 (↑(n - (2 : Nat)) : Int), Value.int IntKind.i64 (IntKind.wrap IntKind.i64 ((↑s : Int) + (1 : Int))), poi, poi, poi, poi, poi, poi, poi, poi, poi, poi, poi, poi, poi, poi, poi, poi, poi, poi, poi, poi, poi, poi, poi, poi] = [Value.slice (some { block := (0 : Nat), off := (0 : Nat) }) n c, poi, poi, Value.slice (some { block := (1 : Nat), off := (0 : Nat) }) s' (0 : Nat), poi, poi, poi, poi, poi, poi, poi, Value.int IntKind.i64 (↑(n - (2 : Nat)) : Int), Value.int IntKind.i64 (↑s' : Int), poi, poi, poi, poi, poi, poi, poi, poi, poi, poi, poi, poi, poi, poi, poi, poi, poi, poi, poi, poi, poi, poi, poi, poi] ∧ some (AObj.row (ints l) (1 : Nat) true true true) :: some (AObj.row (ints (bnL l s) ++ [Value.int IntKind.i64 (IntKind.wrap IntKind.i64 (IntKind.wrap IntKind.i64 (IntKind.wrap IntKind.i64 ((0 : Int) + IntKind.wrap IntKind.i64 ((1 : Int) * List.getD l ((0 : Nat) + Int.toNat (IntKind.wrap IntKind.i64 ((↑s : Int) + (0 : Int))) * (1 : Nat)) (0 : Int))) + IntKind.wrap IntKind.i64 ((-2 : Int) * List.getD l ((0 : Nat) + Int.toNat (IntKind.wrap IntKind.i64 ((↑s : Int) + (1 : Int))) * (1 : Nat)) (0 : Int))) + IntKind.wrap IntKind.i64 ((1 : Int) * List.getD l ((0 : Nat) + Int.toNat (IntKind.wrap IntKind.i64 ((↑s : Int) + (2 : Int))) * (1 : Nat)) (0 : Int))))]) (1 : Nat) true true (List.all [Value.int IntKind.i64 (IntKind.wrap IntKind.i64 (IntKind.wrap IntKind.i64 (IntKind.wrap IntKind.i64 ((0 : Int) + IntKind.wrap IntKind.i64 ((1 : Int) * List.getD l ((0 : Nat) + Int.toNat (IntKind.wrap IntKind.i64 ((↑s : Int) + (0 : Int))) * (1 : Nat)) (0 : Int))) + IntKind.wrap IntKind.i64 ((-2 : Int) * List.getD l ((0 : Nat) + Int.toNat (IntKind.wrap IntKind.i64 ((↑s : Int) + (1 : Int))) * (1 : Nat)) (0 : Int))) + IntKind.wrap IntKind.i64 ((1 : Int) * List.getD l ((0 : Nat) + Int.toNat (IntKind.wrap IntKind.i64 ((↑s : Int) + (2 : Int))) * (1 : Nat)) (0 : Int))))] atom)) :: noH = some (AObj.row (ints l) (1 : Nat) true true true) :: some (AObj.row (ints (bnL l s')) (1 : Nat) true true true) :: noH) (K (Value.slice (some { block := (1 : Nat), off := (0 : Nat) }) s (0 : Nat)) (some (AObj.row (ints l) (1 : Nat) true true true) :: some (AObj.row (ints (bnL l s)) (1 : Nat) true true true) :: noH))) := by kernel_rfl
theorem sg_zeroZ9 {xs : List Nat} {n : Nat} (h : n ≤ 4096) (hx : allS xs) : sgE xs n = 0 := by
  rw [sgE, if_neg (by omega)]; exact hx
theorem levs_at {xs : List Nat} {i : Nat} (h : i < xs.length) : (xs.map lev).getD i 0 = lev (xs.getD i 0) := by
  rw [List.getD_eq_getElem?_getD, List.getD_eq_getElem?_getD, List.getElem?_map, List.getElem?_eq_getElem h]; rfl
theorem levs_few {xs : List Nat} (hx : allS xs) : fewI (xs.map lev) := fun i hi => by
  rw [List.length_map] at hi
  rw [levs_at hi]
  exact lev_few (smps hx hi)
noncomputable def orcTn (xs : List Nat) : OrcV
  | [.slice (some ⟨0, 0, none⟩) n _], [some (.row e1 1 true true true)] => some (.tuple #[.slice (some ⟨1, 0, none⟩) n 0, .int .i64 0], [some (.row e1 1 true true true), fR (rvL (xs.map tuO))], e1 = flts xs ∧ xs.length = n ∧ n ≤ 4096 ∧ allS xs)
  | _, _ => none
theorem okTn (xs : List Nat) : OkV Tryz.prog 17 (orcTn xs) := by
  intro args H ret H' vc h hv
  unfold orcTn at h
  split at h
  · rename_i n c e1
    cases h
    obtain ⟨rfl, h1, h2, h3⟩ := hv
    refine fnP_res hm c0_ok (hs := hsTn xs) ?_
    show fnP Tryz.prog c0 (hsTn xs) 17 [.slice (some ⟨0, 0, none⟩) n _] [fR xs] _
    rw [tn_t, sg_zeroZ9 h2 h3]
    exact ⟨⟨by first | trivial | rfl, h1, by omega⟩, br_of (fun h => by cases h) (fun _ => ⟨⟨by first | trivial | rfl, h1, by omega, h3⟩, ⟨by first | trivial | rfl, by rw [List.length_map]; exact h1, by omega⟩, by first | trivial | rfl, by first | trivial | rfl⟩)⟩
  · cases h
/-- What two signals tell of an offset. -/
noncomputable def ofT (xs ys : List Nat) (n : Nat) : Int := rnd (su (fun j => (xs.map lev).getD j 0) n + su (fun j => (ys.map lev).getD j 0) n) (2 * n)
theorem bnL_len (l : List Int) (m : Nat) : (bnL l m).length = m := by rw [bnL, List.length_map, List.length_range]
theorem bnL_more (l : List Int) (m : Nat) : bnL l (m + 1) = bnL l m ++ [bnD l m] := by
  rw [bnL, List.range_succ, List.map_append]; rfl
theorem bnL_at (l : List Int) {m i : Nat} (h : i < m) : (bnL l m).getD i 0 = bnD l i := rngI_at h
noncomputable def orcBn (l : List Int) : OrcV
  | [.slice (some ⟨0, 0, none⟩) n _], [some (.row e1 1 true true true)] => some (.slice (some ⟨1, 0, none⟩) (n - 2) 0, [some (.row e1 1 true true true), oneR (bnL l (n - 2))], e1 = ints l ∧ l.length = n ∧ 2 ≤ n ∧ n ≤ 4096 ∧ fewI l)
  | _, _ => none
set_option maxRecDepth 100000 in
theorem okBn (l : List Int) : OkV Tryz.prog 57 (orcBn l) := by
  intro args H ret H' vc h hv
  unfold orcBn at h
  split at h
  · rename_i n c e1
    cases h
    obtain ⟨rfl, h1, h2, h3, h4⟩ := hv
    refine fnP_res hm c0_ok (hs := hsBn l n c) ?_
    show fnP Tryz.prog c0 (hsBn l n _) 57 [.slice (some ⟨0, 0, none⟩) n _] [oneR l] _
    rw [bn_t]
    have e2 : IntKind.wrap .i64 ((n : Int) - 2) = ((n - 2 : Nat) : Int) := by rw [wrap_eq (by omega) (by omega)]; omega
    rw [e2]
    have e3 : (if ((n - 2 : Nat) : Int) > 0 then ((n - 2 : Nat) : Int) else 0) = ((n - 2 : Nat) : Int) := by split <;> omega
    rw [e3]
    refine ⟨⟨(0 : Nat), ⟨rfl⟩, by first | trivial | rfl, by first | trivial | rfl⟩, fun _ _ => ⟨⟨(0 : Nat), ⟨by omega⟩, by first | trivial | rfl, by first | trivial | rfl⟩, fun s hs' => br_of (fun hc => ?_) (fun hc => ?_)⟩⟩
    · have hc := lt_of_dec hc
      have w0 : IntKind.wrap .i64 ((s : Int) + 0) = ((s : Nat) : Int) := by rw [wrap_eq (by omega) (by omega)]; omega
      have w1 : IntKind.wrap .i64 ((s : Int) + 1) = ((s + 1 : Nat) : Int) := by rw [wrap_eq (by omega) (by omega)]; omega
      have w2 : IntKind.wrap .i64 ((s : Int) + 2) = ((s + 2 : Nat) : Int) := by rw [wrap_eq (by omega) (by omega)]; omega
      have q0 := h4 s (by omega)
      have q1 := h4 (s + 1) (by omega)
      have q2 := h4 (s + 2) (by omega)
      rw [w0, w1, w2]
      simp only [Nat.zero_add, Nat.mul_one, Int.toNat_natCast]
      have e : IntKind.wrap .i64 (IntKind.wrap .i64 (IntKind.wrap .i64 (0 + IntKind.wrap .i64 (1 * l.getD s 0)) + IntKind.wrap .i64 (-2 * l.getD (s + 1) 0)) + IntKind.wrap .i64 (1 * l.getD (s + 2) 0)) = bnD l s := by
        rw [bnD, wrap_eq (x := 1 * l.getD s 0) (by omega) (by omega), wrap_eq (x := -2 * l.getD (s + 1) 0) (by omega) (by omega), wrap_eq (x := 1 * l.getD (s + 2) 0) (by omega) (by omega), wrap_eq (x := 0 + 1 * l.getD s 0) (by omega) (by omega), wrap_eq (x := 0 + 1 * l.getD s 0 + -2 * l.getD (s + 1) 0) (by omega) (by omega), wrap_eq (by omega) (by omega)]
        omega
      rw [e]
      refine ⟨⟨by first | trivial | rfl⟩, ⟨by omega, by omega⟩, ⟨zint_at (by omega)⟩, ⟨by omega, by omega⟩, ⟨zint_at (by omega)⟩, ⟨by omega, by omega⟩, ⟨zint_at (by omega)⟩, ⟨by rw [ints_len, bnL_len], by omega, by omega⟩, s + 1, ⟨hc⟩, ⟨by omega⟩, by first | trivial | rfl, ?_⟩
      rw [bnL_more, ← ints_app]; rfl
    · have hc := ge_of_dec hc
      have : s = n - 2 := by have := hs'.out; omega
      subst this
      exact ⟨by first | trivial | rfl, by first | trivial | rfl⟩
  · cases h
noncomputable def hsBe (xs : List Nat) (n : Nat) : Hs Tryz.prog where
  au := auCalls [(48, hCa Tryz.prog 48 (orcSg xs) (okSg xs)), (55, hCa Tryz.prog 55 (orcCt xs) (okCt xs)), (58, hCa Tryz.prog 58 (orcWs xs) (okWs xs)), (57, hCa Tryz.prog 57 (orcBn (xs.map lev)) (okBn (xs.map lev))), (56, hCa Tryz.prog 56 (orcPs (bnL (xs.map lev) (n - 2))) (okPs (bnL (xs.map lev) (n - 2))))]
theorem be_t (xs : List Nat) (n : Nat) (c : Nat) (K : Value → Heap → Prop) :
    (fnP Tryz.prog ci2 (hsBe xs n) (18 : FuncId) [Value.slice (some { block := (0 : Nat), off := (0 : Nat) }) n c] [fR xs] K) =
    (Is (flts xs = flts xs ∧ List.length xs = n ∧ n ≤ (100000 : Nat)) ∧ Is (flts xs = flts xs) ∧ br (fi [sgE xs n, wh (decide ((↑n : Int) < (2 : Int))) (16 : Int)] != (0 : Int)) (K (Value.tuple #[Value.slice none (0 : Nat) (0 : Nat), Value.int IntKind.i64 (fi [sgE xs n, wh (decide ((↑n : Int) < (2 : Int))) (16 : Int)])]) (some (AObj.row (flts xs) (1 : Nat) true true true) :: noH)) (Is (flts xs = flts xs ∧ List.length xs = n ∧ n ≤ (100000 : Nat) ∧ allS xs) ∧ Is (ints (List.map lev xs) = ints (List.map lev xs) ∧ List.length (List.map lev xs) = n ∧ (2 : Nat) ≤ n ∧ n ≤ (4096 : Nat) ∧ fewI (List.map lev xs)) ∧ Is (ints (bnL (List.map lev xs) (n - (2 : Nat))) = ints (bnL (List.map lev xs) (n - (2 : Nat))) ∧ List.length (bnL (List.map lev xs) (n - (2 : Nat))) = n - (2 : Nat) ∧ n - (2 : Nat) ≤ (100000 : Nat) ∧ fewI (bnL (List.map lev xs) (n - (2 : Nat)))) ∧ K (Value.tuple #[Value.slice (some { block := (1 : Nat), off := (0 : Nat) }) (n - (2 : Nat)) (0 : Nat), Value.int IntKind.i64 (0 : Int)]) (some (AObj.row (flts xs) (1 : Nat) true true true) :: some (AObj.row (flts (List.map smO (bnL (List.map lev xs) (n - (2 : Nat))))) (1 : Nat) true true true) :: noH))) := by kernel_rfl
noncomputable def orcBe (xs : List Nat) : OrcV
  | [.slice (some ⟨0, 0, none⟩) n _], [some (.row e1 1 true true true)] => some (.tuple #[.slice (some ⟨1, 0, none⟩) (n - 2) 0, .int .i64 0], [some (.row e1 1 true true true), fR ((bnL (xs.map lev) (n - 2)).map smO)], e1 = flts xs ∧ xs.length = n ∧ 2 ≤ n ∧ n ≤ 4096 ∧ allS xs ∧ fewI (bnL (xs.map lev) (n - 2)))
  | _, _ => none
theorem okBe (xs : List Nat) : OkV Tryz.prog 18 (orcBe xs) := by
  intro args H ret H' vc h hv
  unfold orcBe at h
  split at h
  · rename_i n c e1
    cases h
    obtain ⟨rfl, h1, h2, h3, h4, h5⟩ := hv
    refine fnP_res hm ci2_ok (hs := hsBe xs n) ?_
    show fnP Tryz.prog ci2 (hsBe xs n) 18 [.slice (some ⟨0, 0, none⟩) n _] [fR xs] _
    have e0 : fi [sgE xs n, wh (decide ((n : Int) < 2)) 16] = 0 := by
      rw [sg_zeroZ9 h3 h4, decide_eq_false (show ¬ (n : Int) < 2 by omega)]; rfl
    rw [be_t, e0]
    exact ⟨⟨by first | trivial | rfl, h1, by omega⟩, ⟨by first | trivial | rfl⟩, br_of (fun h => by cases h) (fun _ => ⟨⟨by first | trivial | rfl, h1, by omega, h4⟩, ⟨by first | trivial | rfl, by rw [List.length_map]; exact h1, h2, h3, levs_few h4⟩, ⟨by first | trivial | rfl, bnL_len _ _, by omega, h5⟩, by first | trivial | rfl, by first | trivial | rfl⟩)⟩
  · cases h
end
end Qq
end
section
/- A struct that is built with a nil list: the list is made one like any other. -/
namespace Sp
open Go
end Sp
namespace Go.Vm
noncomputable section
def fBn (P : Program) (off es : Nat) (o : Oper) (env : List Value) (H : Heap) : Option (Out × Prop) :=
  match o.op with
  | .build t ps =>
    match evBuild P env t ps with
    | some ⟨.agg xs, [], D, []⟩ =>
      match emp (xs.toList.getD off poi) with
      | true => some (⟨.agg (xs.toList.set off (lv H)).toArray, [(H.length, lo es)], D, [H.length]⟩, True)
      | false => none
    | _ => none
  | _ => none
def hBn (P : Program) (off es : Nat) : Hint P where
  fn := fBn P off es
  ok := by
    intro o env H out vc h _
    unfold fBn at h
    split at h
    · rename_i t ps ho
      split at h
      · rename_i xs D hb
        split at h
        · rename_i hemp
          cases h
          have h0 := build_ok (H := H) ho hb
          intro F A ψ env1 H1 a w hr he hD hnu K Q hK
          refine h0 F A ψ env1 H1 a w hr he hD (by simp) K Q fun ψ1 a1 w1 hr1 => ?_
          have hA : (fun id => A id ∨ id ∈ ([] : List Nat)) = A := by funext id; simp
          rw [hA] at hr1
          have hn : ¬ A H.length := hnu _ (by simp)
          have hag := mono_new (ψ := ψ1) (g := ⟨0, 0, 0, es⟩) hn
          refine hK (upd ψ1 H.length ⟨0, 0, 0, es⟩) a1 w1 ?_
          have hA2 : (fun id => A id ∨ id ∈ [H.length]) = fun id => A id ∨ id = H.length := by funext id; simp
          simp only [] at hA2 ⊢
          rw [hA2]
          have hh : HRel F (fun id => A id ∨ id = H.length) (upd ψ1 H.length ⟨0, 0, 0, es⟩) (ap H1 [(H.length, lo es)]) w1 := hr1.heap.void hn es true true true
          cases hd : o.dst with
          | none =>
            rw [hd] at hr1
            exact ⟨fun i => (hr1.slot i).mono hag, hr1.len, hr1.defers, hh⟩
          | some d =>
            rw [hd] at hr1
            have e : put env1 (some d) (.agg (xs.toList.set off (lv H)).toArray) = st (put env1 (some d) (.agg xs)) d (.agg (xs.toList.set off (lv H)).toArray) := by
              rw [put_some, put_some, st_eq, List.set_set]
            have hlen := hr1.len
            refine ⟨fun i => ?_, by rw [e, st_eq]; simpa using hlen, hr1.defers, hh⟩
            rw [e]
            by_cases hlt : d < env1.length
            · refine slot_turn (hr := hr1) hag ?_ i
              have hs := hr1.slot d
              rw [put_some] at hs
              have hg : (env1.set d (.agg xs)).getD d poi = .agg xs := by simp [List.getD_eq_getElem?_getD, hlt]
              rw [hg] at hs
              obtain ⟨ys, e1, hsz, h1, hh⟩ := hs.agg_inv
              rw [e1]
              refine .agg _ _ (by simpa using hsz) h1 fun j => ?_
              have e2 : (xs.toList.set off (lv H)).toArray.getD j poi = (xs.toList.set off (lv H)).getD j poi := by simp [Array.getD_eq_getD_getElem?, List.getD_eq_getElem?_getD]
              have e3 : ∀ j, xs.toList.getD j poi = xs.getD j poi := fun j => by simp [Array.getD_eq_getD_getElem?, List.getD_eq_getElem?_getD]
              rw [e2, setl_get j hemp]
              split
              · rename_i e; subst e
                have := hh j
                rw [← e3] at this
                exact emp_list hemp this (.inr rfl)
              · rw [e3]; exact (hh j).mono hag
            · have hge : env1.length ≤ d := Nat.le_of_not_lt hlt
              rw [put_some, List.set_eq_of_length_le hge, st_eq, List.set_eq_of_length_le hge]
              have := hr1.slot i
              rw [put_some, List.set_eq_of_length_le hge] at this
              exact this.mono hag
        · cases h
      · cases h
    · cases h
end
end Go.Vm
end
section
/- Channels; corrected; felt and freed. -/
open Go Go.Vm Go.Proofs Sp
namespace Sp
noncomputable section
/-- Second differences as they are felt at speeds, the first k of them. -/
noncomputable def feD (l sp : List Int) (k i : Nat) : Int := if i < k then bnD l i * (sp.getD i 0 * sp.getD i 0) else bnD l i
noncomputable def feL (l sp : List Int) (m k : Nat) : List Int := (List.range m).map (feD l sp k)
noncomputable def frD (l sp : List Int) (i : Nat) : Int := rnd (l.getD i 0) (sp.getD i 0 * sp.getD i 0)
noncomputable def frL (l sp : List Int) (k : Nat) : List Int := (List.range k).map (frD l sp)
noncomputable def coO (o x : Nat) : Int := lev x - lev o
end
end Sp
namespace Qq
noncomputable section
noncomputable def i3 : List (Nat × Orc) := (64, orcName) :: (66, orcSm1) :: i2
/- Felt. -/
/- Freed. -/
/-- All speeds are valid. -/
def okSp (sp : List Int) : Prop := ∀ i, i < sp.length → 1 ≤ sp.getD i 0 ∧ sp.getD i 0 ≤ 100
end
end Qq
end
section
/- The index of a signal; samples compared. -/
open Go Go.Vm Go.Proofs Sp
namespace Sp
noncomputable section
noncomputable def sgnl : ByteArray := ⟨#[115, 105, 103, 110, 97, 108]⟩
end
end Sp
namespace Qq
noncomputable section
/-- The index of a signal. -/
noncomputable def ixS (xs : List Nat) : Int := ixG (fun j => lev (xs.getD j 0)) xs.length
noncomputable def fV (xs : List Nat) (b : Bool) : Option AObj := some (.row (flts xs) 1 b b true)
noncomputable def lpLx (xs : List Nat) (b : Bool) (v : Int) : Lp where
  σ := Nat
  E _ := slots 28 [(4, .slice (some ⟨1, 0, none⟩) 1 0), (5, .int .i64 0)]
  Hp _ := [fV xs b, oneR [v]]
  I s := s = 0
  m _ := 0
noncomputable def hsLx (xs : List Nat) (b : Bool) (v : Int) : Hs Tryz.prog where
  op y := if y = 102 then some (hAe Tryz.prog true) else if y = 103 then some (hBn Tryz.prog 3 2) else none
  cut y := if y = 2 then some (lpLx xs b v) else none
  cl _ := keep 28 [4, 5]
  au := auCalls [(31, hCa Tryz.prog 31 (orcIdV xs []) (okIdV xs []))]
theorem lxT_t (xs : List Nat) (n : Nat) (c : Nat) (v : Int) (K : Value → Heap → Prop) :
    (fnP Tryz.prog c0 (hsLx xs true v) (9 : FuncId) [Value.slice (some { block := (0 : Nat), off := (0 : Nat) }) n c] [fV xs true] K) =
    ((Is (List.length (flts xs) = n * (1 : Nat) ∧ (∀ (v : Value), v ∈ flts xs → atom v = true) ∧ n * (4 : Nat) ≤ (140737488355328 : Nat) ∧ n ≤ (9223372036854775807 : Nat)) ∧ Is True ∧ Is (isRun xs [] n (0 : Nat) (flts xs) []) ∧ ∃ (s : Nat), Is (s = (0 : Nat)) ∧ [poi, poi, poi, poi, Value.slice (some { block := (1 : Nat), off := (0 : Nat) }) (List.length (iL { data := #[(115 : UInt8), (105 : UInt8), (103 : UInt8), (110 : UInt8), (97 : UInt8), (108 : UInt8)] } (10 : Int) xs n [] (↑n : Int))) (0 : Nat), Value.int IntKind.i64 (cwE { data := #[(115 : UInt8), (105 : UInt8), (103 : UInt8), (110 : UInt8), (97 : UInt8), (108 : UInt8)] } (10 : Int) xs n [] (↑n : Int)), poi, poi, poi, poi, poi, poi, poi, poi, poi, poi, poi, poi, poi, poi, poi, poi, poi, poi, poi, poi, poi, poi] = [poi, poi, poi, poi, Value.slice (some { block := (1 : Nat), off := (0 : Nat) }) (1 : Nat) (0 : Nat), Value.int IntKind.i64 (0 : Int), poi, poi, poi, poi, poi, poi, poi, poi, poi, poi, poi, poi, poi, poi, poi, poi, poi, poi, poi, poi, poi, poi] ∧ some (AObj.row (flts xs) (1 : Nat) true true true) :: some (AObj.row (ints (iL { data := #[(115 : UInt8), (105 : UInt8), (103 : UInt8), (110 : UInt8), (97 : UInt8), (108 : UInt8)] } (10 : Int) xs n [] (↑n : Int))) (1 : Nat) true true true) :: noH = some (AObj.row (flts xs) (1 : Nat) true true true) :: some (AObj.row [Value.int IntKind.i64 v] (1 : Nat) true true true) :: noH) ∧ ∀ (s : Nat), Is (s = (0 : Nat)) → K (Value.tuple #[Value.int IntKind.i64 v, Value.bool true]) (some (AObj.row (flts xs) (1 : Nat) true true true) :: noH)) := by kernel_rfl
theorem lxF_t (xs : List Nat) (n : Nat) (c : Nat) (v : Int) (K : Value → Heap → Prop) :
    (fnP Tryz.prog c0 (hsLx xs false v) (9 : FuncId) [Value.slice (some { block := (0 : Nat), off := (0 : Nat) }) n c] [fV xs false] K) =
    ((Is (List.length (flts xs) = n * (1 : Nat) ∧ (∀ (v : Value), v ∈ flts xs → atom v = true) ∧ n * (4 : Nat) ≤ (140737488355328 : Nat) ∧ n ≤ (9223372036854775807 : Nat)) ∧ Is True ∧ Is (isRun xs [] n (0 : Nat) (flts xs) []) ∧ ∃ (s : Nat), Is (s = (0 : Nat)) ∧ [poi, poi, poi, poi, Value.slice (some { block := (1 : Nat), off := (0 : Nat) }) (List.length (iL { data := #[(115 : UInt8), (105 : UInt8), (103 : UInt8), (110 : UInt8), (97 : UInt8), (108 : UInt8)] } (10 : Int) xs n [] (↑n : Int))) (0 : Nat), Value.int IntKind.i64 (cwE { data := #[(115 : UInt8), (105 : UInt8), (103 : UInt8), (110 : UInt8), (97 : UInt8), (108 : UInt8)] } (10 : Int) xs n [] (↑n : Int)), poi, poi, poi, poi, poi, poi, poi, poi, poi, poi, poi, poi, poi, poi, poi, poi, poi, poi, poi, poi, poi, poi] = [poi, poi, poi, poi, Value.slice (some { block := (1 : Nat), off := (0 : Nat) }) (1 : Nat) (0 : Nat), Value.int IntKind.i64 (0 : Int), poi, poi, poi, poi, poi, poi, poi, poi, poi, poi, poi, poi, poi, poi, poi, poi, poi, poi, poi, poi, poi, poi] ∧ some (AObj.row (flts xs) (1 : Nat) false false true) :: some (AObj.row (ints (iL { data := #[(115 : UInt8), (105 : UInt8), (103 : UInt8), (110 : UInt8), (97 : UInt8), (108 : UInt8)] } (10 : Int) xs n [] (↑n : Int))) (1 : Nat) true true true) :: noH = some (AObj.row (flts xs) (1 : Nat) false false true) :: some (AObj.row [Value.int IntKind.i64 v] (1 : Nat) true true true) :: noH) ∧ ∀ (s : Nat), Is (s = (0 : Nat)) → K (Value.tuple #[Value.int IntKind.i64 v, Value.bool true]) (some (AObj.row (flts xs) (1 : Nat) false false true) :: noH)) := by kernel_rfl
/- The reference's check of samples, at rows of one's own. -/
/- Samples compared. -/
theorem name_sgnl : nameB sgnl = true := by decide +kernel
theorem sg_run {xs : List Nat} {n : Nat} (hn : xs.length = n) (h1 : n ≤ 4096) (hx : allS xs) : runE sgnl 10 xs n [] = 0 := by
  have hx : fi (xs.map sE) = 0 := hx
  rw [runE, name_sgnl, hx, decide_eq_false (show ¬ (4096 : Int) < n by omega), decide_eq_false (show ¬ (100000000 : Int) < 10 + n by omega)]
  rfl
theorem sg_cw {xs : List Nat} {n : Nat} (hn : xs.length = n) (h0 : 2 ≤ n) (h1 : n ≤ 256) (hx : allS xs) : cwE sgnl 10 xs n [] (n : Int) = 0 := by
  rw [cwE, sg_run hn (by omega) hx, wi_zero.2 (show 2 ≤ (n : Int) ∧ (n : Int) ≤ 256 by omega)]; rfl
theorem sg_iL {xs : List Nat} {n : Nat} (hn : xs.length = n) (h0 : 2 ≤ n) (h1 : n ≤ 256) (hx : allS xs) : iL sgnl 10 xs n [] (n : Int) = [ixS xs] := by
  subst hn
  rw [iL_some (sg_cw rfl h0 h1 hx), ixL, Int.toNat_natCast, Nat.div_self (by omega)]
  show [ixM (wnM xs [] xs.length 0) (xs.length : Int)] = _
  rw [ixM_all]; rfl
theorem flts_atomZ9 (xs : List Nat) : ∀ v ∈ flts xs, atom v = true := fun v hv => by
  obtain ⟨x, _, rfl⟩ := List.mem_map.1 hv
  rfl
noncomputable def orcLxT (xs : List Nat) : OrcV
  | [.slice (some ⟨0, 0, none⟩) n _], [some (.row e1 1 true true true)] => some (.tuple #[.int .i64 (ixS xs), .bool true], [some (.row e1 1 true true true)], e1 = flts xs ∧ xs.length = n ∧ 2 ≤ n ∧ n ≤ 256 ∧ allS xs)
  | _, _ => none
theorem okLxT (xs : List Nat) : OkV Tryz.prog 9 (orcLxT xs) := by
  intro args H ret H' vc h hv
  unfold orcLxT at h
  split at h
  · rename_i n c e1
    cases h
    obtain ⟨rfl, h1, h2, h3, h4⟩ := hv
    refine fnP_res hm c0_ok (hs := hsLx xs true (ixS xs)) ?_
    show fnP Tryz.prog c0 (hsLx xs true (ixS xs)) 9 [.slice (some ⟨0, 0, none⟩) n _] [fV xs true] _
    have e1 := sg_cw h1 h2 h3 h4
    have e2 := sg_iL h1 h2 h3 h4
    unfold sgnl at e1 e2
    rw [lxT_t, e1, e2]
    exact ⟨⟨⟨by rw [flts_len]; omega, flts_atomZ9 xs, by omega, by omega⟩, ⟨trivial⟩, ⟨by first | trivial | rfl, by first | trivial | rfl, h1, by omega, by first | trivial | rfl, by omega⟩, (0 : Nat), ⟨rfl⟩, by first | trivial | rfl, by first | trivial | rfl⟩, fun _ _ => ⟨by first | trivial | rfl, by first | trivial | rfl⟩⟩
  · cases h
noncomputable def orcLxF (xs : List Nat) : OrcV
  | [.slice (some ⟨0, 0, none⟩) n _], [some (.row e1 1 false false true)] => some (.tuple #[.int .i64 (ixS xs), .bool true], [some (.row e1 1 false false true)], e1 = flts xs ∧ xs.length = n ∧ 2 ≤ n ∧ n ≤ 256 ∧ allS xs)
  | _, _ => none
theorem okLxF (xs : List Nat) : OkV Tryz.prog 9 (orcLxF xs) := by
  intro args H ret H' vc h hv
  unfold orcLxF at h
  split at h
  · rename_i n c e1
    cases h
    obtain ⟨rfl, h1, h2, h3, h4⟩ := hv
    refine fnP_res hm c0_ok (hs := hsLx xs false (ixS xs)) ?_
    show fnP Tryz.prog c0 (hsLx xs false (ixS xs)) 9 [.slice (some ⟨0, 0, none⟩) n _] [fV xs false] _
    have e1 := sg_cw h1 h2 h3 h4
    have e2 := sg_iL h1 h2 h3 h4
    unfold sgnl at e1 e2
    rw [lxF_t, e1, e2]
    exact ⟨⟨⟨by rw [flts_len]; omega, flts_atomZ9 xs, by omega, by omega⟩, ⟨trivial⟩, ⟨by first | trivial | rfl, by first | trivial | rfl, h1, by omega, by first | trivial | rfl, by omega⟩, (0 : Nat), ⟨rfl⟩, by first | trivial | rfl, by first | trivial | rfl⟩, fun _ _ => ⟨by first | trivial | rfl, by first | trivial | rfl⟩⟩
  · cases h
/-- Two signals have the same integers. -/
def sameL (xs ys : List Nat) : Prop := ∀ i, i < xs.length → lev (xs.getD i 0) = lev (ys.getD i 0)
end
end Qq
end
section
/- A row that may be longer than its cells: what holds of it holds of one that is not. -/
namespace Go.Vm
noncomputable section
def AObj.loose : AObj → AObj
  | .row c es _ rw fl => .row c es true rw fl
  | o => o
def looseH (H : Heap) : Heap := H.map (Option.map AObj.loose)
theorem rd_loose : ∀ (H : Heap) (j : Nat), rd (looseH H) j = (rd H j).map AObj.loose
  | [], j => by cases j <;> rfl
  | x :: r, 0 => by cases x <;> rfl
  | x :: r, j + 1 => rd_loose r j
theorem HRel.loose {P : Program} {F : Fr P} {A : Nat → Prop} {ψ : Nat → Gh} {H : Heap} {w : World} (h : HRel F A ψ H w) : HRel F A ψ (looseH H) w := by
  have look : ∀ {j o}, rd (looseH H) j = some o → ∃ o', rd H j = some o' ∧ o = o'.loose ∧ o.rw = o'.rw ∧ o.vd = o'.vd := fun {j o} hj => by
    rw [rd_loose] at hj
    obtain ⟨o', h1, h2⟩ := Option.map_eq_some_iff.1 hj
    subst h2
    refine ⟨o', h1, rfl, ?_, ?_⟩
    · cases o' <;> rfl
    · cases o' with
      | row c es m rw fl => cases c <;> rfl
      | iter => rfl
      | smap => rfl
  refine ⟨fun j o hj => ?_, fun i j oi oj hi hj hij hrw hvi hvj => ?_, h.fr, fun j o hj hrw hv => ?_, h.old⟩
  · obtain ⟨o', a1, rfl, a3, a4⟩ := look hj
    obtain ⟨h1, h2, h3⟩ := h.live j o' a1
    refine ⟨h1, ?_, fun hv => ?_⟩
    · cases o' <;> exact h2
    · obtain ⟨k1, k2⟩ := h3 (by rw [← a4]; exact hv)
      refine ⟨k1, ?_⟩
      cases o' with
      | row c es m rw fl =>
        obtain ⟨arr, el, fz, q1, q2, q3, q4, q5⟩ := k2
        refine ⟨arr, el, fz, q1, q2, q3, fun hr => ?_, q5⟩
        obtain ⟨r1, r2, r3, r4⟩ := q4 hr
        exact ⟨r1, r2, r3, fun hm => by cases hm⟩
      | iter => exact k2
      | smap => exact k2
  · obtain ⟨oi', a1, _, a3, a4⟩ := look hi
    obtain ⟨oj', b1, _, b3, b4⟩ := look hj
    exact h.inj i j oi' oj' a1 b1 hij (by rw [← a3]; exact hrw) (by rw [← a4]; exact hvi) (by rw [← b4]; exact hvj)
  · obtain ⟨o', a1, _, a3, a4⟩ := look hj
    exact h.own j o' a1 (by rw [← a3]; exact hrw) (by rw [← a4]; exact hv)
theorem SmallRes.loose {P : Program} {f : FuncId} {args : List Value} {H H' : Heap} {ret : Value} (h : SmallRes P f args (looseH H) ret H') : SmallRes P f args H ret H' :=
  fun F A ψ w args' hh hb hA hψ hl => h F A ψ w args' hh.loose (fun id hi => by rw [looseH, List.length_map]; exact hb id hi) hA hψ hl
end
end Go.Vm
end
section
/- Signals by their integers; the fixed example. -/
open Go Go.Vm Go.Proofs Sp
namespace Qq
noncomputable section
theorem map_at {f : Nat → Nat} {xs : List Nat} {i : Nat} (h : i < xs.length) : (xs.map f).getD i 0 = f (xs.getD i 0) := by
  rw [List.getD_eq_getElem?_getD, List.getD_eq_getElem?_getD, List.getElem?_map, List.getElem?_eq_getElem h]; rfl
/-- A signal, told by its integers. -/
structure Sg (xs : List Nat) (n : Nat) (g : Nat → Int) : Prop where
  len : xs.length = n
  ok : ∀ i, i < n → sE (xs.getD i 0) = 0 ∧ lev (xs.getD i 0) = g i
theorem allS_of {xs : List Nat} (h : ∀ i, i < xs.length → sE (xs.getD i 0) = 0) : allS xs := by
  refine fi_zero.2 fun v hv => ?_
  obtain ⟨x, hx, rfl⟩ := List.mem_map.1 hv
  obtain ⟨i, hi, rfl⟩ := List.mem_iff_getElem.1 hx
  have := h i hi
  rwa [List.getD_eq_getElem?_getD, List.getElem?_eq_getElem hi] at this
theorem Sg.all {xs : List Nat} {n : Nat} {g : Nat → Int} (h : Sg xs n g) : allS xs := allS_of fun i hi => (h.ok i (by rw [h.len] at hi; exact hi)).1
theorem Sg.ext {xs : List Nat} {n : Nat} {g k : Nat → Int} (h : Sg xs n g) (e : ∀ i, i < n → g i = k i) : Sg xs n k := ⟨h.len, fun i hi => ⟨(h.ok i hi).1, (h.ok i hi).2.trans (e i hi)⟩⟩
theorem Sg.ix {xs : List Nat} {n : Nat} {g : Nat → Int} (h : Sg xs n g) : ixS xs = ixG g n := by
  rw [ixS, h.len]
  exact ixG_ext fun i hi => (h.ok i hi).2
theorem Sg.few {xs : List Nat} {n : Nat} {g : Nat → Int} (h : Sg xs n g) {i : Nat} (hi : i < n) : (g i).natAbs ≤ 16384 := by
  rw [← (h.ok i hi).2]; exact lev_few (h.ok i hi).1
theorem Sg.levs {xs : List Nat} {n : Nat} {g : Nat → Int} (h : Sg xs n g) {i : Nat} (hi : i < n) : (xs.map lev).getD i 0 = g i := by
  rw [levs_at (by rw [h.len]; exact hi), (h.ok i hi).2]
/-- With an offset. -/
theorem Sg.add {xs : List Nat} {n : Nat} {g : Nat → Int} {o : Nat} (h : Sg xs n g) (ho : sE o = 0) (hf : ∀ i, i < n → (g i + lev o).natAbs ≤ 16384) : Sg (xs.map fun x => fAdd x o) n fun i => g i + lev o := by
  refine ⟨by rw [List.length_map, h.len], fun i hi => ?_⟩
  rw [map_at (f := fun x => fAdd x o) (by rw [h.len]; exact hi)]
  obtain ⟨h1, h2⟩ := h.ok i hi
  obtain ⟨_, e1, e2⟩ := Fl.add_ok (Fl.smp h1) (Fl.smp ho) (by rw [h2]; exact hf i hi)
  exact ⟨e2, by rw [e1, h2]⟩
/- The fixed example. -/
noncomputable def exL : List Nat := [1065353216, 1073741824, 1077936128, 1082130432]
noncomputable def exB : List Nat := (bnL (exL.map lev) 2).map smO
theorem ex_ok : (sE 1065353216 = 0 ∧ lev 1065353216 = 16) ∧ (sE 1073741824 = 0 ∧ lev 1073741824 = 32) ∧ (sE 1077936128 = 0 ∧ lev 1077936128 = 48) ∧ (sE 1082130432 = 0 ∧ lev 1082130432 = 64) := by decide +kernel
theorem ex_sg : Sg exL 4 fun i => 16 * ((i : Int) + 1) := by
  obtain ⟨h1, h2, h3, h4⟩ := ex_ok
  refine ⟨rfl, fun i hi => ?_⟩
  match i, hi with
  | 0, _ => exact h1
  | 1, _ => exact h2
  | 2, _ => exact h3
  | 3, _ => exact h4
noncomputable def orcE1 : OrcV
  | [.slice (some ⟨0, 0, none⟩) n _], [some (.row e1 1 false true true)] => some (.tuple #[.int .i64 320, .bool true], [some (.row e1 1 true true true)], e1 = flts exL ∧ n = 4)
  | _, _ => none
theorem ex_320 : ixS exL = 320 := by rw [ex_sg.ix]; decide +kernel
theorem okE1 : OkV Tryz.prog 9 orcE1 := by
  intro args H ret H' vc h hv
  unfold orcE1 at h
  split at h
  · rename_i n c e1
    cases h
    obtain ⟨rfl, rfl⟩ := hv
    refine SmallRes.loose ?_
    rw [← ex_320]
    exact okLxT exL _ _ _ _ _ rfl ⟨rfl, rfl, by decide, by decide, ex_sg.all⟩
  · cases h
noncomputable def orcE2 : OrcV
  | [.slice (some ⟨0, 0, none⟩) n _], [some (.row e1 1 false true true)] => some (.tuple #[.slice (some ⟨1, 0, none⟩) 4 0, .int .i64 0], [some (.row e1 1 true true true), fR (rvL (exL.map tuO))], e1 = flts exL ∧ n = 4)
  | _, _ => none
theorem okE2 : OkV Tryz.prog 17 orcE2 := by
  intro args H ret H' vc h hv
  unfold orcE2 at h
  split at h
  · rename_i n c e1
    cases h
    obtain ⟨rfl, rfl⟩ := hv
    refine SmallRes.loose ?_
    exact okTn exL _ _ _ _ _ rfl ⟨rfl, rfl, by decide, ex_sg.all⟩
  · cases h
noncomputable def orcE3 : OrcV
  | [.slice (some ⟨0, 0, none⟩) n _], [some (.row e1 1 false true true)] => some (.tuple #[.slice (some ⟨1, 0, none⟩) 2 0, .int .i64 0], [some (.row e1 1 true true true), fR exB], e1 = flts exL ∧ n = 4)
  | _, _ => none
theorem okE3 : OkV Tryz.prog 18 orcE3 := by
  intro args H ret H' vc h hv
  unfold orcE3 at h
  split at h
  · rename_i n c e1
    cases h
    obtain ⟨rfl, rfl⟩ := hv
    refine SmallRes.loose ?_
    refine okBe exL _ _ _ _ _ rfl ⟨rfl, rfl, by decide, by decide, ex_sg.all, fun i hi => ?_⟩
    rw [bnL_len] at hi
    rw [bnL_at _ hi, bnD, ex_sg.levs (by omega), ex_sg.levs (by omega), ex_sg.levs (by omega)]
    omega
  · cases h
noncomputable def hsL4 : Hs Tryz.prog where
  op y := if y = 101 then some (hCa Tryz.prog 9 orcE1 okE1) else if y = 601 then some (hCa Tryz.prog 9 (orcLxT (rvL (exL.map tuO))) (okLxT _)) else if y = 701 then some (hCa Tryz.prog 9 (orcLxT exB) (okLxT _)) else none
  au := auCalls [(17, hCa Tryz.prog 17 orcE2 okE2), (18, hCa Tryz.prog 18 orcE3 okE3)]
theorem l4_t (K : Value → Heap → Prop) :
    (fnP Tryz.prog c0 hsL4 (4 : FuncId) [] [] K) =
    (Is ([Value.float FloatKind.f32 (1065353216 : Nat), Value.float FloatKind.f32 (1073741824 : Nat), Value.float FloatKind.f32 (1077936128 : Nat), Value.float FloatKind.f32 (1082130432 : Nat)] = [Value.float FloatKind.f32 (1065353216 : Nat), Value.float FloatKind.f32 (1073741824 : Nat), Value.float FloatKind.f32 (1077936128 : Nat), Value.float FloatKind.f32 (1082130432 : Nat)] ∧ (4 : Nat) = (4 : Nat)) ∧ Is ([Value.float FloatKind.f32 (1065353216 : Nat), Value.float FloatKind.f32 (1073741824 : Nat), Value.float FloatKind.f32 (1077936128 : Nat), Value.float FloatKind.f32 (1082130432 : Nat)] = [Value.float FloatKind.f32 (1065353216 : Nat), Value.float FloatKind.f32 (1073741824 : Nat), Value.float FloatKind.f32 (1077936128 : Nat), Value.float FloatKind.f32 (1082130432 : Nat)] ∧ (4 : Nat) = (4 : Nat)) ∧ Is ([Value.float FloatKind.f32 (1065353216 : Nat), Value.float FloatKind.f32 (1073741824 : Nat), Value.float FloatKind.f32 (1077936128 : Nat), Value.float FloatKind.f32 (1082130432 : Nat)] = [Value.float FloatKind.f32 (1065353216 : Nat), Value.float FloatKind.f32 (1073741824 : Nat), Value.float FloatKind.f32 (1077936128 : Nat), Value.float FloatKind.f32 (1082130432 : Nat)] ∧ (4 : Nat) = (4 : Nat)) ∧ Is ([Value.float FloatKind.f32 (3229614080 : Nat), Value.float FloatKind.f32 (3225419776 : Nat), Value.float FloatKind.f32 (3221225472 : Nat), Value.float FloatKind.f32 (3212836864 : Nat)] = [Value.float FloatKind.f32 (3229614080 : Nat), Value.float FloatKind.f32 (3225419776 : Nat), Value.float FloatKind.f32 (3221225472 : Nat), Value.float FloatKind.f32 (3212836864 : Nat)] ∧ (4 : Nat) = (4 : Nat) ∧ (2 : Nat) ≤ (4 : Nat) ∧ (4 : Nat) ≤ (256 : Nat) ∧ allS [(3229614080 : Nat), (3225419776 : Nat), (3221225472 : Nat), (3212836864 : Nat)]) ∧ Is ([Value.float FloatKind.f32 (0 : Nat), Value.float FloatKind.f32 (0 : Nat)] = [Value.float FloatKind.f32 (0 : Nat), Value.float FloatKind.f32 (0 : Nat)] ∧ (2 : Nat) = (2 : Nat) ∧ (2 : Nat) ≤ (2 : Nat) ∧ (2 : Nat) ≤ (256 : Nat) ∧ allS [(0 : Nat), (0 : Nat)]) ∧ K (Value.bool true) noH) := by kernel_rfl
theorem ex_a1 : fi (([3229614080, 3225419776, 3221225472, 3212836864] : List Nat).map sE) = 0 := by decide +kernel
theorem ex_a2 : fi (([0, 0] : List Nat).map sE) = 0 := by decide +kernel
theorem l4_ok : SmallRes Tryz.prog 4 [] [] (.bool true) [] := by
  refine fnP_res hm c0_ok (hs := hsL4) ?_
  rw [l4_t]
  exact ⟨⟨by first | trivial | rfl, by first | trivial | rfl⟩, ⟨by first | trivial | rfl, by first | trivial | rfl⟩, ⟨by first | trivial | rfl, by first | trivial | rfl⟩, ⟨by first | trivial | rfl, by first | trivial | rfl, by decide, by decide, ex_a1⟩, ⟨by first | trivial | rfl, by first | trivial | rfl, by decide, by decide, ex_a2⟩, by first | trivial | rfl, by first | trivial | rfl⟩
noncomputable def orcL4 : Orc
  | [], [] => some (.bool true, [])
  | _, _ => none
theorem okL4 : Ok Tryz.prog 4 orcL4 := by
  intro args H ret H' h
  unfold orcL4 at h
  split at h
  · cases h; exact l4_ok
  · cases h
end
end Qq
end
section
/- What the law comes by, plain. -/
open Go Go.Vm Go.Proofs Sp
namespace Sp
noncomputable section
/-- A signal of which the index is told. -/
def lxOk (e : List Value) (n : Nat) (v : Int) : Prop := ∃ xs, e = flts xs ∧ xs.length = n ∧ 2 ≤ n ∧ n ≤ 256 ∧ Qq.allS xs ∧ Qq.ixS xs = v
noncomputable def adO (o x : Nat) : Nat := fAdd x o
noncomputable def spO (u : Int) : Int := 1 + u.tmod 4
end
end Sp
namespace Qq
noncomputable section
theorem Sg.told {xs : List Nat} {n : Nat} {g : Nat → Int} (h : Sg xs n g) (h0 : 2 ≤ n) (h1 : n ≤ 256) : lxOk (flts xs) n (ixG g n) := ⟨xs, rfl, h.len, h0, h1, h.all, h.ix⟩
/-- All that is needed of what the law comes by. -/
structure Ft (xs : List Nat) (us : List Int) (o n m : Nat) (bk th hr rt ag : List Nat) (ix : Int) (fd : Nat) (be : List Nat) (sp : List Int) (fe fr : List Nat) (ix2 : Int) : Prop where
  i0 : lxOk (flts xs) n ix
  ebk : rvL (xs.map tuO) = bk
  lbk : bk.length = n
  abk : allS bk
  pa : ∀ i, i < n → fAddOk (xs.getD i 0) o
  pb : ∀ i, i < n → fAddOk (bk.getD i 0) o
  eth : xs.map (adO o) = th
  ehr : bk.map (adO o) = hr
  lth : th.length = n
  lhr : hr.length = n
  ath : allS th
  ahr : allS hr
  oft : (ofT th hr n).natAbs ≤ 16384
  efd : smO (ofT th hr n) = fd
  nfd : fNe fd o = false
  sfd : sE fd = 0
  fco : fewI (hr.map (coO fd))
  ert : (hr.map (coO fd)).map smO = rt
  lrt : rt.length = n
  art : allS rt
  eag : rvL (rt.map tuO) = ag
  lag : ag.length = n
  aag : allS ag
  sag : sameL ag xs
  i1 : lxOk (flts bk) n ix
  i2 : lxOk (flts th) n ix
  i3 : lxOk (flts hr) n ix
  i4 : lxOk (flts rt) n ix
  fbe : fewI (bnL (xs.map lev) m)
  ebe : (bnL (xs.map lev) m).map smO = be
  lbe : be.length = m
  abe : allS be
  esp : us.map spO = sp
  lsp : sp.length = m
  osp : okSp sp
  ffe : fewI (feL (xs.map lev) sp m m)
  efe : (feL (xs.map lev) sp m m).map smO = fe
  lfe : fe.length = m
  afe : allS fe
  ffr : fewI (frL (fe.map lev) sp m)
  efr : (frL (fe.map lev) sp m).map smO = fr
  lfr : fr.length = m
  afr : allS fr
  sfr : sameL fr be
  i5 : lxOk (flts be) m ix2
  i6 : lxOk (flts fr) m ix2
end
end Qq
end
section
/- A section of the program, made of one of the reference; a run, scaled by a whole number. -/
open Go Go.Vm Go.Proofs Sp
namespace Sp
noncomputable section
def mlI (p : Int) (_ : Nat) (v : Int) : Int := v * p
end
end Sp
namespace Qq
noncomputable section
theorem ls_t (nm : ByteArray) (zs : List Int) (ks : List (Int × ByteArray)) (n : Nat) (c : Nat) (k : Nat) (d : Nat) (m1 : Bool) (w1 : Bool) (m2 : Bool) (w2 : Bool) (K : Value → Heap → Prop) :
    (fnP Tryz.prog c0 (hsOwn nm zs ks n c k d m1 w1 m2 w2) (11 : FuncId) [Value.agg (List.toArray (secA nm (0 : Nat) n c (1 : Nat) k d))] [some (AObj.row (ints zs) (2 : Nat) m1 w1 true), some (AObj.row (acs ks) (2 : Nat) m2 w2 true)] K) =
    ((∃ (s : Nat), Is (s ≤ n) ∧ [poi, Value.pointer (some { block := (2 : Nat), off := (0 : Nat) }), Value.pointer (some { block := (3 : Nat), off := (0 : Nat) }), Value.pointer (some { block := (4 : Nat), off := (0 : Nat) }), poi, poi, poi, poi, poi, poi, poi, poi, Value.slice (some { block := (0 : Nat), off := (0 : Nat) }) n c, Value.int IntKind.i64 (↑n : Int), Value.int IntKind.i64 (0 : Int), poi, poi, poi, poi, poi, poi, poi, poi, poi, poi, poi, poi, poi, poi, poi, poi, poi, poi, poi, poi, poi, poi, poi, poi, poi] = [poi, Value.pointer (some { block := (2 : Nat), off := (0 : Nat) }), Value.pointer (some { block := (3 : Nat), off := (0 : Nat) }), Value.pointer (some { block := (4 : Nat), off := (0 : Nat) }), poi, poi, poi, poi, poi, poi, poi, poi, Value.slice (some { block := (0 : Nat), off := (0 : Nat) }) n c, Value.int IntKind.i64 (↑n : Int), Value.int IntKind.i64 (↑s : Int), poi, poi, poi, poi, poi, poi, poi, poi, poi, poi, poi, poi, poi, poi, poi, poi, poi, poi, poi, poi, poi, poi, poi, poi, poi] ∧ some (AObj.row (ints zs) (2 : Nat) m1 w1 true) :: some (AObj.row (acs ks) (2 : Nat) m2 w2 true) :: some (AObj.row [Value.string nm, Value.slice (some { block := (0 : Nat), off := (0 : Nat) }) n c, Value.slice (some { block := (1 : Nat), off := (0 : Nat) }) k d] (0 : Nat) false true (List.all [Value.string nm, Value.slice (some { block := (0 : Nat), off := (0 : Nat) }) n c, Value.slice (some { block := (1 : Nat), off := (0 : Nat) }) k d] atom)) :: some (AObj.row [Value.string { data := #[] }, Value.slice none (0 : Nat) (0 : Nat), Value.slice none (0 : Nat) (0 : Nat)] (0 : Nat) false true true) :: some (AObj.row [Value.string nm, Value.slice (some { block := (5 : Nat), off := (0 : Nat) }) (0 : Nat) (0 : Nat), Value.slice (some { block := (6 : Nat), off := (0 : Nat) }) (0 : Nat) (0 : Nat)] (0 : Nat) false true false) :: some (AObj.row [] (2 : Nat) true true true) :: some (AObj.row [] (2 : Nat) true true true) :: noH = some (AObj.row (ints zs) (2 : Nat) m1 w1 true) :: some (AObj.row (acs ks) (2 : Nat) m2 w2 true) :: some (AObj.row [Value.string nm, Value.slice (some { block := (0 : Nat), off := (0 : Nat) }) n c, Value.slice (some { block := (1 : Nat), off := (0 : Nat) }) k d] (0 : Nat) false true false) :: some (AObj.row [Value.string { data := #[] }, Value.slice none (0 : Nat) (0 : Nat), Value.slice none (0 : Nat) (0 : Nat)] (0 : Nat) false true true) :: some (AObj.row [Value.string nm, Value.slice (some { block := (5 : Nat), off := (0 : Nat) }) s (0 : Nat), Value.slice (some { block := (6 : Nat), off := (0 : Nat) }) (0 : Nat) (0 : Nat)] (0 : Nat) false true false) :: some (AObj.row (ints (List.take (s * (2 : Nat)) zs)) (2 : Nat) true true true) :: some (AObj.row [] (2 : Nat) true true true) :: noH) ∧ ∀ (s : Nat), Is (s ≤ n) → br (decide ((↑s : Int) < (↑n : Int))) (Is ((0 : Int) ≤ (↑s : Int) ∧ (↑s : Int) < (↑n : Int)) ∧ Is ((if (0 : Nat) + Int.toNat (↑s : Int) * (2 : Nat) + (2 : Nat) ≤ List.length (ints zs) then some (Value.agg (List.toArray (List.take (2 : Nat) (List.drop ((0 : Nat) + Int.toNat (↑s : Int) * (2 : Nat)) (ints zs))))) else none) = some (Value.agg #[Value.int IntKind.i64 (List.getD zs ((0 : Nat) + Int.toNat (↑s : Int) * (2 : Nat)) (0 : Int)), Value.int IntKind.i64 (List.getD zs ((0 : Nat) + Int.toNat (↑s : Int) * (2 : Nat) + (1 : Nat)) (0 : Int))])) ∧ Is (List.length (ints (List.take (s * (2 : Nat)) zs)) = s * (2 : Nat) ∧ (s + (1 : Nat)) * (16 : Nat) ≤ (140737488355328 : Nat) ∧ s + (1 : Nat) ≤ (9223372036854775807 : Nat)) ∧ ∃ (s' : Nat), Is (s' ≤ n) ∧ Is (n - s' < n - s) ∧ [poi, Value.pointer (some { block := (2 : Nat), off := (0 : Nat) }), Value.pointer (some { block := (3 : Nat), off := (0 : Nat) }), Value.pointer (some { block := (4 : Nat), off := (0 : Nat) }), poi, poi, poi, poi, poi, poi, poi, poi, Value.slice (some { block := (0 : Nat), off := (0 : Nat) }) n c, Value.int IntKind.i64 (↑n : Int), Value.int IntKind.i64 (IntKind.wrap IntKind.i64 ((↑s : Int) + (1 : Int))), poi, poi, poi, poi, poi, poi, poi, poi, poi, poi, poi, poi, poi, poi, poi, poi, poi, poi, poi, poi, poi, poi, poi, poi, poi] = [poi, Value.pointer (some { block := (2 : Nat), off := (0 : Nat) }), Value.pointer (some { block := (3 : Nat), off := (0 : Nat) }), Value.pointer (some { block := (4 : Nat), off := (0 : Nat) }), poi, poi, poi, poi, poi, poi, poi, poi, Value.slice (some { block := (0 : Nat), off := (0 : Nat) }) n c, Value.int IntKind.i64 (↑n : Int), Value.int IntKind.i64 (↑s' : Int), poi, poi, poi, poi, poi, poi, poi, poi, poi, poi, poi, poi, poi, poi, poi, poi, poi, poi, poi, poi, poi, poi, poi, poi, poi] ∧ some (AObj.row (ints zs) (2 : Nat) m1 w1 true) :: some (AObj.row (acs ks) (2 : Nat) m2 w2 true) :: some (AObj.row [Value.string nm, Value.slice (some { block := (0 : Nat), off := (0 : Nat) }) n c, Value.slice (some { block := (1 : Nat), off := (0 : Nat) }) k d] (0 : Nat) false true false) :: some (AObj.row [Value.string { data := #[] }, Value.slice none (0 : Nat) (0 : Nat), Value.slice none (0 : Nat) (0 : Nat)] (0 : Nat) false true true) :: some (AObj.row [Value.string nm, Value.slice (some { block := (5 : Nat), off := (0 : Nat) }) (s + (1 : Nat)) (0 : Nat), Value.slice (some { block := (6 : Nat), off := (0 : Nat) }) (0 : Nat) (0 : Nat)] (0 : Nat) false true false) :: some (AObj.row (ints (List.take (s * (2 : Nat)) zs) ++ [Value.int IntKind.i64 (List.getD zs ((0 : Nat) + Int.toNat (↑s : Int) * (2 : Nat)) (0 : Int)), Value.int IntKind.i64 (List.getD zs ((0 : Nat) + Int.toNat (↑s : Int) * (2 : Nat) + (1 : Nat)) (0 : Int))]) (2 : Nat) true true (List.all [Value.int IntKind.i64 (List.getD zs ((0 : Nat) + Int.toNat (↑s : Int) * (2 : Nat)) (0 : Int)), Value.int IntKind.i64 (List.getD zs ((0 : Nat) + Int.toNat (↑s : Int) * (2 : Nat) + (1 : Nat)) (0 : Int))] atom)) :: some (AObj.row [] (2 : Nat) true true true) :: noH = some (AObj.row (ints zs) (2 : Nat) m1 w1 true) :: some (AObj.row (acs ks) (2 : Nat) m2 w2 true) :: some (AObj.row [Value.string nm, Value.slice (some { block := (0 : Nat), off := (0 : Nat) }) n c, Value.slice (some { block := (1 : Nat), off := (0 : Nat) }) k d] (0 : Nat) false true false) :: some (AObj.row [Value.string { data := #[] }, Value.slice none (0 : Nat) (0 : Nat), Value.slice none (0 : Nat) (0 : Nat)] (0 : Nat) false true true) :: some (AObj.row [Value.string nm, Value.slice (some { block := (5 : Nat), off := (0 : Nat) }) s' (0 : Nat), Value.slice (some { block := (6 : Nat), off := (0 : Nat) }) (0 : Nat) (0 : Nat)] (0 : Nat) false true false) :: some (AObj.row (ints (List.take (s' * (2 : Nat)) zs)) (2 : Nat) true true true) :: some (AObj.row [] (2 : Nat) true true true) :: noH) ((∃ (s_1 : Nat), Is (s_1 ≤ k) ∧ [poi, poi, Value.pointer (some { block := (2 : Nat), off := (0 : Nat) }), Value.pointer (some { block := (3 : Nat), off := (0 : Nat) }), poi, poi, poi, poi, poi, poi, poi, poi, poi, poi, poi, poi, poi, poi, poi, poi, poi, poi, poi, poi, poi, poi, Value.slice (some { block := (1 : Nat), off := (0 : Nat) }) k d, Value.int IntKind.i64 (↑k : Int), Value.int IntKind.i64 (0 : Int), poi, poi, poi, poi, poi, poi, poi, poi, poi, poi, poi] = [poi, poi, Value.pointer (some { block := (2 : Nat), off := (0 : Nat) }), Value.pointer (some { block := (3 : Nat), off := (0 : Nat) }), poi, poi, poi, poi, poi, poi, poi, poi, poi, poi, poi, poi, poi, poi, poi, poi, poi, poi, poi, poi, poi, poi, Value.slice (some { block := (1 : Nat), off := (0 : Nat) }) k d, Value.int IntKind.i64 (↑k : Int), Value.int IntKind.i64 (↑s_1 : Int), poi, poi, poi, poi, poi, poi, poi, poi, poi, poi, poi] ∧ some (AObj.row (ints zs) (2 : Nat) m1 w1 true) :: some (AObj.row (acs ks) (2 : Nat) m2 w2 true) :: some (AObj.row [Value.string { data := #[] }, Value.slice none (0 : Nat) (0 : Nat), Value.slice none (0 : Nat) (0 : Nat)] (0 : Nat) false true true) :: some (AObj.row [Value.string nm, Value.slice (some { block := (4 : Nat), off := (0 : Nat) }) s (0 : Nat), Value.slice (some { block := (5 : Nat), off := (0 : Nat) }) (0 : Nat) (0 : Nat)] (0 : Nat) false true false) :: some (AObj.row (ints (List.take (s * (2 : Nat)) zs)) (2 : Nat) true true true) :: some (AObj.row [] (2 : Nat) true true true) :: noH = some (AObj.row (ints zs) (2 : Nat) m1 w1 true) :: some (AObj.row (acs ks) (2 : Nat) m2 w2 true) :: some (AObj.row [Value.string { data := #[] }, Value.slice none (0 : Nat) (0 : Nat), Value.slice none (0 : Nat) (0 : Nat)] (0 : Nat) false true true) :: some (AObj.row [Value.string nm, Value.slice (some { block := (4 : Nat), off := (0 : Nat) }) n (0 : Nat), Value.slice (some { block := (5 : Nat), off := (0 : Nat) }) s_1 (0 : Nat)] (0 : Nat) false true false) :: some (AObj.row (ints (List.take (n * (2 : Nat)) zs)) (2 : Nat) true true true) :: some (AObj.row (acs (List.take s_1 ks)) (2 : Nat) true true true) :: noH) ∧ ∀ (s : Nat), Is (s ≤ k) → br (decide ((↑s : Int) < (↑k : Int))) (Is ((0 : Int) ≤ (↑s : Int) ∧ (↑s : Int) < (↑k : Int)) ∧ Is ((if (0 : Nat) + Int.toNat (↑s : Int) * (2 : Nat) + (2 : Nat) ≤ List.length (acs ks) then some (Value.agg (List.toArray (List.take (2 : Nat) (List.drop ((0 : Nat) + Int.toNat (↑s : Int) * (2 : Nat)) (acs ks))))) else none) = some (Value.agg #[Value.int IntKind.i64 (Prod.fst (List.getD ks (((0 : Nat) + Int.toNat (↑s : Int) * (2 : Nat)) / (2 : Nat)) ((0 : Int), { data := #[] }))), Value.string (Prod.snd (List.getD ks (((0 : Nat) + Int.toNat (↑s : Int) * (2 : Nat)) / (2 : Nat)) ((0 : Int), { data := #[] })))])) ∧ Is (List.length (acs (List.take s ks)) = s * (2 : Nat) ∧ (s + (1 : Nat)) * (24 : Nat) ≤ (140737488355328 : Nat) ∧ s + (1 : Nat) ≤ (9223372036854775807 : Nat)) ∧ ∃ (s' : Nat), Is (s' ≤ k) ∧ Is (k - s' < k - s) ∧ [poi, poi, Value.pointer (some { block := (2 : Nat), off := (0 : Nat) }), Value.pointer (some { block := (3 : Nat), off := (0 : Nat) }), poi, poi, poi, poi, poi, poi, poi, poi, poi, poi, poi, poi, poi, poi, poi, poi, poi, poi, poi, poi, poi, poi, Value.slice (some { block := (1 : Nat), off := (0 : Nat) }) k d, Value.int IntKind.i64 (↑k : Int), Value.int IntKind.i64 (IntKind.wrap IntKind.i64 ((↑s : Int) + (1 : Int))), poi, poi, poi, poi, poi, poi, poi, poi, poi, poi, poi] = [poi, poi, Value.pointer (some { block := (2 : Nat), off := (0 : Nat) }), Value.pointer (some { block := (3 : Nat), off := (0 : Nat) }), poi, poi, poi, poi, poi, poi, poi, poi, poi, poi, poi, poi, poi, poi, poi, poi, poi, poi, poi, poi, poi, poi, Value.slice (some { block := (1 : Nat), off := (0 : Nat) }) k d, Value.int IntKind.i64 (↑k : Int), Value.int IntKind.i64 (↑s' : Int), poi, poi, poi, poi, poi, poi, poi, poi, poi, poi, poi] ∧ some (AObj.row (ints zs) (2 : Nat) m1 w1 true) :: some (AObj.row (acs ks) (2 : Nat) m2 w2 true) :: some (AObj.row [Value.string { data := #[] }, Value.slice none (0 : Nat) (0 : Nat), Value.slice none (0 : Nat) (0 : Nat)] (0 : Nat) false true true) :: some (AObj.row [Value.string nm, Value.slice (some { block := (4 : Nat), off := (0 : Nat) }) n (0 : Nat), Value.slice (some { block := (5 : Nat), off := (0 : Nat) }) (s + (1 : Nat)) (0 : Nat)] (0 : Nat) false true (false && List.all [Value.slice (some { block := (8 : Nat), off := (0 : Nat) }) (s + (1 : Nat)) (0 : Nat)] atom)) :: some (AObj.row (ints (List.take (n * (2 : Nat)) zs)) (2 : Nat) true true true) :: some (AObj.row (acs (List.take s ks) ++ [Value.int IntKind.i64 (Prod.fst (List.getD ks (((0 : Nat) + Int.toNat (↑s : Int) * (2 : Nat)) / (2 : Nat)) ((0 : Int), { data := #[] }))), Value.string (Prod.snd (List.getD ks (((0 : Nat) + Int.toNat (↑s : Int) * (2 : Nat)) / (2 : Nat)) ((0 : Int), { data := #[] })))]) (2 : Nat) true true (List.all [Value.int IntKind.i64 (Prod.fst (List.getD ks (((0 : Nat) + Int.toNat (↑s : Int) * (2 : Nat)) / (2 : Nat)) ((0 : Int), { data := #[] }))), Value.string (Prod.snd (List.getD ks (((0 : Nat) + Int.toNat (↑s : Int) * (2 : Nat)) / (2 : Nat)) ((0 : Int), { data := #[] })))] atom)) :: noH = some (AObj.row (ints zs) (2 : Nat) m1 w1 true) :: some (AObj.row (acs ks) (2 : Nat) m2 w2 true) :: some (AObj.row [Value.string { data := #[] }, Value.slice none (0 : Nat) (0 : Nat), Value.slice none (0 : Nat) (0 : Nat)] (0 : Nat) false true true) :: some (AObj.row [Value.string nm, Value.slice (some { block := (4 : Nat), off := (0 : Nat) }) n (0 : Nat), Value.slice (some { block := (5 : Nat), off := (0 : Nat) }) s' (0 : Nat)] (0 : Nat) false true false) :: some (AObj.row (ints (List.take (n * (2 : Nat)) zs)) (2 : Nat) true true true) :: some (AObj.row (acs (List.take s' ks)) (2 : Nat) true true true) :: noH) (K (Value.agg #[Value.string nm, Value.slice (some { block := (2 : Nat), off := (0 : Nat) }) n (0 : Nat), Value.slice (some { block := (3 : Nat), off := (0 : Nat) }) s (0 : Nat)]) (some (AObj.row (ints zs) (2 : Nat) m1 w1 true) :: some (AObj.row (acs ks) (2 : Nat) m2 w2 true) :: some (AObj.row (ints (List.take (n * (2 : Nat)) zs)) (2 : Nat) true true true) :: some (AObj.row (acs (List.take s ks)) (2 : Nat) true true true) :: noH)))) := by kernel_rfl
set_option maxRecDepth 100000 in
theorem ls_ok {nm : ByteArray} {zs : List Int} {ks : List (Int × ByteArray)} {n c k d : Nat} {m1 w1 m2 w2 : Bool} (hz : zs.length = n * 2) (hk : ks.length = k) (hn : n ≤ 1000) (hk2 : k ≤ 1000) :
    SmallRes Tryz.prog 11 [.agg (secA nm 0 n c 1 k d).toArray] [some (.row (ints zs) 2 m1 w1 true), some (.row (acs ks) 2 m2 w2 true)]
      (.agg (secA nm 2 n 0 3 k 0).toArray) [some (.row (ints zs) 2 m1 w1 true), some (.row (acs ks) 2 m2 w2 true), some (.row (ints zs) 2 true true true), some (.row (acs ks) 2 true true true)] := by
  refine fnP_res hm c0_ok (hs := hsOwn nm zs ks n c k d m1 w1 m2 w2) ?_
  rw [ls_t]
  refine ⟨⟨(0 : Nat), ⟨by omega⟩, rfl, rfl⟩, fun s hs => br_of (fun h => ?_) (fun h => ⟨⟨(0 : Nat), ⟨by omega⟩, rfl, ?_⟩, fun r hr => br_of (fun h2 => ?_) (fun h2 => ?_)⟩)⟩
  · have h := lt_of_dec h
    simp only [Nat.zero_add, Int.toNat_natCast]
    refine ⟨⟨by omega, by omega⟩, ⟨?_⟩, ⟨by rw [ints_len, List.length_take]; omega, by omega, by omega⟩, s + 1, ⟨by omega⟩, ⟨by omega⟩, ?_, ?_⟩
    · rw [ints_len, if_pos (by omega), ints_pair (by omega)]
    · rw [up1 h (by omega)]
    · rw [ints_more (by omega), Nat.add_mul]; rfl
  · have h := ge_of_dec h
    have : s = n := by have := hs.out; omega
    subst this
    rfl
  · have h2 := lt_of_dec h2
    have e2 : r * 2 / 2 = r := by omega
    simp only [Nat.zero_add, Int.toNat_natCast, e2]
    refine ⟨⟨by omega, by omega⟩, ⟨?_⟩, ⟨by rw [acs_len, List.length_take]; omega, by omega, by omega⟩, r + 1, ⟨by omega⟩, ⟨by omega⟩, ?_, ?_⟩
    · rw [acs_len, if_pos (by omega), acs_pair (by omega)]
    · rw [up1 h2 (by omega)]
    · rw [acs_more (by omega)]; rfl
  · have h2 := ge_of_dec h2
    have : r = k := by have := hr.out; omega
    subst this
    rw [← hz, List.take_length, ← hk, List.take_length]
    exact ⟨rfl, rfl⟩
noncomputable def orcLsV (zs : List Int) (ks : List (Int × ByteArray)) : OrcV
  | [.agg ⟨[.string nm, .slice (some ⟨0, 0, none⟩) n c, .slice (some ⟨1, 0, none⟩) k d]⟩], [some (.row e1 2 m1 w1 true), some (.row e2 2 m2 w2 true)] => some (.agg #[.string nm, .slice (some ⟨2, 0, none⟩) n 0, .slice (some ⟨3, 0, none⟩) k 0], [some (.row e1 2 m1 w1 true), some (.row e2 2 m2 w2 true), some (.row (ints zs) 2 true true true), some (.row (acs ks) 2 true true true)], isSec zs ks n k e1 e2)
  | _, _ => none
theorem ls_okV (zs : List Int) (ks : List (Int × ByteArray)) : OkV Tryz.prog 11 (orcLsV zs ks) := by
  intro args H ret H' vc h hv
  unfold orcLsV at h
  split at h
  · cases h
    obtain ⟨rfl, rfl, h1, h2, h3, h4⟩ := hv
    exact ls_ok h1 h2 h3 h4
  · cases h
noncomputable def hsScP : Hs Tryz.prog where
  au := auCalls [(30, hCa Tryz.prog 30 orcRn1 okRn1)]
theorem scP_t (i : Int) (v : Int) (p : Int) (q : Int) (K : Value → Heap → Prop) :
    (fnP Tryz.prog c0 hsScP (29 : FuncId) [Value.int IntKind.i64 i, Value.int IntKind.i64 v, Value.pointer (some { block := (0 : Nat), off := (0 : Nat) }), Value.pointer (some { block := (1 : Nat), off := (0 : Nat) })] [bxI p, bxI q] K) =
    (Is (q = (1 : Int) ∧ Int.natAbs (IntKind.wrap IntKind.i64 (v * p)) ≤ (100000 : Nat)) ∧ K (Value.int IntKind.i64 (IntKind.wrap IntKind.i64 (v * p))) (some (AObj.row [Value.int IntKind.i64 p] (0 : Nat) false true true) :: some (AObj.row [Value.int IntKind.i64 q] (0 : Nat) false true true) :: noH)) := by kernel_rfl
noncomputable def orcScP (p : Int) : OrcV
  | [.int .i64 _, .int .i64 v, .pointer (some ⟨0, 0, none⟩), .pointer (some ⟨1, 0, none⟩)], [some (.row [.int .i64 p'] 0 false true true), some (.row [.int .i64 q] 0 false true true)] =>
    some (.int .i64 (v * p), [bxI p', bxI q], p' = p ∧ q = 1 ∧ (v * p).natAbs ≤ 100000)
  | _, _ => none
theorem okScP (p : Int) : OkV Tryz.prog 29 (orcScP p) := by
  intro args H ret H' vc h hv
  unfold orcScP at h
  split at h
  · rename_i i v p' q
    cases h
    obtain ⟨rfl, rfl, hb⟩ := hv
    refine fnP_res hm c0_ok (hs := hsScP) ?_
    show fnP Tryz.prog c0 hsScP 29 _ [bxI p', bxI 1] _
    rw [scP_t, wrap_eq (x := v * p') (by omega) (by omega)]
    exact ⟨⟨rfl, by omega⟩, by first | trivial | rfl, by first | trivial | rfl⟩
  · cases h
noncomputable def cloP : Value := .func (.func 29) #[] #[.pointer (some ⟨2, 0, none⟩), .pointer (some ⟨3, 0, none⟩)]
noncomputable def exP (p : Int) : Heap := [bxI p, bxI 1]
noncomputable def lpCP (nm : ByteArray) (f : Int) (n c k d : Nat) (xs : List Nat) (hs : List Int) (p : Int) : Lp where
  σ := Nat
  E s := slots 41 [(1, cloP), (2, .pointer (some ⟨4, 0, none⟩)), (4, .pointer (some ⟨5, 0, none⟩)), (6, .slice (some ⟨6, 0, none⟩) n 0), (11, .slice (some ⟨6, 0, none⟩) n 0), (12, .int .i64 (Int.ofNat n)), (13, .int .i64 (Int.ofNat s))]
  Hp s := hp2r xs hs true true true true (exP p ++ [runO nm f n c k d, some (.row zrun 0 false true true), rdR n (chR (rdF xs (knB hs)) (mlI p) s)])
  I s := s ≤ n
  m s := n - s
noncomputable def hsCP (nm : ByteArray) (f : Int) (n c k d : Nat) (xs : List Nat) (hs : List Int) (p : Int) : Hs Tryz.prog where
  op y := if [401, 607, 702].contains y then some (hIa Tryz.prog) else if y = 402 then some (hLd Tryz.prog (zR (rdF xs (knB hs)))) else if y = 606 then some (hCa Tryz.prog 29 (orcScP p) (okScP p)) else if y = 609 then some (hSp Tryz.prog) else if y = 704 then some (hLc Tryz.prog gI) else none
  lp _ := some (lpCP nm f n c k d xs hs p)
  cl _ := keep 41 [1, 2, 4, 6, 11, 12, 13]
  au := auCalls [(68, hCa Tryz.prog 68 (orcRr xs hs) (okRr xs hs)), (70, hCa Tryz.prog 70 (orcWi xs hs (chR (rdF xs (knB hs)) (mlI p) n)) (okWi xs hs (chR (rdF xs (knB hs)) (mlI p) n)))]
theorem chP_t (nm : ByteArray) (f : Int) (n : Nat) (c : Nat) (k : Nat) (d : Nat) (xs : List Nat) (hs : List Int) (p : Int) (K : Value → Heap → Prop) :
    (fnP Tryz.prog cLg (hsCP nm f n c k d xs hs p) (28 : FuncId) [Value.agg (List.toArray (runA nm f (0 : Nat) n c (1 : Nat) k d)), cloP] (hp2r xs hs true true true true (exP p)) K) =
    (Is (isRun xs hs n k (flts xs) (ints hs) ∧ fi (List.map sE xs) = (0 : Int) ∧ hchk (↑n : Int) hs (-1 : Int) = (0 : Int)) ∧ (∃ (s : Nat), Is (s ≤ n) ∧ [poi, Value.func (Fn.func (29 : Nat)) #[] #[Value.pointer (some { block := (2 : Nat), off := (0 : Nat) }), Value.pointer (some { block := (3 : Nat), off := (0 : Nat) })], Value.pointer (some { block := (4 : Nat), off := (0 : Nat) }), poi, Value.pointer (some { block := (5 : Nat), off := (0 : Nat) }), poi, Value.slice (some { block := (6 : Nat), off := (0 : Nat) }) n (0 : Nat), poi, poi, poi, poi, Value.slice (some { block := (6 : Nat), off := (0 : Nat) }) n (0 : Nat), Value.int IntKind.i64 (↑n : Int), Value.int IntKind.i64 (0 : Int), poi, poi, poi, poi, poi, poi, poi, poi, poi, poi, poi, poi, poi, poi, poi, poi, poi, poi, poi, poi, poi, poi, poi, poi, poi, poi, poi] = [poi, Value.func (Fn.func (29 : Nat)) #[] #[Value.pointer (some { block := (2 : Nat), off := (0 : Nat) }), Value.pointer (some { block := (3 : Nat), off := (0 : Nat) })], Value.pointer (some { block := (4 : Nat), off := (0 : Nat) }), poi, Value.pointer (some { block := (5 : Nat), off := (0 : Nat) }), poi, Value.slice (some { block := (6 : Nat), off := (0 : Nat) }) n (0 : Nat), poi, poi, poi, poi, Value.slice (some { block := (6 : Nat), off := (0 : Nat) }) n (0 : Nat), Value.int IntKind.i64 (↑n : Int), Value.int IntKind.i64 (↑s : Int), poi, poi, poi, poi, poi, poi, poi, poi, poi, poi, poi, poi, poi, poi, poi, poi, poi, poi, poi, poi, poi, poi, poi, poi, poi, poi, poi] ∧ some (AObj.row (flts xs) (1 : Nat) true true true) :: some (AObj.row (ints hs) (2 : Nat) true true true) :: some (AObj.row [Value.int IntKind.i64 p] (0 : Nat) false true true) :: some (AObj.row [Value.int IntKind.i64 (1 : Int)] (0 : Nat) false true true) :: some (AObj.row [Value.string nm, Value.int IntKind.i64 f, Value.slice (some { block := (0 : Nat), off := (0 : Nat) }) n c, Value.slice (some { block := (1 : Nat), off := (0 : Nat) }) k d] (0 : Nat) false true (List.all [Value.string nm, Value.int IntKind.i64 f, Value.slice (some { block := (0 : Nat), off := (0 : Nat) }) n c, Value.slice (some { block := (1 : Nat), off := (0 : Nat) }) k d] atom)) :: some (AObj.row [Value.string { data := #[] }, Value.int IntKind.i64 (0 : Int), Value.slice none (0 : Nat) (0 : Nat), Value.slice none (0 : Nat) (0 : Nat)] (0 : Nat) false true true) :: some (AObj.row (rdc n (rdF xs (knB hs))) (2 : Nat) true true true) :: noH = some (AObj.row (flts xs) (1 : Nat) true true true) :: some (AObj.row (ints hs) (2 : Nat) true true true) :: some (AObj.row [Value.int IntKind.i64 p] (0 : Nat) false true true) :: some (AObj.row [Value.int IntKind.i64 (1 : Int)] (0 : Nat) false true true) :: some (AObj.row [Value.string nm, Value.int IntKind.i64 f, Value.slice (some { block := (0 : Nat), off := (0 : Nat) }) n c, Value.slice (some { block := (1 : Nat), off := (0 : Nat) }) k d] (0 : Nat) false true false) :: some (AObj.row [Value.string { data := #[] }, Value.int IntKind.i64 (0 : Int), Value.slice none (0 : Nat) (0 : Nat), Value.slice none (0 : Nat) (0 : Nat)] (0 : Nat) false true true) :: some (AObj.row (rdc n (chR (rdF xs (knB hs)) (mlI p) s)) (2 : Nat) true true true) :: noH) ∧ ∀ (s : Nat), Is (s ≤ n) → br (decide ((↑s : Int) < (↑n : Int))) (Is ((0 : Int) ≤ (↑s : Int) ∧ (↑s : Int) < (↑n : Int)) ∧ Is ((if (0 : Nat) + Int.toNat (↑s : Int) * (2 : Nat) + (2 : Nat) ≤ List.length (rdc n (chR (rdF xs (knB hs)) (mlI p) s)) then some (Value.agg (List.toArray (List.take (2 : Nat) (List.drop ((0 : Nat) + Int.toNat (↑s : Int) * (2 : Nat)) (rdc n (chR (rdF xs (knB hs)) (mlI p) s)))))) else none) = some (Value.agg #[Value.int IntKind.i64 (rdV (rdF xs (knB hs)) ((0 : Nat) + Int.toNat (↑s : Int) * (2 : Nat))), Value.bool (rdW (rdF xs (knB hs)) ((0 : Nat) + Int.toNat (↑s : Int) * (2 : Nat)))])) ∧ br (!rdW (rdF xs (knB hs)) ((0 : Nat) + Int.toNat (↑s : Int) * (2 : Nat))) (∃ (s' : Nat), Is (s' ≤ n) ∧ Is (n - s' < n - s) ∧ [poi, Value.func (Fn.func (29 : Nat)) #[] #[Value.pointer (some { block := (2 : Nat), off := (0 : Nat) }), Value.pointer (some { block := (3 : Nat), off := (0 : Nat) })], Value.pointer (some { block := (4 : Nat), off := (0 : Nat) }), poi, Value.pointer (some { block := (5 : Nat), off := (0 : Nat) }), poi, Value.slice (some { block := (6 : Nat), off := (0 : Nat) }) n (0 : Nat), poi, poi, poi, poi, Value.slice (some { block := (6 : Nat), off := (0 : Nat) }) n (0 : Nat), Value.int IntKind.i64 (↑n : Int), Value.int IntKind.i64 (IntKind.wrap IntKind.i64 ((↑s : Int) + (1 : Int))), poi, poi, poi, poi, poi, poi, poi, poi, poi, poi, poi, poi, poi, poi, poi, poi, poi, poi, poi, poi, poi, poi, poi, poi, poi, poi, poi] = [poi, Value.func (Fn.func (29 : Nat)) #[] #[Value.pointer (some { block := (2 : Nat), off := (0 : Nat) }), Value.pointer (some { block := (3 : Nat), off := (0 : Nat) })], Value.pointer (some { block := (4 : Nat), off := (0 : Nat) }), poi, Value.pointer (some { block := (5 : Nat), off := (0 : Nat) }), poi, Value.slice (some { block := (6 : Nat), off := (0 : Nat) }) n (0 : Nat), poi, poi, poi, poi, Value.slice (some { block := (6 : Nat), off := (0 : Nat) }) n (0 : Nat), Value.int IntKind.i64 (↑n : Int), Value.int IntKind.i64 (↑s' : Int), poi, poi, poi, poi, poi, poi, poi, poi, poi, poi, poi, poi, poi, poi, poi, poi, poi, poi, poi, poi, poi, poi, poi, poi, poi, poi, poi] ∧ some (AObj.row (flts xs) (1 : Nat) true true true) :: some (AObj.row (ints hs) (2 : Nat) true true true) :: some (AObj.row [Value.int IntKind.i64 p] (0 : Nat) false true true) :: some (AObj.row [Value.int IntKind.i64 (1 : Int)] (0 : Nat) false true true) :: some (AObj.row [Value.string nm, Value.int IntKind.i64 f, Value.slice (some { block := (0 : Nat), off := (0 : Nat) }) n c, Value.slice (some { block := (1 : Nat), off := (0 : Nat) }) k d] (0 : Nat) false true false) :: some (AObj.row [Value.string { data := #[] }, Value.int IntKind.i64 (0 : Int), Value.slice none (0 : Nat) (0 : Nat), Value.slice none (0 : Nat) (0 : Nat)] (0 : Nat) false true true) :: some (AObj.row (rdc n (chR (rdF xs (knB hs)) (mlI p) s)) (2 : Nat) true true true) :: noH = some (AObj.row (flts xs) (1 : Nat) true true true) :: some (AObj.row (ints hs) (2 : Nat) true true true) :: some (AObj.row [Value.int IntKind.i64 p] (0 : Nat) false true true) :: some (AObj.row [Value.int IntKind.i64 (1 : Int)] (0 : Nat) false true true) :: some (AObj.row [Value.string nm, Value.int IntKind.i64 f, Value.slice (some { block := (0 : Nat), off := (0 : Nat) }) n c, Value.slice (some { block := (1 : Nat), off := (0 : Nat) }) k d] (0 : Nat) false true false) :: some (AObj.row [Value.string { data := #[] }, Value.int IntKind.i64 (0 : Int), Value.slice none (0 : Nat) (0 : Nat), Value.slice none (0 : Nat) (0 : Nat)] (0 : Nat) false true true) :: some (AObj.row (rdc n (chR (rdF xs (knB hs)) (mlI p) s')) (2 : Nat) true true true) :: noH) (Is (p = p ∧ (1 : Int) = (1 : Int) ∧ Int.natAbs (rdV (rdF xs (knB hs)) ((0 : Nat) + Int.toNat (↑s : Int) * (2 : Nat)) * p) ≤ (100000 : Nat)) ∧ Is ((0 : Int) ≤ (↑s : Int) ∧ (↑s : Int) < (↑n : Int)) ∧ Is ((0 : Nat) + Int.toNat (↑s : Int) * (2 : Nat) + (0 : Nat) + (1 : Nat) ≤ List.length (rdc n (chR (rdF xs (knB hs)) (mlI p) s))) ∧ Is ((0 : Int) ≤ (↑s : Int) ∧ (↑s : Int) < (↑n : Int)) ∧ Is ((putL (rdc n (chR (rdF xs (knB hs)) (mlI p) s)) ((0 : Nat) + Int.toNat (↑s : Int) * (2 : Nat) + (0 : Nat)) [Value.int IntKind.i64 (rdV (rdF xs (knB hs)) ((0 : Nat) + Int.toNat (↑s : Int) * (2 : Nat)) * p)])[(0 : Nat) + Int.toNat (↑s : Int) * (2 : Nat) + (0 : Nat)]? = some (Value.int IntKind.i64 (iAt (putL (rdc n (chR (rdF xs (knB hs)) (mlI p) s)) ((0 : Nat) + Int.toNat (↑s : Int) * (2 : Nat) + (0 : Nat)) [Value.int IntKind.i64 (rdV (rdF xs (knB hs)) ((0 : Nat) + Int.toNat (↑s : Int) * (2 : Nat)) * p)]) ((0 : Nat) + Int.toNat (↑s : Int) * (2 : Nat) + (0 : Nat))))) ∧ br (decide (iAt (putL (rdc n (chR (rdF xs (knB hs)) (mlI p) s)) ((0 : Nat) + Int.toNat (↑s : Int) * (2 : Nat) + (0 : Nat)) [Value.int IntKind.i64 (rdV (rdF xs (knB hs)) ((0 : Nat) + Int.toNat (↑s : Int) * (2 : Nat)) * p)]) ((0 : Nat) + Int.toNat (↑s : Int) * (2 : Nat) + (0 : Nat)) < (-16384 : Int)) || decide ((16384 : Int) < iAt (putL (rdc n (chR (rdF xs (knB hs)) (mlI p) s)) ((0 : Nat) + Int.toNat (↑s : Int) * (2 : Nat) + (0 : Nat)) [Value.int IntKind.i64 (rdV (rdF xs (knB hs)) ((0 : Nat) + Int.toNat (↑s : Int) * (2 : Nat)) * p)]) ((0 : Nat) + Int.toNat (↑s : Int) * (2 : Nat) + (0 : Nat)))) (K (Value.tuple #[Value.agg #[Value.string { data := #[] }, Value.int IntKind.i64 (0 : Int), Value.slice none (0 : Nat) (0 : Nat), Value.slice none (0 : Nat) (0 : Nat)], Value.int IntKind.i64 (4 : Int)]) (some (AObj.row (flts xs) (1 : Nat) true true true) :: some (AObj.row (ints hs) (2 : Nat) true true true) :: some (AObj.row [Value.int IntKind.i64 p] (0 : Nat) false true true) :: some (AObj.row [Value.int IntKind.i64 (1 : Int)] (0 : Nat) false true true) :: noH)) (∃ (s' : Nat), Is (s' ≤ n) ∧ Is (n - s' < n - s) ∧ [poi, Value.func (Fn.func (29 : Nat)) #[] #[Value.pointer (some { block := (2 : Nat), off := (0 : Nat) }), Value.pointer (some { block := (3 : Nat), off := (0 : Nat) })], Value.pointer (some { block := (4 : Nat), off := (0 : Nat) }), poi, Value.pointer (some { block := (5 : Nat), off := (0 : Nat) }), poi, Value.slice (some { block := (6 : Nat), off := (0 : Nat) }) n (0 : Nat), poi, poi, poi, poi, Value.slice (some { block := (6 : Nat), off := (0 : Nat) }) n (0 : Nat), Value.int IntKind.i64 (↑n : Int), Value.int IntKind.i64 (IntKind.wrap IntKind.i64 ((↑s : Int) + (1 : Int))), poi, poi, poi, poi, poi, poi, poi, poi, poi, poi, poi, poi, poi, poi, poi, poi, poi, poi, poi, poi, poi, poi, poi, poi, poi, poi, poi] = [poi, Value.func (Fn.func (29 : Nat)) #[] #[Value.pointer (some { block := (2 : Nat), off := (0 : Nat) }), Value.pointer (some { block := (3 : Nat), off := (0 : Nat) })], Value.pointer (some { block := (4 : Nat), off := (0 : Nat) }), poi, Value.pointer (some { block := (5 : Nat), off := (0 : Nat) }), poi, Value.slice (some { block := (6 : Nat), off := (0 : Nat) }) n (0 : Nat), poi, poi, poi, poi, Value.slice (some { block := (6 : Nat), off := (0 : Nat) }) n (0 : Nat), Value.int IntKind.i64 (↑n : Int), Value.int IntKind.i64 (↑s' : Int), poi, poi, poi, poi, poi, poi, poi, poi, poi, poi, poi, poi, poi, poi, poi, poi, poi, poi, poi, poi, poi, poi, poi, poi, poi, poi, poi] ∧ some (AObj.row (flts xs) (1 : Nat) true true true) :: some (AObj.row (ints hs) (2 : Nat) true true true) :: some (AObj.row [Value.int IntKind.i64 p] (0 : Nat) false true true) :: some (AObj.row [Value.int IntKind.i64 (1 : Int)] (0 : Nat) false true true) :: some (AObj.row [Value.string nm, Value.int IntKind.i64 f, Value.slice (some { block := (0 : Nat), off := (0 : Nat) }) n c, Value.slice (some { block := (1 : Nat), off := (0 : Nat) }) k d] (0 : Nat) false true false) :: some (AObj.row [Value.string { data := #[] }, Value.int IntKind.i64 (0 : Int), Value.slice none (0 : Nat) (0 : Nat), Value.slice none (0 : Nat) (0 : Nat)] (0 : Nat) false true true) :: some (AObj.row (putL (rdc n (chR (rdF xs (knB hs)) (mlI p) s)) ((0 : Nat) + Int.toNat (↑s : Int) * (2 : Nat) + (0 : Nat)) [Value.int IntKind.i64 (rdV (rdF xs (knB hs)) ((0 : Nat) + Int.toNat (↑s : Int) * (2 : Nat)) * p)]) (2 : Nat) true true (true && List.all [Value.int IntKind.i64 (rdV (rdF xs (knB hs)) ((0 : Nat) + Int.toNat (↑s : Int) * (2 : Nat)) * p)] atom)) :: noH = some (AObj.row (flts xs) (1 : Nat) true true true) :: some (AObj.row (ints hs) (2 : Nat) true true true) :: some (AObj.row [Value.int IntKind.i64 p] (0 : Nat) false true true) :: some (AObj.row [Value.int IntKind.i64 (1 : Int)] (0 : Nat) false true true) :: some (AObj.row [Value.string nm, Value.int IntKind.i64 f, Value.slice (some { block := (0 : Nat), off := (0 : Nat) }) n c, Value.slice (some { block := (1 : Nat), off := (0 : Nat) }) k d] (0 : Nat) false true false) :: some (AObj.row [Value.string { data := #[] }, Value.int IntKind.i64 (0 : Int), Value.slice none (0 : Nat) (0 : Nat), Value.slice none (0 : Nat) (0 : Nat)] (0 : Nat) false true true) :: some (AObj.row (rdc n (chR (rdF xs (knB hs)) (mlI p) s')) (2 : Nat) true true true) :: noH))) (Is (isRun xs hs n k (flts xs) (ints hs) ∧ rdc n (chR (rdF xs (knB hs)) (mlI p) s) = rdc n (chR (rdF xs (knB hs)) (mlI p) n) ∧ n ≤ (100000 : Nat) ∧ ∀ (i : Nat), i < n → Int.natAbs (Prod.fst (chR (rdF xs (knB hs)) (mlI p) n i)) < (2 : Nat) ^ (24 : Nat)) ∧ K (Value.tuple #[Value.agg #[Value.string nm, Value.int IntKind.i64 f, Value.slice (some { block := (4 : Nat), off := (0 : Nat) }) n (0 : Nat), Value.slice (some { block := (5 : Nat), off := (0 : Nat) }) (mkK (mkB (chR (rdF xs (knB hs)) (mlI p) n)) n) (0 : Nat)], Value.int IntKind.i64 (0 : Int)]) (some (AObj.row (flts xs) (1 : Nat) true true true) :: some (AObj.row (ints hs) (2 : Nat) true true true) :: some (AObj.row [Value.int IntKind.i64 p] (0 : Nat) false true true) :: some (AObj.row [Value.int IntKind.i64 (1 : Int)] (0 : Nat) false true true) :: some (AObj.row (flts (mkX (chR (rdF xs (knB hs)) (mlI p) n) n)) (1 : Nat) true true true) :: some (AObj.row (ints (mkS (mkB (chR (rdF xs (knB hs)) (mlI p) n)) n)) (2 : Nat) true true true) :: noH))) := by kernel_rfl
set_option maxRecDepth 100000 in
theorem chP_ok {nm : ByteArray} {f : Int} {n c k d : Nat} {xs : List Nat} {hs : List Int} {p : Int} (hi : isRun xs hs n k (flts xs) (ints hs)) (hx : fi (xs.map sE) = 0) (hh : hchk n hs (-1) = 0) (hg : ∀ i, i < n → (rdF xs (knB hs) i).2 = true → ((mlI p) i (rdF xs (knB hs) i).1).natAbs ≤ 16384) :
    SmallRes Tryz.prog 28 [.agg (runA nm f 0 n c 1 k d).toArray, cloP] (hp2r xs hs true true true true (exP p)) (.tuple #[.agg (runA nm f 4 n 0 5 (mkK (mkB (chR (rdF xs (knB hs)) (mlI p) n)) n) 0).toArray, .int .i64 0]) (hp2r xs hs true true true true (exP p ++ wiR (chR (rdF xs (knB hs)) (mlI p) n) n)) := by
  refine fnP_res hm cLg_ok (hs := hsCP nm f n c k d xs hs p) ?_
  rw [chP_t]
  have hi' := hi
  obtain ⟨_, _, hn, h9, _, _⟩ := hi'
  have few : ∀ i, i < n → (rdF xs (knB hs) i).1.natAbs ≤ 16384 := fun i h => rdF_few hx (by omega)
  have e0 : rdc n (chR (rdF xs (knB hs)) (mlI p) 0) = rdc n (rdF xs (knB hs)) := rdc_congr fun i _ => by rw [chR, decide_eq_false (Nat.not_lt_zero i)]; rfl
  refine ⟨⟨hi, hx, hh⟩, ⟨(0 : Nat), ⟨Nat.zero_le _⟩, by first | trivial | rfl, by rw [e0]; first | done | trivial | rfl⟩, fun s hs' => br_of (fun hc => ?_) (fun hc => ?_)⟩
  · have hc := lt_of_dec hc
    simp only [Nat.zero_add, Nat.add_zero, Int.toNat_natCast, rdV_at, rdW_at]
    have t1 := rdc_take (R := chR (rdF xs (knB hs)) (mlI p) s) hc
    rw [chR_at] at t1
    have fs := few s hc
    have gs := hg s hc
    refine ⟨⟨by omega, by omega⟩, ⟨t1⟩, br_of (fun hk => ?_) (fun hk => ?_)⟩
    · have hk : (rdF xs (knB hs) s).2 = false := by simpa using hk
      refine ⟨s + 1, ⟨hc⟩, ⟨by omega⟩, by rw [up1 hc (by omega)], by rw [chR_skip hk]⟩
    · have hk : (rdF xs (knB hs) s).2 = true := by simpa using hk
      have gs := gs hk
      have p1 : putL (rdc n (chR (rdF xs (knB hs)) (mlI p) s)) (s * 2) [.int .i64 ((rdF xs (knB hs) s).1 * p)] = rdc n (chR (rdF xs (knB hs)) (mlI p) (s + 1)) := by
        rw [rdc_put1 hc, chR_at, hk]
        exact chR_step hk
      have i1 := rdc_int (R := chR (rdF xs (knB hs)) (mlI p) (s + 1)) hc
      have i2 : (chR (rdF xs (knB hs)) (mlI p) (s + 1) s).1 = (rdF xs (knB hs) s).1 * p := by rw [chR, hk, decide_eq_true (Nat.lt_succ_self s)]; rfl
      have i3 : iAt (rdc n (chR (rdF xs (knB hs)) (mlI p) (s + 1))) (s * 2) = (rdF xs (knB hs) s).1 * p := by rw [iAt, i1, i2]
      have gs : ((rdF xs (knB hs) s).1 * p).natAbs ≤ 16384 := gs
      rw [p1, i3]
      refine ⟨⟨⟨trivial, trivial, by omega⟩⟩, ⟨by omega, by omega⟩, ⟨by rw [rdc_len]; first | omega | (simp only [List.length_cons, List.length_nil]; omega)⟩, ⟨by omega, by omega⟩, ⟨by rw [i1, i2]⟩, br_of (fun h => ?_) (fun _ => ⟨s + 1, ⟨hc⟩, ⟨by omega⟩, by rw [up1 hc (by omega)], by first | trivial | rfl⟩)⟩
      rw [decide_eq_false (by omega), decide_eq_false (by omega)] at h
      cases h
  · have hc := ge_of_dec hc
    have : s = n := by have := hs'.out; omega
    subst this
    exact ⟨⟨hi, rfl, h9, fun i hlt => Nat.lt_of_le_of_lt (chR_few (few i hlt) (hg i hlt)) (by decide)⟩, by first | trivial | rfl, by first | trivial | rfl⟩

/- Doubled: a run without holes. -/
noncomputable def dbX (xs : List Nat) (n : Nat) : List Nat := mkX (chR (rdF xs (knB [])) (mlI 2) n) n
noncomputable def orcChP (p : Int) (xs : List Nat) (hs : List Int) : OrcV
  | [.agg ⟨[.string nm, .int .i64 f, .slice (some ⟨0, 0, none⟩) n _, .slice (some ⟨1, 0, none⟩) k _]⟩, .func (.func 29) ⟨[]⟩ ⟨[.pointer (some ⟨2, 0, none⟩), .pointer (some ⟨3, 0, none⟩)]⟩], [some (.row e1 1 true true true), some (.row e2 2 true true true), some (.row [.int .i64 p'] 0 false true true), some (.row [.int .i64 q] 0 false true true)] =>
    some (.tuple #[.agg (runA nm f 4 n 0 5 (mkK (mkB (chR (rdF xs (knB hs)) (mlI p) n)) n) 0).toArray, .int .i64 0], some (.row e1 1 true true true) :: some (.row e2 2 true true true) :: bxI p' :: bxI q :: wiR (chR (rdF xs (knB hs)) (mlI p) n) n, isRun xs hs n k e1 e2 ∧ p' = p ∧ q = 1 ∧ fi (xs.map sE) = 0 ∧ hchk n hs (-1) = 0 ∧ ∀ i, i < n → (rdF xs (knB hs) i).2 = true → (mlI p i (rdF xs (knB hs) i).1).natAbs ≤ 16384)
  | _, _ => none
theorem okChP (p : Int) (xs : List Nat) (hs : List Int) : OkV Tryz.prog 28 (orcChP p xs hs) := by
  intro args H ret H' vc h hv
  unfold orcChP at h
  split at h
  · cases h
    obtain ⟨⟨rfl, rfl, h1, h2, h3, h4⟩, rfl, rfl, h5, h6, h7⟩ := hv
    exact chP_ok ⟨rfl, rfl, h1, h2, h3, h4⟩ h5 h6 h7
  · cases h
noncomputable def hsSdP (xs : List Nat) (hs : List Int) : Hs Tryz.prog where
  op y := if y = 107 then some (hCa Tryz.prog 25 (orcFiV [0, 0, 0]) (okFiV _)) else none
  au := auCalls [(26, hCa Tryz.prog 26 (orcCrP xs hs) (okCrP xs hs)), (28, hCa Tryz.prog 28 (orcChP 2 xs hs) (okChP 2 xs hs))]
theorem sdP_t (nm : ByteArray) (f : Int) (n : Nat) (c : Nat) (k : Nat) (d : Nat) (xs : List Nat) (hs : List Int) (K : Value → Heap → Prop) :
    (fnP Tryz.prog cs2 (hsSdP xs hs) (8 : FuncId) [Value.agg (List.toArray (runA nm f (0 : Nat) n c (1 : Nat) k d)), Value.int IntKind.i64 (2 : Int), Value.int IntKind.i64 (1 : Int)] (hp2r xs hs true true true true []) K) =
    (Is (isRun xs hs n k (flts xs) (ints hs)) ∧ Is ([Value.int IntKind.i64 (runE nm f xs n hs), Value.int IntKind.i64 (0 : Int), Value.int IntKind.i64 (0 : Int)] = [Value.int IntKind.i64 (0 : Int), Value.int IntKind.i64 (0 : Int), Value.int IntKind.i64 (0 : Int)] ∧ (3 : Nat) = (3 : Nat) ∧ (3 : Nat) ≤ (100000 : Nat)) ∧ Is (isRun xs hs n k (flts xs) (ints hs) ∧ (2 : Int) = (2 : Int) ∧ (1 : Int) = (1 : Int) ∧ fi (List.map sE xs) = (0 : Int) ∧ hchk (↑n : Int) hs (-1 : Int) = (0 : Int) ∧ ∀ (i : Nat), i < n → Prod.snd (rdF xs (knB hs) i) = true → Int.natAbs (mlI (2 : Int) i (Prod.fst (rdF xs (knB hs) i))) ≤ (16384 : Nat)) ∧ K (Value.tuple #[Value.agg #[Value.string nm, Value.int IntKind.i64 f, Value.slice (some { block := (2 : Nat), off := (0 : Nat) }) n (0 : Nat), Value.slice (some { block := (3 : Nat), off := (0 : Nat) }) (mkK (mkB (chR (rdF xs (knB hs)) (mlI (2 : Int)) n)) n) (0 : Nat)], Value.int IntKind.i64 (0 : Int)]) (some (AObj.row (flts xs) (1 : Nat) true true true) :: some (AObj.row (ints hs) (2 : Nat) true true true) :: some (AObj.row (flts (mkX (chR (rdF xs (knB hs)) (mlI (2 : Int)) n) n)) (1 : Nat) true true true) :: some (AObj.row (ints (mkS (mkB (chR (rdF xs (knB hs)) (mlI (2 : Int)) n)) n)) (2 : Nat) true true true) :: noH)) := by kernel_rfl
theorem mkS_none {B : Nat → Bool} : ∀ n, (∀ i, i < n → B i = true) → mkS B n = []
  | 0, _ => rfl
  | n + 1, h => by rw [mkS, if_pos (h n (by omega)), mkS_none n (fun i hi => h i (by omega))]
noncomputable def orcDb (xs : List Nat) (tw : List Nat) : OrcV
  | [.agg ⟨[.string nm, .int .i64 f, .slice (some ⟨0, 0, none⟩) n _, .slice (some ⟨1, 0, none⟩) 0 _]⟩, .int .i64 p, .int .i64 q], [some (.row e1 1 true true true), some (.row [] 2 true true true)] =>
    some (.tuple #[.agg (runA nm f 2 n 0 3 0 0).toArray, .int .i64 0], [some (.row e1 1 true true true), some (.row [] 2 true true true), fR tw, some (.row [] 2 true true true)], p = 2 ∧ q = 1 ∧ e1 = flts xs ∧ xs.length = n ∧ n ≤ 4096 ∧ runE nm f xs n [] = 0 ∧ (∀ i, i < n → (lev (xs.getD i 0) * 2).natAbs ≤ 16384) ∧ dbX xs n = tw)
  | _, _ => none
theorem rdF_all {xs : List Nat} (i : Nat) : rdF xs (knB []) i = (lev (xs.getD i 0), true) := by rw [rdF, if_pos (show knB [] (i : Int) = true from rfl)]
theorem okDb (xs tw : List Nat) : OkV Tryz.prog 8 (orcDb xs tw) := by
  intro args H ret H' vc h hv
  unfold orcDb at h
  split at h
  · rename_i nm f n c d p q e1
    cases h
    obtain ⟨rfl, rfl, rfl, h1, h2, hr, hb, rfl⟩ := hv
    refine fnP_res hm cs2_ok (hs := hsSdP xs []) ?_
    show fnP Tryz.prog cs2 (hsSdP xs []) 8 [.agg (runA nm f 0 n c 1 0 d).toArray, _, _] (hp2r xs [] true true true true []) _
    rw [sdP_t, hr]
    obtain ⟨_, _, _, _, hx, hh, _⟩ := run_zero hr
    have hi : isRun xs [] n 0 (flts xs) (ints []) := ⟨rfl, rfl, h1, by omega, rfl, by decide⟩
    have hB : mkS (mkB (chR (rdF xs (knB [])) (mlI 2) n)) n = [] := mkS_none n fun i hi => by
      rw [mkB, chR, rdF_all, decide_eq_true hi]; rfl
    have hK : mkK (mkB (chR (rdF xs (knB [])) (mlI 2) n)) n = 0 := by rw [mkK, hB]; rfl
    rw [hK, hB]
    exact ⟨⟨hi⟩, ⟨rfl, rfl, by decide⟩, ⟨hi, rfl, rfl, hx, hh, fun i hi _ => by rw [mlI, rdF_all]; exact hb i hi⟩, by first | trivial | rfl, by first | trivial | rfl⟩
  · cases h
theorem dbX_sg {xs : List Nat} {n : Nat} {g : Nat → Int} (h : Sg xs n g) (hb : ∀ i, i < n → (g i * 2).natAbs ≤ 16384) : Sg (dbX xs n) n fun i => g i * 2 := by
  refine ⟨by rw [dbX, mkX, List.length_map, List.length_range], fun i hi => ?_⟩
  have e : (dbX xs n).getD i 0 = smO (g i * 2) := by
    rw [dbX, mkX, List.getD_eq_getElem?_getD, List.getElem?_map, List.getElem?_range hi]
    show smO _ = _
    rw [chR, rdF_all, decide_eq_true hi]
    show smO (lev _ * 2) = _
    rw [(h.ok i hi).2]
  rw [e]
  obtain ⟨e1, e2⟩ := Fl.lev_sm (hb i hi)
  exact ⟨e2, e1⟩
end
end Qq
end
section
/- A section with one more measurement, and with one more intervention: its lines, plain facts. -/
open Go Go.Vm Go.Proofs Sp
namespace Qq
noncomputable section
theorem mchk_app {d x : Int} (hc : chkM d x = 0) : ∀ (N : Nat) (l : List Int) (last : Int), l.length = N * 2 → mchk l last = 0 → (∀ i, i < N → l.getD (i * 2) 0 < d) → last < d → mchk (l ++ [d, x]) last = 0
  | 0, [], last, _, _, _, h => by
    show sel (fi [chkM d x, wh (decide (d ≤ last)) 11]) 0 = 0
    rw [hc, decide_eq_false (by omega)]; rfl
  | 0, _ :: _, _, h, _, _, _ => by simp at h
  | N + 1, [], _, h, _, _, _ => by simp only [List.length_nil] at h; omega
  | N + 1, [_], _, h, _, _, _ => by simp only [List.length_cons, List.length_nil] at h; omega
  | N + 1, a :: b :: r, last, h, hm, hd, _ => by
    have hm' : sel (fi [chkM a b, wh (decide (a ≤ last)) 11]) (mchk r a) = 0 := hm
    obtain ⟨h1, h2⟩ := sel_zero.1 hm'
    refine sel_zero.2 ⟨h1, ?_⟩
    exact mchk_app hc N r a (by simp only [List.length_cons] at h; omega) h2 (fun i hi => by have := hd (i + 1) (by omega); rwa [show (i + 1) * 2 = i * 2 + 1 + 1 by omega] at this) (hd 0 (by omega))
theorem achk_app {a : Int × ByteArray} (hc : chkA a.1 a.2 = 0) : ∀ (l : List (Int × ByteArray)) (last : Int), achk l last = 0 → (∀ i, i < l.length → (l.getD i (0, ⟨#[]⟩)).1 < a.1) → last < a.1 → achk (l ++ [a]) last = 0
  | [], last, _, _, h => by
    show sel (fi [chkA a.1 a.2, wh (decide (a.1 ≤ last)) 11]) 0 = 0
    rw [hc, decide_eq_false (by omega)]; rfl
  | b :: r, last, hm, hd, _ => by
    have hm' : sel (fi [chkA b.1 b.2, wh (decide (b.1 ≤ last)) 11]) (achk r b.1) = 0 := hm
    obtain ⟨h1, h2⟩ := sel_zero.1 hm'
    refine sel_zero.2 ⟨h1, ?_⟩
    exact achk_app hc r b.1 h2 (fun i hi => hd (i + 1) (by simp only [List.length_cons]; omega)) (hd 0 (by simp))
theorem cnt_app (d x y : Int) : ∀ (N : Nat) (l : List Int), l.length = N * 2 → cnt (l ++ [d, x]) y = cnt l y + if d < y then 1 else 0
  | 0, [], _ => by show (if d < y then 1 else 0) + 0 = 0 + _; omega
  | 0, _ :: _, h => by simp at h
  | N + 1, [], h => by simp only [List.length_nil] at h; omega
  | N + 1, [_], h => by simp only [List.length_cons, List.length_nil] at h; omega
  | N + 1, a :: b :: r, h => by
    show (if a < y then 1 else 0) + cnt (r ++ [d, x]) y = (if a < y then 1 else 0) + cnt r y + _
    rw [cnt_app d x y N r (by simp only [List.length_cons] at h; omega)]; omega
theorem cnt_full (y : Int) : ∀ (N : Nat) (l : List Int), l.length = N * 2 → (∀ i, i < N → l.getD (i * 2) 0 < y) → cnt l y = N
  | 0, [], _, _ => rfl
  | 0, _ :: _, h, _ => by simp at h
  | N + 1, [], h, _ => by simp only [List.length_nil] at h; omega
  | N + 1, [_], h, _ => by simp only [List.length_cons, List.length_nil] at h; omega
  | N + 1, a :: b :: r, h, hd => by
    have h0 : a < y := hd 0 (by omega)
    show (if a < y then 1 else 0) + cnt r y = N + 1
    rw [cnt_full y N r (by simp only [List.length_cons] at h; omega) (fun i hi => by have := hd (i + 1) (by omega); rwa [show (i + 1) * 2 = i * 2 + 1 + 1 by omega] at this), if_pos h0]; omega
theorem sumP_app (g : Int → Int → Int) (d x : Int) : ∀ (N : Nat) (l : List Int), l.length = N * 2 → sumP g (l ++ [d, x]) = sumP g l + g d x
  | 0, [], _ => by show g d x + 0 = 0 + _; omega
  | 0, _ :: _, h => by simp at h
  | N + 1, [], h => by simp only [List.length_nil] at h; omega
  | N + 1, [_], h => by simp only [List.length_cons, List.length_nil] at h; omega
  | N + 1, a :: b :: r, h => by
    show g a b + sumP g (r ++ [d, x]) = g a b + sumP g r + g d x
    rw [sumP_app g d x N r (by simp only [List.length_cons] at h; omega)]; omega
section
variable {nm : ByteArray} {zs : List Int} {n : Nat} {ks : List (Int × ByteArray)} {k : Nat}
/-- All days lie ahead of one. -/
structure Ahead (zs : List Int) (n : Nat) (ks : List (Int × ByteArray)) (k : Nat) (d : Int) : Prop where
  m : ∀ i, i < n → zs.getD (i * 2) 0 < d
  a : ∀ i, i < k → (ks.getD i (0, ⟨#[]⟩)).1 < d
  d0 : 0 ≤ d
  d1 : d ≤ 100000
theorem frm_app (hz : zs.length = n * 2) {d : Int} (x : Int) (h : Ahead zs n ks k d) {i : Nat} (hi : i ≤ k) : frm (zs ++ [d, x]) ks i = frm zs ks i := by
  cases i with
  | zero => rfl
  | succ i =>
    have := h.a i (by omega)
    rw [frm, frm, cnt_app d x _ n zs hz, if_neg (by omega)]; rfl
theorem frm_act (a : Int × ByteArray) (hk : ks.length = k) {i : Nat} (hi : i ≤ k) : frm zs (ks ++ [a]) i = frm zs ks i := by
  cases i with
  | zero => rfl
  | succ i => rw [frm, frm, List.getD_eq_getElem?_getD, List.getElem?_append_left (by omega), ← List.getD_eq_getElem?_getD]
theorem upto_act (a : Int × ByteArray) (hz : zs.length = n * 2) (hk : ks.length = k) (ha : ∀ i, i < n → zs.getD (i * 2) 0 < a.1) {j : Nat} (hj : j ≤ k) : upto zs (ks ++ [a]) n (k + 1) j = upto zs ks n k j := by
  rw [upto, upto, if_pos (by omega)]
  by_cases h : j < k
  · rw [if_pos h, frm_act a hk (by omega)]
  · have : j = k := by omega
    subst this
    rw [if_neg h, frm, List.getD_eq_getElem?_getD, List.getElem?_append_right (by omega), hk, Nat.sub_self]
    exact cnt_full _ n zs hz ha
theorem pm_j (j : Nat) : pm zs ks n k (j : Int) = upto zs ks n k j - frm zs ks j := rfl
theorem pf_j (j : Nat) : pf zs ks (j : Int) = frm zs ks j := rfl
theorem act_pf (a : Int × ByteArray) (hk : ks.length = k) {j : Nat} (hj : j ≤ k) : pf zs (ks ++ [a]) (j : Int) = pf zs ks (j : Int) := by
  rw [pf_j, pf_j, frm_act a hk hj]
theorem act_pm (a : Int × ByteArray) (hz : zs.length = n * 2) (hk : ks.length = k) (ha : ∀ i, i < n → zs.getD (i * 2) 0 < a.1) {j : Nat} (hj : j ≤ k) : pm zs (ks ++ [a]) n (k + 1) (j : Int) = pm zs ks n k (j : Int) := by
  rw [pm_j, pm_j, frm_act a hk hj, upto_act a hz hk ha hj]
/-- What Fitted says is the same with one more intervention. -/
theorem act_same (a : Int × ByteArray) (hz : zs.length = n * 2) (hk : ks.length = k) (ha : ∀ i, i < n → zs.getD (i * 2) 0 < a.1) {j : Nat} (hj : j ≤ k) :
    p0D zs (ks ++ [a]) (j : Int) = p0D zs ks (j : Int) ∧ pL zs (ks ++ [a]) n (k + 1) (j : Int) = pL zs ks n k (j : Int) ∧ pS zs (ks ++ [a]) n (k + 1) (j : Int) = pS zs ks n k (j : Int) ∧ pD zs (ks ++ [a]) n (k + 1) (j : Int) = pD zs ks n k (j : Int) := by
  have e1 := act_pf (zs := zs) a hk hj
  have e2 := act_pm a hz hk ha hj
  exact ⟨by rw [p0D, p0D, e1], by rw [pL, pL, e1, e2], by rw [pS, pS, e1, e2], by rw [pD, pD, e1, e2]⟩
theorem per_zero (hs : secE nm zs n ks k = 0) {j : Nat} (hj : j ≤ k) : perE nm zs n ks k (j : Int) = 0 := by
  rw [perE, hs, decide_eq_false (show ¬ (j : Int) < 0 by omega), decide_eq_false (show ¬ (k : Int) < j by omega)]; rfl
theorem act_fe (a : Int × ByteArray) (hz : zs.length = n * 2) (hk : ks.length = k) (ha : ∀ i, i < n → zs.getD (i * 2) 0 < a.1) (h1 : secE nm zs n ks k = 0) (h2 : secE nm zs n (ks ++ [a]) (k + 1) = 0) {j : Nat} (hj : j ≤ k) :
    feE nm zs n (ks ++ [a]) (k + 1) (j : Int) = feE nm zs n ks k (j : Int) := by
  rw [feE, feE, per_zero h1 hj, per_zero h2 (by omega), act_pm a hz hk ha hj]
/-- The new period is empty. -/
theorem act_last (a : Int × ByteArray) (hz : zs.length = n * 2) (hk : ks.length = k) (ha : ∀ i, i < n → zs.getD (i * 2) 0 < a.1) : frm zs (ks ++ [a]) (k + 1) = n := by
  rw [frm, List.getD_eq_getElem?_getD, List.getElem?_append_right (by omega), hk, Nat.sub_self]
  exact cnt_full _ n zs hz ha
theorem act_short (a : Int × ByteArray) (h2 : secE nm zs n (ks ++ [a]) (k + 1) = 0) (hz : zs.length = n * 2) (hk : ks.length = k) (ha : ∀ i, i < n → zs.getD (i * 2) 0 < a.1) : feE nm zs n (ks ++ [a]) (k + 1) ((k + 1 : Nat) : Int) = 16 := by
  have e : pm zs (ks ++ [a]) n (k + 1) ((k + 1 : Nat) : Int) = 0 := by
    rw [pm_j, act_last a hz hk ha, upto, if_neg (by omega)]; omega
  rw [feE, per_zero h2 (Nat.le_refl _), e]; rfl
/-- Further measurements and interventions: no error. -/
theorem me_zero {d x : Int} (hs : secE nm zs n ks k = 0) (hn : n < 32) (hz : zs.length = n * 2) (h : Ahead zs n ks k d) (x0 : 0 ≤ x) (x1 : x ≤ 100000) : meE nm zs n ks k d x = 0 := by
  have hc : chkM d x = 0 := by
    have := h.d0; have := h.d1
    rw [chkM, wi, wi, if_neg (by omega), if_neg (by omega)]; rfl
  have hl : ¬ d ≤ lmD zs n := by
    rw [lmD]
    split
    · have := h.m (n - 1) (by omega); omega
    · have := h.d0; omega
  have h1 : ((n : Int) == 32) = false := by
    rw [beq_eq_false_iff_ne]; omega
  rw [meE, hs, hc, moEq, h1, decide_eq_false hl]; rfl
theorem me_sec {d x : Int} (hs : secE nm zs n ks k = 0) (hn : n < 32) (hz : zs.length = n * 2) (h : Ahead zs n ks k d) (x0 : 0 ≤ x) (x1 : x ≤ 100000) : secE nm (zs ++ [d, x]) (n + 1) ks k = 0 := by
  have hc : chkM d x = 0 := by
    have := h.d0; have := h.d1
    rw [chkM, wi, wi, if_neg (by omega), if_neg (by omega)]; rfl
  rw [secE] at hs ⊢
  obtain ⟨h1, h2⟩ := sel_zero.1 hs
  obtain ⟨h3, h4⟩ := sel_zero.1 h2
  have e1 : decide ((32 : Int) < ((n + 1 : Nat) : Int)) = false := decide_eq_false (by omega)
  have e2 : decide ((32 : Int) < (n : Int)) = false := decide_eq_false (by omega)
  rw [e2] at h1
  refine sel_zero.2 ⟨by rw [e1]; exact h1, sel_zero.2 ⟨mchk_app hc n zs (-1) hz h3 h.m (by have := h.d0; omega), h4⟩⟩
theorem do_zero {d : Int} {q : ByteArray} (hs : secE nm zs n ks k = 0) (hk : k < 16) (h : Ahead zs n ks k d) (hq : nameB q = true) : doE nm zs n ks k d q = 0 := by
  have hc : chkA d q = 0 := by
    have := h.d0; have := h.d1
    rw [chkA, wi, if_neg (by omega), hq]; rfl
  have hl : ¬ d ≤ lmD zs n := by
    rw [lmD]
    split
    · have := h.m (n - 1) (by omega); omega
    · have := h.d0; omega
  have hl2 : ¬ d ≤ laD ks k := by
    rw [laD]
    split
    · have := h.a (k - 1) (by omega); omega
    · have := h.d0; omega
  have h1 : ((k : Int) == 16) = false := by
    rw [beq_eq_false_iff_ne]; omega
  rw [doE, hs, hc, acE, h1, decide_eq_false hl, decide_eq_false hl2]; rfl
theorem do_sec {d : Int} {q : ByteArray} (hs : secE nm zs n ks k = 0) (hk : ks.length = k) (hk2 : k < 16) (h : Ahead zs n ks k d) (hq : nameB q = true) : secE nm zs n (ks ++ [(d, q)]) (k + 1) = 0 := by
  have hc : chkA d q = 0 := by
    have := h.d0; have := h.d1
    rw [chkA, wi, if_neg (by omega), hq]; rfl
  rw [secE] at hs ⊢
  obtain ⟨h1, h2⟩ := sel_zero.1 hs
  obtain ⟨h3, h4⟩ := sel_zero.1 h2
  obtain ⟨_, h6⟩ := sel_zero.1 h4
  have e1 : decide ((16 : Int) < ((k + 1 : Nat) : Int)) = false := decide_eq_false (by omega)
  refine sel_zero.2 ⟨h1, sel_zero.2 ⟨h3, sel_zero.2 ⟨by rw [e1]; rfl, achk_app (a := (d, q)) hc ks (-1) h6 (fun i hi => h.a i (by omega)) (by have := h.d0; show -1 < d; omega)⟩⟩⟩
theorem Ahead.more {d x : Int} (hz : zs.length = n * 2) (h : Ahead zs n ks k d) (h1 : d + 1 ≤ 100000) : Ahead (zs ++ [d, x]) (n + 1) ks k (d + 1) := by
  refine ⟨fun i hi => ?_, fun i hi => ?_, by have := h.d0; omega, h1⟩
  · by_cases e : i < n
    · have := h.m i e
      rw [List.getD_eq_getElem?_getD, List.getElem?_append_left (by omega), ← List.getD_eq_getElem?_getD]; omega
    · have : i = n := by omega
      subst this
      rw [List.getD_eq_getElem?_getD, List.getElem?_append_right (by omega), hz, Nat.sub_self]
      show d < d + 1
      omega
  · have := h.a i hi; omega
/-- The last period, with a further measurement. -/
theorem me_last {d : Int} (x : Int) (hz : zs.length = n * 2) (h : Ahead zs n ks k d) : pf (zs ++ [d, x]) ks (k : Int) = frm zs ks k ∧ pm (zs ++ [d, x]) ks (n + 1) k (k : Int) = n - frm zs ks k + 1 ∧ frm zs ks k ≤ n := by
  have hf := frm_le (ks := ks) hz k
  have e := frm_app (ks := ks) hz x h (Nat.le_refl k)
  refine ⟨by rw [pf_j, e], ?_, hf⟩
  rw [pm_j, e, upto, if_neg (by omega)]; omega
theorem of_last : pf zs ks (k : Int) = frm zs ks k ∧ pm zs ks n k (k : Int) = n - frm zs ks k := by
  refine ⟨pf_j k, ?_⟩
  rw [pm_j, upto, if_neg (by omega)]
/-- Sums with one more. -/
theorem more_sums {off m : Nat} (hl : zs.length = off + m * 2) (h0 : 0 < m) (d x : Int) :
    d0 (zs ++ [d, x]) off = d0 zs off ∧ sX (zs ++ [d, x]) off (m + 1) = sX zs off m + (d - d0 zs off) ∧ sY (zs ++ [d, x]) off (m + 1) = sY zs off m + x ∧
      sXX (zs ++ [d, x]) off (m + 1) = sXX zs off m + (d - d0 zs off) * (d - d0 zs off) ∧ sXY (zs ++ [d, x]) off (m + 1) = sXY zs off m + (d - d0 zs off) * x := by
  have e0 : d0 (zs ++ [d, x]) off = d0 zs off := by
    rw [d0, d0, List.getD_eq_getElem?_getD, List.getElem?_append_left (by omega), ← List.getD_eq_getElem?_getD]
  have e1 : ((zs ++ [d, x]).drop off).take ((m + 1) * 2) = zs.drop off ++ [d, x] := by
    rw [List.drop_append_of_le_length (by omega), List.take_of_length_le (by rw [List.length_append, List.length_drop]; simp only [List.length_cons, List.length_nil]; omega)]
  have e2 : (zs.drop off).take (m * 2) = zs.drop off := List.take_of_length_le (by rw [List.length_drop]; omega)
  have hp : (zs.drop off).length = m * 2 := by rw [List.length_drop]; omega
  refine ⟨e0, ?_, ?_, ?_, ?_⟩
  · rw [sX, sX, e0, e1, e2, sumP_app _ d x m _ hp]
  · rw [sY, sY, e1, e2, sumP_app _ d x m _ hp]
  · rw [sXX, sXX, e0, e1, e2, sumP_app _ d x m _ hp]
  · rw [sXY, sXY, e0, e1, e2, sumP_app _ d x m _ hp]
end
end
end Qq
end
section
/- The lines through two measurements: as both list them. -/
open Go Go.Vm Go.Proofs Sp
namespace Qq
noncomputable section
/- The reference's. -/
/-- Measurements whose days grow. -/
structure Pts (zs : List Int) (off m : Nat) : Prop where
  part : Part zs off m
  up : ∀ i j, i < j → j < m → zs.getD (off + i * 2) 0 < zs.getD (off + j * 2) 0
end
end Qq
end
section
/- Ratios and lines: the small functions, and the loops over them. -/
open Go Go.Vm Go.Proofs Sp
namespace Sp
noncomputable section
end
end Sp
namespace Qq
noncomputable section
/-- A ratio whose products do not leave the machine's integers. -/
structure RatIn (r : Int × Int) : Prop where
  n0 : -1000000000000 ≤ r.1
  n1 : r.1 ≤ 1000000000000
  d0 : 0 < r.2
  d1 : r.2 ≤ 1000000
/- The least and the greatest. -/
/- A line's value on a day, in lowest terms. -/
structure LnIn (l : Ln) (x : Int) : Prop where
  a0 : 0 ≤ l.1
  a1 : l.1 ≤ 100000
  b0 : -900000000000 ≤ l.2.1
  b1 : l.2.1 ≤ 900000000000
  s0 : -1000000 ≤ l.2.2.1
  s1 : l.2.2.1 ≤ 1000000
  d0 : 0 < l.2.2.2
  d1 : l.2.2.2 ≤ 1000000
  x0 : 0 ≤ x
  x1 : x ≤ 100000
theorem LnIn.at {l : Ln} {x : Int} (h : LnIn l x) : IntKind.wrap .i64 (l.2.1 + IntKind.wrap .i64 (l.2.2.1 * IntKind.wrap .i64 (x - l.1))) = lnat l x ∧ -1000000000000 ≤ lnat l x ∧ lnat l x ≤ 1000000000000 := by
  obtain ⟨a0, a1, b0, b1, s0, s1, d0, d1, x0, x1⟩ := h
  have g := bmul (A := 1000000) (B := 100000) (by omega) (by omega) s0 s1 (show -100000 ≤ x - l.1 by omega) (show x - l.1 ≤ 100000 by omega)
  rw [wrap_eq (x := x - l.1) (by omega) (by omega), wrap_eq (x := l.2.2.1 * (x - l.1)) (by omega) (by omega), lnat]
  exact ⟨wrap_eq (by omega) (by omega), by omega, by omega⟩
/- A function of each line. -/
/- The reference's value, and range. -/
/- Reaching a limit. -/
theorem LnIn.low {l : Ln} {x : Int} (h : LnIn l x) : LowIn (lnat l x) l.2.2.2 := by
  obtain ⟨_, a, b⟩ := h.at
  have := h.d0
  have := h.d1
  exact ⟨by omega, by omega, by omega, by omega⟩
/-- A corner, near. -/
structure CqIn (c : Ln) (x : Int) : Prop where
  ln : LnIn (lnOf c) x
  u1 : c.2.2.1 ≤ 100000
  b0 : -200000 ≤ c.2.1
  b1 : c.2.1 ≤ 200000
  v0 : -200000 ≤ c.2.2.2
  v1 : c.2.2.2 ≤ 200000
theorem CqIn.at {a b u v x : Int} (h : CqIn (a, b, u, v) x) : IntKind.wrap .i64 (u - a) = u - a ∧ IntKind.wrap .i64 (IntKind.wrap .i64 (b * IntKind.wrap .i64 (u - x)) + IntKind.wrap .i64 (v * IntKind.wrap .i64 (x - a))) = lnat (lnOf (a, b, u, v)) x ∧ 0 < u - a ∧ u - a ≤ 100000 := by
  obtain ⟨hl, u1, b0, b1, v0, v1⟩ := h
  obtain ⟨_, g1, g2⟩ := hl.at
  obtain ⟨a0, a1, _, _, _, _, d0, d1, x0, x1⟩ := hl
  simp only [lnOf] at a0 a1 d0 d1 u1 b0 b1 v0 v1
  have p1 := bmul (A := 200000) (B := 100000) (by omega) (by omega) b0 b1 (show -100000 ≤ u - x by omega) (show u - x ≤ 100000 by omega)
  have p2 := bmul (A := 200000) (B := 100000) (by omega) (by omega) v0 v1 (show -100000 ≤ x - a by omega) (show x - a ≤ 100000 by omega)
  have e : lnat (lnOf (a, b, u, v)) x = b * (u - x) + v * (x - a) := by simp only [lnat, lnOf]; grind
  rw [e, wrap_eq (x := u - x) (by omega) (by omega), wrap_eq (x := x - a) (by omega) (by omega), wrap_eq (x := b * (u - x)) (by omega) (by omega), wrap_eq (x := v * (x - a)) (by omega) (by omega)]
  exact ⟨wrap_eq (by omega) (by omega), wrap_eq (by omega) (by omega), by omega, by omega⟩
end
end Qq
end
section
/- Range, Earliest, Latest: contracts. -/
open Go Go.Vm Go.Proofs Sp
namespace Sp
noncomputable section
end
end Sp
namespace Qq
noncomputable section
/- Below a limit on a day. -/
/- The reference's Earliest and Latest. -/
theorem CqIn.day {q : Ln} {x y : Int} (h : CqIn q x) (y0 : 0 ≤ y) (y1 : y ≤ 100000) : CqIn q y :=
  ⟨⟨h.ln.a0, h.ln.a1, h.ln.b0, h.ln.b1, h.ln.s0, h.ln.s1, h.ln.d0, h.ln.d1, y0, y1⟩, h.u1, h.b0, h.b1, h.v0, h.v1⟩
end
end Qq
end
section
/- Sections that are near; ratios that are small: contracts. -/
open Go Go.Vm Go.Proofs Sp
namespace Sp
noncomputable section
end
end Sp
namespace Qq
noncomputable section
/-- A section that is near. -/
structure NearS (nm : ByteArray) (zs : List Int) (n : Nat) (ks : List (Int × ByteArray)) (k : Nat) : Prop where
  ok : secE nm zs n ks k = 0
  n8 : n ≤ 8
  k6 : k ≤ 6
  all : ∀ i, i * 2 + 2 ≤ zs.length → zs.getD (i * 2 + 1) 0 ≤ 400 ∧ zs.getD (i * 2) 0 ≤ zs.getD 0 0 + 400
end
end Qq
end
section
/- A section that is near: its lines, plain facts. -/
open Go Go.Vm Go.Proofs Sp
namespace Qq
noncomputable section
section
variable {nm : ByteArray} {zs : List Int} {n : Nat} {ks : List (Int × ByteArray)} {k : Nat}
/-! ### Quotients in lowest terms -/
theorem low_same {a d b e : Int} (h : LowIn a d) (g : LowIn b e) (hh : a * e = b * d) : lowN a d = lowN b e ∧ lowD a d = lowD b e := by
  have := (low_eq h g).2 hh
  exact ⟨congrArg Prod.fst this, congrArg Prod.snd this⟩
/-! ### When a limit is reached -/
theorem rc_reach {a b c d l f : Int} (hB : rcB a b c d l f = true) : l * d ≤ b + c * (rcN a b c d l f - a) ∧ f ≤ rcN a b c d l f ∧ (f < rcN a b c d l f → b + c * (rcN a b c d l f - 1 - a) < l * d) := by
  by_cases hs : rcS a b c d l f ≤ 0
  · have e : rcN a b c d l f = f := if_pos hs
    rw [e]
    unfold rcS at hs
    exact ⟨by omega, Int.le_refl _, fun h => by omega⟩
  · have hc : ¬ c ≤ 0 := by
      intro hc
      rw [rcB, decide_eq_false hs, decide_eq_true hc] at hB
      cases hB
    have e : rcN a b c d l f = f - (-rcS a b c d l f) / c := by rw [rcN, if_neg hs, if_neg hc]
    rw [e]
    generalize hq : (-rcS a b c d l f) / c = q
    have c0 : 0 < c := by omega
    have m1 := Int.emod_nonneg (-rcS a b c d l f) (show c ≠ 0 by omega)
    have m2 := Int.emod_lt_of_pos (-rcS a b c d l f) c0
    have m3 := Int.mul_ediv_add_emod (-rcS a b c d l f) c
    rw [hq] at m3
    have hq0 : q < 0 := by
      have : (-rcS a b c d l f) / c < 0 := Int.ediv_neg_of_neg_of_pos (by omega) c0
      omega
    have e1 : c * (f - q - a) = c * (f - a) - c * q := by grind
    have e2 : c * (f - q - 1 - a) = c * (f - a) - c * q - c := by grind
    rw [e1, e2]
    have hs2 : rcS a b c d l f = l * d - (b + c * (f - a)) := rfl
    generalize rcS a b c d l f = r at *
    generalize c * (f - a) = u at *
    generalize c * q = v at *
    exact ⟨by omega, by omega, fun _ => by omega⟩
end
end
end Qq
end
section
/- The line of a period with a further measurement: plain. -/
open Go Go.Vm Go.Proofs Sp
namespace Qq
noncomputable section
theorem sumP_days (b c : Int) : ∀ (N : Nat) (l : List Int), l.length = N * 2 → (∀ i, i < N → l.getD (i * 2) 0 ≤ c) → sumP (fun d _ => d - b) l ≤ N * (c - b)
  | 0, [], _, _ => by show (0 : Int) ≤ _; simp
  | 0, _ :: _, h, _ => by simp at h
  | N + 1, [], h, _ => by simp only [List.length_nil] at h; omega
  | N + 1, [_], h, _ => by simp only [List.length_cons, List.length_nil] at h; omega
  | N + 1, u :: v :: r, h, hd => by
    have h0 : u ≤ c := hd 0 (by omega)
    have ih := sumP_days b c N r (by simp only [List.length_cons] at h; omega) (fun i hi => by have := hd (i + 1) (by omega); rwa [show (i + 1) * 2 = i * 2 + 1 + 1 by omega] at this)
    show u - b + sumP _ r ≤ _
    have e : ((N + 1 : Nat) : Int) * (c - b) = N * (c - b) + (c - b) := by rw [Int.natCast_add, Int.add_mul]; simp
    rw [e]; omega
/-- The weight of the last measurement on a later day. -/
theorem weight_pos {m X XX e t : Int} (h1 : X ≤ m * e) (h2 : 0 ≤ m * (e * e) - 2 * e * X + XX) (ht : e ≤ t) : 0 ≤ XX - X * e + (m * e - X) * t := by
  have h3 : 0 ≤ (m * e - X) * (t - e) := Int.mul_nonneg (by omega) (by omega)
  have e1 : XX - X * e + (m * e - X) * t = (m * (e * e) - 2 * e * X + XX) + (m * e - X) * (t - e) := by grind
  omega
section
variable {zs : List Int} {off m : Nat}
theorem more_line (hl : zs.length = off + m * 2) (h0 : 0 < m) (d x : Int) :
    lvl (zs ++ [d, x]) off (m + 1) = (sY zs off m + x) * (sXX zs off m + (d - d0 zs off) * (d - d0 zs off)) - (sX zs off m + (d - d0 zs off)) * (sXY zs off m + (d - d0 zs off) * x) ∧
      slp (zs ++ [d, x]) off (m + 1) = (m + 1) * (sXY zs off m + (d - d0 zs off) * x) - (sX zs off m + (d - d0 zs off)) * (sY zs off m + x) ∧
      dn (zs ++ [d, x]) off (m + 1) = (m + 1) * (sXX zs off m + (d - d0 zs off) * (d - d0 zs off)) - (sX zs off m + (d - d0 zs off)) * (sX zs off m + (d - d0 zs off)) := by
  obtain ⟨_, e1, e2, e3, e4⟩ := more_sums hl h0 d x
  refine ⟨?_, ?_, ?_⟩
  · rw [lvl, e1, e2, e3, e4]
  · rw [slp, e1, e2, e4]; rfl
  · rw [dn, e1, e3]; rfl
/-- A greater last measurement: the line lies higher from its day on. -/
theorem more_up (hl : zs.length = off + m * 2) (h0 : 0 < m) {d x y t : Int} (hxy : x ≤ y) (hd : ∀ i, i < m → zs.getD (off + i * 2) 0 < d) (ht : d ≤ t) :
    lvl (zs ++ [d, x]) off (m + 1) + slp (zs ++ [d, x]) off (m + 1) * (t - d0 zs off) ≤ lvl (zs ++ [d, y]) off (m + 1) + slp (zs ++ [d, y]) off (m + 1) * (t - d0 zs off) := by
  obtain ⟨a1, a2, _⟩ := more_line hl h0 d x
  obtain ⟨b1, b2, _⟩ := more_line hl h0 d y
  rw [a1, a2, b1, b2]
  have hp : (zs.drop off).length = m * 2 := by rw [List.length_drop]; omega
  have e2 : (zs.drop off).take (m * 2) = zs.drop off := List.take_of_length_le (by omega)
  have hX : sX zs off m ≤ m * (d - d0 zs off) := by
    rw [sX, e2]
    exact sumP_days _ _ m _ hp fun i hi => by rw [getD_drop]; exact Int.le_of_lt (hd i hi)
  have hG : 0 ≤ m * ((d - d0 zs off) * (d - d0 zs off)) - 2 * (d - d0 zs off) * sX zs off m + sXX zs off m := by
    have g := gap_eq (d0 zs off) (d - d0 zs off) m (zs.drop off) hp
    have n0 := sumP_nonneg (g := fun d' _ => ((d - d0 zs off) - (d' - d0 zs off)) * ((d - d0 zs off) - (d' - d0 zs off))) (fun _ _ => sq0 _) (zs.drop off)
    rw [sX, sXX, e2]
    rw [g] at n0
    exact n0
  generalize sX zs off m = X at *
  generalize sXX zs off m = XX at *
  generalize sY zs off m = Y at *
  generalize sXY zs off m = XY at *
  generalize he : d - d0 zs off = e at *
  have ht' : e ≤ t - d0 zs off := by omega
  generalize t - d0 zs off = t' at *
  have w := weight_pos hX hG ht'
  have p := Int.mul_nonneg (show 0 ≤ y - x by omega) w
  generalize (m : Int) = M at *
  have q : ((Y + y) * (XX + e * e) - (X + e) * (XY + e * y) + ((M + 1) * (XY + e * y) - (X + e) * (Y + y)) * t') - ((Y + x) * (XX + e * e) - (X + e) * (XY + e * x) + ((M + 1) * (XY + e * x) - (X + e) * (Y + x)) * t') = (y - x) * (XX - X * e + (M * e - X) * t') := by grind
  omega
/-- A measurement on the line leaves it as it is. -/
theorem more_on (hl : zs.length = off + m * 2) (h0 : 0 < m) {d x : Int} (hx : lvl zs off m + slp zs off m * (d - d0 zs off) = x * dn zs off m) :
    lvl (zs ++ [d, x]) off (m + 1) * dn zs off m = lvl zs off m * dn (zs ++ [d, x]) off (m + 1) ∧ slp (zs ++ [d, x]) off (m + 1) * dn zs off m = slp zs off m * dn (zs ++ [d, x]) off (m + 1) := by
  obtain ⟨a1, a2, a3⟩ := more_line hl h0 d x
  rw [a1, a2, a3]
  have s1 := sum_line zs off m
  have s2 := sum_prod zs off m
  generalize lvl zs off m = L at *
  generalize slp zs off m = S at *
  generalize dn zs off m = D at *
  generalize sX zs off m = X at *
  generalize sXX zs off m = XX at *
  generalize sY zs off m = Y at *
  generalize sXY zs off m = XY at *
  generalize d - d0 zs off = e at *
  generalize (m : Int) = M at *
  have n1 : (M + 1) * L + (X + e) * S = (Y + x) * D := by grind
  have n2 : (X + e) * L + (XX + e * e) * S = (XY + e * x) * D := by grind
  constructor
  · have : ((Y + x) * (XX + e * e) - (X + e) * (XY + e * x)) * D = (XX + e * e) * ((Y + x) * D) - (X + e) * ((XY + e * x) * D) := by grind
    rw [this, ← n1, ← n2]; grind
  · have : ((M + 1) * (XY + e * x) - (X + e) * (Y + x)) * D = (M + 1) * ((XY + e * x) * D) - (X + e) * ((Y + x) * D) := by grind
    rw [this, ← n1, ← n2]; grind
end
/-- Where a higher line reaches a limit. -/
theorem reach_up {a L1 S1 L2 S2 D l f : Int} (h : ∀ t, f ≤ t → L1 + S1 * (t - a) ≤ L2 + S2 * (t - a)) (hB : rcB a L1 S1 D l f = true) (hf : f ≤ 100000) :
    rcB a L2 S2 D l f = true ∧ rcN a L2 S2 D l f ≤ rcN a L1 S1 D l f ∧ f ≤ rcN a L2 S2 D l f := by
  obtain ⟨r1, r2, _⟩ := rc_reach hB
  have hN : rcN a L1 S1 D l f ≤ 100000 := by
    rw [rcN]
    rw [rcB] at hB
    split
    · exact hf
    · rename_i c1
      split
      · omega
      · rename_i c2
        rw [decide_eq_false c1, decide_eq_false c2] at hB
        simpa using hB
  generalize hN1 : rcN a L1 S1 D l f = N at *
  have h2 := h N r2
  have hs : rcS a L2 S2 D l f ≤ S2 * (N - f) := by
    rw [rcS]
    have : S2 * (N - a) = S2 * (f - a) + S2 * (N - f) := by grind
    omega
  by_cases c1 : rcS a L2 S2 D l f ≤ 0
  · rw [rcB, rcN, if_pos c1, decide_eq_true c1]
    exact ⟨rfl, r2, Int.le_refl _⟩
  · have c2 : ¬ S2 ≤ 0 := fun c => by
      have : S2 * (N - f) ≤ 0 := Int.mul_nonpos_of_nonpos_of_nonneg c (by omega)
      omega
    have d1 : f - N ≤ (-rcS a L2 S2 D l f) / S2 := by
      refine (Int.le_ediv_iff_mul_le (by omega)).2 ?_
      have : (f - N) * S2 = -(S2 * (N - f)) := by grind
      omega
    have d2 : (-rcS a L2 S2 D l f) / S2 ≤ 0 := by
      have := Int.ediv_neg_of_neg_of_pos (a := -rcS a L2 S2 D l f) (b := S2) (by omega) (by omega)
      omega
    rw [rcB, rcN, if_neg c1, if_neg c2, decide_eq_false c1, decide_eq_false c2, decide_eq_true (by omega)]
    exact ⟨rfl, by omega, by omega⟩
end
end Qq
end
section
/- The law's own parts: contracts as it calls them, and what it comes by, plain. -/
open Go Go.Vm Go.Proofs Sp
namespace Sp
noncomputable section
noncomputable def tamp : ByteArray := ⟨#[116, 97, 109, 112, 105, 110, 103]⟩
/-- The greatest day of the first measurements; of these and of interventions. -/
noncomputable def mxM (zs : List Int) : Nat → Int
  | 0 => 0
  | s + 1 => if zs.getD (s * 2) 0 > mxM zs s then zs.getD (s * 2) 0 else mxM zs s
noncomputable def mxA (ks : List (Int × ByteArray)) (a : Int) : Nat → Int
  | 0 => a
  | s + 1 => if (ks.getD s (0, ⟨#[]⟩)).1 > mxA ks a s then (ks.getD s (0, ⟨#[]⟩)).1 else mxA ks a s
noncomputable def dy1 (u : Int) : Int := 1 + u.tmod 100
/-- None of them is above 2, nor below -2. -/
def twB (ys : List Nat) (n : Nat) : Prop := ∀ i, i < n → fGt (ys.getD i 0) 1073741824 = false ∧ fLt (ys.getD i 0) 3221225472 = false
end
end Sp
namespace Qq
noncomputable section
noncomputable def orcLxA (v : Int) : OrcV
  | [.slice (some ⟨0, 0, none⟩) n _], [some (.row e1 1 true true true)] => some (.tuple #[.int .i64 v, .bool true], [some (.row e1 1 true true true)], lxOk e1 n v)
  | _, _ => none
theorem okLxA (v : Int) : OkV Tryz.prog 9 (orcLxA v) := by
  intro args H ret H' vc h hv
  unfold orcLxA at h
  split at h
  · cases h
    obtain ⟨xs, rfl, h1, h2, h3, h4, rfl⟩ := hv
    exact okLxT xs _ _ _ _ _ rfl ⟨rfl, h1, h2, h3, h4⟩
  · cases h
noncomputable def orcLxB (v : Int) : OrcV
  | [.slice (some ⟨0, 0, none⟩) n _], [some (.row e1 1 false false true)] => some (.tuple #[.int .i64 v, .bool true], [some (.row e1 1 false false true)], lxOk e1 n v)
  | _, _ => none
theorem okLxB (v : Int) : OkV Tryz.prog 9 (orcLxB v) := by
  intro args H ret H' vc h hv
  unfold orcLxB at h
  split at h
  · cases h
    obtain ⟨xs, rfl, h1, h2, h3, h4, rfl⟩ := hv
    exact okLxF xs _ _ _ _ _ rfl ⟨rfl, h1, h2, h3, h4⟩
  · cases h
noncomputable def orcMz (zs : List Int) (ks : List (Int × ByteArray)) : OrcV
  | [.agg ⟨[.string nm, .slice (some ⟨0, 0, none⟩) n _, .slice (some ⟨1, 0, none⟩) k _]⟩, .agg ⟨[.int .i64 d, .int .i64 x]⟩], [some (.row e1 2 true true true), some (.row e2 2 true true true)] =>
    some (.tuple #[.agg #[.string nm, .slice (some ⟨2, 0, none⟩) (n + 1) 0, .slice (some ⟨3, 0, none⟩) k 0], .int .i64 0],
      [some (.row e1 2 true true true), some (.row e2 2 true true true), lst2 (zs ++ [d, x]), aRow ks], isSec zs ks n k e1 e2 ∧ meE nm zs n ks k d x = 0)
  | _, _ => none
theorem okMz (zs : List Int) (ks : List (Int × ByteArray)) : OkV Tryz.prog 10 (orcMz zs ks) := by
  intro args H ret H' vc h hv
  unfold orcMz at h
  split at h
  · rename_i nm n c k d x y e1 e2
    cases h
    obtain ⟨h1, h2⟩ := hv
    have := me_okV zs ks _ _ _ _ _ (show orcMeq zs ks [.agg ⟨[.string nm, .slice (some ⟨0, 0, none⟩) n c, .slice (some ⟨1, 0, none⟩) k d]⟩, .agg ⟨[.int .i64 x, .int .i64 y]⟩] [some (.row e1 2 true true true), some (.row e2 2 true true true)] = some _ from rfl) h1
    rwa [gqS_z h2, gqN_z h2, gqN_z h2, gqL_z h2, gqK_z h2, h2] at this
  · cases h
noncomputable def orcDz (zs : List Int) (ks : List (Int × ByteArray)) : OrcV
  | [.agg ⟨[.string nm, .slice (some ⟨0, 0, none⟩) n _, .slice (some ⟨1, 0, none⟩) k _]⟩, .agg ⟨[.int .i64 d, .string q]⟩], [some (.row e1 2 true true true), some (.row e2 2 true true true)] =>
    some (.tuple #[.agg #[.string nm, .slice (some ⟨2, 0, none⟩) n 0, .slice (some ⟨3, 0, none⟩) (k + 1) 0], .int .i64 0],
      [some (.row e1 2 true true true), some (.row e2 2 true true true), lst2 zs, aRow (ks ++ [(d, q)])], isSec zs ks n k e1 e2 ∧ doE nm zs n ks k d q = 0)
  | _, _ => none
theorem okDz (zs : List Int) (ks : List (Int × ByteArray)) : OkV Tryz.prog 15 (orcDz zs ks) := by
  intro args H ret H' vc h hv
  unfold orcDz at h
  split at h
  · rename_i nm n c k d x q e1 e2
    cases h
    obtain ⟨h1, h2⟩ := hv
    have := do_okV zs ks _ _ _ _ _ (show orcDo zs ks [.agg ⟨[.string nm, .slice (some ⟨0, 0, none⟩) n c, .slice (some ⟨1, 0, none⟩) k d]⟩, .agg ⟨[.int .i64 x, .string q]⟩] [some (.row e1 2 true true true), some (.row e2 2 true true true)] = some _ from rfl) h1
    rwa [gqS_z h2, gqN_z h2, gqN_z h2, gqL_z h2, gqK_z h2, h2] at this
  · cases h
noncomputable def orcPz (zs : List Int) (ks : List (Int × ByteArray)) : OrcV
  | [.agg ⟨[.string nm, .slice (some ⟨0, 0, none⟩) n _, .slice (some ⟨1, 0, none⟩) k _]⟩], [some (.row e1 2 true true true), some (.row e2 2 true true true)] =>
    some (.tuple #[.slice (some ⟨2, 0, none⟩) (k + 1) 0, .int .i64 0], [some (.row e1 2 true true true), some (.row e2 2 true true true), lst2 (spans zs ks n k)], isSec zs ks n k e1 e2 ∧ secE nm zs n ks k = 0)
  | _, _ => none
theorem okPz (zs : List Int) (ks : List (Int × ByteArray)) : OkV Tryz.prog 16 (orcPz zs ks) := by
  intro args H ret H' vc h hv
  unfold orcPz at h
  split at h
  · rename_i nm n c k d e1 e2
    cases h
    obtain ⟨h1, h2⟩ := hv
    have := pp_okV zs ks _ _ _ _ _ (show orcPPV zs ks [.agg ⟨[.string nm, .slice (some ⟨0, 0, none⟩) n c, .slice (some ⟨1, 0, none⟩) k d]⟩] [some (.row e1 2 true true true), some (.row e2 2 true true true)] = some _ from rfl) h1
    rwa [perN, if_pos h2, perL, if_pos h2, h2] at this
  · cases h
/-- What Reached says. -/
structure ReIs (nm : ByteArray) (zs : List Int) (n : Nat) (ks : List (Int × ByteArray)) (k : Nat) (p l e x : Int) : Prop where
  he : reE nm zs n ks k p l = e
  hx : gz e (rdN zs ks n k p l) = x
noncomputable def orcRv (zs : List Int) (ks : List (Int × ByteArray)) (e x : Int) : OrcV
  | [.agg ⟨[.string nm, .slice (some ⟨0, 0, none⟩) n _, .slice (some ⟨1, 0, none⟩) k _]⟩, .int .i64 p, .int .i64 l], [some (.row e1 2 true true true), some (.row e2 2 true true true)] =>
    some (.tuple #[.int .i64 x, .int .i64 e], [some (.row e1 2 true true true), some (.row e2 2 true true true)], isSec zs ks n k e1 e2 ∧ ReIs nm zs n ks k p l e x)
  | _, _ => none
theorem okRv (zs : List Int) (ks : List (Int × ByteArray)) (e x : Int) : OkV Tryz.prog 12 (orcRv zs ks e x) := by
  intro args H ret H' vc h hv
  unfold orcRv at h
  split at h
  · rename_i nm n c k d p l e1 e2
    cases h
    obtain ⟨h1, h2, h3⟩ := hv
    have := re_okV zs ks _ _ _ _ _ (show orcReV zs ks [.agg ⟨[.string nm, .slice (some ⟨0, 0, none⟩) n c, .slice (some ⟨1, 0, none⟩) k d]⟩, .int .i64 p, .int .i64 l] [some (.row e1 2 true true true), some (.row e2 2 true true true)] = some _ from rfl) h1
    rwa [h2, h3] at this
  · cases h
/-- What Fitted says. -/
structure FdIs (nm : ByteArray) (zs : List Int) (n : Nat) (ks : List (Int × ByteArray)) (k : Nat) (p e f0 f1 f2 f3 f4 : Int) : Prop where
  he : feE nm zs n ks k p = e
  h0 : gz e (p0D zs ks p) = f0
  h1 : gz e (lowN (pL zs ks n k p) (pD zs ks n k p)) = f1
  h2 : gz e (lowD (pL zs ks n k p) (pD zs ks n k p)) = f2
  h3 : gz e (lowN (pS zs ks n k p) (pD zs ks n k p)) = f3
  h4 : gz e (lowD (pS zs ks n k p) (pD zs ks n k p)) = f4
noncomputable def orcFv (zs : List Int) (ks : List (Int × ByteArray)) (Fe F0 F1 F2 F3 F4 : Int → Int) : OrcV
  | [.agg ⟨[.string nm, .slice (some ⟨0, 0, none⟩) n _, .slice (some ⟨1, 0, none⟩) k _]⟩, .int .i64 p], [some (.row e1 2 true true true), some (.row e2 2 true true true)] =>
    some (.tuple #[.agg #[.int .i64 (F0 p), .int .i64 (F1 p), .int .i64 (F2 p), .int .i64 (F3 p), .int .i64 (F4 p)], .int .i64 (Fe p)], [some (.row e1 2 true true true), some (.row e2 2 true true true)], isSec zs ks n k e1 e2 ∧ FdIs nm zs n ks k p (Fe p) (F0 p) (F1 p) (F2 p) (F3 p) (F4 p))
  | _, _ => none
theorem okFv (zs : List Int) (ks : List (Int × ByteArray)) (Fe F0 F1 F2 F3 F4 : Int → Int) : OkV Tryz.prog 13 (orcFv zs ks Fe F0 F1 F2 F3 F4) := by
  intro args H ret H' vc h hv
  unfold orcFv at h
  split at h
  · rename_i nm n c k d p e1 e2
    cases h
    obtain ⟨h1, h2, h3, h4, h5, h6, h7⟩ := hv
    have := fd_okV zs ks _ _ _ _ _ (show orcFdV zs ks [.agg ⟨[.string nm, .slice (some ⟨0, 0, none⟩) n c, .slice (some ⟨1, 0, none⟩) k d]⟩, .int .i64 p] [some (.row e1 2 true true true), some (.row e2 2 true true true)] = some _ from rfl) h1
    rwa [h2, h3, h4, h5, h6, h7] at this
  · cases h
/-- The new period is short. -/
noncomputable def orcFs (zs : List Int) (ks : List (Int × ByteArray)) : OrcV
  | [.agg ⟨[.string nm, .slice (some ⟨0, 0, none⟩) n _, .slice (some ⟨1, 0, none⟩) k _]⟩, .int .i64 p], [some (.row e1 2 true true true), some (.row e2 2 true true true)] =>
    some (.tuple #[.agg #[.int .i64 0, .int .i64 0, .int .i64 0, .int .i64 0, .int .i64 0], .int .i64 16], [some (.row e1 2 true true true), some (.row e2 2 true true true)], isSec zs ks n k e1 e2 ∧ feE nm zs n ks k p = 16)
  | _, _ => none
theorem okFs (zs : List Int) (ks : List (Int × ByteArray)) : OkV Tryz.prog 13 (orcFs zs ks) := by
  intro args H ret H' vc h hv
  unfold orcFs at h
  split at h
  · rename_i nm n c k d p e1 e2
    cases h
    obtain ⟨h1, h2⟩ := hv
    have := fd_okV zs ks _ _ _ _ _ (show orcFdV zs ks [.agg ⟨[.string nm, .slice (some ⟨0, 0, none⟩) n c, .slice (some ⟨1, 0, none⟩) k d]⟩, .int .i64 p] [some (.row e1 2 true true true), some (.row e2 2 true true true)] = some _ from rfl) h1
    rwa [h2] at this
  · cases h
/-- What Predicted says. -/
structure PrIs (nm : ByteArray) (zs : List Int) (n : Nat) (ks : List (Int × ByteArray)) (k : Nat) (p x v0 v1 : Int) : Prop where
  he : prE nm zs n ks k p x = 0
  h0 : lowN (pA zs ks n k p x) (pD zs ks n k p) = v0
  h1 : lowD (pA zs ks n k p x) (pD zs ks n k p) = v1
noncomputable def orcPv (zs : List Int) (ks : List (Int × ByteArray)) (v0 v1 : Int) : OrcV
  | [.agg ⟨[.string nm, .slice (some ⟨0, 0, none⟩) n _, .slice (some ⟨1, 0, none⟩) k _]⟩, .int .i64 p, .int .i64 x], [some (.row e1 2 true true true), some (.row e2 2 true true true)] =>
    some (.tuple #[.agg #[.int .i64 v0, .int .i64 v1], .int .i64 0], [some (.row e1 2 true true true), some (.row e2 2 true true true)], isSec zs ks n k e1 e2 ∧ PrIs nm zs n ks k p x v0 v1)
  | _, _ => none
theorem okPv (zs : List Int) (ks : List (Int × ByteArray)) (v0 v1 : Int) : OkV Tryz.prog 14 (orcPv zs ks v0 v1) := by
  intro args H ret H' vc h hv
  unfold orcPv at h
  split at h
  · rename_i nm n c k d p x e1 e2
    cases h
    obtain ⟨h1, h2, h3, h4⟩ := hv
    have := pr_okV zs ks _ _ _ _ _ (show orcPrV zs ks [.agg ⟨[.string nm, .slice (some ⟨0, 0, none⟩) n c, .slice (some ⟨1, 0, none⟩) k d]⟩, .int .i64 p, .int .i64 x] [some (.row e1 2 true true true), some (.row e2 2 true true true)] = some _ from rfl) h1
    rw [h2, gz, if_pos rfl, gz, if_pos rfl, h3, h4] at this
    exact this
  · cases h
end
end Qq
end
