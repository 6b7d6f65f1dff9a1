/- Parts of the proof: GA, GB, GC, GD, GE, GF. -/
import Derived.Test.YtbamclejfkddmaaZF
import Derived.Test.YtbamclejfkddmaaZC
import Derived.Test.YtbamclejfkddmaaZK
section
/- Errors of two packages; numbers of samples. -/
open Go Go.Vm Go.Proofs Sp
namespace Sp
noncomputable section
/-- The distance of two integers. -/
noncomputable def farI (a b : Int) : Int := ((a - b).natAbs : Int)
noncomputable def absI (a : Int) : Int := (a.natAbs : Int)
end
end Sp
namespace Qq
noncomputable section
theorem firstA_t (l : List Int) (n : Nat) (c : Nat) (es : Nat) (more : Bool) (rw : Bool) (K : Value → Heap → Prop) :
    (fnP Try.prog c0 (hFirst l n c es more rw) (18 : FuncId) [Value.slice (some { block := (0 : Nat), off := (0 : Nat) }) n c] [some (AObj.row (ints l) es more rw true)] K) =
    ((∃ (s : Nat), Is (s ≤ List.length l ∧ fi (List.drop s l) = fi l) ∧ [poi, poi, poi, poi, poi, Value.slice (some { block := (0 : Nat), off := (0 : Nat) }) n c, Value.int IntKind.i64 (↑n : Int), Value.int IntKind.i64 (0 : Int), poi, poi, poi, poi, poi, poi, poi] = [poi, poi, poi, poi, poi, Value.slice (some { block := (0 : Nat), off := (0 : Nat) }) n c, Value.int IntKind.i64 (↑n : Int), Value.int IntKind.i64 (↑s : Int), poi, poi, poi, poi, poi, poi, poi] ∧ some (AObj.row (ints l) es more rw true) :: noH = some (AObj.row (ints l) es more rw true) :: noH) ∧ ∀ (s : Nat), Is (s ≤ List.length l ∧ fi (List.drop s l) = fi l) → br (decide ((↑s : Int) < (↑n : Int))) (Is ((0 : Int) ≤ (↑s : Int) ∧ (↑s : Int) < (↑n : Int)) ∧ Is ((ints l)[(0 : Nat) + Int.toNat (↑s : Int) * (1 : Nat)]? = some (Value.int IntKind.i64 (List.getD l ((0 : Nat) + Int.toNat (↑s : Int) * (1 : Nat)) (0 : Int)))) ∧ br (List.getD l ((0 : Nat) + Int.toNat (↑s : Int) * (1 : Nat)) (0 : Int) != (0 : Int)) (K (Value.int IntKind.i64 (List.getD l ((0 : Nat) + Int.toNat (↑s : Int) * (1 : Nat)) (0 : Int))) (some (AObj.row (ints l) es more rw true) :: noH)) (∃ (s' : Nat), Is (s' ≤ List.length l ∧ fi (List.drop s' l) = fi l) ∧ Is (List.length l - s' < List.length l - s) ∧ [poi, poi, poi, poi, poi, Value.slice (some { block := (0 : Nat), off := (0 : Nat) }) n c, Value.int IntKind.i64 (↑n : Int), Value.int IntKind.i64 (IntKind.wrap IntKind.i64 ((↑s : Int) + (1 : Int))), poi, poi, poi, poi, poi, poi, poi] = [poi, poi, poi, poi, poi, Value.slice (some { block := (0 : Nat), off := (0 : Nat) }) n c, Value.int IntKind.i64 (↑n : Int), Value.int IntKind.i64 (↑s' : Int), poi, poi, poi, poi, poi, poi, poi] ∧ some (AObj.row (ints l) es more rw true) :: noH = some (AObj.row (ints l) es more rw true) :: noH)) (K (Value.int IntKind.i64 (0 : Int)) (some (AObj.row (ints l) es more rw true) :: noH))) := by kernel_rfl
theorem whenA_t (b : Bool) (e : Int) (K : Value → Heap → Prop) :
    (fnP Try.prog c0 h0 (42 : FuncId) [Value.bool b, Value.int IntKind.i64 e] [] K) =
    (br b (K (Value.int IntKind.i64 e) noH) (K (Value.int IntKind.i64 (0 : Int)) noH)) := by kernel_rfl
theorem okWhenA : Ok Try.prog 42 orcWhen := by
  intro args H ret H' h
  unfold orcWhen at h
  split at h
  · cases h
    refine fnP_res hm c0_ok (hs := h0) ?_
    rw [whenA_t]
    exact br_of (fun h => by simp [wh, h]) (fun h => by simp [wh, h])
  · cases h
theorem okFirstA : Ok Try.prog 18 orcFirst := by
  intro args H ret H' h
  unfold orcFirst at h
  split at h
  · rename_i n c cells es more rw
    split at h
    · rename_i l hl
      split at h
      · rename_i hn
        cases h
        have := intsOf_eq hl
        subst this
        obtain ⟨hn, hlt⟩ := hn
        subst hn
        refine fnP_res hm c0_ok (hs := hFirst l l.length c es more rw) ?_
        rw [firstA_t]
        refine ⟨⟨(0 : Nat), ⟨by simp, by simp⟩, rfl, rfl⟩, fun s hs => ?_⟩
        obtain ⟨h1, h2⟩ := hs.out
        refine br_of (fun hc => ?_) (fun hc => ?_)
        · have hc : s < l.length := by simpa using hc
          refine ⟨⟨by omega, by omega⟩, ⟨by simpa using ints_at hc⟩, br_of (fun hd => ?_) (fun hd => ?_)⟩
          · have := fi_drop hc
            have hd' : l.getD s 0 ≠ 0 := by simpa using hd
            rw [if_neg hd'] at this
            simp [← h2, this]
          · have := fi_drop hc
            have hd' : l.getD s 0 = 0 := by simpa using hd
            rw [if_pos hd'] at this
            refine ⟨s + 1, ⟨hc, by rw [← this, h2]⟩, ⟨by omega⟩, ?_, rfl⟩
            rw [wrap_eq (by omega) (by omega)]
            rfl
        · have hc : l.length ≤ s := by simpa using hc
          have : s = l.length := by omega
          subst this
          simp [← h2, fi]
      · cases h
    · cases h
  · cases h
noncomputable def lA1 : List (Nat × Orc) := [(42, orcWhen), (18, orcFirst)]
theorem lA1_all : ∀ p ∈ lA1, Ok Try.prog p.1 p.2 := all_cons okWhenA (all_cons okFirstA all_nil)
noncomputable def cA1 : CallF := ctx Try.prog lA1
theorem cA1_ok : CallOK Try.prog cA1 := ctx_ok hm lA1_all
theorem withinA_t (n : Int) (lo : Int) (hi : Int) (K : Value → Heap → Prop) :
    (fnP Try.prog cA1 h0 (20 : FuncId) [Value.int IntKind.i64 n, Value.int IntKind.i64 lo, Value.int IntKind.i64 hi] [] K) =
    (br (decide (n < lo)) (K (Value.int IntKind.i64 (3 : Int)) noH) (K (Value.int IntKind.i64 (wh (decide (hi < n)) (3 : Int))) noH)) := by kernel_rfl
theorem okWithinA : Ok Try.prog 20 orcWithin := by
  intro args H ret H' h
  unfold orcWithin at h
  split at h
  · cases h
    refine fnP_res hm cA1_ok (hs := h0) ?_
    rw [withinA_t]
    exact br_of (fun h => by simp [wi, of_decide_eq_true h]) (fun h => by simp [wi, wh, of_decide_eq_false h])
  · cases h
noncomputable def lA2 : List (Nat × Orc) := (20, orcWithin) :: lA1
theorem lA2_all : ∀ p ∈ lA2, Ok Try.prog p.1 p.2 := all_cons okWithinA lA1_all
noncomputable def cA2 : CallF := ctx Try.prog lA2
theorem cA2_ok : CallOK Try.prog cA2 := ctx_ok hm lA2_all
set_option maxRecDepth 100000 in
theorem firstA_ok {l : List Int} {n c : Nat} {more rw' : Bool} (hn : l.length = n) (hlt : n ≤ 100000) :
    SmallRes Try.prog 18 [.slice (some ⟨0, 0, none⟩) n c] [some (.row (ints l) 1 more rw' true)] (.int .i64 (fi l)) [some (.row (ints l) 1 more rw' true)] := by
  subst hn
  refine fnP_res hm c0_ok (hs := hFirst l l.length c 1 more rw') ?_
  rw [firstA_t]
  refine ⟨⟨(0 : Nat), ⟨by simp, by simp⟩, rfl, rfl⟩, fun s hs => ?_⟩
  obtain ⟨h1, h2⟩ := hs.out
  refine br_of (fun hc => ?_) (fun hc => ?_)
  · have hc : s < l.length := by simpa using hc
    refine ⟨⟨by omega, by omega⟩, ⟨by simpa using ints_at hc⟩, br_of (fun hd => ?_) (fun hd => ?_)⟩
    · have := fi_drop hc
      have hd' : l.getD s 0 ≠ 0 := by simpa using hd
      rw [if_neg hd'] at this
      simp [← h2, this]
    · have := fi_drop hc
      have hd' : l.getD s 0 = 0 := by simpa using hd
      rw [if_pos hd'] at this
      refine ⟨s + 1, ⟨hc, by rw [← this, h2]⟩, ⟨by omega⟩, ?_, rfl⟩
      rw [wrap_eq (by omega) (by omega)]
      rfl
  · have hc : l.length ≤ s := by simpa using hc
    have : s = l.length := by omega
    subst this
    simp [← h2, fi]
noncomputable def orcFiA (l : List Int) : OrcV
  | [.slice (some ⟨0, 0, none⟩) n _], [some (.row e1 1 m w true)] => some (.int .i64 (fi l), [some (.row e1 1 m w true)], e1 = ints l ∧ l.length = n ∧ n ≤ 100000)
  | _, _ => none
theorem okFiA (l : List Int) : OkV Try.prog 18 (orcFiA l) := by
  intro args H ret H' vc h hv
  unfold orcFiA at h
  split at h
  · cases h
    obtain ⟨rfl, h1, h2⟩ := hv
    exact firstA_ok h1 h2
  · cases h
theorem firstF_t (l : List Int) (n : Nat) (c : Nat) (es : Nat) (more : Bool) (rw : Bool) (K : Value → Heap → Prop) :
    (fnP Try.prog c0 (hFirst l n c es more rw) (35 : FuncId) [Value.slice (some { block := (0 : Nat), off := (0 : Nat) }) n c] [some (AObj.row (ints l) es more rw true)] K) =
    ((∃ (s : Nat), Is (s ≤ List.length l ∧ fi (List.drop s l) = fi l) ∧ [poi, poi, poi, poi, poi, Value.slice (some { block := (0 : Nat), off := (0 : Nat) }) n c, Value.int IntKind.i64 (↑n : Int), Value.int IntKind.i64 (0 : Int), poi, poi, poi, poi, poi, poi, poi] = [poi, poi, poi, poi, poi, Value.slice (some { block := (0 : Nat), off := (0 : Nat) }) n c, Value.int IntKind.i64 (↑n : Int), Value.int IntKind.i64 (↑s : Int), poi, poi, poi, poi, poi, poi, poi] ∧ some (AObj.row (ints l) es more rw true) :: noH = some (AObj.row (ints l) es more rw true) :: noH) ∧ ∀ (s : Nat), Is (s ≤ List.length l ∧ fi (List.drop s l) = fi l) → br (decide ((↑s : Int) < (↑n : Int))) (Is ((0 : Int) ≤ (↑s : Int) ∧ (↑s : Int) < (↑n : Int)) ∧ Is ((ints l)[(0 : Nat) + Int.toNat (↑s : Int) * (1 : Nat)]? = some (Value.int IntKind.i64 (List.getD l ((0 : Nat) + Int.toNat (↑s : Int) * (1 : Nat)) (0 : Int)))) ∧ br (List.getD l ((0 : Nat) + Int.toNat (↑s : Int) * (1 : Nat)) (0 : Int) != (0 : Int)) (K (Value.int IntKind.i64 (List.getD l ((0 : Nat) + Int.toNat (↑s : Int) * (1 : Nat)) (0 : Int))) (some (AObj.row (ints l) es more rw true) :: noH)) (∃ (s' : Nat), Is (s' ≤ List.length l ∧ fi (List.drop s' l) = fi l) ∧ Is (List.length l - s' < List.length l - s) ∧ [poi, poi, poi, poi, poi, Value.slice (some { block := (0 : Nat), off := (0 : Nat) }) n c, Value.int IntKind.i64 (↑n : Int), Value.int IntKind.i64 (IntKind.wrap IntKind.i64 ((↑s : Int) + (1 : Int))), poi, poi, poi, poi, poi, poi, poi] = [poi, poi, poi, poi, poi, Value.slice (some { block := (0 : Nat), off := (0 : Nat) }) n c, Value.int IntKind.i64 (↑n : Int), Value.int IntKind.i64 (↑s' : Int), poi, poi, poi, poi, poi, poi, poi] ∧ some (AObj.row (ints l) es more rw true) :: noH = some (AObj.row (ints l) es more rw true) :: noH)) (K (Value.int IntKind.i64 (0 : Int)) (some (AObj.row (ints l) es more rw true) :: noH))) := by kernel_rfl
theorem whenF_t (b : Bool) (e : Int) (K : Value → Heap → Prop) :
    (fnP Try.prog c0 h0 (36 : FuncId) [Value.bool b, Value.int IntKind.i64 e] [] K) =
    (br b (K (Value.int IntKind.i64 e) noH) (K (Value.int IntKind.i64 (0 : Int)) noH)) := by kernel_rfl
theorem okWhenF : Ok Try.prog 36 orcWhen := by
  intro args H ret H' h
  unfold orcWhen at h
  split at h
  · cases h
    refine fnP_res hm c0_ok (hs := h0) ?_
    rw [whenF_t]
    exact br_of (fun h => by simp [wh, h]) (fun h => by simp [wh, h])
  · cases h
theorem okFirstF : Ok Try.prog 35 orcFirst := by
  intro args H ret H' h
  unfold orcFirst at h
  split at h
  · rename_i n c cells es more rw
    split at h
    · rename_i l hl
      split at h
      · rename_i hn
        cases h
        have := intsOf_eq hl
        subst this
        obtain ⟨hn, hlt⟩ := hn
        subst hn
        refine fnP_res hm c0_ok (hs := hFirst l l.length c es more rw) ?_
        rw [firstF_t]
        refine ⟨⟨(0 : Nat), ⟨by simp, by simp⟩, rfl, rfl⟩, fun s hs => ?_⟩
        obtain ⟨h1, h2⟩ := hs.out
        refine br_of (fun hc => ?_) (fun hc => ?_)
        · have hc : s < l.length := by simpa using hc
          refine ⟨⟨by omega, by omega⟩, ⟨by simpa using ints_at hc⟩, br_of (fun hd => ?_) (fun hd => ?_)⟩
          · have := fi_drop hc
            have hd' : l.getD s 0 ≠ 0 := by simpa using hd
            rw [if_neg hd'] at this
            simp [← h2, this]
          · have := fi_drop hc
            have hd' : l.getD s 0 = 0 := by simpa using hd
            rw [if_pos hd'] at this
            refine ⟨s + 1, ⟨hc, by rw [← this, h2]⟩, ⟨by omega⟩, ?_, rfl⟩
            rw [wrap_eq (by omega) (by omega)]
            rfl
        · have hc : l.length ≤ s := by simpa using hc
          have : s = l.length := by omega
          subst this
          simp [← h2, fi]
      · cases h
    · cases h
  · cases h
noncomputable def lF1 : List (Nat × Orc) := [(36, orcWhen), (35, orcFirst)]
theorem lF1_all : ∀ p ∈ lF1, Ok Try.prog p.1 p.2 := all_cons okWhenF (all_cons okFirstF all_nil)
noncomputable def cF1 : CallF := ctx Try.prog lF1
theorem cF1_ok : CallOK Try.prog cF1 := ctx_ok hm lF1_all
theorem withinF_t (n : Int) (lo : Int) (hi : Int) (K : Value → Heap → Prop) :
    (fnP Try.prog cF1 h0 (37 : FuncId) [Value.int IntKind.i64 n, Value.int IntKind.i64 lo, Value.int IntKind.i64 hi] [] K) =
    (br (decide (n < lo)) (K (Value.int IntKind.i64 (3 : Int)) noH) (K (Value.int IntKind.i64 (wh (decide (hi < n)) (3 : Int))) noH)) := by kernel_rfl
theorem okWithinF : Ok Try.prog 37 orcWithin := by
  intro args H ret H' h
  unfold orcWithin at h
  split at h
  · cases h
    refine fnP_res hm cF1_ok (hs := h0) ?_
    rw [withinF_t]
    exact br_of (fun h => by simp [wi, of_decide_eq_true h]) (fun h => by simp [wi, wh, of_decide_eq_false h])
  · cases h
noncomputable def lF2 : List (Nat × Orc) := (37, orcWithin) :: lF1
theorem lF2_all : ∀ p ∈ lF2, Ok Try.prog p.1 p.2 := all_cons okWithinF lF1_all
noncomputable def cF2 : CallF := ctx Try.prog lF2
theorem cF2_ok : CallOK Try.prog cF2 := ctx_ok hm lF2_all
set_option maxRecDepth 100000 in
theorem firstF_ok {l : List Int} {n c : Nat} {more rw' : Bool} (hn : l.length = n) (hlt : n ≤ 100000) :
    SmallRes Try.prog 35 [.slice (some ⟨0, 0, none⟩) n c] [some (.row (ints l) 1 more rw' true)] (.int .i64 (fi l)) [some (.row (ints l) 1 more rw' true)] := by
  subst hn
  refine fnP_res hm c0_ok (hs := hFirst l l.length c 1 more rw') ?_
  rw [firstF_t]
  refine ⟨⟨(0 : Nat), ⟨by simp, by simp⟩, rfl, rfl⟩, fun s hs => ?_⟩
  obtain ⟨h1, h2⟩ := hs.out
  refine br_of (fun hc => ?_) (fun hc => ?_)
  · have hc : s < l.length := by simpa using hc
    refine ⟨⟨by omega, by omega⟩, ⟨by simpa using ints_at hc⟩, br_of (fun hd => ?_) (fun hd => ?_)⟩
    · have := fi_drop hc
      have hd' : l.getD s 0 ≠ 0 := by simpa using hd
      rw [if_neg hd'] at this
      simp [← h2, this]
    · have := fi_drop hc
      have hd' : l.getD s 0 = 0 := by simpa using hd
      rw [if_pos hd'] at this
      refine ⟨s + 1, ⟨hc, by rw [← this, h2]⟩, ⟨by omega⟩, ?_, rfl⟩
      rw [wrap_eq (by omega) (by omega)]
      rfl
  · have hc : l.length ≤ s := by simpa using hc
    have : s = l.length := by omega
    subst this
    simp [← h2, fi]
noncomputable def orcFiF (l : List Int) : OrcV
  | [.slice (some ⟨0, 0, none⟩) n _], [some (.row e1 1 m w true)] => some (.int .i64 (fi l), [some (.row e1 1 m w true)], e1 = ints l ∧ l.length = n ∧ n ≤ 100000)
  | _, _ => none
theorem okFiF (l : List Int) : OkV Try.prog 35 (orcFiF l) := by
  intro args H ret H' vc h hv
  unfold orcFiF at h
  split at h
  · cases h
    obtain ⟨rfl, h1, h2⟩ := hv
    exact firstF_ok h1 h2
  · cases h

theorem in_t (x : Nat) (K : Value → Heap → Prop) :
    (fnP Try.prog c0 hsFl0 (45 : FuncId) [Value.float FloatKind.f32 x] [] K) =
    (Is (fMulOk (1098907648 : Nat) x) ∧ Is (fIntOk (fMul (1098907648 : Nat) x)) ∧ K (Value.int IntKind.i64 (Sp.fInt (fMul (1098907648 : Nat) x))) noH) := by kernel_rfl
theorem le_t (x : Nat) (K : Value → Heap → Prop) :
    (fnP Try.prog c0 hsFl0 (59 : FuncId) [Value.float FloatKind.f32 x] [] K) =
    (Is (fMulOk (1098907648 : Nat) x) ∧ Is (fIntOk (fMul (1098907648 : Nat) x)) ∧ K (Value.int IntKind.i64 (Sp.fInt (fMul (1098907648 : Nat) x))) noH) := by kernel_rfl
theorem sm_t (n : Int) (K : Value → Heap → Prop) :
    (fnP Try.prog c0 hsFl0 (14 : FuncId) [Value.int IntKind.i64 n] [] K) =
    (Is True ∧ Is (fDivOk (fOf n) (1098907648 : Nat)) ∧ K (Value.float FloatKind.f32 (fDiv (fOf n) (1098907648 : Nat))) noH) := by kernel_rfl
theorem fa_t (a : Int) (b : Int) (K : Value → Heap → Prop) :
    (fnP Try.prog c0 h0 (44 : FuncId) [Value.int IntKind.i64 a, Value.int IntKind.i64 b] [] K) =
    (K (Value.int IntKind.i64 (if IntKind.wrap IntKind.i64 (b - a) > IntKind.wrap IntKind.i64 (a - b) then IntKind.wrap IntKind.i64 (b - a) else IntKind.wrap IntKind.i64 (a - b))) noH) := by kernel_rfl
theorem sz_t (a : Int) (K : Value → Heap → Prop) :
    (fnP Try.prog c0 h0 (40 : FuncId) [Value.int IntKind.i64 a] [] K) =
    (K (Value.int IntKind.i64 (if IntKind.wrap IntKind.i64 ((0 : Int) - a) > a then IntKind.wrap IntKind.i64 ((0 : Int) - a) else a)) noH) := by kernel_rfl
theorem cl_t (a : Int) (K : Value → Heap → Prop) :
    (fnP Try.prog cA2 h0 (30 : FuncId) [Value.int IntKind.i64 a] [] K) =
    (K (Value.int IntKind.i64 (wi a (1 : Int) (4096 : Int))) noH) := by kernel_rfl
noncomputable def orcIn : OrcV
  | [.float .f32 x], [] => some (.int .i64 (lev x), [], sE x = 0)
  | _, _ => none
theorem okIn : OkV Try.prog 45 orcIn := by
  intro args H ret H' vc h hv
  unfold orcIn at h
  split at h
  · rename_i x
    cases h
    have hs := Fl.smp hv
    refine fnP_res hm c0_ok (hs := hsFl0) ?_
    rw [in_t, Fl.mul_comm16 1098907648 x]
    exact ⟨⟨hs.m2⟩, ⟨hs.i1⟩, by first | trivial | rfl, by first | trivial | rfl⟩
  · cases h
noncomputable def orcLe : OrcV
  | [.float .f32 x], [] => some (.int .i64 (lev x), [], sE x = 0)
  | _, _ => none
theorem okLe : OkV Try.prog 59 orcLe := by
  intro args H ret H' vc h hv
  unfold orcLe at h
  split at h
  · rename_i x
    cases h
    have hs := Fl.smp hv
    refine fnP_res hm c0_ok (hs := hsFl0) ?_
    rw [le_t, Fl.mul_comm16 1098907648 x]
    exact ⟨⟨hs.m2⟩, ⟨hs.i1⟩, by first | trivial | rfl, by first | trivial | rfl⟩
  · cases h
noncomputable def orcSmq : OrcV
  | [.int .i64 n], [] => some (.float .f32 (smO n), [], n.natAbs ≤ 16384)
  | _, _ => none
theorem okSmq : OkV Try.prog 14 orcSmq := by
  intro args H ret H' vc h hv
  unfold orcSmq at h
  split at h
  · rename_i n
    cases h
    obtain ⟨d1, d2, d3⟩ := Fl.sm_ok (n := n) (by omega)
    refine fnP_res hm c0_ok (hs := hsFl0) ?_
    rw [sm_t]
    exact ⟨⟨trivial⟩, ⟨d1⟩, by first | trivial | rfl, by first | trivial | rfl⟩
  · cases h
noncomputable def orcFa : OrcV
  | [.int .i64 a, .int .i64 b], [] => some (.int .i64 (farI a b), [], a.natAbs ≤ 1000000000 ∧ b.natAbs ≤ 1000000000)
  | _, _ => none
theorem okFa : OkV Try.prog 44 orcFa := by
  intro args H ret H' vc h hv
  unfold orcFa at h
  split at h
  · rename_i a b
    cases h
    obtain ⟨h1, h2⟩ := hv
    refine fnP_res hm c0_ok (hs := h0) ?_
    have e : (if IntKind.wrap .i64 (b - a) > IntKind.wrap .i64 (a - b) then IntKind.wrap .i64 (b - a) else IntKind.wrap .i64 (a - b)) = farI a b := by
      rw [wrap_eq (x := b - a) (by omega) (by omega), wrap_eq (x := a - b) (by omega) (by omega), farI]
      split <;> omega
    rw [fa_t, e]
    exact ⟨by first | trivial | rfl, by first | trivial | rfl⟩
  · cases h
noncomputable def orcSz : OrcV
  | [.int .i64 a], [] => some (.int .i64 (absI a), [], a.natAbs ≤ 1000000000)
  | _, _ => none
theorem okSz : OkV Try.prog 40 orcSz := by
  intro args H ret H' vc h hv
  unfold orcSz at h
  split at h
  · rename_i a
    cases h
    have h1 := hv
    refine fnP_res hm c0_ok (hs := h0) ?_
    have e : (if IntKind.wrap .i64 (0 - a) > a then IntKind.wrap .i64 (0 - a) else a) = absI a := by
      rw [wrap_eq (x := 0 - a) (by omega) (by omega), absI]
      split <;> omega
    rw [sz_t, e]
    exact ⟨by first | trivial | rfl, by first | trivial | rfl⟩
  · cases h
noncomputable def orcCl : Orc
  | [.int .i64 a], [] => some (.int .i64 (wi a 1 4096), [])
  | _, _ => none
theorem okCl : Ok Try.prog 30 orcCl := by
  intro args H ret H' h
  unfold orcCl at h
  split at h
  · cases h
    refine fnP_res hm cA2_ok (hs := h0) ?_
    rw [cl_t]
    exact ⟨by first | trivial | rfl, by first | trivial | rfl⟩
  · cases h
end
end Qq
end
section
/- Readings: a list of integers, each known or not. -/
open Go Go.Vm Go.Proofs Sp
namespace Sp
noncomputable section
noncomputable def rC (r : Nat × Bool) : List Value := [.float .f32 r.1, .bool r.2]
noncomputable def rdc : Nat → (Nat → Nat × Bool) → List Value
  | 0, _ => []
  | n + 1, R => rdc n R ++ rC (R n)
noncomputable def upR (R : Nat → Nat × Bool) (i : Nat) (v : Nat × Bool) (j : Nat) : Nat × Bool := if j = i then v else R j
/-- Readings of samples, where P says that they are known. -/
noncomputable def rdF (xs : List Nat) (P : Int → Bool) (i : Nat) : Nat × Bool := if P (i : Int) = true then (xs.getD i 0, true) else (0, false)
noncomputable def tt1 (_ : Int) : Bool := true
noncomputable def rdV (R : Nat → Nat × Bool) (off : Nat) : Nat := (R (off / 2)).1
noncomputable def rdW (R : Nat → Nat × Bool) (off : Nat) : Bool := (R (off / 2)).2
noncomputable def zR (R : Nat → Nat × Bool) (off : Nat) : Value := .agg #[.float .f32 (rdV R off), .bool (rdW R off)]
theorem rdV_at (R : Nat → Nat × Bool) (i : Nat) : rdV R (i * 2) = (R i).1 := by rw [rdV, Nat.mul_div_cancel _ (by decide)]
theorem rdW_at (R : Nat → Nat × Bool) (i : Nat) : rdW R (i * 2) = (R i).2 := by rw [rdW, Nat.mul_div_cancel _ (by decide)]
/-- In none of the first s holes, nor in the first j of the next one. -/
noncomputable def knT (hs : List Int) (s j : Nat) (i : Int) : Bool := knB (hs.take (s * 2)) i && !(decide (hs.getD (s * 2) 0 ≤ i) && decide (i < hs.getD (s * 2) 0 + (j : Int)))
noncomputable def hsz (hs : List Int) (s : Nat) : Int := hs.getD (s * 2 + 1) 0 - hs.getD (s * 2) 0
end
end Sp
namespace Qq
noncomputable section
theorem rdc_len : ∀ (n : Nat) (R : Nat → Nat × Bool), (rdc n R).length = n * 2
  | 0, _ => rfl
  | n + 1, R => by rw [rdc, List.length_append, rdc_len n R, rC]; simp only [List.length_cons, List.length_nil]; omega
theorem rdc_congr : ∀ {n : Nat} {R Q : Nat → Nat × Bool}, (∀ i, i < n → R i = Q i) → rdc n R = rdc n Q
  | 0, _, _, _ => rfl
  | n + 1, R, Q, h => by rw [rdc, rdc, rdc_congr (fun i hi => h i (by omega)), h n (by omega)]
theorem rdc_cut : ∀ {n i : Nat} {R : Nat → Nat × Bool}, i < n → ∃ t, rdc n R = rdc i R ++ (rC (R i) ++ t) ∧ ∀ Q : Nat → Nat × Bool, (∀ j, i < j → Q j = R j) → rdc n Q = rdc i Q ++ (rC (Q i) ++ t)
  | n + 1, i, R, h => by
    by_cases e : i = n
    · subst e
      refine ⟨[], by rw [rdc, List.append_nil], fun Q _ => by rw [rdc, List.append_nil]⟩
    · obtain ⟨t, h1, h2⟩ := rdc_cut (n := n) (i := i) (R := R) (by omega)
      refine ⟨t ++ rC (R n), by rw [rdc, h1]; simp only [List.append_assoc], fun Q hQ => ?_⟩
      rw [rdc, h2 Q hQ, hQ n (by omega)]
      simp only [List.append_assoc]
theorem rdc_take {n i : Nat} {R : Nat → Nat × Bool} (h : i < n) : (if i * 2 + 2 ≤ (rdc n R).length then some (Value.agg (List.toArray (List.take 2 (List.drop (i * 2) (rdc n R))))) else none) = some (.agg #[.float .f32 (R i).1, .bool (R i).2]) := by
  obtain ⟨t, h1, _⟩ := rdc_cut (R := R) h
  have hl := rdc_len i R
  rw [if_pos (by rw [rdc_len]; omega), h1, ← hl, List.drop_left]
  rfl
theorem rdc_int {n i : Nat} {R : Nat → Nat × Bool} (h : i < n) : (rdc n R)[i * 2]? = some (.float .f32 (R i).1) := by
  obtain ⟨t, h1, _⟩ := rdc_cut (R := R) h
  have hl := rdc_len i R
  rw [h1, List.getElem?_append_right (by omega), hl, Nat.sub_self]
  rfl
theorem rdc_bool {n i : Nat} {R : Nat → Nat × Bool} (h : i < n) : (rdc n R)[i * 2 + 1]? = some (.bool (R i).2) := by
  obtain ⟨t, h1, _⟩ := rdc_cut (R := R) h
  have hl := rdc_len i R
  rw [h1, List.getElem?_append_right (by omega), hl, show i * 2 + 1 - i * 2 = 1 by omega]
  rfl
theorem rdc_put {n i : Nat} {R : Nat → Nat × Bool} {v : Nat × Bool} (h : i < n) : putL (rdc n R) (i * 2) (rC v) = rdc n (upR R i v) := by
  obtain ⟨t, h1, h2⟩ := rdc_cut (R := R) h
  have hl := rdc_len i R
  have h3 : rdc i (upR R i v) = rdc i R := rdc_congr (fun j hj => by rw [upR, if_neg (by omega)])
  have h4 : upR R i v i = v := by rw [upR, if_pos rfl]
  rw [h2 (upR R i v) (fun j hj => by rw [upR, if_neg (by omega)]), h3, h4, putL, splice, h1]
  have e1 : List.take (i * 2) (rdc i R ++ (rC (R i) ++ t)) = rdc i R := by rw [← hl, List.take_left]
  have e2 : List.drop (i * 2 + (rC v).length) (rdc i R ++ (rC (R i) ++ t)) = t := by
    have : i * 2 + (rC v).length = (rdc i R ++ rC (R i)).length := by rw [List.length_append, hl]; rfl
    rw [this, ← List.append_assoc, List.drop_left]
  rw [e1, e2]
theorem knT_zero {hs : List Int} {s : Nat} (i : Int) : knT hs s 0 i = knB (hs.take (s * 2)) i := by
  rw [knT]
  have : (decide (hs.getD (s * 2) 0 ≤ i) && decide (i < hs.getD (s * 2) 0 + ((0 : Nat) : Int))) = false := by
    by_cases h : hs.getD (s * 2) 0 ≤ i
    · rw [decide_eq_false (p := i < _) (by omega), Bool.and_false]
    · rw [decide_eq_false h, Bool.false_and]
  rw [this]; simp
theorem knB_app : ∀ (s : Nat) {l r : List Int} (i : Int), l.length = s * 2 → knB (l ++ r) i = (knB l i && knB r i)
  | 0, [], r, i, _ => by simp [knB]
  | s + 1, a :: b :: l, r, i, h => by
    rw [List.cons_append, List.cons_append, knB, knB, knB_app s i (by simp only [List.length_cons] at h; omega), Bool.and_assoc]
  | s + 1, [a], r, i, h => by simp only [List.length_cons, List.length_nil] at h; omega
  | s + 1, [], r, i, h => by simp only [List.length_nil] at h; omega
  | 0, a :: l, r, i, h => by simp only [List.length_cons] at h; omega
theorem knT_full {hs : List Int} {s j : Nat} (h : s * 2 + 2 ≤ hs.length) (hj : (j : Int) = hsz hs s) (i : Int) : knT hs s j i = knB (hs.take ((s + 1) * 2)) i := by
  have e : hs.take ((s + 1) * 2) = hs.take (s * 2) ++ [hs.getD (s * 2) 0, hs.getD (s * 2 + 1) 0] := by
    rw [show (s + 1) * 2 = s * 2 + 2 by omega, List.take_add, spn_drop h]; rfl
  have e2 : hs.getD (s * 2) 0 + (j : Int) = hs.getD (s * 2 + 1) 0 := by rw [hj, hsz]; omega
  rw [e, knB_app s i (by rw [List.length_take]; omega), knT, e2]
  simp [knB]
theorem rdF_congr {xs : List Nat} {P Q : Int → Bool} {n : Nat} (h : ∀ i : Int, P i = Q i) : rdc n (rdF xs P) = rdc n (rdF xs Q) := rdc_congr fun i _ => by rw [rdF, rdF, h]
theorem rdF_put {xs : List Nat} {hs : List Int} {s j i : Nat} (ha : (i : Int) = hs.getD (s * 2) 0 + (j : Int)) : ∀ k, upR (rdF xs (knT hs s j)) i (0, false) k = rdF xs (knT hs s (j + 1)) k := fun k => by
  rw [upR]
  have e2 : ((j + 1 : Nat) : Int) = (j : Int) + 1 := rfl
  split
  · rename_i e
    subst e
    rw [rdF, knT]
    have : (decide (hs.getD (s * 2) 0 ≤ (k : Int)) && decide ((k : Int) < hs.getD (s * 2) 0 + ((j + 1 : Nat) : Int))) = true := by
      rw [decide_eq_true (by omega), decide_eq_true (by omega)]; rfl
    rw [this]; simp
  · rename_i e
    rw [rdF, rdF]
    have : knT hs s j (k : Int) = knT hs s (j + 1) (k : Int) := by
      rw [knT, knT]
      congr 2
      congr 1
      exact decide_eq_decide.2 ⟨fun h => by omega, fun h => by omega⟩
    rw [this]
/- A reading of a sample. -/
theorem rd1_t (x : Nat) (K : Value → Heap → Prop) :
    (fnP Try.prog c0 h0 (62 : FuncId) [Value.float FloatKind.f32 x] [] K) =
    (K (Value.agg #[Value.float FloatKind.f32 x, Value.bool true]) noH) := by kernel_rfl
noncomputable def orcRd1 : OrcV
  | [.float .f32 x], [] => some (.agg #[.float .f32 x, .bool true], [], sE x = 0)
  | _, _ => none
theorem okRd1 : OkV Try.prog 62 orcRd1 := by
  intro args H ret H' vc h hv
  unfold orcRd1 at h
  split at h
  · rename_i x
    cases h
    refine fnP_res hm c0_ok (hs := h0) ?_
    rw [rd1_t]
    exact ⟨by first | trivial | rfl, by first | trivial | rfl⟩
  · cases h
/- A reading for each sample. -/
noncomputable def fR1 : Value := .func (.func 62) #[] #[]
noncomputable def rdR (n : Nat) (R : Nat → Nat × Bool) : Option AObj := some (.row (rdc n R) 2 true true true)
noncomputable def lpMr0 (xs : List Nat) (n c : Nat) : Lp where
  σ := Nat
  E _ := slots 22 [(0, .slice (some ⟨0, 0, none⟩) n c), (1, fR1), (5, .slice (some ⟨1, 0, none⟩) 0 0)]
  Hp _ := [fR xs, rdR 0 (rdF xs tt1)]
  I s := s = 0
  m _ := 0
noncomputable def lpMr (xs : List Nat) (n c : Nat) : Lp where
  σ := Nat
  E i := slots 22 [(1, fR1), (5, .slice (some ⟨1, 0, none⟩) i 0), (8, .slice (some ⟨0, 0, none⟩) n c), (9, .int .i64 (Int.ofNat n)), (10, .int .i64 (Int.ofNat i))]
  Hp i := [fR xs, rdR i (rdF xs tt1)]
  I i := i ≤ n
  m i := n - i
noncomputable def hsMr (xs : List Nat) (n c : Nat) : Hs Try.prog where
  op y := if y = 400 then some (hIa Try.prog) else if y = 401 then some (hLd Try.prog (xF xs)) else if y = 503 then some (hCa Try.prog 62 orcRd1 okRd1) else if y = 505 then some (hAp Try.prog) else none
  cut y := if y = 2 then some (lpMr0 xs n c) else none
  lp _ := some (lpMr xs n c)
  cl y := if y = 2 then keep 22 [0, 1, 5] else keep 22 [1, 5, 8, 9, 10]
  nl y := if y = 2 then [.slot 5 2] else []
  au := au0 Try.prog
theorem mr_t (xs : List Nat) (n : Nat) (c : Nat) (K : Value → Heap → Prop) :
    (fnP Try.prog c0 (hsMr xs n c) (61 : FuncId) [Value.slice (some { block := (0 : Nat), off := (0 : Nat) }) n c, fR1] [fR xs] K) =
    ((∃ (s : Nat), Is (s = (0 : Nat)) ∧ [Value.slice (some { block := (0 : Nat), off := (0 : Nat) }) n c, Value.func (Fn.func (62 : Nat)) #[] #[], poi, poi, poi, Value.slice (some { block := (1 : Nat), off := (0 : Nat) }) (0 : Nat) (0 : Nat), poi, poi, poi, poi, poi, poi, poi, poi, poi, poi, poi, poi, poi, poi, poi, poi] = [Value.slice (some { block := (0 : Nat), off := (0 : Nat) }) n c, Value.func (Fn.func (62 : Nat)) #[] #[], poi, poi, poi, Value.slice (some { block := (1 : Nat), off := (0 : Nat) }) (0 : Nat) (0 : Nat), poi, poi, poi, poi, poi, poi, poi, poi, poi, poi, poi, poi, poi, poi, poi, poi] ∧ some (AObj.row (flts xs) (1 : Nat) true true true) :: some (AObj.row [] (2 : Nat) true true true) :: noH = some (AObj.row (flts xs) (1 : Nat) true true true) :: some (AObj.row [] (2 : Nat) true true true) :: noH) ∧ ∀ (s : Nat), Is (s = (0 : Nat)) → (∃ (s : Nat), Is (s ≤ n) ∧ [poi, Value.func (Fn.func (62 : Nat)) #[] #[], poi, poi, poi, Value.slice (some { block := (1 : Nat), off := (0 : Nat) }) (0 : Nat) (0 : Nat), poi, poi, Value.slice (some { block := (0 : Nat), off := (0 : Nat) }) n c, Value.int IntKind.i64 (↑n : Int), Value.int IntKind.i64 (0 : Int), poi, poi, poi, poi, poi, poi, poi, poi, poi, poi, poi] = [poi, Value.func (Fn.func (62 : Nat)) #[] #[], poi, poi, poi, Value.slice (some { block := (1 : Nat), off := (0 : Nat) }) s (0 : Nat), poi, poi, Value.slice (some { block := (0 : Nat), off := (0 : Nat) }) n c, Value.int IntKind.i64 (↑n : Int), Value.int IntKind.i64 (↑s : Int), poi, poi, poi, poi, poi, poi, poi, poi, poi, poi, poi] ∧ some (AObj.row (flts xs) (1 : Nat) true true true) :: some (AObj.row [] (2 : Nat) true true true) :: noH = some (AObj.row (flts xs) (1 : Nat) true true true) :: some (AObj.row (rdc s (rdF xs tt1)) (2 : Nat) true true true) :: noH) ∧ ∀ (s : Nat), Is (s ≤ n) → br (decide ((↑s : Int) < (↑n : Int))) (Is ((0 : Int) ≤ (↑s : Int) ∧ (↑s : Int) < (↑n : Int)) ∧ Is ((flts xs)[(0 : Nat) + Int.toNat (↑s : Int) * (1 : Nat)]? = some (Value.float FloatKind.f32 (List.getD xs ((0 : Nat) + Int.toNat (↑s : Int) * (1 : Nat)) (0 : Nat)))) ∧ Is (sE (List.getD xs ((0 : Nat) + Int.toNat (↑s : Int) * (1 : Nat)) (0 : Nat)) = (0 : Int)) ∧ Is (List.length (rdc s (rdF xs tt1)) = s * (2 : Nat) ∧ (s + (1 : Nat)) * (8 : Nat) ≤ (140737488355328 : Nat) ∧ s + (1 : Nat) ≤ (9223372036854775807 : Nat)) ∧ ∃ (s' : Nat), Is (s' ≤ n) ∧ Is (n - s' < n - s) ∧ [poi, Value.func (Fn.func (62 : Nat)) #[] #[], poi, poi, poi, Value.slice (some { block := (1 : Nat), off := (0 : Nat) }) (s + (1 : Nat)) (0 : Nat), poi, poi, Value.slice (some { block := (0 : Nat), off := (0 : Nat) }) n c, Value.int IntKind.i64 (↑n : Int), Value.int IntKind.i64 (IntKind.wrap IntKind.i64 ((↑s : Int) + (1 : Int))), poi, poi, poi, poi, poi, poi, poi, poi, poi, poi, poi] = [poi, Value.func (Fn.func (62 : Nat)) #[] #[], poi, poi, poi, Value.slice (some { block := (1 : Nat), off := (0 : Nat) }) s' (0 : Nat), poi, poi, Value.slice (some { block := (0 : Nat), off := (0 : Nat) }) n c, Value.int IntKind.i64 (↑n : Int), Value.int IntKind.i64 (↑s' : Int), poi, poi, poi, poi, poi, poi, poi, poi, poi, poi, poi] ∧ some (AObj.row (flts xs) (1 : Nat) true true true) :: some (AObj.row (rdc s (rdF xs tt1) ++ [Value.float FloatKind.f32 (List.getD xs ((0 : Nat) + Int.toNat (↑s : Int) * (1 : Nat)) (0 : Nat)), Value.bool true]) (2 : Nat) true true (List.all [Value.float FloatKind.f32 (List.getD xs ((0 : Nat) + Int.toNat (↑s : Int) * (1 : Nat)) (0 : Nat)), Value.bool true] atom)) :: noH = some (AObj.row (flts xs) (1 : Nat) true true true) :: some (AObj.row (rdc s' (rdF xs tt1)) (2 : Nat) true true true) :: noH) (K (Value.slice (some { block := (1 : Nat), off := (0 : Nat) }) s (0 : Nat)) (some (AObj.row (flts xs) (1 : Nat) true true true) :: some (AObj.row (rdc s (rdF xs tt1)) (2 : Nat) true true true) :: noH))) := by kernel_rfl
set_option maxRecDepth 100000 in
theorem mr_ok {xs : List Nat} {n c : Nat} (hn : xs.length = n) (h9 : n ≤ 100000) (hx : fi (xs.map sE) = 0) :
    SmallRes Try.prog 61 [.slice (some ⟨0, 0, none⟩) n c, fR1] [fR xs] (.slice (some ⟨1, 0, none⟩) n 0) [fR xs, rdR n (rdF xs tt1)] := by
  refine fnP_res hm c0_ok (hs := hsMr xs n c) ?_
  rw [mr_t]
  refine ⟨⟨(0 : Nat), ⟨rfl⟩, by first | trivial | rfl, by first | trivial | rfl⟩, fun _ _ => ⟨⟨(0 : Nat), ⟨by omega⟩, by first | trivial | rfl, by first | trivial | rfl⟩, fun s hs' => br_of (fun hc => ?_) (fun hc => ?_)⟩⟩
  · have hc := lt_of_dec hc
    simp only [Nat.zero_add, Nat.mul_one, Int.toNat_natCast]
    refine ⟨⟨by omega, by omega⟩, ⟨flts_at (by omega)⟩, ⟨smps hx (by omega)⟩, ⟨by rw [rdc_len], by omega, by omega⟩, s + 1, ⟨hc⟩, ⟨by omega⟩, ?_, by first | trivial | rfl⟩
    rw [up1 hc (by omega)]
  · have hc := ge_of_dec hc
    have : s = n := by have := hs'.out; omega
    subst this
    exact ⟨by first | trivial | rfl, by first | trivial | rfl⟩
noncomputable def orcMr (xs : List Nat) : OrcV
  | [.slice (some ⟨0, 0, none⟩) n _, .func (.func 62) ⟨[]⟩ ⟨[]⟩], [some (.row e1 1 true true true)] => some (.slice (some ⟨1, 0, none⟩) n 0, [some (.row e1 1 true true true), rdR n (rdF xs tt1)], e1 = flts xs ∧ xs.length = n ∧ n ≤ 100000 ∧ fi (xs.map sE) = 0)
  | _, _ => none
theorem okMr (xs : List Nat) : OkV Try.prog 61 (orcMr xs) := by
  intro args H ret H' vc h hv
  unfold orcMr at h
  split at h
  · cases h
    obtain ⟨rfl, h1, h2, h3⟩ := hv
    exact mr_ok h1 h2 h3
  · cases h
/- Readings of a run. -/
noncomputable def lpRr (nm : ByteArray) (f : Int) (n c k d : Nat) (xs : List Nat) (hs : List Int) : Lp where
  σ := Nat
  E s := slots 35 [(1, .pointer (some ⟨2, 0, none⟩)), (3, .slice (some ⟨3, 0, none⟩) n 0), (11, .slice (some ⟨1, 0, none⟩) k d), (12, .int .i64 (Int.ofNat k)), (13, .int .i64 (Int.ofNat s))]
  Hp s := hp2r xs hs true true true true [runO nm f n c k d, rdR n (rdF xs (knB (hs.take (s * 2))))]
  I s := s ≤ k
  m s := k - s
noncomputable def lpRi (nm : ByteArray) (f : Int) (n c k d : Nat) (xs : List Nat) (hs : List Int) (s : Nat) : Lp where
  σ := Nat
  E j := slots 35 [(1, .pointer (some ⟨2, 0, none⟩)), (3, .slice (some ⟨3, 0, none⟩) n 0), (5, .pointer (some ⟨4, 0, none⟩)), (11, .slice (some ⟨1, 0, none⟩) k d), (12, .int .i64 (Int.ofNat k)), (13, .int .i64 (Int.ofNat s)), (21, .int .i64 (hsz hs s)), (22, .int .i64 (Int.ofNat j))]
  Hp j := hp2r xs hs true true true true [runO nm f n c k d, rdR n (rdF xs (knT hs s j)), some (.row [.int .i64 (hs.getD (s * 2) 0), .int .i64 (hs.getD (s * 2 + 1) 0)] 0 false true true)]
  I j := s < k ∧ (j : Int) ≤ hsz hs s
  m j := (hsz hs s).toNat - j
noncomputable def hsRr (nm : ByteArray) (f : Int) (n c k d : Nat) (xs : List Nat) (hs : List Int) : Hs Try.prog where
  op y := if [400, 806].contains y then some (hIa Try.prog) else if y = 401 then some (hLd Try.prog (z2 hs)) else if y = 807 then some (hSp Try.prog) else none
  lp y := if y = 3 then some (lpRr nm f n c k d xs hs) else none
  lq y := if y = 6 then some ⟨Nat, lpRi nm f n c k d xs hs⟩ else none
  cl y := if y = 3 then keep 35 [1, 3, 11, 12, 13] else keep 35 [1, 3, 5, 11, 12, 13, 21, 22]
  au := auCalls [(61, hCa Try.prog 61 (orcMr xs) (okMr xs))]
theorem rr_t (nm : ByteArray) (f : Int) (n : Nat) (c : Nat) (k : Nat) (d : Nat) (xs : List Nat) (hs : List Int) (K : Value → Heap → Prop) :
    (fnP Try.prog c0 (hsRr nm f n c k d xs hs) (43 : FuncId) [Value.agg (List.toArray (runA nm f (0 : Nat) n c (1 : Nat) k d))] (hp2r xs hs true true true true []) K) =
    (Is (flts xs = flts xs ∧ List.length xs = n ∧ n ≤ (100000 : Nat) ∧ fi (List.map sE xs) = (0 : Int)) ∧ (∃ (s : Nat), Is (s ≤ k) ∧ [poi, Value.pointer (some { block := (2 : Nat), off := (0 : Nat) }), poi, Value.slice (some { block := (3 : Nat), off := (0 : Nat) }) n (0 : Nat), poi, poi, poi, poi, poi, poi, poi, Value.slice (some { block := (1 : Nat), off := (0 : Nat) }) k d, Value.int IntKind.i64 (↑k : Int), Value.int IntKind.i64 (0 : Int), poi, poi, poi, poi, poi, poi, poi, poi, poi, poi, poi, poi, poi, poi, poi, poi, poi, poi, poi, poi, poi] = [poi, Value.pointer (some { block := (2 : Nat), off := (0 : Nat) }), poi, Value.slice (some { block := (3 : Nat), off := (0 : Nat) }) n (0 : Nat), poi, poi, poi, poi, poi, poi, poi, Value.slice (some { block := (1 : Nat), off := (0 : Nat) }) k d, Value.int IntKind.i64 (↑k : Int), Value.int IntKind.i64 (↑s : Int), poi, poi, poi, poi, poi, poi, poi, poi, poi, poi, poi, poi, poi, poi, poi, poi, poi, poi, poi, poi, poi] ∧ some (AObj.row (flts xs) (1 : Nat) true true true) :: some (AObj.row (ints hs) (2 : Nat) true true true) :: some (AObj.row [Value.string nm, Value.int IntKind.i64 f, Value.slice (some { block := (0 : Nat), off := (0 : Nat) }) n c, Value.slice (some { block := (1 : Nat), off := (0 : Nat) }) k d] (0 : Nat) false true (List.all [Value.string nm, Value.int IntKind.i64 f, Value.slice (some { block := (0 : Nat), off := (0 : Nat) }) n c, Value.slice (some { block := (1 : Nat), off := (0 : Nat) }) k d] atom)) :: some (AObj.row (rdc n (rdF xs tt1)) (2 : Nat) true true true) :: noH = some (AObj.row (flts xs) (1 : Nat) true true true) :: some (AObj.row (ints hs) (2 : Nat) true true true) :: some (AObj.row [Value.string nm, Value.int IntKind.i64 f, Value.slice (some { block := (0 : Nat), off := (0 : Nat) }) n c, Value.slice (some { block := (1 : Nat), off := (0 : Nat) }) k d] (0 : Nat) false true false) :: some (AObj.row (rdc n (rdF xs (knB (List.take (s * (2 : Nat)) hs)))) (2 : Nat) true true true) :: noH) ∧ ∀ (s : Nat), Is (s ≤ k) → br (decide ((↑s : Int) < (↑k : Int))) (Is ((0 : Int) ≤ (↑s : Int) ∧ (↑s : Int) < (↑k : Int)) ∧ Is ((if (0 : Nat) + Int.toNat (↑s : Int) * (2 : Nat) + (2 : Nat) ≤ List.length (ints hs) then some (Value.agg (List.toArray (List.take (2 : Nat) (List.drop ((0 : Nat) + Int.toNat (↑s : Int) * (2 : Nat)) (ints hs))))) else none) = some (Value.agg #[Value.int IntKind.i64 (List.getD hs ((0 : Nat) + Int.toNat (↑s : Int) * (2 : Nat)) (0 : Int)), Value.int IntKind.i64 (List.getD hs ((0 : Nat) + Int.toNat (↑s : Int) * (2 : Nat) + (1 : Nat)) (0 : Int))])) ∧ ∃ (p : Nat), (∃ (s_1 : Nat), Is (p < k ∧ (↑s_1 : Int) ≤ hsz hs p) ∧ [poi, Value.pointer (some { block := (2 : Nat), off := (0 : Nat) }), poi, Value.slice (some { block := (3 : Nat), off := (0 : Nat) }) n (0 : Nat), poi, Value.pointer (some { block := (4 : Nat), off := (0 : Nat) }), poi, poi, poi, poi, poi, Value.slice (some { block := (1 : Nat), off := (0 : Nat) }) k d, Value.int IntKind.i64 (↑k : Int), Value.int IntKind.i64 (↑s : Int), poi, poi, poi, poi, poi, poi, poi, Value.int IntKind.i64 (IntKind.wrap IntKind.i64 (List.getD hs ((0 : Nat) + Int.toNat (↑s : Int) * (2 : Nat) + (1 : Nat)) (0 : Int) - List.getD hs ((0 : Nat) + Int.toNat (↑s : Int) * (2 : Nat)) (0 : Int))), Value.int IntKind.i64 (0 : Int), poi, poi, poi, poi, poi, poi, poi, poi, poi, poi, poi, poi] = [poi, Value.pointer (some { block := (2 : Nat), off := (0 : Nat) }), poi, Value.slice (some { block := (3 : Nat), off := (0 : Nat) }) n (0 : Nat), poi, Value.pointer (some { block := (4 : Nat), off := (0 : Nat) }), poi, poi, poi, poi, poi, Value.slice (some { block := (1 : Nat), off := (0 : Nat) }) k d, Value.int IntKind.i64 (↑k : Int), Value.int IntKind.i64 (↑p : Int), poi, poi, poi, poi, poi, poi, poi, Value.int IntKind.i64 (hsz hs p), Value.int IntKind.i64 (↑s_1 : Int), poi, poi, poi, poi, poi, poi, poi, poi, poi, poi, poi, poi] ∧ some (AObj.row (flts xs) (1 : Nat) true true true) :: some (AObj.row (ints hs) (2 : Nat) true true true) :: some (AObj.row [Value.string nm, Value.int IntKind.i64 f, Value.slice (some { block := (0 : Nat), off := (0 : Nat) }) n c, Value.slice (some { block := (1 : Nat), off := (0 : Nat) }) k d] (0 : Nat) false true false) :: some (AObj.row (rdc n (rdF xs (knB (List.take (s * (2 : Nat)) hs)))) (2 : Nat) true true true) :: some (AObj.row [Value.int IntKind.i64 (List.getD hs ((0 : Nat) + Int.toNat (↑s : Int) * (2 : Nat)) (0 : Int)), Value.int IntKind.i64 (List.getD hs ((0 : Nat) + Int.toNat (↑s : Int) * (2 : Nat) + (1 : Nat)) (0 : Int))] (0 : Nat) false true (true && List.all [Value.int IntKind.i64 (List.getD hs ((0 : Nat) + Int.toNat (↑s : Int) * (2 : Nat)) (0 : Int)), Value.int IntKind.i64 (List.getD hs ((0 : Nat) + Int.toNat (↑s : Int) * (2 : Nat) + (1 : Nat)) (0 : Int))] atom)) :: noH = some (AObj.row (flts xs) (1 : Nat) true true true) :: some (AObj.row (ints hs) (2 : Nat) true true true) :: some (AObj.row [Value.string nm, Value.int IntKind.i64 f, Value.slice (some { block := (0 : Nat), off := (0 : Nat) }) n c, Value.slice (some { block := (1 : Nat), off := (0 : Nat) }) k d] (0 : Nat) false true false) :: some (AObj.row (rdc n (rdF xs (knT hs p s_1))) (2 : Nat) true true true) :: some (AObj.row [Value.int IntKind.i64 (List.getD hs (p * (2 : Nat)) (0 : Int)), Value.int IntKind.i64 (List.getD hs (p * (2 : Nat) + (1 : Nat)) (0 : Int))] (0 : Nat) false true true) :: noH) ∧ ∀ (s_1 : Nat), Is (p < k ∧ (↑s_1 : Int) ≤ hsz hs p) → br (decide ((↑s_1 : Int) < hsz hs p)) (Is ((0 : Int) ≤ IntKind.wrap IntKind.i64 (List.getD hs (p * (2 : Nat)) (0 : Int) + (↑s_1 : Int)) ∧ IntKind.wrap IntKind.i64 (List.getD hs (p * (2 : Nat)) (0 : Int) + (↑s_1 : Int)) < (↑n : Int)) ∧ Is ((0 : Nat) + Int.toNat (IntKind.wrap IntKind.i64 (List.getD hs (p * (2 : Nat)) (0 : Int) + (↑s_1 : Int))) * (2 : Nat) + List.length [Value.float FloatKind.f32 (0 : Nat), Value.bool false] ≤ List.length (rdc n (rdF xs (knT hs p s_1)))) ∧ ∃ (s' : Nat), Is (p < k ∧ (↑s' : Int) ≤ hsz hs p) ∧ Is (Int.toNat (hsz hs p) - s' < Int.toNat (hsz hs p) - s_1) ∧ [poi, Value.pointer (some { block := (2 : Nat), off := (0 : Nat) }), poi, Value.slice (some { block := (3 : Nat), off := (0 : Nat) }) n (0 : Nat), poi, Value.pointer (some { block := (4 : Nat), off := (0 : Nat) }), poi, poi, poi, poi, poi, Value.slice (some { block := (1 : Nat), off := (0 : Nat) }) k d, Value.int IntKind.i64 (↑k : Int), Value.int IntKind.i64 (↑p : Int), poi, poi, poi, poi, poi, poi, poi, Value.int IntKind.i64 (hsz hs p), Value.int IntKind.i64 (IntKind.wrap IntKind.i64 ((↑s_1 : Int) + (1 : Int))), poi, poi, poi, poi, poi, poi, poi, poi, poi, poi, poi, poi] = [poi, Value.pointer (some { block := (2 : Nat), off := (0 : Nat) }), poi, Value.slice (some { block := (3 : Nat), off := (0 : Nat) }) n (0 : Nat), poi, Value.pointer (some { block := (4 : Nat), off := (0 : Nat) }), poi, poi, poi, poi, poi, Value.slice (some { block := (1 : Nat), off := (0 : Nat) }) k d, Value.int IntKind.i64 (↑k : Int), Value.int IntKind.i64 (↑p : Int), poi, poi, poi, poi, poi, poi, poi, Value.int IntKind.i64 (hsz hs p), Value.int IntKind.i64 (↑s' : Int), poi, poi, poi, poi, poi, poi, poi, poi, poi, poi, poi, poi] ∧ some (AObj.row (flts xs) (1 : Nat) true true true) :: some (AObj.row (ints hs) (2 : Nat) true true true) :: some (AObj.row [Value.string nm, Value.int IntKind.i64 f, Value.slice (some { block := (0 : Nat), off := (0 : Nat) }) n c, Value.slice (some { block := (1 : Nat), off := (0 : Nat) }) k d] (0 : Nat) false true false) :: some (AObj.row (putL (rdc n (rdF xs (knT hs p s_1))) ((0 : Nat) + Int.toNat (IntKind.wrap IntKind.i64 (List.getD hs (p * (2 : Nat)) (0 : Int) + (↑s_1 : Int))) * (2 : Nat)) [Value.float FloatKind.f32 (0 : Nat), Value.bool false]) (2 : Nat) true true (true && List.all [Value.float FloatKind.f32 (0 : Nat), Value.bool false] atom)) :: some (AObj.row [Value.int IntKind.i64 (List.getD hs (p * (2 : Nat)) (0 : Int)), Value.int IntKind.i64 (List.getD hs (p * (2 : Nat) + (1 : Nat)) (0 : Int))] (0 : Nat) false true true) :: noH = some (AObj.row (flts xs) (1 : Nat) true true true) :: some (AObj.row (ints hs) (2 : Nat) true true true) :: some (AObj.row [Value.string nm, Value.int IntKind.i64 f, Value.slice (some { block := (0 : Nat), off := (0 : Nat) }) n c, Value.slice (some { block := (1 : Nat), off := (0 : Nat) }) k d] (0 : Nat) false true false) :: some (AObj.row (rdc n (rdF xs (knT hs p s'))) (2 : Nat) true true true) :: some (AObj.row [Value.int IntKind.i64 (List.getD hs (p * (2 : Nat)) (0 : Int)), Value.int IntKind.i64 (List.getD hs (p * (2 : Nat) + (1 : Nat)) (0 : Int))] (0 : Nat) false true true) :: noH) (∃ (s' : Nat), Is (s' ≤ k) ∧ Is (k - s' < k - s) ∧ [poi, Value.pointer (some { block := (2 : Nat), off := (0 : Nat) }), poi, Value.slice (some { block := (3 : Nat), off := (0 : Nat) }) n (0 : Nat), poi, poi, poi, poi, poi, poi, poi, Value.slice (some { block := (1 : Nat), off := (0 : Nat) }) k d, Value.int IntKind.i64 (↑k : Int), Value.int IntKind.i64 (IntKind.wrap IntKind.i64 ((↑p : Int) + (1 : Int))), poi, poi, poi, poi, poi, poi, poi, poi, poi, poi, poi, poi, poi, poi, poi, poi, poi, poi, poi, poi, poi] = [poi, Value.pointer (some { block := (2 : Nat), off := (0 : Nat) }), poi, Value.slice (some { block := (3 : Nat), off := (0 : Nat) }) n (0 : Nat), poi, poi, poi, poi, poi, poi, poi, Value.slice (some { block := (1 : Nat), off := (0 : Nat) }) k d, Value.int IntKind.i64 (↑k : Int), Value.int IntKind.i64 (↑s' : Int), poi, poi, poi, poi, poi, poi, poi, poi, poi, poi, poi, poi, poi, poi, poi, poi, poi, poi, poi, poi, poi] ∧ some (AObj.row (flts xs) (1 : Nat) true true true) :: some (AObj.row (ints hs) (2 : Nat) true true true) :: some (AObj.row [Value.string nm, Value.int IntKind.i64 f, Value.slice (some { block := (0 : Nat), off := (0 : Nat) }) n c, Value.slice (some { block := (1 : Nat), off := (0 : Nat) }) k d] (0 : Nat) false true false) :: some (AObj.row (rdc n (rdF xs (knT hs p s_1))) (2 : Nat) true true true) :: noH = some (AObj.row (flts xs) (1 : Nat) true true true) :: some (AObj.row (ints hs) (2 : Nat) true true true) :: some (AObj.row [Value.string nm, Value.int IntKind.i64 f, Value.slice (some { block := (0 : Nat), off := (0 : Nat) }) n c, Value.slice (some { block := (1 : Nat), off := (0 : Nat) }) k d] (0 : Nat) false true false) :: some (AObj.row (rdc n (rdF xs (knB (List.take (s' * (2 : Nat)) hs)))) (2 : Nat) true true true) :: noH)) (K (Value.slice (some { block := (2 : Nat), off := (0 : Nat) }) n (0 : Nat)) (some (AObj.row (flts xs) (1 : Nat) true true true) :: some (AObj.row (ints hs) (2 : Nat) true true true) :: some (AObj.row (rdc n (rdF xs (knB (List.take (s * (2 : Nat)) hs)))) (2 : Nat) true true true) :: noH))) := by kernel_rfl
theorem rdc_all : ∀ (n : Nat) (R : Nat → Nat × Bool), (rdc n R).all atom = true
  | 0, _ => rfl
  | n + 1, R => by rw [rdc, List.all_append, rdc_all n R]; rfl
set_option maxRecDepth 100000 in
theorem rr_ok {nm : ByteArray} {f : Int} {n c k d : Nat} {xs : List Nat} {hs : List Int} (hn : xs.length = n) (h9 : n ≤ 100000) (hk : hs.length = k * 2) (hk9 : k ≤ 100000) (hx : fi (xs.map sE) = 0) (hh : hchk n hs (-1) = 0) :
    SmallRes Try.prog 43 [.agg (runA nm f 0 n c 1 k d).toArray] (hp2r xs hs true true true true []) (.slice (some ⟨2, 0, none⟩) n 0) (hp2r xs hs true true true true [rdR n (rdF xs (knB hs))]) := by
  refine fnP_res hm c0_ok (hs := hsRr nm f n c k d xs hs) ?_
  rw [rr_t]
  have e0 : rdc n (rdF xs tt1) = rdc n (rdF xs (knB (hs.take (0 * 2)))) := rdF_congr fun i => by rw [Nat.zero_mul, List.take_zero]; rfl
  refine ⟨⟨rfl, hn, h9, hx⟩, ⟨(0 : Nat), ⟨Nat.zero_le _⟩, by first | trivial | rfl, by rw [e0]; first | done | trivial | rfl⟩, fun s hs' => br_of (fun hc => ?_) (fun hc => ?_)⟩
  · have hc := lt_of_dec hc
    obtain ⟨_, a0, ab, bn⟩ := hchk_all hs (-1) hh s (by omega)
    have hz : IntKind.wrap .i64 (hs.getD (s * 2 + 1) 0 - hs.getD (s * 2) 0) = hsz hs s := by rw [hsz]; exact wrap_eq (by omega) (by omega)
    simp only [Nat.zero_add, Int.toNat_natCast, hz]
    have ez : rdc n (rdF xs (knB (hs.take (s * 2)))) = rdc n (rdF xs (knT hs s 0)) := rdF_congr fun i => (knT_zero i).symm
    refine ⟨⟨by omega, by omega⟩, ⟨ldh (by omega)⟩, s, ⟨(0 : Nat), ⟨hc, by rw [hsz]; omega⟩, by first | trivial | rfl, by rw [ez]; first | done | trivial | rfl⟩, fun j hj => br_of (fun hd => ?_) (fun hd => ?_)⟩
    · obtain ⟨_, j1⟩ := hj.out
      have hd : (j : Int) < hsz hs s := of_decide_eq_true hd
      have hzs : hsz hs s = hs.getD (s * 2 + 1) 0 - hs.getD (s * 2) 0 := rfl
      obtain ⟨A, hA⟩ := Int.eq_ofNat_of_zero_le a0
      have ew : IntKind.wrap .i64 (hs.getD (s * 2) 0 + (j : Int)) = ((A + j : Nat) : Int) := by rw [wrap_eq (by omega) (by omega)]; omega
      rw [ew]
      simp only [Nat.zero_add, Int.toNat_natCast]
      have hput : putL (rdc n (rdF xs (knT hs s j))) ((A + j) * 2) [.float .f32 0, .bool false] = rdc n (rdF xs (knT hs s (j + 1))) := by
        refine (rdc_put (v := (0, false)) (show A + j < n by omega)).trans (rdc_congr fun i _ => rdF_put (by omega) i)
      refine ⟨⟨by omega, by omega⟩, ⟨by rw [rdc_len]; simp only [List.length_cons, List.length_nil]; omega⟩, j + 1, ⟨hc, by omega⟩, ⟨by omega⟩, ?_, ?_⟩
      · rw [wrap_eq (by omega) (by omega)]; first | done | trivial | rfl
      · rw [hput]; first | done | trivial | rfl
    · obtain ⟨_, j1⟩ := hj.out
      have hd : ¬ (j : Int) < hsz hs s := of_decide_eq_false hd
      have ef : rdc n (rdF xs (knT hs s j)) = rdc n (rdF xs (knB (hs.take ((s + 1) * 2)))) := rdF_congr fun i => knT_full (by omega) (by omega) i
      refine ⟨s + 1, ⟨hc⟩, ⟨by omega⟩, by rw [up1 hc (by omega)], by rw [ef]⟩
  · have hc := ge_of_dec hc
    have : s = k := by have := hs'.out; omega
    subst this
    rw [List.take_of_length_le (by omega)]
    exact ⟨by first | trivial | rfl, by first | trivial | rfl⟩
noncomputable def orcRr (xs : List Nat) (hs : List Int) : OrcV
  | [.agg ⟨[.string nm, .int .i64 f, .slice (some ⟨0, 0, none⟩) n _, .slice (some ⟨1, 0, none⟩) k _]⟩], [some (.row e1 1 true true true), some (.row e2 2 true true true)] =>
    some (.slice (some ⟨2, 0, none⟩) n 0, [some (.row e1 1 true true true), some (.row e2 2 true true true), rdR n (rdF xs (knB hs))], isRun xs hs n k e1 e2 ∧ fi (xs.map sE) = 0 ∧ hchk n hs (-1) = 0)
  | _, _ => none
theorem okRr (xs : List Nat) (hs : List Int) : OkV Try.prog 43 (orcRr xs hs) := by
  intro args H ret H' vc h hv
  unfold orcRr at h
  split at h
  · cases h
    obtain ⟨⟨rfl, rfl, h1, h2, h3, h4⟩, h5, h6⟩ := hv
    exact rr_ok h1 h2 h3 h4 h5 h6
  · cases h
end
end Qq
end
section
/- The difference of a run and itself, moved, at a shift. -/
open Go Go.Vm Go.Proofs Sp
namespace Sp
noncomputable section
noncomputable def zRf (R : Nat → Nat × Bool) (off : Nat) : Value := .float .f32 (rdV R off)
noncomputable def zRb (R : Nat → Nat × Bool) (off : Nat) : Value := .bool (rdW R off)
/-- Whether there is a place. -/
def dfB (n : Nat) (e : Int) (j : Nat) : Bool := decide (0 ≤ (j : Int) - e) && decide ((j : Int) - e < n)
noncomputable def dS (xs : List Nat) (n : Nat) (e : Int) : Nat → Int
  | 0 => 0
  | i + 1 => dS xs n e i + (if dfB n e i = true then farI (lev (xs.getD i 0)) (lev (xs.getD ((i : Int) - e).toNat 0)) else 0)
def dM (n : Nat) (e : Int) : Nat → Int
  | 0 => 0
  | i + 1 => dM n e i + (if dfB n e i = true then 1 else 0)
noncomputable def allR (xs : List Nat) (i : Nat) : Nat × Bool := (xs.getD i 0, true)
end
end Sp
namespace Qq
noncomputable section
noncomputable def hp4r (xs : List Nat) (hs : List Int) (ys : List Nat) (gs : List Int) (l : List (Option AObj)) : Heap := fR xs :: some (.row (ints hs) 2 true true true) :: fR ys :: some (.row (ints gs) 2 true true true) :: l
noncomputable def run2 (nm : ByteArray) (f : Int) (i n c j k d : Nat) : Option AObj := some (.row (runA nm f i n c j k d) 0 false true false)
noncomputable def lpDf (nm1 nm2 : ByteArray) (f g sh e : Int) (n c d c2 d2 : Nat) (xs : List Nat) : Lp where
  σ := Nat
  E i := slots 71 [(2, .int .i64 sh), (3, .pointer (some ⟨4, 0, none⟩)), (4, .pointer (some ⟨5, 0, none⟩)), (9, .slice (some ⟨6, 0, none⟩) n 0), (10, .int .i64 (dS xs n e i)), (11, .int .i64 (dM n e i)), (19, .slice (some ⟨7, 0, none⟩) n 0), (20, .int .i64 (Int.ofNat n)), (21, .int .i64 (Int.ofNat i))]
  Hp _ := hp4r xs [] xs [] [run2 nm1 f 0 n c 1 0 d, run2 nm2 g 2 n c2 3 0 d2, rdR n (allR xs), rdR n (allR xs)]
  I i := i ≤ n
  m i := n - i
noncomputable def lpDf0 (nm1 nm2 : ByteArray) (f g sh : Int) (n c d c2 d2 : Nat) (xs : List Nat) : Lp where
  σ := Nat
  E _ := slots 71 [(2, .int .i64 sh), (3, .pointer (some ⟨4, 0, none⟩)), (4, .pointer (some ⟨5, 0, none⟩)), (8, .slice (some ⟨6, 0, none⟩) n 0), (9, .slice (some ⟨7, 0, none⟩) n 0)]
  Hp _ := hp4r xs [] xs [] [run2 nm1 f 0 n c 1 0 d, run2 nm2 g 2 n c2 3 0 d2, rdR n (allR xs), rdR n (allR xs)]
  I i := i = 0
  m _ := 0
noncomputable def hsDf (nm1 nm2 : ByteArray) (f g sh e : Int) (n c d c2 d2 : Nat) (xs : List Nat) : Hs Try.prog where
  op y := if [501, 715, 806].contains y then some (hIa Try.prog) else if y = 502 then some (hLd Try.prog (zR (allR xs))) else if y = 717 then some (hLd Try.prog (zRb (allR xs))) else if y = 808 then some (hLd Try.prog (zRf (allR xs)))
    else if y = 101 then some (hCa Try.prog 43 (orcRr xs []) (okRr xs [])) else if y = 103 then some (hCa Try.prog 43 (orcRr xs []) (okRr xs [])) else none
  cut y := if y = 2 then some (lpDf0 nm1 nm2 f g sh n c d c2 d2 xs) else none
  lp _ := some (lpDf nm1 nm2 f g sh e n c d c2 d2 xs)
  cl y := if y = 2 then keep 71 [2, 3, 4, 8, 9] else keep 71 [2, 3, 4, 9, 10, 11, 19, 20, 21]
  sm := true
  au := auCalls [(45, hCa Try.prog 45 orcIn okIn), (44, hCa Try.prog 44 orcFa okFa)]
theorem df_t (nm1 : ByteArray) (nm2 : ByteArray) (f : Int) (g : Int) (sh : Int) (e : Int) (n : Nat) (c : Nat) (d : Nat) (c2 : Nat) (d2 : Nat) (xs : List Nat) (K : Value → Heap → Prop) :
    (fnP Try.prog c0 (hsDf nm1 nm2 f g sh e n c d c2 d2 xs) (31 : FuncId) [Value.agg (List.toArray (runA nm1 f (0 : Nat) n c (1 : Nat) (0 : Nat) d)), Value.agg (List.toArray (runA nm2 g (2 : Nat) n c2 (3 : Nat) (0 : Nat) d2)), Value.int IntKind.i64 sh] (hp4r xs [] xs [] []) K) =
    ((Is (isRun xs [] n (0 : Nat) (flts xs) [] ∧ fi (List.map sE xs) = (0 : Int) ∧ hchk (↑n : Int) [] (-1 : Int) = (0 : Int)) ∧ Is (isRun xs [] n (0 : Nat) (flts xs) [] ∧ fi (List.map sE xs) = (0 : Int) ∧ hchk (↑n : Int) [] (-1 : Int) = (0 : Int)) ∧ ∃ (s : Nat), Is (s = (0 : Nat)) ∧ (Value.int IntKind.i64 sh = Value.int IntKind.i64 sh ∧ Value.pointer (some { block := (4 : Nat), off := (0 : Nat) }) = Value.pointer (some { block := (4 : Nat), off := (0 : Nat) }) ∧ Value.pointer (some { block := (5 : Nat), off := (0 : Nat) }) = Value.pointer (some { block := (5 : Nat), off := (0 : Nat) }) ∧ Value.slice (some { block := (6 : Nat), off := (0 : Nat) }) n (0 : Nat) = Value.slice (some { block := (6 : Nat), off := (0 : Nat) }) n (0 : Nat) ∧ Value.slice (some { block := (7 : Nat), off := (0 : Nat) }) n (0 : Nat) = Value.slice (some { block := (7 : Nat), off := (0 : Nat) }) n (0 : Nat) ∧ True) ∧ some (AObj.row (flts xs) (1 : Nat) true true true) :: some (AObj.row [] (2 : Nat) true true true) :: some (AObj.row (flts xs) (1 : Nat) true true true) :: some (AObj.row [] (2 : Nat) true true true) :: some (AObj.row [Value.string nm1, Value.int IntKind.i64 f, Value.slice (some { block := (0 : Nat), off := (0 : Nat) }) n c, Value.slice (some { block := (1 : Nat), off := (0 : Nat) }) (0 : Nat) d] (0 : Nat) false true (List.all [Value.string nm1, Value.int IntKind.i64 f, Value.slice (some { block := (0 : Nat), off := (0 : Nat) }) n c, Value.slice (some { block := (1 : Nat), off := (0 : Nat) }) (0 : Nat) d] atom)) :: some (AObj.row [Value.string nm2, Value.int IntKind.i64 g, Value.slice (some { block := (2 : Nat), off := (0 : Nat) }) n c2, Value.slice (some { block := (3 : Nat), off := (0 : Nat) }) (0 : Nat) d2] (0 : Nat) false true (List.all [Value.string nm2, Value.int IntKind.i64 g, Value.slice (some { block := (2 : Nat), off := (0 : Nat) }) n c2, Value.slice (some { block := (3 : Nat), off := (0 : Nat) }) (0 : Nat) d2] atom)) :: some (AObj.row (rdc n (rdF xs (knB []))) (2 : Nat) true true true) :: some (AObj.row (rdc n (rdF xs (knB []))) (2 : Nat) true true true) :: noH = some (AObj.row (flts xs) (1 : Nat) true true true) :: some (AObj.row [] (2 : Nat) true true true) :: some (AObj.row (flts xs) (1 : Nat) true true true) :: some (AObj.row [] (2 : Nat) true true true) :: some (AObj.row [Value.string nm1, Value.int IntKind.i64 f, Value.slice (some { block := (0 : Nat), off := (0 : Nat) }) n c, Value.slice (some { block := (1 : Nat), off := (0 : Nat) }) (0 : Nat) d] (0 : Nat) false true false) :: some (AObj.row [Value.string nm2, Value.int IntKind.i64 g, Value.slice (some { block := (2 : Nat), off := (0 : Nat) }) n c2, Value.slice (some { block := (3 : Nat), off := (0 : Nat) }) (0 : Nat) d2] (0 : Nat) false true false) :: some (AObj.row (rdc n (allR xs)) (2 : Nat) true true true) :: some (AObj.row (rdc n (allR xs)) (2 : Nat) true true true) :: noH) ∧ ∀ (s : Nat), Is (s = (0 : Nat)) → (∃ (s : Nat), Is (s ≤ n) ∧ (Value.int IntKind.i64 sh = Value.int IntKind.i64 sh ∧ Value.pointer (some { block := (4 : Nat), off := (0 : Nat) }) = Value.pointer (some { block := (4 : Nat), off := (0 : Nat) }) ∧ Value.pointer (some { block := (5 : Nat), off := (0 : Nat) }) = Value.pointer (some { block := (5 : Nat), off := (0 : Nat) }) ∧ Value.slice (some { block := (6 : Nat), off := (0 : Nat) }) n (0 : Nat) = Value.slice (some { block := (6 : Nat), off := (0 : Nat) }) n (0 : Nat) ∧ Value.int IntKind.i64 (0 : Int) = Value.int IntKind.i64 (dS xs n e s) ∧ Value.int IntKind.i64 (0 : Int) = Value.int IntKind.i64 (dM n e s) ∧ Value.slice (some { block := (7 : Nat), off := (0 : Nat) }) n (0 : Nat) = Value.slice (some { block := (7 : Nat), off := (0 : Nat) }) n (0 : Nat) ∧ Value.int IntKind.i64 (↑n : Int) = Value.int IntKind.i64 (↑n : Int) ∧ Value.int IntKind.i64 (0 : Int) = Value.int IntKind.i64 (↑s : Int) ∧ True) ∧ some (AObj.row (flts xs) (1 : Nat) true true true) :: some (AObj.row [] (2 : Nat) true true true) :: some (AObj.row (flts xs) (1 : Nat) true true true) :: some (AObj.row [] (2 : Nat) true true true) :: some (AObj.row [Value.string nm1, Value.int IntKind.i64 f, Value.slice (some { block := (0 : Nat), off := (0 : Nat) }) n c, Value.slice (some { block := (1 : Nat), off := (0 : Nat) }) (0 : Nat) d] (0 : Nat) false true false) :: some (AObj.row [Value.string nm2, Value.int IntKind.i64 g, Value.slice (some { block := (2 : Nat), off := (0 : Nat) }) n c2, Value.slice (some { block := (3 : Nat), off := (0 : Nat) }) (0 : Nat) d2] (0 : Nat) false true false) :: some (AObj.row (rdc n (allR xs)) (2 : Nat) true true true) :: some (AObj.row (rdc n (allR xs)) (2 : Nat) true true true) :: noH = some (AObj.row (flts xs) (1 : Nat) true true true) :: some (AObj.row [] (2 : Nat) true true true) :: some (AObj.row (flts xs) (1 : Nat) true true true) :: some (AObj.row [] (2 : Nat) true true true) :: some (AObj.row [Value.string nm1, Value.int IntKind.i64 f, Value.slice (some { block := (0 : Nat), off := (0 : Nat) }) n c, Value.slice (some { block := (1 : Nat), off := (0 : Nat) }) (0 : Nat) d] (0 : Nat) false true false) :: some (AObj.row [Value.string nm2, Value.int IntKind.i64 g, Value.slice (some { block := (2 : Nat), off := (0 : Nat) }) n c2, Value.slice (some { block := (3 : Nat), off := (0 : Nat) }) (0 : Nat) d2] (0 : Nat) false true false) :: some (AObj.row (rdc n (allR xs)) (2 : Nat) true true true) :: some (AObj.row (rdc n (allR xs)) (2 : Nat) true true true) :: noH) ∧ ∀ (s : Nat), Is (s ≤ n) → br (decide ((↑s : Int) < (↑n : Int))) (Is ((0 : Int) ≤ (↑s : Int) ∧ (↑s : Int) < (↑n : Int)) ∧ Is ((if (0 : Nat) + Int.toNat (↑s : Int) * (2 : Nat) + (2 : Nat) ≤ List.length (rdc n (allR xs)) then some (Value.agg (List.toArray (List.take (2 : Nat) (List.drop ((0 : Nat) + Int.toNat (↑s : Int) * (2 : Nat)) (rdc n (allR xs)))))) else none) = some (Value.agg #[Value.float FloatKind.f32 (rdV (allR xs) ((0 : Nat) + Int.toNat (↑s : Int) * (2 : Nat))), Value.bool (rdW (allR xs) ((0 : Nat) + Int.toNat (↑s : Int) * (2 : Nat)))])) ∧ br (decide ((0 : Int) ≤ IntKind.wrap IntKind.i64 (IntKind.wrap IntKind.i64 (IntKind.wrap IntKind.i64 (f + (↑s : Int)) - sh) - g))) (br (decide (IntKind.wrap IntKind.i64 (IntKind.wrap IntKind.i64 (IntKind.wrap IntKind.i64 (f + (↑s : Int)) - sh) - g) < (↑n : Int))) (Is ((0 : Int) ≤ IntKind.wrap IntKind.i64 (IntKind.wrap IntKind.i64 (IntKind.wrap IntKind.i64 (f + (↑s : Int)) - sh) - g) ∧ IntKind.wrap IntKind.i64 (IntKind.wrap IntKind.i64 (IntKind.wrap IntKind.i64 (f + (↑s : Int)) - sh) - g) < (↑n : Int)) ∧ Is ((rdc n (allR xs))[(0 : Nat) + Int.toNat (IntKind.wrap IntKind.i64 (IntKind.wrap IntKind.i64 (IntKind.wrap IntKind.i64 (f + (↑s : Int)) - sh) - g)) * (2 : Nat) + (1 : Nat)]? = some (Value.bool (rdW (allR xs) ((0 : Nat) + Int.toNat (IntKind.wrap IntKind.i64 (IntKind.wrap IntKind.i64 (IntKind.wrap IntKind.i64 (f + (↑s : Int)) - sh) - g)) * (2 : Nat) + (1 : Nat))))) ∧ Is (sE (rdV (allR xs) ((0 : Nat) + Int.toNat (↑s : Int) * (2 : Nat))) = (0 : Int)) ∧ Is ((0 : Int) ≤ IntKind.wrap IntKind.i64 (IntKind.wrap IntKind.i64 (IntKind.wrap IntKind.i64 (f + (↑s : Int)) - sh) - g) ∧ IntKind.wrap IntKind.i64 (IntKind.wrap IntKind.i64 (IntKind.wrap IntKind.i64 (f + (↑s : Int)) - sh) - g) < (↑n : Int)) ∧ Is ((rdc n (allR xs))[(0 : Nat) + Int.toNat (IntKind.wrap IntKind.i64 (IntKind.wrap IntKind.i64 (IntKind.wrap IntKind.i64 (f + (↑s : Int)) - sh) - g)) * (2 : Nat) + (0 : Nat)]? = some (Value.float FloatKind.f32 (rdV (allR xs) ((0 : Nat) + Int.toNat (IntKind.wrap IntKind.i64 (IntKind.wrap IntKind.i64 (IntKind.wrap IntKind.i64 (f + (↑s : Int)) - sh) - g)) * (2 : Nat) + (0 : Nat))))) ∧ Is (sE (rdV (allR xs) ((0 : Nat) + Int.toNat (IntKind.wrap IntKind.i64 (IntKind.wrap IntKind.i64 (IntKind.wrap IntKind.i64 (f + (↑s : Int)) - sh) - g)) * (2 : Nat) + (0 : Nat))) = (0 : Int)) ∧ Is (Int.natAbs (lev (rdV (allR xs) ((0 : Nat) + Int.toNat (↑s : Int) * (2 : Nat)))) ≤ (1000000000 : Nat) ∧ Int.natAbs (lev (rdV (allR xs) ((0 : Nat) + Int.toNat (IntKind.wrap IntKind.i64 (IntKind.wrap IntKind.i64 (IntKind.wrap IntKind.i64 (f + (↑s : Int)) - sh) - g)) * (2 : Nat) + (0 : Nat)))) ≤ (1000000000 : Nat)) ∧ ∃ (s' : Nat), Is (s' ≤ n) ∧ Is (n - s' < n - s) ∧ (Value.int IntKind.i64 sh = Value.int IntKind.i64 sh ∧ Value.pointer (some { block := (4 : Nat), off := (0 : Nat) }) = Value.pointer (some { block := (4 : Nat), off := (0 : Nat) }) ∧ Value.pointer (some { block := (5 : Nat), off := (0 : Nat) }) = Value.pointer (some { block := (5 : Nat), off := (0 : Nat) }) ∧ Value.slice (some { block := (6 : Nat), off := (0 : Nat) }) n (0 : Nat) = Value.slice (some { block := (6 : Nat), off := (0 : Nat) }) n (0 : Nat) ∧ Value.int IntKind.i64 (IntKind.wrap IntKind.i64 (dS xs n e s + farI (lev (rdV (allR xs) ((0 : Nat) + Int.toNat (↑s : Int) * (2 : Nat)))) (lev (rdV (allR xs) ((0 : Nat) + Int.toNat (IntKind.wrap IntKind.i64 (IntKind.wrap IntKind.i64 (IntKind.wrap IntKind.i64 (f + (↑s : Int)) - sh) - g)) * (2 : Nat) + (0 : Nat)))))) = Value.int IntKind.i64 (dS xs n e s') ∧ Value.int IntKind.i64 (IntKind.wrap IntKind.i64 (dM n e s + (1 : Int))) = Value.int IntKind.i64 (dM n e s') ∧ Value.slice (some { block := (7 : Nat), off := (0 : Nat) }) n (0 : Nat) = Value.slice (some { block := (7 : Nat), off := (0 : Nat) }) n (0 : Nat) ∧ Value.int IntKind.i64 (↑n : Int) = Value.int IntKind.i64 (↑n : Int) ∧ Value.int IntKind.i64 (IntKind.wrap IntKind.i64 ((↑s : Int) + (1 : Int))) = Value.int IntKind.i64 (↑s' : Int) ∧ True) ∧ some (AObj.row (flts xs) (1 : Nat) true true true) :: some (AObj.row [] (2 : Nat) true true true) :: some (AObj.row (flts xs) (1 : Nat) true true true) :: some (AObj.row [] (2 : Nat) true true true) :: some (AObj.row [Value.string nm1, Value.int IntKind.i64 f, Value.slice (some { block := (0 : Nat), off := (0 : Nat) }) n c, Value.slice (some { block := (1 : Nat), off := (0 : Nat) }) (0 : Nat) d] (0 : Nat) false true false) :: some (AObj.row [Value.string nm2, Value.int IntKind.i64 g, Value.slice (some { block := (2 : Nat), off := (0 : Nat) }) n c2, Value.slice (some { block := (3 : Nat), off := (0 : Nat) }) (0 : Nat) d2] (0 : Nat) false true false) :: some (AObj.row (rdc n (allR xs)) (2 : Nat) true true true) :: some (AObj.row (rdc n (allR xs)) (2 : Nat) true true true) :: noH = some (AObj.row (flts xs) (1 : Nat) true true true) :: some (AObj.row [] (2 : Nat) true true true) :: some (AObj.row (flts xs) (1 : Nat) true true true) :: some (AObj.row [] (2 : Nat) true true true) :: some (AObj.row [Value.string nm1, Value.int IntKind.i64 f, Value.slice (some { block := (0 : Nat), off := (0 : Nat) }) n c, Value.slice (some { block := (1 : Nat), off := (0 : Nat) }) (0 : Nat) d] (0 : Nat) false true false) :: some (AObj.row [Value.string nm2, Value.int IntKind.i64 g, Value.slice (some { block := (2 : Nat), off := (0 : Nat) }) n c2, Value.slice (some { block := (3 : Nat), off := (0 : Nat) }) (0 : Nat) d2] (0 : Nat) false true false) :: some (AObj.row (rdc n (allR xs)) (2 : Nat) true true true) :: some (AObj.row (rdc n (allR xs)) (2 : Nat) true true true) :: noH) (∃ (s' : Nat), Is (s' ≤ n) ∧ Is (n - s' < n - s) ∧ (Value.int IntKind.i64 sh = Value.int IntKind.i64 sh ∧ Value.pointer (some { block := (4 : Nat), off := (0 : Nat) }) = Value.pointer (some { block := (4 : Nat), off := (0 : Nat) }) ∧ Value.pointer (some { block := (5 : Nat), off := (0 : Nat) }) = Value.pointer (some { block := (5 : Nat), off := (0 : Nat) }) ∧ Value.slice (some { block := (6 : Nat), off := (0 : Nat) }) n (0 : Nat) = Value.slice (some { block := (6 : Nat), off := (0 : Nat) }) n (0 : Nat) ∧ Value.int IntKind.i64 (dS xs n e s) = Value.int IntKind.i64 (dS xs n e s') ∧ Value.int IntKind.i64 (dM n e s) = Value.int IntKind.i64 (dM n e s') ∧ Value.slice (some { block := (7 : Nat), off := (0 : Nat) }) n (0 : Nat) = Value.slice (some { block := (7 : Nat), off := (0 : Nat) }) n (0 : Nat) ∧ Value.int IntKind.i64 (↑n : Int) = Value.int IntKind.i64 (↑n : Int) ∧ Value.int IntKind.i64 (IntKind.wrap IntKind.i64 ((↑s : Int) + (1 : Int))) = Value.int IntKind.i64 (↑s' : Int) ∧ True) ∧ some (AObj.row (flts xs) (1 : Nat) true true true) :: some (AObj.row [] (2 : Nat) true true true) :: some (AObj.row (flts xs) (1 : Nat) true true true) :: some (AObj.row [] (2 : Nat) true true true) :: some (AObj.row [Value.string nm1, Value.int IntKind.i64 f, Value.slice (some { block := (0 : Nat), off := (0 : Nat) }) n c, Value.slice (some { block := (1 : Nat), off := (0 : Nat) }) (0 : Nat) d] (0 : Nat) false true false) :: some (AObj.row [Value.string nm2, Value.int IntKind.i64 g, Value.slice (some { block := (2 : Nat), off := (0 : Nat) }) n c2, Value.slice (some { block := (3 : Nat), off := (0 : Nat) }) (0 : Nat) d2] (0 : Nat) false true false) :: some (AObj.row (rdc n (allR xs)) (2 : Nat) true true true) :: some (AObj.row (rdc n (allR xs)) (2 : Nat) true true true) :: noH = some (AObj.row (flts xs) (1 : Nat) true true true) :: some (AObj.row [] (2 : Nat) true true true) :: some (AObj.row (flts xs) (1 : Nat) true true true) :: some (AObj.row [] (2 : Nat) true true true) :: some (AObj.row [Value.string nm1, Value.int IntKind.i64 f, Value.slice (some { block := (0 : Nat), off := (0 : Nat) }) n c, Value.slice (some { block := (1 : Nat), off := (0 : Nat) }) (0 : Nat) d] (0 : Nat) false true false) :: some (AObj.row [Value.string nm2, Value.int IntKind.i64 g, Value.slice (some { block := (2 : Nat), off := (0 : Nat) }) n c2, Value.slice (some { block := (3 : Nat), off := (0 : Nat) }) (0 : Nat) d2] (0 : Nat) false true false) :: some (AObj.row (rdc n (allR xs)) (2 : Nat) true true true) :: some (AObj.row (rdc n (allR xs)) (2 : Nat) true true true) :: noH)) (∃ (s' : Nat), Is (s' ≤ n) ∧ Is (n - s' < n - s) ∧ (Value.int IntKind.i64 sh = Value.int IntKind.i64 sh ∧ Value.pointer (some { block := (4 : Nat), off := (0 : Nat) }) = Value.pointer (some { block := (4 : Nat), off := (0 : Nat) }) ∧ Value.pointer (some { block := (5 : Nat), off := (0 : Nat) }) = Value.pointer (some { block := (5 : Nat), off := (0 : Nat) }) ∧ Value.slice (some { block := (6 : Nat), off := (0 : Nat) }) n (0 : Nat) = Value.slice (some { block := (6 : Nat), off := (0 : Nat) }) n (0 : Nat) ∧ Value.int IntKind.i64 (dS xs n e s) = Value.int IntKind.i64 (dS xs n e s') ∧ Value.int IntKind.i64 (dM n e s) = Value.int IntKind.i64 (dM n e s') ∧ Value.slice (some { block := (7 : Nat), off := (0 : Nat) }) n (0 : Nat) = Value.slice (some { block := (7 : Nat), off := (0 : Nat) }) n (0 : Nat) ∧ Value.int IntKind.i64 (↑n : Int) = Value.int IntKind.i64 (↑n : Int) ∧ Value.int IntKind.i64 (IntKind.wrap IntKind.i64 ((↑s : Int) + (1 : Int))) = Value.int IntKind.i64 (↑s' : Int) ∧ True) ∧ some (AObj.row (flts xs) (1 : Nat) true true true) :: some (AObj.row [] (2 : Nat) true true true) :: some (AObj.row (flts xs) (1 : Nat) true true true) :: some (AObj.row [] (2 : Nat) true true true) :: some (AObj.row [Value.string nm1, Value.int IntKind.i64 f, Value.slice (some { block := (0 : Nat), off := (0 : Nat) }) n c, Value.slice (some { block := (1 : Nat), off := (0 : Nat) }) (0 : Nat) d] (0 : Nat) false true false) :: some (AObj.row [Value.string nm2, Value.int IntKind.i64 g, Value.slice (some { block := (2 : Nat), off := (0 : Nat) }) n c2, Value.slice (some { block := (3 : Nat), off := (0 : Nat) }) (0 : Nat) d2] (0 : Nat) false true false) :: some (AObj.row (rdc n (allR xs)) (2 : Nat) true true true) :: some (AObj.row (rdc n (allR xs)) (2 : Nat) true true true) :: noH = some (AObj.row (flts xs) (1 : Nat) true true true) :: some (AObj.row [] (2 : Nat) true true true) :: some (AObj.row (flts xs) (1 : Nat) true true true) :: some (AObj.row [] (2 : Nat) true true true) :: some (AObj.row [Value.string nm1, Value.int IntKind.i64 f, Value.slice (some { block := (0 : Nat), off := (0 : Nat) }) n c, Value.slice (some { block := (1 : Nat), off := (0 : Nat) }) (0 : Nat) d] (0 : Nat) false true false) :: some (AObj.row [Value.string nm2, Value.int IntKind.i64 g, Value.slice (some { block := (2 : Nat), off := (0 : Nat) }) n c2, Value.slice (some { block := (3 : Nat), off := (0 : Nat) }) (0 : Nat) d2] (0 : Nat) false true false) :: some (AObj.row (rdc n (allR xs)) (2 : Nat) true true true) :: some (AObj.row (rdc n (allR xs)) (2 : Nat) true true true) :: noH)) (K (Value.tuple #[Value.int IntKind.i64 (dS xs n e s), Value.int IntKind.i64 (dM n e s)]) (some (AObj.row (flts xs) (1 : Nat) true true true) :: some (AObj.row [] (2 : Nat) true true true) :: some (AObj.row (flts xs) (1 : Nat) true true true) :: some (AObj.row [] (2 : Nat) true true true) :: noH))) := by kernel_rfl
theorem lev_few {x : Nat} (h : sE x = 0) : (lev x).natAbs ≤ 16384 := (Fl.smp h).few
theorem dS_bd {xs : List Nat} {n : Nat} {e : Int} (hx : fi (xs.map sE) = 0) (hn : xs.length = n) : ∀ i, i ≤ n → 0 ≤ dS xs n e i ∧ dS xs n e i ≤ i * 32768
  | 0, _ => ⟨by simp [dS], by simp [dS]⟩
  | i + 1, h => by
    obtain ⟨h1, h2⟩ := dS_bd (e := e) hx hn i (by omega)
    rw [dS]
    split
    · rename_i hb
      simp only [dfB, Bool.and_eq_true, decide_eq_true_eq] at hb
      have q1 := lev_few (smps hx (j := i) (by omega))
      have q2 := lev_few (smps hx (j := ((i : Int) - e).toNat) (by omega))
      rw [farI]; omega
    · omega
theorem dM_bd (n : Nat) (e : Int) : ∀ i, 0 ≤ dM n e i ∧ dM n e i ≤ i
  | 0 => ⟨by simp [dM], by simp [dM]⟩
  | i + 1 => by
    obtain ⟨h1, h2⟩ := dM_bd n e i
    rw [dM]
    split <;> omega
theorem allR_eq (xs : List Nat) (n : Nat) : rdc n (rdF xs (knB [])) = rdc n (allR xs) := rdc_congr fun i _ => by
  have e : knB [] (i : Int) = true := rfl
  rw [rdF, if_pos e]; rfl
set_option maxRecDepth 100000 in
theorem df_ok {nm1 nm2 : ByteArray} {f g sh e : Int} {n c d c2 d2 : Nat} {xs : List Nat} (hn : xs.length = n) (h9 : n ≤ 100000) (hx : fi (xs.map sE) = 0) (hf : f.natAbs ≤ 1000000000) (hg : g.natAbs ≤ 1000000000) (hs : sh.natAbs ≤ 1000000000) (he : e = sh + g - f) :
    SmallRes Try.prog 31 [.agg (runA nm1 f 0 n c 1 0 d).toArray, .agg (runA nm2 g 2 n c2 3 0 d2).toArray, .int .i64 sh] (hp4r xs [] xs [] []) (.tuple #[.int .i64 (dS xs n e n), .int .i64 (dM n e n)]) (hp4r xs [] xs [] []) := by
  refine fnP_res hm c0_ok (hs := hsDf nm1 nm2 f g sh e n c d c2 d2 xs) ?_
  rw [df_t]
  have hr : isRun xs [] n 0 (flts xs) [] := ⟨rfl, rfl, hn, h9, rfl, by decide⟩
  refine ⟨⟨⟨hr, hx, rfl⟩, ⟨hr, hx, rfl⟩, (0 : Nat), ⟨rfl⟩, by first | trivial | rfl, by rw [allR_eq]; first | done | trivial | rfl⟩, fun _ _ => ⟨⟨(0 : Nat), ⟨by omega⟩, by first | trivial | rfl, by first | trivial | rfl⟩, fun s hs' => br_of (fun hc => ?_) (fun hc => ?_)⟩⟩
  · have hc := lt_of_dec hc
    have ek : IntKind.wrap .i64 (IntKind.wrap .i64 (IntKind.wrap .i64 (f + (s : Int)) - sh) - g) = (s : Int) - e := by
      rw [wrap_eq (x := f + (s : Int)) (by omega) (by omega), wrap_eq (x := f + (s : Int) - sh) (by omega) (by omega), wrap_eq (by omega) (by omega)]; omega
    have hu := up1 hc (show n ≤ 100000 from h9)
    rw [ek]
    refine ⟨⟨by omega, by omega⟩, ⟨by rw [Nat.zero_add, Int.toNat_natCast, rdV_at, rdW_at]; exact rdc_take hc⟩, br_of (fun h1 => br_of (fun h2 => ?_) (fun h2 => ?_)) (fun h1 => ?_)⟩
    · have h1 := of_decide_eq_true h1
      have h2 := of_decide_eq_true h2
      obtain ⟨q, hq⟩ := Int.eq_ofNat_of_zero_le h1
      have hqn : q < n := by omega
      have hb : dfB n e s = true := by rw [dfB, decide_eq_true (show 0 ≤ (s : Int) - e by omega), decide_eq_true (show (s : Int) - e < n by omega)]; rfl
      have eM : IntKind.wrap .i64 (dM n e s + 1) = dM n e (s + 1) := by
        have := dM_bd n e s
        rw [dM, if_pos hb, wrap_eq (by omega) (by omega)]
      rw [hq]
      simp only [Nat.zero_add, Nat.add_zero, Int.toNat_natCast, rdV_at]
      have s1 : sE (allR xs s).1 = 0 := smps hx (by omega)
      have s2 : sE (allR xs q).1 = 0 := smps hx (by omega)
      have l1 := lev_few s1
      have l2 := lev_few s2
      have eS : IntKind.wrap .i64 (dS xs n e s + farI (lev (allR xs s).1) (lev (allR xs q).1)) = dS xs n e (s + 1) := by
        have := dS_bd (e := e) hx hn s (by omega)
        rw [dS, if_pos hb, hq]
        show _ = dS xs n e s + farI (lev (allR xs s).1) (lev (allR xs q).1)
        rw [wrap_eq (by rw [farI]; omega) (by rw [farI]; omega)]
      rw [eS, eM, hu]
      have ed : (q * 2 + 1) / 2 = q := by omega
      refine ⟨⟨by omega, by omega⟩, ⟨?_⟩, ⟨s1⟩, ⟨by omega, by omega⟩, ⟨rdc_int hqn⟩, ⟨s2⟩, ⟨by omega, by omega⟩, s + 1, ⟨hc⟩, ⟨by omega⟩, by first | trivial | rfl, by first | trivial | rfl⟩
      rw [rdW, ed]; exact rdc_bool hqn
    · have h1 := of_decide_eq_true h1
      have h2 := of_decide_eq_false h2
      have hb : ¬ dfB n e s = true := by rw [dfB, decide_eq_false (show ¬ (s : Int) - e < n by omega), Bool.and_false]; decide
      have eS : dS xs n e (s + 1) = dS xs n e s := by rw [dS, if_neg hb, Int.add_zero]
      have eM : dM n e (s + 1) = dM n e s := by rw [dM, if_neg hb, Int.add_zero]
      rw [hu]
      exact ⟨s + 1, ⟨hc⟩, ⟨by omega⟩, by rw [eS, eM]; first | done | ((repeat' refine And.intro ?_ ?_) <;> first | rfl | trivial), by first | trivial | rfl⟩
    · have h1 := of_decide_eq_false h1
      have hb : ¬ dfB n e s = true := by rw [dfB, decide_eq_false (show ¬ 0 ≤ (s : Int) - e by omega), Bool.false_and]; decide
      have eS : dS xs n e (s + 1) = dS xs n e s := by rw [dS, if_neg hb, Int.add_zero]
      have eM : dM n e (s + 1) = dM n e s := by rw [dM, if_neg hb, Int.add_zero]
      rw [hu]
      exact ⟨s + 1, ⟨hc⟩, ⟨by omega⟩, by rw [eS, eM]; first | done | ((repeat' refine And.intro ?_ ?_) <;> first | rfl | trivial), by first | trivial | rfl⟩
  · have hc := ge_of_dec hc
    have : s = n := by have := hs'.out; omega
    subst this
    exact ⟨by first | trivial | rfl, by first | trivial | rfl⟩
noncomputable def orcDf (xs : List Nat) : OrcV
  | [.agg ⟨[.string _, .int .i64 f, .slice (some ⟨0, 0, none⟩) n _, .slice (some ⟨1, 0, none⟩) 0 _]⟩, .agg ⟨[.string _, .int .i64 g, .slice (some ⟨2, 0, none⟩) m _, .slice (some ⟨3, 0, none⟩) 0 _]⟩, .int .i64 sh],
    [some (.row e1 1 true true true), some (.row [] 2 true true true), some (.row e3 1 true true true), some (.row [] 2 true true true)] =>
    some (.tuple #[.int .i64 (dS xs n (sh + g - f) n), .int .i64 (dM n (sh + g - f) n)], [some (.row e1 1 true true true), some (.row [] 2 true true true), some (.row e3 1 true true true), some (.row [] 2 true true true)],
      e1 = flts xs ∧ e3 = flts xs ∧ xs.length = n ∧ m = n ∧ n ≤ 100000 ∧ fi (xs.map sE) = 0 ∧ f.natAbs ≤ 1000000000 ∧ g.natAbs ≤ 1000000000 ∧ sh.natAbs ≤ 1000000000)
  | _, _ => none
theorem okDf (xs : List Nat) : OkV Try.prog 31 (orcDf xs) := by
  intro args H ret H' vc h hv
  unfold orcDf at h
  split at h
  · cases h
    obtain ⟨rfl, rfl, h1, rfl, h2, h3, h4, h5, h6⟩ := hv
    exact df_ok h1 h2 h3 h4 h5 h6 rfl
  · cases h
/-- At the shift that takes the run upon itself there is no difference, at all places. -/
theorem dS_zero {xs : List Nat} {n : Nat} : ∀ i, dS xs n 0 i = 0
  | 0 => rfl
  | i + 1 => by
    rw [dS, dS_zero i]
    split
    · rw [Int.sub_zero, Int.toNat_natCast, farI]; simp
    · rfl
theorem dM_zero (n : Nat) : ∀ i, i ≤ n → dM n 0 i = i
  | 0, _ => rfl
  | i + 1, h => by
    rw [dM, dM_zero n i (by omega), if_pos]
    · omega
    · rw [dfB, decide_eq_true (by omega), decide_eq_true (by omega)]; rfl
/-- At any other shift there are fewer places. -/
theorem dM_less {n : Nat} {e : Int} (h : e ≠ 0) (h0 : 0 < n) : dM n e n < n := by
  have key : ∀ i, i ≤ n → dM n e i ≤ i ∧ ((0 < e → 0 < i → dM n e i < i)) := fun i => by
    induction i with
    | zero => exact fun _ => ⟨by simp [dM], fun _ h => by omega⟩
    | succ i ih =>
      intro hi
      obtain ⟨h1, h2⟩ := ih (by omega)
      refine ⟨by rw [dM]; split <;> omega, fun he _ => ?_⟩
      rw [dM]
      rcases Nat.eq_zero_or_pos i with rfl | hp
      · rw [if_neg]
        · simp [dM]
        · rw [dfB, decide_eq_false (show ¬ 0 ≤ ((0 : Nat) : Int) - e by omega), Bool.false_and]; decide
      · have := h2 he hp
        split <;> omega
  rcases Int.lt_or_gt_of_ne h with h' | h'
  · obtain ⟨q, rfl⟩ : ∃ q, n = q + 1 := ⟨n - 1, by omega⟩
    have hk := (dM_bd (q + 1) e q).2
    rw [dM, if_neg]
    · omega
    · rw [dfB, decide_eq_false (show ¬ (q : Int) - e < ((q + 1 : Nat) : Int) by omega), Bool.and_false]; decide
  · exact (key n (Nat.le_refl _)).2 h' h0
end
end Qq
end
section
/- A run and itself, moved: matched. -/
open Go Go.Vm Go.Proofs Sp
namespace Sp
noncomputable section
/-- At which turn a shift comes up. -/
def ixZ (z : Int) : Nat := if z < 0 then (-z).toNat * 2 - 1 else z.toNat * 2
def bsZ (z : Int) (i : Nat) : Int := if ixZ z < i then z else 0
def mnZ (z : Int) (n i : Nat) : Int := if ixZ z < i then (n : Int) else 0
def rtA (s : Nat) (d : Int) : Int := if s = 0 then 0 else d
def rtB (s : Nat) (d : Int) : Int := if s = 0 then d else 0
end
end Sp
namespace Qq
noncomputable section
noncomputable def lpRt (d : Int) : Lp where
  σ := Nat
  E s := slots 22 [(0, .int .i64 0), (1, .int .i64 d), (4, .pointer (some ⟨0, 0, none⟩)), (5, .int .i64 (rtA s d)), (6, .int .i64 (rtB s d))]
  Hp _ := [some (.row [.int .i64 0, .int .i64 0] 0 false true true)]
  I s := s ≤ 1
  m s := 1 - s
noncomputable def hsRt (d : Int) : Hs Try.prog where
  op y := if [303, 402, 405].contains y then some (hDv Try.prog) else none
  lp _ := some (lpRt d)
  cl _ := keep 22 [0, 1, 4, 5, 6]
  au := au0 Try.prog
theorem rt_t (d : Int) (K : Value → Heap → Prop) :
    (fnP Try.prog c0 (hsRt d) (32 : FuncId) [Value.int IntKind.i64 (0 : Int), Value.int IntKind.i64 d] [] K) =
    ((∃ (s : Nat), Is (s ≤ (1 : Nat)) ∧ [Value.int IntKind.i64 (0 : Int), Value.int IntKind.i64 d, poi, poi, Value.pointer (some { block := (0 : Nat), off := (0 : Nat) }), Value.int IntKind.i64 (0 : Int), Value.int IntKind.i64 d, poi, poi, poi, poi, poi, poi, poi, poi, poi, poi, poi, poi, poi, poi, poi] = [Value.int IntKind.i64 (0 : Int), Value.int IntKind.i64 d, poi, poi, Value.pointer (some { block := (0 : Nat), off := (0 : Nat) }), Value.int IntKind.i64 (rtA s d), Value.int IntKind.i64 (rtB s d), poi, poi, poi, poi, poi, poi, poi, poi, poi, poi, poi, poi, poi, poi, poi] ∧ some (AObj.row [Value.int IntKind.i64 (0 : Int), Value.int IntKind.i64 (0 : Int)] (0 : Nat) false true true) :: noH = some (AObj.row [Value.int IntKind.i64 (0 : Int), Value.int IntKind.i64 (0 : Int)] (0 : Nat) false true true) :: noH) ∧ ∀ (s : Nat), Is (s ≤ (1 : Nat)) → br (rtB s d != (0 : Int)) (Is (rtB s d ≠ (0 : Int)) ∧ ∃ (s' : Nat), Is (s' ≤ (1 : Nat)) ∧ Is ((1 : Nat) - s' < (1 : Nat) - s) ∧ [Value.int IntKind.i64 (0 : Int), Value.int IntKind.i64 d, poi, poi, Value.pointer (some { block := (0 : Nat), off := (0 : Nat) }), Value.int IntKind.i64 (rtB s d), Value.int IntKind.i64 (Int.tmod (rtA s d) (rtB s d)), poi, poi, poi, poi, poi, poi, poi, poi, poi, poi, poi, poi, poi, poi, poi] = [Value.int IntKind.i64 (0 : Int), Value.int IntKind.i64 d, poi, poi, Value.pointer (some { block := (0 : Nat), off := (0 : Nat) }), Value.int IntKind.i64 (rtA s' d), Value.int IntKind.i64 (rtB s' d), poi, poi, poi, poi, poi, poi, poi, poi, poi, poi, poi, poi, poi, poi, poi] ∧ some (AObj.row [Value.int IntKind.i64 (0 : Int), Value.int IntKind.i64 (0 : Int)] (0 : Nat) false true true) :: noH = some (AObj.row [Value.int IntKind.i64 (0 : Int), Value.int IntKind.i64 (0 : Int)] (0 : Nat) false true true) :: noH) (Is (rtA s d ≠ (0 : Int)) ∧ Is (rtA s d ≠ (0 : Int)) ∧ K (Value.agg #[Value.int IntKind.i64 (IntKind.wrap IntKind.i64 (Int.tdiv (0 : Int) (rtA s d))), Value.int IntKind.i64 (IntKind.wrap IntKind.i64 (Int.tdiv d (rtA s d)))]) noH)) := by kernel_rfl
noncomputable def lA3 : List (Nat × Orc) := (30, orcCl) :: lA2
theorem lA3_all : ∀ p ∈ lA3, Ok Try.prog p.1 p.2 := all_cons okCl lA2_all
noncomputable def cA3 : CallF := ctx Try.prog lA3
theorem cA3_ok : CallOK Try.prog cA3 := ctx_ok hm lA3_all
noncomputable def orcRt : OrcV
  | [.int .i64 0, .int .i64 d], [] => some (.agg #[.int .i64 0, .int .i64 1], [], 0 < d ∧ d ≤ 1000000000)
  | _, _ => none
set_option maxRecDepth 100000 in
theorem okRt : OkV Try.prog 32 orcRt := by
  intro args H ret H' vc h hv
  unfold orcRt at h
  split at h
  · rename_i d
    cases h
    obtain ⟨d0, d1⟩ := hv
    refine fnP_res hm c0_ok (hs := hsRt d) ?_
    rw [rt_t]
    refine ⟨⟨(0 : Nat), ⟨by omega⟩, by first | trivial | rfl, by first | trivial | rfl⟩, fun s hs' => ?_⟩
    have hs' := hs'.out
    rcases (show s = 0 ∨ s = 1 by omega) with rfl | rfl
    · refine br_of (fun _ => ⟨⟨by show d ≠ 0; omega⟩, (1 : Nat), ⟨by omega⟩, ⟨by omega⟩, ?_, by first | trivial | rfl⟩) (fun h => ?_)
      · have e : (rtA 0 d).tmod (rtB 0 d) = 0 := Int.zero_tmod d
        rw [e]; first | done | trivial | rfl
      · have h : ((d : Int) != 0) = false := h
        simp at h; omega
    · refine br_of (fun h => ?_) (fun _ => ?_)
      · have h : ((0 : Int) != 0) = true := h
        cases h
      · have e1 : rtA 1 d = d := rfl
        have e2 : IntKind.wrap .i64 ((0 : Int).tdiv d) = 0 := by rw [Int.zero_tdiv]; decide
        have e3 : IntKind.wrap .i64 (d.tdiv d) = 1 := by rw [Int.tdiv_self (by omega)]; decide
        rw [e1, e2, e3]
        exact ⟨⟨by omega⟩, ⟨by omega⟩, by first | trivial | rfl, by first | trivial | rfl⟩
  · cases h
noncomputable def lpMt (nm1 nm2 : ByteArray) (f g z : Int) (w n c d c2 d2 : Nat) (xs : List Nat) : Lp where
  σ := Nat
  E i := slots 81 [(3, .int .i64 (n : Int)), (4, .pointer (some ⟨4, 0, none⟩)), (5, .pointer (some ⟨5, 0, none⟩)), (9, .pointer (some ⟨6, 0, none⟩)), (12, .int .i64 (bsZ z i)), (13, .int .i64 0), (14, .int .i64 (mnZ z n i)), (35, .int .i64 ((2 * w + 1 : Nat) : Int)), (36, .int .i64 (Int.ofNat i))]
  Hp _ := hp4r xs [] xs [] [run2 nm1 f 0 n c 1 0 d, run2 nm2 g 2 n c2 3 0 d2, some (.row [.int .i64 0, .int .i64 0] 0 false true true)]
  I i := i ≤ 2 * w + 1
  m i := 2 * w + 1 - i
noncomputable def hsMt (nm1 nm2 : ByteArray) (f g z : Int) (w n c d c2 d2 : Nat) (xs : List Nat) : Hs Try.prog where
  op y := if [802, 901].contains y then some (hDv Try.prog) else if [101, 103].contains y then some (hCa Try.prog 19 (orcCrP xs []) (okCrP xs [])) else if y = 1103 then some (hCa Try.prog 31 (orcDf xs) (okDf xs)) else none
  lp _ := some (lpMt nm1 nm2 f g z w n c d c2 d2 xs)
  cl _ := keep 81 [3, 4, 5, 9, 12, 13, 14, 35, 36]
  sm := true
  au := auCalls [(32, hCa Try.prog 32 orcRt okRt)]
theorem mt_t (nm1 : ByteArray) (nm2 : ByteArray) (f : Int) (g : Int) (z : Int) (w : Nat) (n : Nat) (c : Nat) (d : Nat) (c2 : Nat) (d2 : Nat) (xs : List Nat) (K : Value → Heap → Prop) :
    (fnP Try.prog cA3 (hsMt nm1 nm2 f g z w n c d c2 d2 xs) (10 : FuncId) [Value.agg (List.toArray (runA nm1 f (0 : Nat) n c (1 : Nat) (0 : Nat) d)), Value.agg (List.toArray (runA nm2 g (2 : Nat) n c2 (3 : Nat) (0 : Nat) d2)), Value.int IntKind.i64 (↑w : Int), Value.int IntKind.i64 (↑n : Int)] (hp4r xs [] xs [] []) K) =
    (Is (isRun xs [] n (0 : Nat) (flts xs) []) ∧ Is (isRun xs [] n (0 : Nat) (flts xs) []) ∧ br (fi [runE nm1 f xs n [], runE nm2 g xs n [], wi (↑w : Int) (0 : Int) (256 : Int), wi (↑n : Int) (1 : Int) (4096 : Int)] != (0 : Int)) (K (Value.tuple #[Value.int IntKind.i64 (0 : Int), Value.agg #[Value.int IntKind.i64 (0 : Int), Value.int IntKind.i64 (0 : Int)], Value.int IntKind.i64 (fi [runE nm1 f xs n [], runE nm2 g xs n [], wi (↑w : Int) (0 : Int) (256 : Int), wi (↑n : Int) (1 : Int) (4096 : Int)])]) (some (AObj.row (flts xs) (1 : Nat) true true true) :: some (AObj.row [] (2 : Nat) true true true) :: some (AObj.row (flts xs) (1 : Nat) true true true) :: some (AObj.row [] (2 : Nat) true true true) :: noH)) ((∃ (s : Nat), Is (s ≤ (2 : Nat) * w + (1 : Nat)) ∧ (Value.int IntKind.i64 (↑n : Int) = Value.int IntKind.i64 (↑n : Int) ∧ Value.pointer (some { block := (4 : Nat), off := (0 : Nat) }) = Value.pointer (some { block := (4 : Nat), off := (0 : Nat) }) ∧ Value.pointer (some { block := (5 : Nat), off := (0 : Nat) }) = Value.pointer (some { block := (5 : Nat), off := (0 : Nat) }) ∧ Value.pointer (some { block := (6 : Nat), off := (0 : Nat) }) = Value.pointer (some { block := (6 : Nat), off := (0 : Nat) }) ∧ Value.int IntKind.i64 (0 : Int) = Value.int IntKind.i64 (bsZ z s) ∧ Value.int IntKind.i64 (0 : Int) = Value.int IntKind.i64 (0 : Int) ∧ Value.int IntKind.i64 (0 : Int) = Value.int IntKind.i64 (mnZ z n s) ∧ Value.int IntKind.i64 (IntKind.wrap IntKind.i64 (IntKind.wrap IntKind.i64 ((2 : Int) * (↑w : Int)) + (1 : Int))) = Value.int IntKind.i64 (↑((2 : Nat) * w + (1 : Nat)) : Int) ∧ Value.int IntKind.i64 (0 : Int) = Value.int IntKind.i64 (↑s : Int) ∧ True) ∧ some (AObj.row (flts xs) (1 : Nat) true true true) :: some (AObj.row [] (2 : Nat) true true true) :: some (AObj.row (flts xs) (1 : Nat) true true true) :: some (AObj.row [] (2 : Nat) true true true) :: some (AObj.row [Value.string nm1, Value.int IntKind.i64 f, Value.slice (some { block := (0 : Nat), off := (0 : Nat) }) n c, Value.slice (some { block := (1 : Nat), off := (0 : Nat) }) (0 : Nat) d] (0 : Nat) false true (List.all [Value.string nm1, Value.int IntKind.i64 f, Value.slice (some { block := (0 : Nat), off := (0 : Nat) }) n c, Value.slice (some { block := (1 : Nat), off := (0 : Nat) }) (0 : Nat) d] atom)) :: some (AObj.row [Value.string nm2, Value.int IntKind.i64 g, Value.slice (some { block := (2 : Nat), off := (0 : Nat) }) n c2, Value.slice (some { block := (3 : Nat), off := (0 : Nat) }) (0 : Nat) d2] (0 : Nat) false true (List.all [Value.string nm2, Value.int IntKind.i64 g, Value.slice (some { block := (2 : Nat), off := (0 : Nat) }) n c2, Value.slice (some { block := (3 : Nat), off := (0 : Nat) }) (0 : Nat) d2] atom)) :: some (AObj.row [Value.int IntKind.i64 (0 : Int), Value.int IntKind.i64 (0 : Int)] (0 : Nat) false true true) :: noH = some (AObj.row (flts xs) (1 : Nat) true true true) :: some (AObj.row [] (2 : Nat) true true true) :: some (AObj.row (flts xs) (1 : Nat) true true true) :: some (AObj.row [] (2 : Nat) true true true) :: some (AObj.row [Value.string nm1, Value.int IntKind.i64 f, Value.slice (some { block := (0 : Nat), off := (0 : Nat) }) n c, Value.slice (some { block := (1 : Nat), off := (0 : Nat) }) (0 : Nat) d] (0 : Nat) false true false) :: some (AObj.row [Value.string nm2, Value.int IntKind.i64 g, Value.slice (some { block := (2 : Nat), off := (0 : Nat) }) n c2, Value.slice (some { block := (3 : Nat), off := (0 : Nat) }) (0 : Nat) d2] (0 : Nat) false true false) :: some (AObj.row [Value.int IntKind.i64 (0 : Int), Value.int IntKind.i64 (0 : Int)] (0 : Nat) false true true) :: noH) ∧ ∀ (s : Nat), Is (s ≤ (2 : Nat) * w + (1 : Nat)) → br (decide ((↑s : Int) < (↑((2 : Nat) * w + (1 : Nat)) : Int))) (Is ((2 : Int) ≠ (0 : Int)) ∧ Is ((2 : Int) ≠ (0 : Int)) ∧ br (Int.tmod (↑s : Int) (2 : Int) == (1 : Int)) (Is (flts xs = flts xs ∧ flts xs = flts xs ∧ List.length xs = n ∧ n = n ∧ n ≤ (100000 : Nat) ∧ fi (List.map sE xs) = (0 : Int) ∧ Int.natAbs f ≤ (1000000000 : Nat) ∧ Int.natAbs g ≤ (1000000000 : Nat) ∧ Int.natAbs (IntKind.wrap IntKind.i64 ((0 : Int) - IntKind.wrap IntKind.i64 (Int.tdiv (IntKind.wrap IntKind.i64 ((↑s : Int) + (1 : Int))) (2 : Int)))) ≤ (1000000000 : Nat)) ∧ br (decide ((↑n : Int) ≤ dM n (IntKind.wrap IntKind.i64 ((0 : Int) - IntKind.wrap IntKind.i64 (Int.tdiv (IntKind.wrap IntKind.i64 ((↑s : Int) + (1 : Int))) (2 : Int))) + g - f) n)) (br (mnZ z n s == (0 : Int)) (∃ (s' : Nat), Is (s' ≤ (2 : Nat) * w + (1 : Nat)) ∧ Is ((2 : Nat) * w + (1 : Nat) - s' < (2 : Nat) * w + (1 : Nat) - s) ∧ (Value.int IntKind.i64 (↑n : Int) = Value.int IntKind.i64 (↑n : Int) ∧ Value.pointer (some { block := (4 : Nat), off := (0 : Nat) }) = Value.pointer (some { block := (4 : Nat), off := (0 : Nat) }) ∧ Value.pointer (some { block := (5 : Nat), off := (0 : Nat) }) = Value.pointer (some { block := (5 : Nat), off := (0 : Nat) }) ∧ Value.pointer (some { block := (6 : Nat), off := (0 : Nat) }) = Value.pointer (some { block := (6 : Nat), off := (0 : Nat) }) ∧ Value.int IntKind.i64 (IntKind.wrap IntKind.i64 ((0 : Int) - IntKind.wrap IntKind.i64 (Int.tdiv (IntKind.wrap IntKind.i64 ((↑s : Int) + (1 : Int))) (2 : Int)))) = Value.int IntKind.i64 (bsZ z s') ∧ Value.int IntKind.i64 (dS xs n (IntKind.wrap IntKind.i64 ((0 : Int) - IntKind.wrap IntKind.i64 (Int.tdiv (IntKind.wrap IntKind.i64 ((↑s : Int) + (1 : Int))) (2 : Int))) + g - f) n) = Value.int IntKind.i64 (0 : Int) ∧ Value.int IntKind.i64 (dM n (IntKind.wrap IntKind.i64 ((0 : Int) - IntKind.wrap IntKind.i64 (Int.tdiv (IntKind.wrap IntKind.i64 ((↑s : Int) + (1 : Int))) (2 : Int))) + g - f) n) = Value.int IntKind.i64 (mnZ z n s') ∧ Value.int IntKind.i64 (↑((2 : Nat) * w + (1 : Nat)) : Int) = Value.int IntKind.i64 (↑((2 : Nat) * w + (1 : Nat)) : Int) ∧ Value.int IntKind.i64 (IntKind.wrap IntKind.i64 ((↑s : Int) + (1 : Int))) = Value.int IntKind.i64 (↑s' : Int) ∧ True) ∧ some (AObj.row (flts xs) (1 : Nat) true true true) :: some (AObj.row [] (2 : Nat) true true true) :: some (AObj.row (flts xs) (1 : Nat) true true true) :: some (AObj.row [] (2 : Nat) true true true) :: some (AObj.row [Value.string nm1, Value.int IntKind.i64 f, Value.slice (some { block := (0 : Nat), off := (0 : Nat) }) n c, Value.slice (some { block := (1 : Nat), off := (0 : Nat) }) (0 : Nat) d] (0 : Nat) false true false) :: some (AObj.row [Value.string nm2, Value.int IntKind.i64 g, Value.slice (some { block := (2 : Nat), off := (0 : Nat) }) n c2, Value.slice (some { block := (3 : Nat), off := (0 : Nat) }) (0 : Nat) d2] (0 : Nat) false true false) :: some (AObj.row [Value.int IntKind.i64 (0 : Int), Value.int IntKind.i64 (0 : Int)] (0 : Nat) false true true) :: noH = some (AObj.row (flts xs) (1 : Nat) true true true) :: some (AObj.row [] (2 : Nat) true true true) :: some (AObj.row (flts xs) (1 : Nat) true true true) :: some (AObj.row [] (2 : Nat) true true true) :: some (AObj.row [Value.string nm1, Value.int IntKind.i64 f, Value.slice (some { block := (0 : Nat), off := (0 : Nat) }) n c, Value.slice (some { block := (1 : Nat), off := (0 : Nat) }) (0 : Nat) d] (0 : Nat) false true false) :: some (AObj.row [Value.string nm2, Value.int IntKind.i64 g, Value.slice (some { block := (2 : Nat), off := (0 : Nat) }) n c2, Value.slice (some { block := (3 : Nat), off := (0 : Nat) }) (0 : Nat) d2] (0 : Nat) false true false) :: some (AObj.row [Value.int IntKind.i64 (0 : Int), Value.int IntKind.i64 (0 : Int)] (0 : Nat) false true true) :: noH) (br (decide (IntKind.wrap IntKind.i64 (dS xs n (IntKind.wrap IntKind.i64 ((0 : Int) - IntKind.wrap IntKind.i64 (Int.tdiv (IntKind.wrap IntKind.i64 ((↑s : Int) + (1 : Int))) (2 : Int))) + g - f) n * mnZ z n s) < IntKind.wrap IntKind.i64 ((0 : Int) * dM n (IntKind.wrap IntKind.i64 ((0 : Int) - IntKind.wrap IntKind.i64 (Int.tdiv (IntKind.wrap IntKind.i64 ((↑s : Int) + (1 : Int))) (2 : Int))) + g - f) n))) (∃ (s' : Nat), Is (s' ≤ (2 : Nat) * w + (1 : Nat)) ∧ Is ((2 : Nat) * w + (1 : Nat) - s' < (2 : Nat) * w + (1 : Nat) - s) ∧ (Value.int IntKind.i64 (↑n : Int) = Value.int IntKind.i64 (↑n : Int) ∧ Value.pointer (some { block := (4 : Nat), off := (0 : Nat) }) = Value.pointer (some { block := (4 : Nat), off := (0 : Nat) }) ∧ Value.pointer (some { block := (5 : Nat), off := (0 : Nat) }) = Value.pointer (some { block := (5 : Nat), off := (0 : Nat) }) ∧ Value.pointer (some { block := (6 : Nat), off := (0 : Nat) }) = Value.pointer (some { block := (6 : Nat), off := (0 : Nat) }) ∧ Value.int IntKind.i64 (IntKind.wrap IntKind.i64 ((0 : Int) - IntKind.wrap IntKind.i64 (Int.tdiv (IntKind.wrap IntKind.i64 ((↑s : Int) + (1 : Int))) (2 : Int)))) = Value.int IntKind.i64 (bsZ z s') ∧ Value.int IntKind.i64 (dS xs n (IntKind.wrap IntKind.i64 ((0 : Int) - IntKind.wrap IntKind.i64 (Int.tdiv (IntKind.wrap IntKind.i64 ((↑s : Int) + (1 : Int))) (2 : Int))) + g - f) n) = Value.int IntKind.i64 (0 : Int) ∧ Value.int IntKind.i64 (dM n (IntKind.wrap IntKind.i64 ((0 : Int) - IntKind.wrap IntKind.i64 (Int.tdiv (IntKind.wrap IntKind.i64 ((↑s : Int) + (1 : Int))) (2 : Int))) + g - f) n) = Value.int IntKind.i64 (mnZ z n s') ∧ Value.int IntKind.i64 (↑((2 : Nat) * w + (1 : Nat)) : Int) = Value.int IntKind.i64 (↑((2 : Nat) * w + (1 : Nat)) : Int) ∧ Value.int IntKind.i64 (IntKind.wrap IntKind.i64 ((↑s : Int) + (1 : Int))) = Value.int IntKind.i64 (↑s' : Int) ∧ True) ∧ some (AObj.row (flts xs) (1 : Nat) true true true) :: some (AObj.row [] (2 : Nat) true true true) :: some (AObj.row (flts xs) (1 : Nat) true true true) :: some (AObj.row [] (2 : Nat) true true true) :: some (AObj.row [Value.string nm1, Value.int IntKind.i64 f, Value.slice (some { block := (0 : Nat), off := (0 : Nat) }) n c, Value.slice (some { block := (1 : Nat), off := (0 : Nat) }) (0 : Nat) d] (0 : Nat) false true false) :: some (AObj.row [Value.string nm2, Value.int IntKind.i64 g, Value.slice (some { block := (2 : Nat), off := (0 : Nat) }) n c2, Value.slice (some { block := (3 : Nat), off := (0 : Nat) }) (0 : Nat) d2] (0 : Nat) false true false) :: some (AObj.row [Value.int IntKind.i64 (0 : Int), Value.int IntKind.i64 (0 : Int)] (0 : Nat) false true true) :: noH = some (AObj.row (flts xs) (1 : Nat) true true true) :: some (AObj.row [] (2 : Nat) true true true) :: some (AObj.row (flts xs) (1 : Nat) true true true) :: some (AObj.row [] (2 : Nat) true true true) :: some (AObj.row [Value.string nm1, Value.int IntKind.i64 f, Value.slice (some { block := (0 : Nat), off := (0 : Nat) }) n c, Value.slice (some { block := (1 : Nat), off := (0 : Nat) }) (0 : Nat) d] (0 : Nat) false true false) :: some (AObj.row [Value.string nm2, Value.int IntKind.i64 g, Value.slice (some { block := (2 : Nat), off := (0 : Nat) }) n c2, Value.slice (some { block := (3 : Nat), off := (0 : Nat) }) (0 : Nat) d2] (0 : Nat) false true false) :: some (AObj.row [Value.int IntKind.i64 (0 : Int), Value.int IntKind.i64 (0 : Int)] (0 : Nat) false true true) :: noH) (∃ (s' : Nat), Is (s' ≤ (2 : Nat) * w + (1 : Nat)) ∧ Is ((2 : Nat) * w + (1 : Nat) - s' < (2 : Nat) * w + (1 : Nat) - s) ∧ (Value.int IntKind.i64 (↑n : Int) = Value.int IntKind.i64 (↑n : Int) ∧ Value.pointer (some { block := (4 : Nat), off := (0 : Nat) }) = Value.pointer (some { block := (4 : Nat), off := (0 : Nat) }) ∧ Value.pointer (some { block := (5 : Nat), off := (0 : Nat) }) = Value.pointer (some { block := (5 : Nat), off := (0 : Nat) }) ∧ Value.pointer (some { block := (6 : Nat), off := (0 : Nat) }) = Value.pointer (some { block := (6 : Nat), off := (0 : Nat) }) ∧ Value.int IntKind.i64 (bsZ z s) = Value.int IntKind.i64 (bsZ z s') ∧ Value.int IntKind.i64 (0 : Int) = Value.int IntKind.i64 (0 : Int) ∧ Value.int IntKind.i64 (mnZ z n s) = Value.int IntKind.i64 (mnZ z n s') ∧ Value.int IntKind.i64 (↑((2 : Nat) * w + (1 : Nat)) : Int) = Value.int IntKind.i64 (↑((2 : Nat) * w + (1 : Nat)) : Int) ∧ Value.int IntKind.i64 (IntKind.wrap IntKind.i64 ((↑s : Int) + (1 : Int))) = Value.int IntKind.i64 (↑s' : Int) ∧ True) ∧ some (AObj.row (flts xs) (1 : Nat) true true true) :: some (AObj.row [] (2 : Nat) true true true) :: some (AObj.row (flts xs) (1 : Nat) true true true) :: some (AObj.row [] (2 : Nat) true true true) :: some (AObj.row [Value.string nm1, Value.int IntKind.i64 f, Value.slice (some { block := (0 : Nat), off := (0 : Nat) }) n c, Value.slice (some { block := (1 : Nat), off := (0 : Nat) }) (0 : Nat) d] (0 : Nat) false true false) :: some (AObj.row [Value.string nm2, Value.int IntKind.i64 g, Value.slice (some { block := (2 : Nat), off := (0 : Nat) }) n c2, Value.slice (some { block := (3 : Nat), off := (0 : Nat) }) (0 : Nat) d2] (0 : Nat) false true false) :: some (AObj.row [Value.int IntKind.i64 (0 : Int), Value.int IntKind.i64 (0 : Int)] (0 : Nat) false true true) :: noH = some (AObj.row (flts xs) (1 : Nat) true true true) :: some (AObj.row [] (2 : Nat) true true true) :: some (AObj.row (flts xs) (1 : Nat) true true true) :: some (AObj.row [] (2 : Nat) true true true) :: some (AObj.row [Value.string nm1, Value.int IntKind.i64 f, Value.slice (some { block := (0 : Nat), off := (0 : Nat) }) n c, Value.slice (some { block := (1 : Nat), off := (0 : Nat) }) (0 : Nat) d] (0 : Nat) false true false) :: some (AObj.row [Value.string nm2, Value.int IntKind.i64 g, Value.slice (some { block := (2 : Nat), off := (0 : Nat) }) n c2, Value.slice (some { block := (3 : Nat), off := (0 : Nat) }) (0 : Nat) d2] (0 : Nat) false true false) :: some (AObj.row [Value.int IntKind.i64 (0 : Int), Value.int IntKind.i64 (0 : Int)] (0 : Nat) false true true) :: noH))) (∃ (s' : Nat), Is (s' ≤ (2 : Nat) * w + (1 : Nat)) ∧ Is ((2 : Nat) * w + (1 : Nat) - s' < (2 : Nat) * w + (1 : Nat) - s) ∧ (Value.int IntKind.i64 (↑n : Int) = Value.int IntKind.i64 (↑n : Int) ∧ Value.pointer (some { block := (4 : Nat), off := (0 : Nat) }) = Value.pointer (some { block := (4 : Nat), off := (0 : Nat) }) ∧ Value.pointer (some { block := (5 : Nat), off := (0 : Nat) }) = Value.pointer (some { block := (5 : Nat), off := (0 : Nat) }) ∧ Value.pointer (some { block := (6 : Nat), off := (0 : Nat) }) = Value.pointer (some { block := (6 : Nat), off := (0 : Nat) }) ∧ Value.int IntKind.i64 (bsZ z s) = Value.int IntKind.i64 (bsZ z s') ∧ Value.int IntKind.i64 (0 : Int) = Value.int IntKind.i64 (0 : Int) ∧ Value.int IntKind.i64 (mnZ z n s) = Value.int IntKind.i64 (mnZ z n s') ∧ Value.int IntKind.i64 (↑((2 : Nat) * w + (1 : Nat)) : Int) = Value.int IntKind.i64 (↑((2 : Nat) * w + (1 : Nat)) : Int) ∧ Value.int IntKind.i64 (IntKind.wrap IntKind.i64 ((↑s : Int) + (1 : Int))) = Value.int IntKind.i64 (↑s' : Int) ∧ True) ∧ some (AObj.row (flts xs) (1 : Nat) true true true) :: some (AObj.row [] (2 : Nat) true true true) :: some (AObj.row (flts xs) (1 : Nat) true true true) :: some (AObj.row [] (2 : Nat) true true true) :: some (AObj.row [Value.string nm1, Value.int IntKind.i64 f, Value.slice (some { block := (0 : Nat), off := (0 : Nat) }) n c, Value.slice (some { block := (1 : Nat), off := (0 : Nat) }) (0 : Nat) d] (0 : Nat) false true false) :: some (AObj.row [Value.string nm2, Value.int IntKind.i64 g, Value.slice (some { block := (2 : Nat), off := (0 : Nat) }) n c2, Value.slice (some { block := (3 : Nat), off := (0 : Nat) }) (0 : Nat) d2] (0 : Nat) false true false) :: some (AObj.row [Value.int IntKind.i64 (0 : Int), Value.int IntKind.i64 (0 : Int)] (0 : Nat) false true true) :: noH = some (AObj.row (flts xs) (1 : Nat) true true true) :: some (AObj.row [] (2 : Nat) true true true) :: some (AObj.row (flts xs) (1 : Nat) true true true) :: some (AObj.row [] (2 : Nat) true true true) :: some (AObj.row [Value.string nm1, Value.int IntKind.i64 f, Value.slice (some { block := (0 : Nat), off := (0 : Nat) }) n c, Value.slice (some { block := (1 : Nat), off := (0 : Nat) }) (0 : Nat) d] (0 : Nat) false true false) :: some (AObj.row [Value.string nm2, Value.int IntKind.i64 g, Value.slice (some { block := (2 : Nat), off := (0 : Nat) }) n c2, Value.slice (some { block := (3 : Nat), off := (0 : Nat) }) (0 : Nat) d2] (0 : Nat) false true false) :: some (AObj.row [Value.int IntKind.i64 (0 : Int), Value.int IntKind.i64 (0 : Int)] (0 : Nat) false true true) :: noH)) (Is (flts xs = flts xs ∧ flts xs = flts xs ∧ List.length xs = n ∧ n = n ∧ n ≤ (100000 : Nat) ∧ fi (List.map sE xs) = (0 : Int) ∧ Int.natAbs f ≤ (1000000000 : Nat) ∧ Int.natAbs g ≤ (1000000000 : Nat) ∧ Int.natAbs (IntKind.wrap IntKind.i64 (Int.tdiv (IntKind.wrap IntKind.i64 ((↑s : Int) + (1 : Int))) (2 : Int))) ≤ (1000000000 : Nat)) ∧ br (decide ((↑n : Int) ≤ dM n (IntKind.wrap IntKind.i64 (Int.tdiv (IntKind.wrap IntKind.i64 ((↑s : Int) + (1 : Int))) (2 : Int)) + g - f) n)) (br (mnZ z n s == (0 : Int)) (∃ (s' : Nat), Is (s' ≤ (2 : Nat) * w + (1 : Nat)) ∧ Is ((2 : Nat) * w + (1 : Nat) - s' < (2 : Nat) * w + (1 : Nat) - s) ∧ (Value.int IntKind.i64 (↑n : Int) = Value.int IntKind.i64 (↑n : Int) ∧ Value.pointer (some { block := (4 : Nat), off := (0 : Nat) }) = Value.pointer (some { block := (4 : Nat), off := (0 : Nat) }) ∧ Value.pointer (some { block := (5 : Nat), off := (0 : Nat) }) = Value.pointer (some { block := (5 : Nat), off := (0 : Nat) }) ∧ Value.pointer (some { block := (6 : Nat), off := (0 : Nat) }) = Value.pointer (some { block := (6 : Nat), off := (0 : Nat) }) ∧ Value.int IntKind.i64 (IntKind.wrap IntKind.i64 (Int.tdiv (IntKind.wrap IntKind.i64 ((↑s : Int) + (1 : Int))) (2 : Int))) = Value.int IntKind.i64 (bsZ z s') ∧ Value.int IntKind.i64 (dS xs n (IntKind.wrap IntKind.i64 (Int.tdiv (IntKind.wrap IntKind.i64 ((↑s : Int) + (1 : Int))) (2 : Int)) + g - f) n) = Value.int IntKind.i64 (0 : Int) ∧ Value.int IntKind.i64 (dM n (IntKind.wrap IntKind.i64 (Int.tdiv (IntKind.wrap IntKind.i64 ((↑s : Int) + (1 : Int))) (2 : Int)) + g - f) n) = Value.int IntKind.i64 (mnZ z n s') ∧ Value.int IntKind.i64 (↑((2 : Nat) * w + (1 : Nat)) : Int) = Value.int IntKind.i64 (↑((2 : Nat) * w + (1 : Nat)) : Int) ∧ Value.int IntKind.i64 (IntKind.wrap IntKind.i64 ((↑s : Int) + (1 : Int))) = Value.int IntKind.i64 (↑s' : Int) ∧ True) ∧ some (AObj.row (flts xs) (1 : Nat) true true true) :: some (AObj.row [] (2 : Nat) true true true) :: some (AObj.row (flts xs) (1 : Nat) true true true) :: some (AObj.row [] (2 : Nat) true true true) :: some (AObj.row [Value.string nm1, Value.int IntKind.i64 f, Value.slice (some { block := (0 : Nat), off := (0 : Nat) }) n c, Value.slice (some { block := (1 : Nat), off := (0 : Nat) }) (0 : Nat) d] (0 : Nat) false true false) :: some (AObj.row [Value.string nm2, Value.int IntKind.i64 g, Value.slice (some { block := (2 : Nat), off := (0 : Nat) }) n c2, Value.slice (some { block := (3 : Nat), off := (0 : Nat) }) (0 : Nat) d2] (0 : Nat) false true false) :: some (AObj.row [Value.int IntKind.i64 (0 : Int), Value.int IntKind.i64 (0 : Int)] (0 : Nat) false true true) :: noH = some (AObj.row (flts xs) (1 : Nat) true true true) :: some (AObj.row [] (2 : Nat) true true true) :: some (AObj.row (flts xs) (1 : Nat) true true true) :: some (AObj.row [] (2 : Nat) true true true) :: some (AObj.row [Value.string nm1, Value.int IntKind.i64 f, Value.slice (some { block := (0 : Nat), off := (0 : Nat) }) n c, Value.slice (some { block := (1 : Nat), off := (0 : Nat) }) (0 : Nat) d] (0 : Nat) false true false) :: some (AObj.row [Value.string nm2, Value.int IntKind.i64 g, Value.slice (some { block := (2 : Nat), off := (0 : Nat) }) n c2, Value.slice (some { block := (3 : Nat), off := (0 : Nat) }) (0 : Nat) d2] (0 : Nat) false true false) :: some (AObj.row [Value.int IntKind.i64 (0 : Int), Value.int IntKind.i64 (0 : Int)] (0 : Nat) false true true) :: noH) (br (decide (IntKind.wrap IntKind.i64 (dS xs n (IntKind.wrap IntKind.i64 (Int.tdiv (IntKind.wrap IntKind.i64 ((↑s : Int) + (1 : Int))) (2 : Int)) + g - f) n * mnZ z n s) < IntKind.wrap IntKind.i64 ((0 : Int) * dM n (IntKind.wrap IntKind.i64 (Int.tdiv (IntKind.wrap IntKind.i64 ((↑s : Int) + (1 : Int))) (2 : Int)) + g - f) n))) (∃ (s' : Nat), Is (s' ≤ (2 : Nat) * w + (1 : Nat)) ∧ Is ((2 : Nat) * w + (1 : Nat) - s' < (2 : Nat) * w + (1 : Nat) - s) ∧ (Value.int IntKind.i64 (↑n : Int) = Value.int IntKind.i64 (↑n : Int) ∧ Value.pointer (some { block := (4 : Nat), off := (0 : Nat) }) = Value.pointer (some { block := (4 : Nat), off := (0 : Nat) }) ∧ Value.pointer (some { block := (5 : Nat), off := (0 : Nat) }) = Value.pointer (some { block := (5 : Nat), off := (0 : Nat) }) ∧ Value.pointer (some { block := (6 : Nat), off := (0 : Nat) }) = Value.pointer (some { block := (6 : Nat), off := (0 : Nat) }) ∧ Value.int IntKind.i64 (IntKind.wrap IntKind.i64 (Int.tdiv (IntKind.wrap IntKind.i64 ((↑s : Int) + (1 : Int))) (2 : Int))) = Value.int IntKind.i64 (bsZ z s') ∧ Value.int IntKind.i64 (dS xs n (IntKind.wrap IntKind.i64 (Int.tdiv (IntKind.wrap IntKind.i64 ((↑s : Int) + (1 : Int))) (2 : Int)) + g - f) n) = Value.int IntKind.i64 (0 : Int) ∧ Value.int IntKind.i64 (dM n (IntKind.wrap IntKind.i64 (Int.tdiv (IntKind.wrap IntKind.i64 ((↑s : Int) + (1 : Int))) (2 : Int)) + g - f) n) = Value.int IntKind.i64 (mnZ z n s') ∧ Value.int IntKind.i64 (↑((2 : Nat) * w + (1 : Nat)) : Int) = Value.int IntKind.i64 (↑((2 : Nat) * w + (1 : Nat)) : Int) ∧ Value.int IntKind.i64 (IntKind.wrap IntKind.i64 ((↑s : Int) + (1 : Int))) = Value.int IntKind.i64 (↑s' : Int) ∧ True) ∧ some (AObj.row (flts xs) (1 : Nat) true true true) :: some (AObj.row [] (2 : Nat) true true true) :: some (AObj.row (flts xs) (1 : Nat) true true true) :: some (AObj.row [] (2 : Nat) true true true) :: some (AObj.row [Value.string nm1, Value.int IntKind.i64 f, Value.slice (some { block := (0 : Nat), off := (0 : Nat) }) n c, Value.slice (some { block := (1 : Nat), off := (0 : Nat) }) (0 : Nat) d] (0 : Nat) false true false) :: some (AObj.row [Value.string nm2, Value.int IntKind.i64 g, Value.slice (some { block := (2 : Nat), off := (0 : Nat) }) n c2, Value.slice (some { block := (3 : Nat), off := (0 : Nat) }) (0 : Nat) d2] (0 : Nat) false true false) :: some (AObj.row [Value.int IntKind.i64 (0 : Int), Value.int IntKind.i64 (0 : Int)] (0 : Nat) false true true) :: noH = some (AObj.row (flts xs) (1 : Nat) true true true) :: some (AObj.row [] (2 : Nat) true true true) :: some (AObj.row (flts xs) (1 : Nat) true true true) :: some (AObj.row [] (2 : Nat) true true true) :: some (AObj.row [Value.string nm1, Value.int IntKind.i64 f, Value.slice (some { block := (0 : Nat), off := (0 : Nat) }) n c, Value.slice (some { block := (1 : Nat), off := (0 : Nat) }) (0 : Nat) d] (0 : Nat) false true false) :: some (AObj.row [Value.string nm2, Value.int IntKind.i64 g, Value.slice (some { block := (2 : Nat), off := (0 : Nat) }) n c2, Value.slice (some { block := (3 : Nat), off := (0 : Nat) }) (0 : Nat) d2] (0 : Nat) false true false) :: some (AObj.row [Value.int IntKind.i64 (0 : Int), Value.int IntKind.i64 (0 : Int)] (0 : Nat) false true true) :: noH) (∃ (s' : Nat), Is (s' ≤ (2 : Nat) * w + (1 : Nat)) ∧ Is ((2 : Nat) * w + (1 : Nat) - s' < (2 : Nat) * w + (1 : Nat) - s) ∧ (Value.int IntKind.i64 (↑n : Int) = Value.int IntKind.i64 (↑n : Int) ∧ Value.pointer (some { block := (4 : Nat), off := (0 : Nat) }) = Value.pointer (some { block := (4 : Nat), off := (0 : Nat) }) ∧ Value.pointer (some { block := (5 : Nat), off := (0 : Nat) }) = Value.pointer (some { block := (5 : Nat), off := (0 : Nat) }) ∧ Value.pointer (some { block := (6 : Nat), off := (0 : Nat) }) = Value.pointer (some { block := (6 : Nat), off := (0 : Nat) }) ∧ Value.int IntKind.i64 (bsZ z s) = Value.int IntKind.i64 (bsZ z s') ∧ Value.int IntKind.i64 (0 : Int) = Value.int IntKind.i64 (0 : Int) ∧ Value.int IntKind.i64 (mnZ z n s) = Value.int IntKind.i64 (mnZ z n s') ∧ Value.int IntKind.i64 (↑((2 : Nat) * w + (1 : Nat)) : Int) = Value.int IntKind.i64 (↑((2 : Nat) * w + (1 : Nat)) : Int) ∧ Value.int IntKind.i64 (IntKind.wrap IntKind.i64 ((↑s : Int) + (1 : Int))) = Value.int IntKind.i64 (↑s' : Int) ∧ True) ∧ some (AObj.row (flts xs) (1 : Nat) true true true) :: some (AObj.row [] (2 : Nat) true true true) :: some (AObj.row (flts xs) (1 : Nat) true true true) :: some (AObj.row [] (2 : Nat) true true true) :: some (AObj.row [Value.string nm1, Value.int IntKind.i64 f, Value.slice (some { block := (0 : Nat), off := (0 : Nat) }) n c, Value.slice (some { block := (1 : Nat), off := (0 : Nat) }) (0 : Nat) d] (0 : Nat) false true false) :: some (AObj.row [Value.string nm2, Value.int IntKind.i64 g, Value.slice (some { block := (2 : Nat), off := (0 : Nat) }) n c2, Value.slice (some { block := (3 : Nat), off := (0 : Nat) }) (0 : Nat) d2] (0 : Nat) false true false) :: some (AObj.row [Value.int IntKind.i64 (0 : Int), Value.int IntKind.i64 (0 : Int)] (0 : Nat) false true true) :: noH = some (AObj.row (flts xs) (1 : Nat) true true true) :: some (AObj.row [] (2 : Nat) true true true) :: some (AObj.row (flts xs) (1 : Nat) true true true) :: some (AObj.row [] (2 : Nat) true true true) :: some (AObj.row [Value.string nm1, Value.int IntKind.i64 f, Value.slice (some { block := (0 : Nat), off := (0 : Nat) }) n c, Value.slice (some { block := (1 : Nat), off := (0 : Nat) }) (0 : Nat) d] (0 : Nat) false true false) :: some (AObj.row [Value.string nm2, Value.int IntKind.i64 g, Value.slice (some { block := (2 : Nat), off := (0 : Nat) }) n c2, Value.slice (some { block := (3 : Nat), off := (0 : Nat) }) (0 : Nat) d2] (0 : Nat) false true false) :: some (AObj.row [Value.int IntKind.i64 (0 : Int), Value.int IntKind.i64 (0 : Int)] (0 : Nat) false true true) :: noH))) (∃ (s' : Nat), Is (s' ≤ (2 : Nat) * w + (1 : Nat)) ∧ Is ((2 : Nat) * w + (1 : Nat) - s' < (2 : Nat) * w + (1 : Nat) - s) ∧ (Value.int IntKind.i64 (↑n : Int) = Value.int IntKind.i64 (↑n : Int) ∧ Value.pointer (some { block := (4 : Nat), off := (0 : Nat) }) = Value.pointer (some { block := (4 : Nat), off := (0 : Nat) }) ∧ Value.pointer (some { block := (5 : Nat), off := (0 : Nat) }) = Value.pointer (some { block := (5 : Nat), off := (0 : Nat) }) ∧ Value.pointer (some { block := (6 : Nat), off := (0 : Nat) }) = Value.pointer (some { block := (6 : Nat), off := (0 : Nat) }) ∧ Value.int IntKind.i64 (bsZ z s) = Value.int IntKind.i64 (bsZ z s') ∧ Value.int IntKind.i64 (0 : Int) = Value.int IntKind.i64 (0 : Int) ∧ Value.int IntKind.i64 (mnZ z n s) = Value.int IntKind.i64 (mnZ z n s') ∧ Value.int IntKind.i64 (↑((2 : Nat) * w + (1 : Nat)) : Int) = Value.int IntKind.i64 (↑((2 : Nat) * w + (1 : Nat)) : Int) ∧ Value.int IntKind.i64 (IntKind.wrap IntKind.i64 ((↑s : Int) + (1 : Int))) = Value.int IntKind.i64 (↑s' : Int) ∧ True) ∧ some (AObj.row (flts xs) (1 : Nat) true true true) :: some (AObj.row [] (2 : Nat) true true true) :: some (AObj.row (flts xs) (1 : Nat) true true true) :: some (AObj.row [] (2 : Nat) true true true) :: some (AObj.row [Value.string nm1, Value.int IntKind.i64 f, Value.slice (some { block := (0 : Nat), off := (0 : Nat) }) n c, Value.slice (some { block := (1 : Nat), off := (0 : Nat) }) (0 : Nat) d] (0 : Nat) false true false) :: some (AObj.row [Value.string nm2, Value.int IntKind.i64 g, Value.slice (some { block := (2 : Nat), off := (0 : Nat) }) n c2, Value.slice (some { block := (3 : Nat), off := (0 : Nat) }) (0 : Nat) d2] (0 : Nat) false true false) :: some (AObj.row [Value.int IntKind.i64 (0 : Int), Value.int IntKind.i64 (0 : Int)] (0 : Nat) false true true) :: noH = some (AObj.row (flts xs) (1 : Nat) true true true) :: some (AObj.row [] (2 : Nat) true true true) :: some (AObj.row (flts xs) (1 : Nat) true true true) :: some (AObj.row [] (2 : Nat) true true true) :: some (AObj.row [Value.string nm1, Value.int IntKind.i64 f, Value.slice (some { block := (0 : Nat), off := (0 : Nat) }) n c, Value.slice (some { block := (1 : Nat), off := (0 : Nat) }) (0 : Nat) d] (0 : Nat) false true false) :: some (AObj.row [Value.string nm2, Value.int IntKind.i64 g, Value.slice (some { block := (2 : Nat), off := (0 : Nat) }) n c2, Value.slice (some { block := (3 : Nat), off := (0 : Nat) }) (0 : Nat) d2] (0 : Nat) false true false) :: some (AObj.row [Value.int IntKind.i64 (0 : Int), Value.int IntKind.i64 (0 : Int)] (0 : Nat) false true true) :: noH))) (br (mnZ z n s == (0 : Int)) (K (Value.tuple #[Value.int IntKind.i64 (0 : Int), Value.agg #[Value.int IntKind.i64 (0 : Int), Value.int IntKind.i64 (0 : Int)], Value.int IntKind.i64 (7 : Int)]) (some (AObj.row (flts xs) (1 : Nat) true true true) :: some (AObj.row [] (2 : Nat) true true true) :: some (AObj.row (flts xs) (1 : Nat) true true true) :: some (AObj.row [] (2 : Nat) true true true) :: noH)) (Is ((0 : Int) < mnZ z n s ∧ mnZ z n s ≤ (1000000000 : Int)) ∧ K (Value.tuple #[Value.int IntKind.i64 (bsZ z s), Value.agg #[Value.int IntKind.i64 (0 : Int), Value.int IntKind.i64 (1 : Int)], Value.int IntKind.i64 (0 : Int)]) (some (AObj.row (flts xs) (1 : Nat) true true true) :: some (AObj.row [] (2 : Nat) true true true) :: some (AObj.row (flts xs) (1 : Nat) true true true) :: some (AObj.row [] (2 : Nat) true true true) :: noH))))) := by kernel_rfl
theorem mt_hit {z sh : Int} {n s : Nat} (h : ixZ z = s) (e : sh = z) : bsZ z (s + 1) = sh ∧ mnZ z n (s + 1) = n ∧ mnZ z n s = 0 := by
  rw [bsZ, mnZ, mnZ, if_pos (by omega), if_pos (by omega), if_neg (by omega), e]
  exact ⟨rfl, rfl, rfl⟩
theorem mt_miss {z : Int} {n s : Nat} (h : ixZ z ≠ s) : bsZ z (s + 1) = bsZ z s ∧ mnZ z n (s + 1) = mnZ z n s := by
  rw [bsZ, bsZ, mnZ, mnZ]
  by_cases h2 : ixZ z < s
  · rw [if_pos h2, if_pos h2, if_pos (by omega), if_pos (by omega)]; exact ⟨rfl, rfl⟩
  · rw [if_neg h2, if_neg h2, if_neg (by omega), if_neg (by omega)]; exact ⟨rfl, rfl⟩
theorem half_eq {s : Nat} (h : s < 1000) : IntKind.wrap .i64 ((IntKind.wrap .i64 ((s : Int) + 1)).tdiv 2) = (((s + 1) / 2 : Nat) : Int) := by
  have e : (((s + 1 : Nat) : Int)).tdiv 2 = (((s + 1) / 2 : Nat) : Int) := by
    rw [Int.tdiv_eq_ediv_of_nonneg (by omega)]; omega
  rw [wrap_eq (x := (s : Int) + 1) (by omega) (by omega)]
  have e2 : (s : Int) + 1 = ((s + 1 : Nat) : Int) := by omega
  rw [e2, e, wrap_eq (by omega) (by omega)]
theorem ix_odd {z : Int} {s : Nat} (h : s % 2 = 1) : (-(((s + 1) / 2 : Nat) : Int) = z) ↔ ixZ z = s := by
  rw [ixZ]
  split <;> omega
theorem ix_even {z : Int} {s : Nat} (h : ¬ s % 2 = 1) : ((((s + 1) / 2 : Nat) : Int) = z) ↔ ixZ z = s := by
  rw [ixZ]
  split <;> omega
theorem odd_of {s : Nat} : (((s : Int)).tmod 2 == 1) = decide (s % 2 = 1) := by
  rw [Int.tmod_eq_emod_of_nonneg (by omega)]
  by_cases h : s % 2 = 1
  · rw [decide_eq_true h]; exact beq_iff_eq.2 (by omega)
  · rw [decide_eq_false h]; exact beq_eq_false_iff_ne.2 (by omega)
set_option maxRecDepth 100000 in
theorem mt_ok {nm1 nm2 : ByteArray} {f g z : Int} {w n c d c2 d2 : Nat} {xs : List Nat} (hw : w ≤ 256) (hn : xs.length = n) (h0 : 0 < n) (h9 : n ≤ 4096) (hf : f.natAbs ≤ 1000000000) (hg : g.natAbs ≤ 1000000000) (hz : z = f - g) (hz2 : z.natAbs ≤ w)
    (ha : runE nm1 f xs n [] = 0) (hb : runE nm2 g xs n [] = 0) :
    SmallRes Try.prog 10 [.agg (runA nm1 f 0 n c 1 0 d).toArray, .agg (runA nm2 g 2 n c2 3 0 d2).toArray, .int .i64 (w : Int), .int .i64 (n : Int)] (hp4r xs [] xs [] []) (.tuple #[.int .i64 z, .agg #[.int .i64 0, .int .i64 1], .int .i64 0]) (hp4r xs [] xs [] []) := by
  refine fnP_res hm cA3_ok (hs := hsMt nm1 nm2 f g z w n c d c2 d2 xs) ?_
  rw [mt_t]
  have hr : isRun xs [] n 0 (flts xs) [] := ⟨rfl, rfl, hn, by omega, rfl, by decide⟩
  have hx : fi (xs.map sE) = 0 := by
    obtain ⟨_, _, _, _, hx, _⟩ := run_zero ha
    exact hx
  have e0 : fi [runE nm1 f xs n [], runE nm2 g xs n [], wi (w : Int) 0 256, wi (n : Int) 1 4096] = 0 := by
    rw [ha, hb, wi_zero.2 (show 0 ≤ (w : Int) ∧ (w : Int) ≤ 256 by omega), wi_zero.2 (show 1 ≤ (n : Int) ∧ (n : Int) ≤ 4096 by omega)]; rfl
  have ew2 : IntKind.wrap .i64 (IntKind.wrap .i64 (2 * (w : Int)) + 1) = ((2 * w + 1 : Nat) : Int) := by rw [wrap_eq (x := 2 * (w : Int)) (by omega) (by omega), wrap_eq (by omega) (by omega)]; omega
  rw [e0, ew2]
  have hix : ixZ z ≤ 2 * w := by rw [ixZ]; split <;> omega
  have em : ∀ s, mnZ z n s = 0 ∨ mnZ z n s = n := fun s => by
    rw [mnZ]; split
    · exact .inr rfl
    · exact .inl rfl
  refine ⟨⟨hr⟩, ⟨hr⟩, br_of (fun h => by cases h) (fun _ => ⟨⟨(0 : Nat), ⟨by omega⟩, by first | trivial | rfl, by first | trivial | rfl⟩, fun s hs' => br_of (fun hc => ?_) (fun hc => ?_)⟩)⟩
  · have hc : s < 2 * w + 1 := by have := of_decide_eq_true hc; omega
    have hu : IntKind.wrap .i64 ((s : Int) + 1) = ((s + 1 : Nat) : Int) := by rw [wrap_eq (by omega) (by omega)]; rfl
    have step : ∀ sh : Int, sh.natAbs ≤ 1000 → (sh = z ↔ ixZ z = s) →
        (dM n (sh + g - f) n = n ∧ dS xs n (sh + g - f) n = 0 ∧ bsZ z (s + 1) = sh ∧ mnZ z n (s + 1) = n ∧ mnZ z n s = 0) ∨ (dM n (sh + g - f) n < n ∧ bsZ z (s + 1) = bsZ z s ∧ mnZ z n (s + 1) = mnZ z n s) := fun sh _ hi => by
      by_cases e : sh = z
      · have e2 : sh + g - f = 0 := by omega
        rw [e2, dS_zero, dM_zero n n (Nat.le_refl _)]
        exact .inl ⟨rfl, rfl, mt_hit (hi.1 e) e⟩
      · exact .inr ⟨dM_less (by omega) h0, mt_miss (fun h => e (hi.2 h))⟩
    rw [half_eq (by omega), hu, odd_of]
    refine ⟨⟨by decide⟩, ⟨by decide⟩, br_of (fun ho => ?_) (fun ho => ?_)⟩
    · have ho := of_decide_eq_true ho
      have ew : IntKind.wrap .i64 (0 - (((s + 1) / 2 : Nat) : Int)) = -(((s + 1) / 2 : Nat) : Int) := by rw [wrap_eq (by omega) (by omega)]; omega
      rw [ew]
      have hst := step _ (by omega) (ix_odd ho)
      refine ⟨⟨by first | trivial | rfl, by first | trivial | rfl, hn, rfl, by omega, hx, hf, hg, by omega⟩, ?_⟩
      rcases hst with ⟨q1, q2, q3, q4, q5⟩ | ⟨q1, q2, q3⟩
      · rw [q1, q2, q5]
        refine br_of (fun _ => br_of (fun _ => ⟨s + 1, ⟨hc⟩, ⟨by omega⟩, by rw [q3, q4]; first | done | ((repeat' refine And.intro ?_ ?_) <;> first | rfl | trivial), by first | trivial | rfl⟩) (fun h => by cases h)) (fun h => by have := of_decide_eq_false h; omega)
      · refine br_of (fun h => by have := of_decide_eq_true h; omega) (fun _ => ⟨s + 1, ⟨hc⟩, ⟨by omega⟩, by rw [q2, q3]; first | done | ((repeat' refine And.intro ?_ ?_) <;> first | rfl | trivial), by first | trivial | rfl⟩)
    · have ho := of_decide_eq_false ho
      have hst := step _ (by omega) (ix_even ho)
      refine ⟨⟨by first | trivial | rfl, by first | trivial | rfl, hn, rfl, by omega, hx, hf, hg, by omega⟩, ?_⟩
      rcases hst with ⟨q1, q2, q3, q4, q5⟩ | ⟨q1, q2, q3⟩
      · rw [q1, q2, q5]
        refine br_of (fun _ => br_of (fun _ => ⟨s + 1, ⟨hc⟩, ⟨by omega⟩, by rw [q3, q4]; first | done | ((repeat' refine And.intro ?_ ?_) <;> first | rfl | trivial), by first | trivial | rfl⟩) (fun h => by cases h)) (fun h => by have := of_decide_eq_false h; omega)
      · refine br_of (fun h => by have := of_decide_eq_true h; omega) (fun _ => ⟨s + 1, ⟨hc⟩, ⟨by omega⟩, by rw [q2, q3]; first | done | ((repeat' refine And.intro ?_ ?_) <;> first | rfl | trivial), by first | trivial | rfl⟩)
  · have hc : 2 * w + 1 ≤ s := by have := of_decide_eq_false hc; omega
    have : s = 2 * w + 1 := by have := hs'.out; omega
    subst this
    have e1 : mnZ z n (2 * w + 1) = n := by rw [mnZ, if_pos (by omega)]
    have e2 : bsZ z (2 * w + 1) = z := by rw [bsZ, if_pos (by omega)]
    rw [e1, e2]
    exact br_of (fun h => by have := eq_of_beq h; omega) (fun _ => ⟨⟨by omega, by omega⟩, by first | trivial | rfl, by first | trivial | rfl⟩)
noncomputable def orcMt (xs : List Nat) : OrcV
  | [.agg ⟨[.string nm1, .int .i64 f, .slice (some ⟨0, 0, none⟩) n _, .slice (some ⟨1, 0, none⟩) 0 _]⟩, .agg ⟨[.string nm2, .int .i64 g, .slice (some ⟨2, 0, none⟩) m _, .slice (some ⟨3, 0, none⟩) 0 _]⟩, .int .i64 wi, .int .i64 t],
    [some (.row e1 1 true true true), some (.row [] 2 true true true), some (.row e3 1 true true true), some (.row [] 2 true true true)] =>
    some (.tuple #[.int .i64 (f - g), .agg #[.int .i64 0, .int .i64 1], .int .i64 0], [some (.row e1 1 true true true), some (.row [] 2 true true true), some (.row e3 1 true true true), some (.row [] 2 true true true)],
      e1 = flts xs ∧ e3 = flts xs ∧ xs.length = n ∧ m = n ∧ t = (n : Int) ∧ 0 < n ∧ n ≤ 4096 ∧ f.natAbs ≤ 1000000000 ∧ g.natAbs ≤ 1000000000 ∧ 0 ≤ wi ∧ wi ≤ 256 ∧ (f - g).natAbs ≤ wi.toNat ∧ runE nm1 f xs n [] = 0 ∧ runE nm2 g xs n [] = 0)
  | _, _ => none
theorem okMt (xs : List Nat) : OkV Try.prog 10 (orcMt xs) := by
  intro args H ret H' vc h hv
  unfold orcMt at h
  split at h
  · cases h
    obtain ⟨rfl, rfl, h1, rfl, rfl, h2, h3, h4, h5, w0, w1, h6, h7, h8⟩ := hv
    obtain ⟨w, rfl⟩ := Int.eq_ofNat_of_zero_le w0
    exact mt_ok (by omega) h1 h2 h3 h4 h5 rfl (by simpa using h6) h7 h8
  · cases h
end
end Qq
end
section
/- The samples of a run, visited with whether they are known. -/
open Go Go.Vm Go.Proofs Sp
namespace Sp
noncomputable section
/-- How many holes are left behind, before an index is looked at. -/
def hpA (hs : List Int) (k : Nat) : Nat → Nat
  | 0 => 0
  | i + 1 => if hpA hs k i < k ∧ hs.getD (hpA hs k i * 2 + 1) 0 ≤ (i : Int) then hpA hs k i + 1 else hpA hs k i
def capH (p d : Nat) : Nat := if p = 0 then d else big
end
end Sp
namespace Qq
noncomputable section
noncomputable def hcR (nm : ByteArray) (f : Int) (n c k d : Nat) (xs : List Nat) (hs : List Int) : Heap := [some (.row (runA nm f 1 n c 2 k d) 0 false false false), some (.row (flts xs) 1 true false true), some (.row (ints hs) 2 true false true)]
noncomputable def elR (xs : List Nat) (hs : List Int) (i : Nat) : List Value := [.agg #[.int .i64 (i : Int), .int .i64 (lev (xs.getD i 0)), .bool (knB hs (i : Int))]]
noncomputable def lyR (nm : ByteArray) (f : Int) (n c k d : Nat) (xs : List Nat) (hs : List Int) (l : Nat) : Ly where
  σ := Nat
  E i := slots 50 [(0, .func (.yield l) #[] #[]), (1, .pointer (some ⟨0, 0, none⟩)), (3, .slice (some ⟨2, hpA hs k i * 2, none⟩) (k - hpA hs k i) (capH (hpA hs k i) d)), (10, .slice (some ⟨1, 0, none⟩) n c), (11, .int .i64 (Int.ofNat n)), (12, .int .i64 (Int.ofNat i))]
  Hp _ := hcR nm f n c k d xs hs
  I i := i ≤ n
  m i := n - i
  gi i := i
noncomputable def hsR (nm : ByteArray) (f : Int) (n c k d : Nat) (xs : List Nat) (hs : List Int) (l : Nat) : Ys Try.prog where
  op y := if [301, 406, 606].contains y then some (hIa Try.prog) else if y = 302 then some (hLd Try.prog (xF xs)) else if [408, 608].contains y then some (hLd Try.prog (zI hs)) else if y = 501 then some (hSl Try.prog) else none
  ys := [7]
  ly _ := some (lyR nm f n c k d xs hs l)
  cl _ := keep 50 [0, 1, 3, 10, 11, 12]
  au := auCalls [(59, hCa Try.prog 59 orcLe okLe)]
noncomputable def cpR : List Value := [.pointer (some ⟨0, 0, none⟩)]
theorem itR_t (nm : ByteArray) (f : Int) (n : Nat) (c : Nat) (k : Nat) (d : Nat) (xs : List Nat) (hs : List Int) (K : Prop) :
    (iterZ Try.prog c0 (hsR nm f n c k d xs hs) (hcR nm f n c k d xs hs) n (elR xs hs) (58 : FuncId) cpR) =
    (∀ (l : Nat), (false = false ∧ ∃ (s : Nat), Is (s ≤ n) ∧ Is ((0 : Nat) = s) ∧ [Value.func (Fn.yield l) #[] #[], Value.pointer (some { block := (0 : Nat), off := (0 : Nat) }), poi, Value.slice (some { block := (2 : Nat), off := (0 : Nat) }) k d, poi, poi, poi, poi, poi, poi, Value.slice (some { block := (1 : Nat), off := (0 : Nat) }) n c, Value.int IntKind.i64 (↑n : Int), Value.int IntKind.i64 (0 : Int), poi, poi, poi, poi, poi, poi, poi, poi, poi, poi, poi, poi, poi, poi, poi, poi, poi, poi, poi, poi, poi, poi, poi, poi, poi, poi, poi, poi, poi, poi, poi, poi, poi, poi, poi, poi, poi] = [Value.func (Fn.yield l) #[] #[], Value.pointer (some { block := (0 : Nat), off := (0 : Nat) }), poi, Value.slice (some { block := (2 : Nat), off := hpA hs k s * (2 : Nat) }) (k - hpA hs k s) (capH (hpA hs k s) d), poi, poi, poi, poi, poi, poi, Value.slice (some { block := (1 : Nat), off := (0 : Nat) }) n c, Value.int IntKind.i64 (↑n : Int), Value.int IntKind.i64 (↑s : Int), poi, poi, poi, poi, poi, poi, poi, poi, poi, poi, poi, poi, poi, poi, poi, poi, poi, poi, poi, poi, poi, poi, poi, poi, poi, poi, poi, poi, poi, poi, poi, poi, poi, poi, poi, poi, poi] ∧ some (AObj.row [Value.string nm, Value.int IntKind.i64 f, Value.slice (some { block := (1 : Nat), off := (0 : Nat) }) n c, Value.slice (some { block := (2 : Nat), off := (0 : Nat) }) k d] (0 : Nat) false false false) :: some (AObj.row (flts xs) (1 : Nat) true false true) :: some (AObj.row (ints hs) (2 : Nat) true false true) :: noH = some (AObj.row [Value.string nm, Value.int IntKind.i64 f, Value.slice (some { block := (1 : Nat), off := (0 : Nat) }) n c, Value.slice (some { block := (2 : Nat), off := (0 : Nat) }) k d] (0 : Nat) false false false) :: some (AObj.row (flts xs) (1 : Nat) true false true) :: some (AObj.row (ints hs) (2 : Nat) true false true) :: noH) ∧ ∀ (s : Nat), Is (s ≤ n) → br (decide ((↑s : Int) < (↑n : Int))) (Is ((0 : Int) ≤ (↑s : Int) ∧ (↑s : Int) < (↑n : Int)) ∧ Is ((flts xs)[(0 : Nat) + Int.toNat (↑s : Int) * (1 : Nat)]? = some (Value.float FloatKind.f32 (List.getD xs ((0 : Nat) + Int.toNat (↑s : Int) * (1 : Nat)) (0 : Nat)))) ∧ br (decide ((0 : Int) < (↑(k - hpA hs k s) : Int))) (Is ((0 : Int) ≤ (0 : Int) ∧ (0 : Int) < (↑(k - hpA hs k s) : Int)) ∧ Is ((ints hs)[hpA hs k s * (2 : Nat) + (0 : Nat) + (1 : Nat)]? = some (Value.int IntKind.i64 (List.getD hs (hpA hs k s * (2 : Nat) + (0 : Nat) + (1 : Nat)) (0 : Int)))) ∧ br (decide (List.getD hs (hpA hs k s * (2 : Nat) + (0 : Nat) + (1 : Nat)) (0 : Int) ≤ (↑s : Int))) (Is ((0 : Int) ≤ (1 : Int) ∧ (1 : Int) ≤ (↑(k - hpA hs k s) : Int) ∧ (↑(k - hpA hs k s) : Int) ≤ (↑(k - hpA hs k s) : Int)) ∧ br ((↑(Int.toNat (↑(k - hpA hs k s) : Int) - (1 : Nat)) : Int) == (0 : Int)) (Is (sE (List.getD xs ((0 : Nat) + Int.toNat (↑s : Int) * (1 : Nat)) (0 : Nat)) = (0 : Int)) ∧ Is (s < n) ∧ l = l ∧ [Value.agg #[Value.int IntKind.i64 (↑s : Int), Value.int IntKind.i64 (lev (List.getD xs ((0 : Nat) + Int.toNat (↑s : Int) * (1 : Nat)) (0 : Nat))), Value.bool true]] = [Value.agg #[Value.int IntKind.i64 (↑s : Int), Value.int IntKind.i64 (lev (List.getD xs s (0 : Nat))), Value.bool (knB hs (↑s : Int))]] ∧ (false = false ∧ ∃ (s' : Nat), Is (s' ≤ n) ∧ Is (n - s' < n - s) ∧ Is (s + (1 : Nat) = s') ∧ [Value.func (Fn.yield l) #[] #[], Value.pointer (some { block := (0 : Nat), off := (0 : Nat) }), poi, Value.slice (some { block := (2 : Nat), off := hpA hs k s * (2 : Nat) + (2 : Nat) }) (Int.toNat (↑(k - hpA hs k s) : Int) - (1 : Nat)) (18446744073709551616 : Nat), poi, poi, poi, poi, poi, poi, Value.slice (some { block := (1 : Nat), off := (0 : Nat) }) n c, Value.int IntKind.i64 (↑n : Int), Value.int IntKind.i64 (IntKind.wrap IntKind.i64 ((↑s : Int) + (1 : Int))), poi, poi, poi, poi, poi, poi, poi, poi, poi, poi, poi, poi, poi, poi, poi, poi, poi, poi, poi, poi, poi, poi, poi, poi, poi, poi, poi, poi, poi, poi, poi, poi, poi, poi, poi, poi, poi] = [Value.func (Fn.yield l) #[] #[], Value.pointer (some { block := (0 : Nat), off := (0 : Nat) }), poi, Value.slice (some { block := (2 : Nat), off := hpA hs k s' * (2 : Nat) }) (k - hpA hs k s') (capH (hpA hs k s') d), poi, poi, poi, poi, poi, poi, Value.slice (some { block := (1 : Nat), off := (0 : Nat) }) n c, Value.int IntKind.i64 (↑n : Int), Value.int IntKind.i64 (↑s' : Int), poi, poi, poi, poi, poi, poi, poi, poi, poi, poi, poi, poi, poi, poi, poi, poi, poi, poi, poi, poi, poi, poi, poi, poi, poi, poi, poi, poi, poi, poi, poi, poi, poi, poi, poi, poi, poi] ∧ some (AObj.row [Value.string nm, Value.int IntKind.i64 f, Value.slice (some { block := (1 : Nat), off := (0 : Nat) }) n c, Value.slice (some { block := (2 : Nat), off := (0 : Nat) }) k d] (0 : Nat) false false false) :: some (AObj.row (flts xs) (1 : Nat) true false true) :: some (AObj.row (ints hs) (2 : Nat) true false true) :: noH = some (AObj.row [Value.string nm, Value.int IntKind.i64 f, Value.slice (some { block := (1 : Nat), off := (0 : Nat) }) n c, Value.slice (some { block := (2 : Nat), off := (0 : Nat) }) k d] (0 : Nat) false false false) :: some (AObj.row (flts xs) (1 : Nat) true false true) :: some (AObj.row (ints hs) (2 : Nat) true false true) :: noH) ∧ Is (s < n)) (Is ((0 : Int) ≤ (0 : Int) ∧ (0 : Int) < (↑(Int.toNat (↑(k - hpA hs k s) : Int) - (1 : Nat)) : Int)) ∧ Is ((ints hs)[hpA hs k s * (2 : Nat) + (2 : Nat) + (0 : Nat) + (0 : Nat)]? = some (Value.int IntKind.i64 (List.getD hs (hpA hs k s * (2 : Nat) + (2 : Nat) + (0 : Nat) + (0 : Nat)) (0 : Int)))) ∧ Is (sE (List.getD xs ((0 : Nat) + Int.toNat (↑s : Int) * (1 : Nat)) (0 : Nat)) = (0 : Int)) ∧ Is (s < n) ∧ l = l ∧ [Value.agg #[Value.int IntKind.i64 (↑s : Int), Value.int IntKind.i64 (lev (List.getD xs ((0 : Nat) + Int.toNat (↑s : Int) * (1 : Nat)) (0 : Nat))), Value.bool (decide ((↑s : Int) < List.getD hs (hpA hs k s * (2 : Nat) + (2 : Nat) + (0 : Nat) + (0 : Nat)) (0 : Int)))]] = [Value.agg #[Value.int IntKind.i64 (↑s : Int), Value.int IntKind.i64 (lev (List.getD xs s (0 : Nat))), Value.bool (knB hs (↑s : Int))]] ∧ (false = false ∧ ∃ (s' : Nat), Is (s' ≤ n) ∧ Is (n - s' < n - s) ∧ Is (s + (1 : Nat) = s') ∧ [Value.func (Fn.yield l) #[] #[], Value.pointer (some { block := (0 : Nat), off := (0 : Nat) }), poi, Value.slice (some { block := (2 : Nat), off := hpA hs k s * (2 : Nat) + (2 : Nat) }) (Int.toNat (↑(k - hpA hs k s) : Int) - (1 : Nat)) (18446744073709551616 : Nat), poi, poi, poi, poi, poi, poi, Value.slice (some { block := (1 : Nat), off := (0 : Nat) }) n c, Value.int IntKind.i64 (↑n : Int), Value.int IntKind.i64 (IntKind.wrap IntKind.i64 ((↑s : Int) + (1 : Int))), poi, poi, poi, poi, poi, poi, poi, poi, poi, poi, poi, poi, poi, poi, poi, poi, poi, poi, poi, poi, poi, poi, poi, poi, poi, poi, poi, poi, poi, poi, poi, poi, poi, poi, poi, poi, poi] = [Value.func (Fn.yield l) #[] #[], Value.pointer (some { block := (0 : Nat), off := (0 : Nat) }), poi, Value.slice (some { block := (2 : Nat), off := hpA hs k s' * (2 : Nat) }) (k - hpA hs k s') (capH (hpA hs k s') d), poi, poi, poi, poi, poi, poi, Value.slice (some { block := (1 : Nat), off := (0 : Nat) }) n c, Value.int IntKind.i64 (↑n : Int), Value.int IntKind.i64 (↑s' : Int), poi, poi, poi, poi, poi, poi, poi, poi, poi, poi, poi, poi, poi, poi, poi, poi, poi, poi, poi, poi, poi, poi, poi, poi, poi, poi, poi, poi, poi, poi, poi, poi, poi, poi, poi, poi, poi] ∧ some (AObj.row [Value.string nm, Value.int IntKind.i64 f, Value.slice (some { block := (1 : Nat), off := (0 : Nat) }) n c, Value.slice (some { block := (2 : Nat), off := (0 : Nat) }) k d] (0 : Nat) false false false) :: some (AObj.row (flts xs) (1 : Nat) true false true) :: some (AObj.row (ints hs) (2 : Nat) true false true) :: noH = some (AObj.row [Value.string nm, Value.int IntKind.i64 f, Value.slice (some { block := (1 : Nat), off := (0 : Nat) }) n c, Value.slice (some { block := (2 : Nat), off := (0 : Nat) }) k d] (0 : Nat) false false false) :: some (AObj.row (flts xs) (1 : Nat) true false true) :: some (AObj.row (ints hs) (2 : Nat) true false true) :: noH) ∧ Is (s < n))) (br ((↑(k - hpA hs k s) : Int) == (0 : Int)) (Is (sE (List.getD xs ((0 : Nat) + Int.toNat (↑s : Int) * (1 : Nat)) (0 : Nat)) = (0 : Int)) ∧ Is (s < n) ∧ l = l ∧ [Value.agg #[Value.int IntKind.i64 (↑s : Int), Value.int IntKind.i64 (lev (List.getD xs ((0 : Nat) + Int.toNat (↑s : Int) * (1 : Nat)) (0 : Nat))), Value.bool true]] = [Value.agg #[Value.int IntKind.i64 (↑s : Int), Value.int IntKind.i64 (lev (List.getD xs s (0 : Nat))), Value.bool (knB hs (↑s : Int))]] ∧ (false = false ∧ ∃ (s' : Nat), Is (s' ≤ n) ∧ Is (n - s' < n - s) ∧ Is (s + (1 : Nat) = s') ∧ [Value.func (Fn.yield l) #[] #[], Value.pointer (some { block := (0 : Nat), off := (0 : Nat) }), poi, Value.slice (some { block := (2 : Nat), off := hpA hs k s * (2 : Nat) }) (k - hpA hs k s) (capH (hpA hs k s) d), poi, poi, poi, poi, poi, poi, Value.slice (some { block := (1 : Nat), off := (0 : Nat) }) n c, Value.int IntKind.i64 (↑n : Int), Value.int IntKind.i64 (IntKind.wrap IntKind.i64 ((↑s : Int) + (1 : Int))), poi, poi, poi, poi, poi, poi, poi, poi, poi, poi, poi, poi, poi, poi, poi, poi, poi, poi, poi, poi, poi, poi, poi, poi, poi, poi, poi, poi, poi, poi, poi, poi, poi, poi, poi, poi, poi] = [Value.func (Fn.yield l) #[] #[], Value.pointer (some { block := (0 : Nat), off := (0 : Nat) }), poi, Value.slice (some { block := (2 : Nat), off := hpA hs k s' * (2 : Nat) }) (k - hpA hs k s') (capH (hpA hs k s') d), poi, poi, poi, poi, poi, poi, Value.slice (some { block := (1 : Nat), off := (0 : Nat) }) n c, Value.int IntKind.i64 (↑n : Int), Value.int IntKind.i64 (↑s' : Int), poi, poi, poi, poi, poi, poi, poi, poi, poi, poi, poi, poi, poi, poi, poi, poi, poi, poi, poi, poi, poi, poi, poi, poi, poi, poi, poi, poi, poi, poi, poi, poi, poi, poi, poi, poi, poi] ∧ some (AObj.row [Value.string nm, Value.int IntKind.i64 f, Value.slice (some { block := (1 : Nat), off := (0 : Nat) }) n c, Value.slice (some { block := (2 : Nat), off := (0 : Nat) }) k d] (0 : Nat) false false false) :: some (AObj.row (flts xs) (1 : Nat) true false true) :: some (AObj.row (ints hs) (2 : Nat) true false true) :: noH = some (AObj.row [Value.string nm, Value.int IntKind.i64 f, Value.slice (some { block := (1 : Nat), off := (0 : Nat) }) n c, Value.slice (some { block := (2 : Nat), off := (0 : Nat) }) k d] (0 : Nat) false false false) :: some (AObj.row (flts xs) (1 : Nat) true false true) :: some (AObj.row (ints hs) (2 : Nat) true false true) :: noH) ∧ Is (s < n)) (Is ((0 : Int) ≤ (0 : Int) ∧ (0 : Int) < (↑(k - hpA hs k s) : Int)) ∧ Is ((ints hs)[hpA hs k s * (2 : Nat) + (0 : Nat) + (0 : Nat)]? = some (Value.int IntKind.i64 (List.getD hs (hpA hs k s * (2 : Nat) + (0 : Nat) + (0 : Nat)) (0 : Int)))) ∧ Is (sE (List.getD xs ((0 : Nat) + Int.toNat (↑s : Int) * (1 : Nat)) (0 : Nat)) = (0 : Int)) ∧ Is (s < n) ∧ l = l ∧ [Value.agg #[Value.int IntKind.i64 (↑s : Int), Value.int IntKind.i64 (lev (List.getD xs ((0 : Nat) + Int.toNat (↑s : Int) * (1 : Nat)) (0 : Nat))), Value.bool (decide ((↑s : Int) < List.getD hs (hpA hs k s * (2 : Nat) + (0 : Nat) + (0 : Nat)) (0 : Int)))]] = [Value.agg #[Value.int IntKind.i64 (↑s : Int), Value.int IntKind.i64 (lev (List.getD xs s (0 : Nat))), Value.bool (knB hs (↑s : Int))]] ∧ (false = false ∧ ∃ (s' : Nat), Is (s' ≤ n) ∧ Is (n - s' < n - s) ∧ Is (s + (1 : Nat) = s') ∧ [Value.func (Fn.yield l) #[] #[], Value.pointer (some { block := (0 : Nat), off := (0 : Nat) }), poi, Value.slice (some { block := (2 : Nat), off := hpA hs k s * (2 : Nat) }) (k - hpA hs k s) (capH (hpA hs k s) d), poi, poi, poi, poi, poi, poi, Value.slice (some { block := (1 : Nat), off := (0 : Nat) }) n c, Value.int IntKind.i64 (↑n : Int), Value.int IntKind.i64 (IntKind.wrap IntKind.i64 ((↑s : Int) + (1 : Int))), poi, poi, poi, poi, poi, poi, poi, poi, poi, poi, poi, poi, poi, poi, poi, poi, poi, poi, poi, poi, poi, poi, poi, poi, poi, poi, poi, poi, poi, poi, poi, poi, poi, poi, poi, poi, poi] = [Value.func (Fn.yield l) #[] #[], Value.pointer (some { block := (0 : Nat), off := (0 : Nat) }), poi, Value.slice (some { block := (2 : Nat), off := hpA hs k s' * (2 : Nat) }) (k - hpA hs k s') (capH (hpA hs k s') d), poi, poi, poi, poi, poi, poi, Value.slice (some { block := (1 : Nat), off := (0 : Nat) }) n c, Value.int IntKind.i64 (↑n : Int), Value.int IntKind.i64 (↑s' : Int), poi, poi, poi, poi, poi, poi, poi, poi, poi, poi, poi, poi, poi, poi, poi, poi, poi, poi, poi, poi, poi, poi, poi, poi, poi, poi, poi, poi, poi, poi, poi, poi, poi, poi, poi, poi, poi] ∧ some (AObj.row [Value.string nm, Value.int IntKind.i64 f, Value.slice (some { block := (1 : Nat), off := (0 : Nat) }) n c, Value.slice (some { block := (2 : Nat), off := (0 : Nat) }) k d] (0 : Nat) false false false) :: some (AObj.row (flts xs) (1 : Nat) true false true) :: some (AObj.row (ints hs) (2 : Nat) true false true) :: noH = some (AObj.row [Value.string nm, Value.int IntKind.i64 f, Value.slice (some { block := (1 : Nat), off := (0 : Nat) }) n c, Value.slice (some { block := (2 : Nat), off := (0 : Nat) }) k d] (0 : Nat) false false false) :: some (AObj.row (flts xs) (1 : Nat) true false true) :: some (AObj.row (ints hs) (2 : Nat) true false true) :: noH) ∧ Is (s < n)))) (br ((↑(k - hpA hs k s) : Int) == (0 : Int)) (Is (sE (List.getD xs ((0 : Nat) + Int.toNat (↑s : Int) * (1 : Nat)) (0 : Nat)) = (0 : Int)) ∧ Is (s < n) ∧ l = l ∧ [Value.agg #[Value.int IntKind.i64 (↑s : Int), Value.int IntKind.i64 (lev (List.getD xs ((0 : Nat) + Int.toNat (↑s : Int) * (1 : Nat)) (0 : Nat))), Value.bool true]] = [Value.agg #[Value.int IntKind.i64 (↑s : Int), Value.int IntKind.i64 (lev (List.getD xs s (0 : Nat))), Value.bool (knB hs (↑s : Int))]] ∧ (false = false ∧ ∃ (s' : Nat), Is (s' ≤ n) ∧ Is (n - s' < n - s) ∧ Is (s + (1 : Nat) = s') ∧ [Value.func (Fn.yield l) #[] #[], Value.pointer (some { block := (0 : Nat), off := (0 : Nat) }), poi, Value.slice (some { block := (2 : Nat), off := hpA hs k s * (2 : Nat) }) (k - hpA hs k s) (capH (hpA hs k s) d), poi, poi, poi, poi, poi, poi, Value.slice (some { block := (1 : Nat), off := (0 : Nat) }) n c, Value.int IntKind.i64 (↑n : Int), Value.int IntKind.i64 (IntKind.wrap IntKind.i64 ((↑s : Int) + (1 : Int))), poi, poi, poi, poi, poi, poi, poi, poi, poi, poi, poi, poi, poi, poi, poi, poi, poi, poi, poi, poi, poi, poi, poi, poi, poi, poi, poi, poi, poi, poi, poi, poi, poi, poi, poi, poi, poi] = [Value.func (Fn.yield l) #[] #[], Value.pointer (some { block := (0 : Nat), off := (0 : Nat) }), poi, Value.slice (some { block := (2 : Nat), off := hpA hs k s' * (2 : Nat) }) (k - hpA hs k s') (capH (hpA hs k s') d), poi, poi, poi, poi, poi, poi, Value.slice (some { block := (1 : Nat), off := (0 : Nat) }) n c, Value.int IntKind.i64 (↑n : Int), Value.int IntKind.i64 (↑s' : Int), poi, poi, poi, poi, poi, poi, poi, poi, poi, poi, poi, poi, poi, poi, poi, poi, poi, poi, poi, poi, poi, poi, poi, poi, poi, poi, poi, poi, poi, poi, poi, poi, poi, poi, poi, poi, poi] ∧ some (AObj.row [Value.string nm, Value.int IntKind.i64 f, Value.slice (some { block := (1 : Nat), off := (0 : Nat) }) n c, Value.slice (some { block := (2 : Nat), off := (0 : Nat) }) k d] (0 : Nat) false false false) :: some (AObj.row (flts xs) (1 : Nat) true false true) :: some (AObj.row (ints hs) (2 : Nat) true false true) :: noH = some (AObj.row [Value.string nm, Value.int IntKind.i64 f, Value.slice (some { block := (1 : Nat), off := (0 : Nat) }) n c, Value.slice (some { block := (2 : Nat), off := (0 : Nat) }) k d] (0 : Nat) false false false) :: some (AObj.row (flts xs) (1 : Nat) true false true) :: some (AObj.row (ints hs) (2 : Nat) true false true) :: noH) ∧ Is (s < n)) (Is ((0 : Int) ≤ (0 : Int) ∧ (0 : Int) < (↑(k - hpA hs k s) : Int)) ∧ Is ((ints hs)[hpA hs k s * (2 : Nat) + (0 : Nat) + (0 : Nat)]? = some (Value.int IntKind.i64 (List.getD hs (hpA hs k s * (2 : Nat) + (0 : Nat) + (0 : Nat)) (0 : Int)))) ∧ Is (sE (List.getD xs ((0 : Nat) + Int.toNat (↑s : Int) * (1 : Nat)) (0 : Nat)) = (0 : Int)) ∧ Is (s < n) ∧ l = l ∧ [Value.agg #[Value.int IntKind.i64 (↑s : Int), Value.int IntKind.i64 (lev (List.getD xs ((0 : Nat) + Int.toNat (↑s : Int) * (1 : Nat)) (0 : Nat))), Value.bool (decide ((↑s : Int) < List.getD hs (hpA hs k s * (2 : Nat) + (0 : Nat) + (0 : Nat)) (0 : Int)))]] = [Value.agg #[Value.int IntKind.i64 (↑s : Int), Value.int IntKind.i64 (lev (List.getD xs s (0 : Nat))), Value.bool (knB hs (↑s : Int))]] ∧ (false = false ∧ ∃ (s' : Nat), Is (s' ≤ n) ∧ Is (n - s' < n - s) ∧ Is (s + (1 : Nat) = s') ∧ [Value.func (Fn.yield l) #[] #[], Value.pointer (some { block := (0 : Nat), off := (0 : Nat) }), poi, Value.slice (some { block := (2 : Nat), off := hpA hs k s * (2 : Nat) }) (k - hpA hs k s) (capH (hpA hs k s) d), poi, poi, poi, poi, poi, poi, Value.slice (some { block := (1 : Nat), off := (0 : Nat) }) n c, Value.int IntKind.i64 (↑n : Int), Value.int IntKind.i64 (IntKind.wrap IntKind.i64 ((↑s : Int) + (1 : Int))), poi, poi, poi, poi, poi, poi, poi, poi, poi, poi, poi, poi, poi, poi, poi, poi, poi, poi, poi, poi, poi, poi, poi, poi, poi, poi, poi, poi, poi, poi, poi, poi, poi, poi, poi, poi, poi] = [Value.func (Fn.yield l) #[] #[], Value.pointer (some { block := (0 : Nat), off := (0 : Nat) }), poi, Value.slice (some { block := (2 : Nat), off := hpA hs k s' * (2 : Nat) }) (k - hpA hs k s') (capH (hpA hs k s') d), poi, poi, poi, poi, poi, poi, Value.slice (some { block := (1 : Nat), off := (0 : Nat) }) n c, Value.int IntKind.i64 (↑n : Int), Value.int IntKind.i64 (↑s' : Int), poi, poi, poi, poi, poi, poi, poi, poi, poi, poi, poi, poi, poi, poi, poi, poi, poi, poi, poi, poi, poi, poi, poi, poi, poi, poi, poi, poi, poi, poi, poi, poi, poi, poi, poi, poi, poi] ∧ some (AObj.row [Value.string nm, Value.int IntKind.i64 f, Value.slice (some { block := (1 : Nat), off := (0 : Nat) }) n c, Value.slice (some { block := (2 : Nat), off := (0 : Nat) }) k d] (0 : Nat) false false false) :: some (AObj.row (flts xs) (1 : Nat) true false true) :: some (AObj.row (ints hs) (2 : Nat) true false true) :: noH = some (AObj.row [Value.string nm, Value.int IntKind.i64 f, Value.slice (some { block := (1 : Nat), off := (0 : Nat) }) n c, Value.slice (some { block := (2 : Nat), off := (0 : Nat) }) k d] (0 : Nat) false false false) :: some (AObj.row (flts xs) (1 : Nat) true false true) :: some (AObj.row (ints hs) (2 : Nat) true false true) :: noH) ∧ Is (s < n)))) (Is (s = n))) := by kernel_rfl
theorem hchk_two {n a b last : Int} {r : List Int} (h : hchk n (a :: b :: r) last = 0) : a < b ∧ hchk n r b = 0 := by
  have h1 := hchk_all (a :: b :: r) last h 0 (by simp)
  rw [hchk] at h
  obtain ⟨_, h2⟩ := sel_zero.1 h
  exact ⟨h1.2.2.1, h2⟩
theorem hch_next {n : Int} : ∀ (hs : List Int) (last : Int), hchk n hs last = 0 → ∀ i, i * 2 + 4 ≤ hs.length → hs.getD (i * 2 + 1) 0 < hs.getD (i * 2 + 2) 0
  | [], _, _, i, h => by simp at h
  | [_], _, _, i, h => by simp only [List.length_cons, List.length_nil] at h; omega
  | a :: b :: r, last, h, 0, hi => by
    obtain ⟨_, h2⟩ := hchk_two h
    have := (hchk_all r b h2 0 (by simp only [List.length_cons] at hi; omega)).1
    exact this
  | a :: b :: r, last, h, i + 1, hi => by
    obtain ⟨_, h2⟩ := hchk_two h
    have := hch_next r b h2 i (by simp only [List.length_cons] at hi; omega)
    have e1 : (a :: b :: r).getD ((i + 1) * 2 + 1) 0 = r.getD (i * 2 + 1) 0 := by rw [show (i + 1) * 2 + 1 = (i * 2 + 1) + 1 + 1 by omega]; rfl
    have e2 : (a :: b :: r).getD ((i + 1) * 2 + 2) 0 = r.getD (i * 2 + 2) 0 := by rw [show (i + 1) * 2 + 2 = (i * 2 + 2) + 1 + 1 by omega]; rfl
    rw [e1, e2]; exact this
theorem hch_lt {n : Int} {hs : List Int} {k : Nat} (hk : hs.length = k * 2) (h : hchk n hs (-1) = 0) (p : Nat) : ∀ e, p + e + 1 < k → hs.getD (p * 2 + 1) 0 < hs.getD ((p + e + 1) * 2) 0
  | 0, hq => by
    have := hch_next hs (-1) h p (by omega)
    rw [show (p + 0 + 1) * 2 = p * 2 + 2 by omega]; exact this
  | e + 1, hq => by
    have h1 := hch_lt hk h p e (by omega)
    have h2 := (hchk_all hs (-1) h (p + e + 1) (by omega)).2.2.1
    have h3 := hch_next hs (-1) h (p + e + 1) (by omega)
    rw [show (p + (e + 1) + 1) * 2 = (p + e + 1) * 2 + 2 by omega]; omega
theorem knB_iff : ∀ (hs : List Int) (i : Int), knB hs i = true ↔ ∀ q, q * 2 + 2 ≤ hs.length → ¬ (hs.getD (q * 2) 0 ≤ i ∧ i < hs.getD (q * 2 + 1) 0)
  | [], i => by simp [knB]
  | [_], i => ⟨fun _ q hq => by simp only [List.length_cons, List.length_nil] at hq; omega, fun _ => rfl⟩
  | a :: b :: r, i => by
    rw [knB, Bool.and_eq_true, knB_iff r i]
    refine ⟨fun ⟨h1, h2⟩ q hq => ?_, fun h => ⟨?_, fun q hq => ?_⟩⟩
    · cases q with
      | zero =>
        rintro ⟨g1, g2⟩
        have g1 : a ≤ i := g1
        have g2 : i < b := g2
        rw [decide_eq_true g1, decide_eq_true g2] at h1
        cases h1
      | succ q =>
        have e1 : (a :: b :: r).getD ((q + 1) * 2) 0 = r.getD (q * 2) 0 := by rw [show (q + 1) * 2 = (q * 2) + 1 + 1 by omega]; rfl
        have e2 : (a :: b :: r).getD ((q + 1) * 2 + 1) 0 = r.getD (q * 2 + 1) 0 := by rw [show (q + 1) * 2 + 1 = (q * 2 + 1) + 1 + 1 by omega]; rfl
        rw [e1, e2]
        exact h2 q (by simp only [List.length_cons] at hq; omega)
    · have := h 0 (by simp)
      by_cases g1 : a ≤ i
      · have g2 : ¬ i < b := fun g2 => this ⟨g1, g2⟩
        rw [decide_eq_false g2, Bool.and_false]; rfl
      · rw [decide_eq_false g1, Bool.false_and]; rfl
    · have := h (q + 1) (by simp only [List.length_cons]; omega)
      have e1 : (a :: b :: r).getD ((q + 1) * 2) 0 = r.getD (q * 2) 0 := by rw [show (q + 1) * 2 = (q * 2) + 1 + 1 by omega]; rfl
      have e2 : (a :: b :: r).getD ((q + 1) * 2 + 1) 0 = r.getD (q * 2 + 1) 0 := by rw [show (q + 1) * 2 + 1 = (q * 2 + 1) + 1 + 1 by omega]; rfl
      rw [e1, e2] at this; exact this
theorem hpA_le (hs : List Int) (k : Nat) : ∀ i, hpA hs k i ≤ k
  | 0 => Nat.zero_le _
  | i + 1 => by
    have := hpA_le hs k i
    rw [hpA]; split <;> omega
theorem hp_inv {n : Int} {hs : List Int} {k : Nat} (hk : hs.length = k * 2) (h : hchk n hs (-1) = 0) : ∀ i : Nat,
    (∀ q, q < hpA hs k i → hs.getD (q * 2 + 1) 0 < i) ∧ (∀ q, hpA hs k i ≤ q → q < k → (i : Int) ≤ hs.getD (q * 2 + 1) 0)
  | 0 => ⟨fun q hq => by simp [hpA] at hq, fun q _ hq => by have := hchk_all hs (-1) h q (by omega); omega⟩
  | i + 1 => by
    obtain ⟨h1, h2⟩ := hp_inv hk h i
    have far : ∀ q, hpA hs k i < q → q < k → hs.getD (hpA hs k i * 2 + 1) 0 < hs.getD (q * 2 + 1) 0 - 1 := fun q hq hqk => by
      have a1 := hch_lt hk h (hpA hs k i) (q - hpA hs k i - 1) (by omega)
      have a2 := (hchk_all hs (-1) h q (by omega)).2.2.1
      rw [show hpA hs k i + (q - hpA hs k i - 1) + 1 = q by omega] at a1
      omega
    rw [hpA]
    split
    · rename_i hc
      refine ⟨fun q hq => ?_, fun q hq hqk => ?_⟩
      · rcases Nat.lt_succ_iff_lt_or_eq.1 hq with h3 | rfl
        · have := h1 q h3; omega
        · omega
      · have a1 := far q (by omega) hqk
        have a2 := h2 (hpA hs k i) (Nat.le_refl _) hc.1
        omega
    · rename_i hc
      refine ⟨fun q hq => by have := h1 q hq; omega, fun q hq hqk => ?_⟩
      rcases Nat.eq_or_lt_of_le hq with rfl | h3
      · omega
      · have a1 := far q h3 hqk
        have a2 := h2 (hpA hs k i) (Nat.le_refl _) (by omega)
        omega
theorem hp_known {n : Int} {hs : List Int} {k : Nat} (hk : hs.length = k * 2) (h : hchk n hs (-1) = 0) (i : Nat) :
    (hpA hs k (i + 1) = k → knB hs (i : Int) = true) ∧ (hpA hs k (i + 1) < k → knB hs (i : Int) = decide ((i : Int) < hs.getD (hpA hs k (i + 1) * 2) 0)) := by
  obtain ⟨h1, h2⟩ := hp_inv hk h (i + 1)
  refine ⟨fun e => (knB_iff hs i).2 fun q hq => ?_, fun e => ?_⟩
  · have := h1 q (by omega)
    omega
  · by_cases hd : (i : Int) < hs.getD (hpA hs k (i + 1) * 2) 0
    · rw [decide_eq_true hd]
      refine (knB_iff hs i).2 fun q hq => ?_
      by_cases hqp : q < hpA hs k (i + 1)
      · have := h1 q hqp; omega
      · rcases Nat.eq_or_lt_of_le (Nat.le_of_not_lt hqp) with rfl | h3
        · omega
        · have a1 := hch_lt hk h (hpA hs k (i + 1)) (q - hpA hs k (i + 1) - 1) (by omega)
          rw [show hpA hs k (i + 1) + (q - hpA hs k (i + 1) - 1) + 1 = q by omega] at a1
          have a2 := (hchk_all hs (-1) h (hpA hs k (i + 1)) (by omega)).2.2.1
          omega
    · rw [decide_eq_false hd]
      refine Bool.eq_false_iff.2 fun hb => (knB_iff hs i).1 hb (hpA hs k (i + 1)) (by omega) ⟨by omega, ?_⟩
      have := h2 (hpA hs k (i + 1)) (Nat.le_refl _) e
      omega
set_option maxRecDepth 100000 in
theorem itR_ok {nm : ByteArray} {f : Int} {n c k d : Nat} {xs : List Nat} {hs : List Int} (hn : xs.length = n) (h9 : n ≤ 100000) (hk : hs.length = k * 2) (hk9 : k ≤ 100000) (hx : fi (xs.map sE) = 0) (hh : hchk n hs (-1) = 0) :
    IterRes Try.prog 58 cpR (hcR nm f n c k d xs hs) n (elR xs hs) :=
  iterZ_ok (hz := hsR nm f n c k d xs hs) hm c0_ok (by
    rw [itR_t nm f n c k d xs hs True]
    refine fun l => ⟨⟨rfl, (0 : Nat), ⟨Nat.zero_le _⟩, ⟨rfl⟩, by first | trivial | rfl, by first | trivial | rfl⟩, fun s hs' => br_of (fun hc => ?_) (fun hc => ⟨by have := hs'.out; have := ge_of_dec hc; omega⟩)⟩
    have hc := lt_of_dec hc
    have hp := hpA_le hs k s
    have hkn := hp_known hk hh s
    have es : sE (xs.getD s 0) = 0 := smps hx (by omega)
    have hu := up1 hc (by omega : n ≤ 100000)
    have ehp : hpA hs k (s + 1) = if hpA hs k s < k ∧ hs.getD (hpA hs k s * 2 + 1) 0 ≤ (s : Int) then hpA hs k s + 1 else hpA hs k s := rfl
    simp only [Nat.zero_add, Nat.mul_one, Nat.add_zero, Int.toNat_natCast]
    rw [hu]
    generalize hpd : hpA hs k s = p at *
    refine ⟨⟨by omega, by omega⟩, ⟨flts_at (by omega)⟩, br_of (fun h1 => ?_) (fun h1 => ?_)⟩
    · have h1 : p < k := by have := of_decide_eq_true h1; omega
      refine ⟨⟨by omega, by omega⟩, ⟨zint_at (by omega)⟩, br_of (fun h2 => ?_) (fun h2 => ?_)⟩
      · have h2 := of_decide_eq_true h2
        rw [if_pos ⟨h1, h2⟩] at ehp
        rw [ehp] at hkn
        have ecap : capH (p + 1) d = 18446744073709551616 := if_neg (by omega)
        refine ⟨⟨by omega, by omega, by omega⟩, br_of (fun h3 => ?_) (fun h3 => ?_)⟩
        · have h3 : k - p - 1 = 0 := by have := eq_of_beq h3; omega
          have e3 : p + 1 = k := by omega
          rw [hkn.1 e3]
          refine ⟨⟨es⟩, ⟨hc⟩, by first | trivial | rfl, by first | trivial | rfl, ⟨by first | trivial | rfl, s + 1, ⟨hc⟩, ⟨by omega⟩, ⟨rfl⟩, ?_, by first | trivial | rfl⟩, ⟨hc⟩⟩
          rw [ehp, ecap, show (p + 1) * 2 = p * 2 + 2 by omega, show k - (p + 1) = k - p - 1 by omega]
        · have h3 : ¬ k - p - 1 = 0 := by
            intro h; rw [h] at h3; cases h3
          have e3 : p + 1 < k := by omega
          rw [hkn.2 e3, show (p + 1) * 2 = p * 2 + 2 by omega]
          refine ⟨⟨by omega, by omega⟩, ⟨zint_at (by omega)⟩, ⟨es⟩, ⟨hc⟩, by first | trivial | rfl, by first | trivial | rfl, ⟨by first | trivial | rfl, s + 1, ⟨hc⟩, ⟨by omega⟩, ⟨rfl⟩, ?_, by first | trivial | rfl⟩, ⟨hc⟩⟩
          rw [ehp, ecap, show (p + 1) * 2 = p * 2 + 2 by omega, show k - (p + 1) = k - p - 1 by omega]
      · have h2 := of_decide_eq_false h2
        rw [if_neg (fun h => h2 h.2)] at ehp
        rw [ehp] at hkn
        refine br_of (fun h3 => by have := eq_of_beq h3; omega) (fun _ => ?_)
        rw [hkn.2 h1]
        refine ⟨⟨by omega, by omega⟩, ⟨zint_at (by omega)⟩, ⟨es⟩, ⟨hc⟩, by first | trivial | rfl, by first | trivial | rfl, ⟨by first | trivial | rfl, s + 1, ⟨hc⟩, ⟨by omega⟩, ⟨rfl⟩, ?_, by first | trivial | rfl⟩, ⟨hc⟩⟩
        rw [ehp]
    · have h1 : p = k := by have := of_decide_eq_false h1; omega
      rw [if_neg (fun h => by omega)] at ehp
      rw [ehp] at hkn
      refine br_of (fun _ => ?_) (fun h3 => by rw [h1, Nat.sub_self] at h3; cases h3)
      rw [hkn.1 h1]
      refine ⟨⟨es⟩, ⟨hc⟩, by first | trivial | rfl, by first | trivial | rfl, ⟨by first | trivial | rfl, s + 1, ⟨hc⟩, ⟨by omega⟩, ⟨rfl⟩, ?_, by first | trivial | rfl⟩, ⟨hc⟩⟩
      rw [ehp])
end
end Qq
end
section
/- All that is visited, collected. -/
open Go Go.Vm Go.Proofs Sp
namespace Sp
noncomputable section
noncomputable def rd3 (xs : List Nat) (hs : List Int) : Nat → List Value
  | 0 => []
  | i + 1 => rd3 xs hs i ++ [.int .i64 (i : Int), .int .i64 (lev (xs.getD i 0)), .bool (knB hs (i : Int))]
end
end Sp
namespace Qq
noncomputable section
noncomputable def fnR (i : Nat) : Value := .func (.func 58) #[] #[.pointer (some ⟨i, 0, none⟩)]
noncomputable def itRI (nm : ByteArray) (f : Int) (n c k d : Nat) (xs : List Nat) (hs : List Int) : It Try.prog where
  gf := 58
  fn cap H := some (n, elR xs hs, (cap = cpR ∧ H = hcR nm f n c k d xs hs) ∧ xs.length = n ∧ n ≤ 100000 ∧ hs.length = k * 2 ∧ k ≤ 100000 ∧ fi (xs.map sE) = 0 ∧ hchk n hs (-1) = 0)
  ok := by
    intro cap H N el vc h hv
    cases h
    obtain ⟨⟨rfl, rfl⟩, h1, h2, h3, h4, h5, h6⟩ := hv
    exact itR_ok h1 h2 h3 h4 h5 h6
noncomputable def rfC (nm : ByteArray) (f : Int) (n c k d : Nat) (xs : List Nat) (hs : List Int) : Rf Try.prog where
  it := itRI nm f n c k d xs hs
  k := 4
  E := slots 13 [(2, .pointer (some ⟨3, 0, none⟩)), (6, fnR 0)]
  Hp i := hcR nm f n c k d xs hs ++ [some (.row [.slice (some ⟨4, 0, none⟩) i 0] 0 false true false), some (.row (rd3 xs hs i) 3 true true true)]
noncomputable def hsC (nm : ByteArray) (f : Int) (n c k d : Nat) (xs : List Nat) (hs : List Int) : Hs Try.prog where
  op y := if y = 303 then some (hAp Try.prog) else none
  rf _ := some (rfC nm f n c k d xs hs)
  cl _ := keep 13 [2, 6]
  nl _ := [.cell 3 0 3]
  au := au0 Try.prog
theorem as_t (nm : ByteArray) (f : Int) (n : Nat) (c : Nat) (k : Nat) (d : Nat) (xs : List Nat) (hs : List Int) (K : Value → Heap → Prop) :
    (fnP Try.prog c0 (hsC nm f n c k d xs hs) (57 : FuncId) [Value.slice none (0 : Nat) (0 : Nat), fnR (0 : Nat)] (hcR nm f n c k d xs hs) K) =
    ([poi, poi, Value.pointer (some { block := (3 : Nat), off := (0 : Nat) }), poi, poi, poi, Value.func (Fn.func (58 : Nat)) #[] #[Value.pointer (some { block := (0 : Nat), off := (0 : Nat) })], poi, poi, poi, poi, poi, poi] = [poi, poi, Value.pointer (some { block := (3 : Nat), off := (0 : Nat) }), poi, poi, poi, Value.func (Fn.func (58 : Nat)) #[] #[Value.pointer (some { block := (0 : Nat), off := (0 : Nat) })], poi, poi, poi, poi, poi, poi] ∧ some (AObj.row [Value.string nm, Value.int IntKind.i64 f, Value.slice (some { block := (1 : Nat), off := (0 : Nat) }) n c, Value.slice (some { block := (2 : Nat), off := (0 : Nat) }) k d] (0 : Nat) false false false) :: some (AObj.row (flts xs) (1 : Nat) true false true) :: some (AObj.row (ints hs) (2 : Nat) true false true) :: some (AObj.row [Value.slice (some { block := (4 : Nat), off := (0 : Nat) }) (0 : Nat) (0 : Nat)] (0 : Nat) false true false) :: some (AObj.row [] (3 : Nat) true true true) :: noH = some (AObj.row [Value.string nm, Value.int IntKind.i64 f, Value.slice (some { block := (1 : Nat), off := (0 : Nat) }) n c, Value.slice (some { block := (2 : Nat), off := (0 : Nat) }) k d] (0 : Nat) false false false) :: some (AObj.row (flts xs) (1 : Nat) true false true) :: some (AObj.row (ints hs) (2 : Nat) true false true) :: some (AObj.row [Value.slice (some { block := (4 : Nat), off := (0 : Nat) }) (0 : Nat) (0 : Nat)] (0 : Nat) false true false) :: some (AObj.row [] (3 : Nat) true true true) :: noH ∧ [poi, poi, Value.pointer (some { block := (3 : Nat), off := (0 : Nat) }), poi, poi, poi, Value.func (Fn.func (58 : Nat)) #[] #[Value.pointer (some { block := (0 : Nat), off := (0 : Nat) })], poi, poi, poi, poi, poi, poi] = [poi, poi, Value.pointer (some { block := (3 : Nat), off := (0 : Nat) }), poi, poi, poi, Value.func (Fn.func (58 : Nat)) #[] #[Value.pointer (some { block := (0 : Nat), off := (0 : Nat) })], poi, poi, poi, poi, poi, poi] ∧ Is (([Value.pointer (some { block := (0 : Nat), off := (0 : Nat) })] = [Value.pointer (some { block := (0 : Nat), off := (0 : Nat) })] ∧ some (AObj.row [Value.string nm, Value.int IntKind.i64 f, Value.slice (some { block := (1 : Nat), off := (0 : Nat) }) n c, Value.slice (some { block := (2 : Nat), off := (0 : Nat) }) k d] (0 : Nat) false false false) :: some (AObj.row (flts xs) (1 : Nat) true false true) :: some (AObj.row (ints hs) (2 : Nat) true false true) :: noH = some (AObj.row [Value.string nm, Value.int IntKind.i64 f, Value.slice (some { block := (1 : Nat), off := (0 : Nat) }) n c, Value.slice (some { block := (2 : Nat), off := (0 : Nat) }) k d] (0 : Nat) false false false) :: some (AObj.row (flts xs) (1 : Nat) true false true) :: some (AObj.row (ints hs) (2 : Nat) true false true) :: noH) ∧ List.length xs = n ∧ n ≤ (100000 : Nat) ∧ List.length hs = k * (2 : Nat) ∧ k ≤ (100000 : Nat) ∧ fi (List.map sE xs) = (0 : Int) ∧ hchk (↑n : Int) hs (-1 : Int) = (0 : Int)) ∧ Is True ∧ (∀ (i : Nat), Is True → Is (i < n) → Is (List.length (rd3 xs hs i) = i * (3 : Nat) ∧ (i + (1 : Nat)) * (24 : Nat) ≤ (140737488355328 : Nat) ∧ i + (1 : Nat) ≤ (9223372036854775807 : Nat)) ∧ some (AObj.row [Value.string nm, Value.int IntKind.i64 f, Value.slice (some { block := (1 : Nat), off := (0 : Nat) }) n c, Value.slice (some { block := (2 : Nat), off := (0 : Nat) }) k d] (0 : Nat) false false false) :: some (AObj.row (flts xs) (1 : Nat) true false true) :: some (AObj.row (ints hs) (2 : Nat) true false true) :: some (AObj.row [Value.slice (some { block := (4 : Nat), off := (0 : Nat) }) (i + (1 : Nat)) (0 : Nat)] (0 : Nat) false true (false && List.all [Value.slice (some { block := (7 : Nat), off := (0 : Nat) }) (i + (1 : Nat)) (0 : Nat)] atom)) :: some (AObj.row (rd3 xs hs i ++ [Value.int IntKind.i64 (↑i : Int), Value.int IntKind.i64 (lev (List.getD xs i (0 : Nat))), Value.bool (knB hs (↑i : Int))]) (3 : Nat) true true (List.all [Value.int IntKind.i64 (↑i : Int), Value.int IntKind.i64 (lev (List.getD xs i (0 : Nat))), Value.bool (knB hs (↑i : Int))] atom)) :: noH = some (AObj.row [Value.string nm, Value.int IntKind.i64 f, Value.slice (some { block := (1 : Nat), off := (0 : Nat) }) n c, Value.slice (some { block := (2 : Nat), off := (0 : Nat) }) k d] (0 : Nat) false false false) :: some (AObj.row (flts xs) (1 : Nat) true false true) :: some (AObj.row (ints hs) (2 : Nat) true false true) :: some (AObj.row [Value.slice (some { block := (4 : Nat), off := (0 : Nat) }) (i + (1 : Nat)) (0 : Nat)] (0 : Nat) false true false) :: some (AObj.row (rd3 xs hs (i + (1 : Nat))) (3 : Nat) true true true) :: noH ∧ Is True) ∧ (Is True → K (Value.slice (some { block := (3 : Nat), off := (0 : Nat) }) n (0 : Nat)) (some (AObj.row [Value.string nm, Value.int IntKind.i64 f, Value.slice (some { block := (1 : Nat), off := (0 : Nat) }) n c, Value.slice (some { block := (2 : Nat), off := (0 : Nat) }) k d] (0 : Nat) false false false) :: some (AObj.row (flts xs) (1 : Nat) true false true) :: some (AObj.row (ints hs) (2 : Nat) true false true) :: some (AObj.row (rd3 xs hs n) (3 : Nat) true true true) :: noH)) ∧ ∀ (s : Empty), Is False → False) := by kernel_rfl
theorem rs_t (nm : ByteArray) (f : Int) (n : Nat) (c : Nat) (k : Nat) (d : Nat) (xs : List Nat) (hs : List Int) (K : Value → Heap → Prop) :
    (fnP Try.prog c0 h0 (39 : FuncId) [Value.agg (List.toArray (runA nm f (0 : Nat) n c (1 : Nat) k d))] (hp2r xs hs true true true true []) K) =
    (K (Value.func (Fn.func (58 : Nat)) #[] #[Value.pointer (some { block := (2 : Nat), off := (0 : Nat) })]) (some (AObj.row (flts xs) (1 : Nat) true true true) :: some (AObj.row (ints hs) (2 : Nat) true true true) :: some (AObj.row [Value.string nm, Value.int IntKind.i64 f, Value.slice (some { block := (0 : Nat), off := (0 : Nat) }) n c, Value.slice (some { block := (1 : Nat), off := (0 : Nat) }) k d] (0 : Nat) false true (List.all [Value.string nm, Value.int IntKind.i64 f, Value.slice (some { block := (0 : Nat), off := (0 : Nat) }) n c, Value.slice (some { block := (1 : Nat), off := (0 : Nat) }) k d] atom)) :: noH)) := by kernel_rfl
theorem rd3_len (xs : List Nat) (hs : List Int) : ∀ i, (rd3 xs hs i).length = i * 3
  | 0 => rfl
  | i + 1 => by rw [rd3, List.length_append, rd3_len xs hs i]; simp only [List.length_cons, List.length_nil]; omega
set_option maxRecDepth 100000 in
theorem as_ok {nm : ByteArray} {f : Int} {n c k d : Nat} {xs : List Nat} {hs : List Int} (hn : xs.length = n) (h9 : n ≤ 100000) (hk : hs.length = k * 2) (hk9 : k ≤ 100000) (hx : fi (xs.map sE) = 0) (hh : hchk n hs (-1) = 0) :
    SmallRes Try.prog 57 [.slice none 0 0, fnR 0] (hcR nm f n c k d xs hs) (.slice (some ⟨3, 0, none⟩) n 0) (hcR nm f n c k d xs hs ++ [some (.row (rd3 xs hs n) 3 true true true)]) := by
  refine fnP_res hm c0_ok (hs := hsC nm f n c k d xs hs) ?_
  rw [as_t]
  exact ⟨by first | trivial | rfl, by first | trivial | rfl, by first | trivial | rfl, ⟨⟨by first | trivial | rfl, by first | trivial | rfl⟩, hn, h9, hk, hk9, hx, hh⟩, ⟨trivial⟩, fun i _ hi => ⟨⟨rd3_len _ _ _, by have := hi.out; omega, by have := hi.out; omega⟩, by first | trivial | rfl, ⟨trivial⟩⟩, fun _ => ⟨by first | trivial | rfl, by first | trivial | rfl⟩, fun s => s.elim⟩
noncomputable def orcAs (xs : List Nat) (hs : List Int) : OrcV
  | [.slice none 0 0, .func (.func 58) ⟨[]⟩ ⟨[.pointer (some ⟨0, 0, none⟩)]⟩], [some (.row [.string nm, .int .i64 f, .slice (some ⟨1, 0, none⟩) n c, .slice (some ⟨2, 0, none⟩) k d] 0 false false false), some (.row e1 1 true false true), some (.row e2 2 true false true)] =>
    some (.slice (some ⟨3, 0, none⟩) n 0, hcR nm f n c k d xs hs ++ [some (.row (rd3 xs hs n) 3 true true true)], e1 = flts xs ∧ e2 = ints hs ∧ xs.length = n ∧ n ≤ 100000 ∧ hs.length = k * 2 ∧ k ≤ 100000 ∧ fi (xs.map sE) = 0 ∧ hchk n hs (-1) = 0)
  | _, _ => none
theorem okAs (xs : List Nat) (hs : List Int) : OkV Try.prog 57 (orcAs xs hs) := by
  intro args H ret H' vc h hv
  unfold orcAs at h
  split at h
  · cases h
    obtain ⟨rfl, rfl, h1, h2, h3, h4, h5, h6⟩ := hv
    exact as_ok h1 h2 h3 h4 h5 h6
  · cases h
noncomputable def hsCl (xs : List Nat) (hs : List Int) : Hs Try.prog where
  au := auCalls [(57, hCa Try.prog 57 (orcAs xs hs) (okAs xs hs))]
theorem cl2_t (nm : ByteArray) (f : Int) (n : Nat) (c : Nat) (k : Nat) (d : Nat) (xs : List Nat) (hs : List Int) (K : Value → Heap → Prop) :
    (fnP Try.prog c0 (hsCl xs hs) (38 : FuncId) [fnR (0 : Nat)] (hcR nm f n c k d xs hs) K) =
    (Is (flts xs = flts xs ∧ ints hs = ints hs ∧ List.length xs = n ∧ n ≤ (100000 : Nat) ∧ List.length hs = k * (2 : Nat) ∧ k ≤ (100000 : Nat) ∧ fi (List.map sE xs) = (0 : Int) ∧ hchk (↑n : Int) hs (-1 : Int) = (0 : Int)) ∧ K (Value.slice (some { block := (3 : Nat), off := (0 : Nat) }) n (0 : Nat)) (some (AObj.row [Value.string nm, Value.int IntKind.i64 f, Value.slice (some { block := (1 : Nat), off := (0 : Nat) }) n c, Value.slice (some { block := (2 : Nat), off := (0 : Nat) }) k d] (0 : Nat) false false false) :: some (AObj.row (flts xs) (1 : Nat) true false true) :: some (AObj.row (ints hs) (2 : Nat) true false true) :: some (AObj.row (rd3 xs hs n) (3 : Nat) true true true) :: noH)) := by kernel_rfl
noncomputable def hcT (nm : ByteArray) (f : Int) (n c k d : Nat) (xs : List Nat) (hs : List Int) : Heap := [run2 nm f 1 n c 2 k d, fR xs, some (.row (ints hs) 2 true true true)]
theorem co_ok {nm : ByteArray} {f : Int} {n c k d : Nat} {xs : List Nat} {hs : List Int} (hn : xs.length = n) (h9 : n ≤ 100000) (hk : hs.length = k * 2) (hk9 : k ≤ 100000) (hx : fi (xs.map sE) = 0) (hh : hchk n hs (-1) = 0) :
    SmallRes Try.prog 38 [fnR 0] (hcT nm f n c k d xs hs) (.slice (some ⟨3, 0, none⟩) n 0) (hcT nm f n c k d xs hs ++ [some (.row (rd3 xs hs n) 3 true true true)]) := by
  have h : SmallRes Try.prog 38 [fnR 0] (hcR nm f n c k d xs hs) (.slice (some ⟨3, 0, none⟩) n 0) (hcR nm f n c k d xs hs ++ [some (.row (rd3 xs hs n) 3 true true true)]) := by
    refine fnP_res hm c0_ok (hs := hsCl xs hs) ?_
    rw [cl2_t]
    exact ⟨⟨by first | trivial | rfl, by first | trivial | rfl, hn, h9, hk, hk9, hx, hh⟩, by first | trivial | rfl, by first | trivial | rfl⟩
  exact regain [0, 1, 2] (H := hcT nm f n c k d xs hs) h rfl rfl
noncomputable def orcCo (xs : List Nat) (hs : List Int) : OrcV
  | [.func (.func 58) ⟨[]⟩ ⟨[.pointer (some ⟨0, 0, none⟩)]⟩], [some (.row [.string nm, .int .i64 f, .slice (some ⟨1, 0, none⟩) n c, .slice (some ⟨2, 0, none⟩) k d] 0 false true false), some (.row e1 1 true true true), some (.row e2 2 true true true)] =>
    some (.slice (some ⟨3, 0, none⟩) n 0, hcT nm f n c k d xs hs ++ [some (.row (rd3 xs hs n) 3 true true true)], e1 = flts xs ∧ e2 = ints hs ∧ xs.length = n ∧ n ≤ 100000 ∧ hs.length = k * 2 ∧ k ≤ 100000 ∧ fi (xs.map sE) = 0 ∧ hchk n hs (-1) = 0)
  | _, _ => none
theorem okCo (xs : List Nat) (hs : List Int) : OkV Try.prog 38 (orcCo xs hs) := by
  intro args H ret H' vc h hv
  unfold orcCo at h
  split at h
  · cases h
    obtain ⟨rfl, rfl, h1, h2, h3, h4, h5, h6⟩ := hv
    exact co_ok h1 h2 h3 h4 h5 h6
  · cases h
noncomputable def isR2 (xs : List Nat) (hs : List Int) (e1 e2 : List Value) : Prop := e1 = flts xs ∧ e2 = ints hs
noncomputable def orcRs (xs : List Nat) (hs : List Int) : OrcV
  | [.agg ⟨[.string nm, .int .i64 f, .slice (some ⟨0, 0, none⟩) n c, .slice (some ⟨1, 0, none⟩) k d]⟩], [some (.row e1 1 true true true), some (.row e2 2 true true true)] =>
    some (fnR 2, [some (.row e1 1 true true true), some (.row e2 2 true true true), run2 nm f 0 n c 1 k d], isR2 xs hs e1 e2)
  | _, _ => none
theorem okRs (xs : List Nat) (hs : List Int) : OkV Try.prog 39 (orcRs xs hs) := by
  intro args H ret H' vc h hv
  unfold orcRs at h
  split at h
  · rename_i nm f n c k d e1 e2
    cases h
    obtain ⟨rfl, rfl⟩ := hv
    refine fnP_res hm c0_ok (hs := h0) ?_
    show fnP Try.prog c0 h0 39 [.agg (runA nm f 0 n c 1 k d).toArray] (hp2r xs hs true true true true []) _
    rw [rs_t]
    exact ⟨by first | trivial | rfl, by first | trivial | rfl⟩
  · cases h
end
end Qq
end
