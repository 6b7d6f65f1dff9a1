/- Lines that are given, checked; Fits. -/
import Derived.Test.YtaigknknfaeajaaGreatDoorQFF
import Derived.Test.YtaigknknfaeajaaGreatDoorQDD
open Go Go.Vm Go.Proofs Sp
namespace Sp
noncomputable section
noncomputable def rtE (n d : Int) : Int := sel (fi [wi n (-999999999) 999999999, wi d 1 999999999]) (wh (decide ((1 : Int) < (Nat.gcd n.natAbs d.natAbs : Nat))) 1)
noncomputable def mxG (m : Int) : List Int → Int
  | [] => m
  | x :: r => mxG (if x > m then x else m) r
noncomputable def mxL (l : List Int) : Int := mxG (l.getD 0 0) (l.drop 1)
end
end Sp
namespace Qq
noncomputable section
theorem firstS_t (l : List Int) (n : Nat) (c : Nat) (es : Nat) (more : Bool) (rw : Bool) (K : Value → Heap → Prop) :
    (fnP Tryz.prog c0 (hFirst l n c es more rw) (173 : FuncId) [Value.slice (some { block := (0 : Nat), off := (0 : Nat) }) n c] [some (AObj.row (ints l) es more rw true)] K) =
    ((∃ s, Is (s ≤ List.length l ∧ fi (List.drop s l) = fi l) ∧ [poi, poi, poi, poi, poi, Value.slice (some { block := (0 : Nat), off := (0 : Nat) }) n c, Value.int IntKind.i64 (↑n : Int), Value.int IntKind.i64 (0 : Int), poi, poi, poi, poi, poi, poi, poi] = [poi, poi, poi, poi, poi, Value.slice (some { block := (0 : Nat), off := (0 : Nat) }) n c, Value.int IntKind.i64 (↑n : Int), Value.int IntKind.i64 (↑s : Int), poi, poi, poi, poi, poi, poi, poi] ∧ some (AObj.row (ints l) es more rw true) :: noH = some (AObj.row (ints l) es more rw true) :: noH) ∧ ∀ (s : Nat), Is (s ≤ List.length l ∧ fi (List.drop s l) = fi l) → br (decide ((↑s : Int) < (↑n : Int))) (Is ((0 : Int) ≤ (↑s : Int) ∧ (↑s : Int) < (↑n : Int)) ∧ Is ((ints l)[(0 : Nat) + Int.toNat (↑s : Int) * (1 : Nat)]? = some (Value.int IntKind.i64 (List.getD l ((0 : Nat) + Int.toNat (↑s : Int) * (1 : Nat)) (0 : Int)))) ∧ br (List.getD l ((0 : Nat) + Int.toNat (↑s : Int) * (1 : Nat)) (0 : Int) != (0 : Int)) (K (Value.int IntKind.i64 (List.getD l ((0 : Nat) + Int.toNat (↑s : Int) * (1 : Nat)) (0 : Int))) (some (AObj.row (ints l) es more rw true) :: noH)) (∃ s', Is (s' ≤ List.length l ∧ fi (List.drop s' l) = fi l) ∧ Is (List.length l - s' < List.length l - s) ∧ [poi, poi, poi, poi, poi, Value.slice (some { block := (0 : Nat), off := (0 : Nat) }) n c, Value.int IntKind.i64 (↑n : Int), Value.int IntKind.i64 (IntKind.wrap IntKind.i64 ((↑s : Int) + (1 : Int))), poi, poi, poi, poi, poi, poi, poi] = [poi, poi, poi, poi, poi, Value.slice (some { block := (0 : Nat), off := (0 : Nat) }) n c, Value.int IntKind.i64 (↑n : Int), Value.int IntKind.i64 (↑s' : Int), poi, poi, poi, poi, poi, poi, poi] ∧ some (AObj.row (ints l) es more rw true) :: noH = some (AObj.row (ints l) es more rw true) :: noH)) (K (Value.int IntKind.i64 (0 : Int)) (some (AObj.row (ints l) es more rw true) :: noH))) := by kernel_rfl
theorem whenS_t (b : Bool) (e : Int) (K : Value → Heap → Prop) :
    (fnP Tryz.prog c0 h0 (191 : FuncId) [Value.bool b, Value.int IntKind.i64 e] [] K) =
    (br b (K (Value.int IntKind.i64 e) noH) (K (Value.int IntKind.i64 (0 : Int)) noH)) := by kernel_rfl
theorem okWhenS : Ok Tryz.prog 191 orcWhen := by
  intro args H ret H' h
  unfold orcWhen at h
  split at h
  · cases h
    refine fnP_res hm c0_ok (hs := h0) ?_
    rw [whenS_t]
    exact br_of (fun h => by simp [wh, h]) (fun h => by simp [wh, h])
  · cases h
theorem okFirstS : Ok Tryz.prog 173 orcFirst := by
  intro args H ret H' h
  unfold orcFirst at h
  split at h
  · rename_i n c cells es more rw
    split at h
    · rename_i l hl
      split at h
      · rename_i hn
        cases h
        have := intsOf_eq hl
        subst this
        obtain ⟨hn, hlt⟩ := hn
        subst hn
        refine fnP_res hm c0_ok (hs := hFirst l l.length c es more rw) ?_
        rw [firstS_t]
        refine ⟨⟨(0 : Nat), ⟨by simp, by simp⟩, rfl, rfl⟩, fun s hs => ?_⟩
        obtain ⟨h1, h2⟩ := hs.out
        refine br_of (fun hc => ?_) (fun hc => ?_)
        · have hc : s < l.length := by simpa using hc
          refine ⟨⟨by omega, by omega⟩, ⟨by simpa using ints_at hc⟩, br_of (fun hd => ?_) (fun hd => ?_)⟩
          · have := fi_drop hc
            have hd' : l.getD s 0 ≠ 0 := by simpa using hd
            rw [if_neg hd'] at this
            simp [← h2, this]
          · have := fi_drop hc
            have hd' : l.getD s 0 = 0 := by simpa using hd
            rw [if_pos hd'] at this
            refine ⟨s + 1, ⟨hc, by rw [← this, h2]⟩, ⟨by omega⟩, ?_, rfl⟩
            rw [wrap_eq (by omega) (by omega)]
            rfl
        · have hc : l.length ≤ s := by simpa using hc
          have : s = l.length := by omega
          subst this
          simp [← h2, fi]
      · cases h
    · cases h
  · cases h
noncomputable def s1 : List (Nat × Orc) := [(191, orcWhen), (173, orcFirst)]
theorem s1_all : ∀ p ∈ s1, Ok Tryz.prog p.1 p.2 := all_cons okWhenS (all_cons okFirstS all_nil)
noncomputable def cs1 : CallF := ctx Tryz.prog s1
theorem cs1_ok : CallOK Tryz.prog cs1 := ctx_ok hm s1_all
theorem withinS_t (n : Int) (lo : Int) (hi : Int) (K : Value → Heap → Prop) :
    (fnP Tryz.prog cs1 h0 (174 : FuncId) [Value.int IntKind.i64 n, Value.int IntKind.i64 lo, Value.int IntKind.i64 hi] [] K) =
    (br (decide (n < lo)) (K (Value.int IntKind.i64 (3 : Int)) noH) (K (Value.int IntKind.i64 (wh (decide (hi < n)) (3 : Int))) noH)) := by kernel_rfl
theorem okWithinS : Ok Tryz.prog 174 orcWithin := by
  intro args H ret H' h
  unfold orcWithin at h
  split at h
  · cases h
    refine fnP_res hm cs1_ok (hs := h0) ?_
    rw [withinS_t]
    exact br_of (fun h => by simp [wi, of_decide_eq_true h]) (fun h => by simp [wi, wh, of_decide_eq_false h])
  · cases h
noncomputable def s2 : List (Nat × Orc) := (174, orcWithin) :: s1
theorem s2_all : ∀ p ∈ s2, Ok Tryz.prog p.1 p.2 := all_cons okWithinS s1_all
noncomputable def cs2 : CallF := ctx Tryz.prog s2
theorem cs2_ok : CallOK Tryz.prog cs2 := ctx_ok hm s2_all
/- The greatest common divisor. -/
noncomputable def orcRt : Orc
  | [.agg ⟨[.int .i64 n, .int .i64 d]⟩], [] => some (.int .i64 (rtE n d), [])
  | _, _ => none
/- The greatest of a list. -/
noncomputable def orcMax : Orc
  | [.slice (some ⟨0, 0, none⟩) n _c], [some (.row cells es more rw true)] =>
    match intsOf cells with
    | some l => if n = l.length ∧ 0 < n ∧ n < 1000 then some (.int .i64 (mxL l), [some (.row cells es more rw true)]) else none
    | none => none
  | _, _ => none
/- Lines, checked. -/
noncomputable def t20 : List (Nat × Orc) := (132, orcDay) :: (206, orcRt) :: (120, orcMax) :: t2
end
end Qq
