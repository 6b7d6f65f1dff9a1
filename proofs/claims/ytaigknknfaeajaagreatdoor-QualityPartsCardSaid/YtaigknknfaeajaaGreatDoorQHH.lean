/- Lines that are given, checked; Fits. -/
import Derived.Test.YtaigknknfaeajaaGreatDoorQFF
import Derived.Test.YtaigknknfaeajaaGreatDoorQDD
open Go Go.Vm Go.Proofs Sp
namespace Sp
noncomputable section
noncomputable def rtE (n d : Int) : Int := sel (fi [wi n (-999999999) 999999999, wi d 1 999999999]) (wh (decide ((1 : Int) < (Nat.gcd n.natAbs d.natAbs : Nat))) 1)
noncomputable def mxG (m : Int) : List Int → Int
  | [] => m
  | x :: r => mxG (if x > m then x else m) r
noncomputable def mxL (l : List Int) : Int := mxG (l.getD 0 0) (l.drop 1)
noncomputable def bgB (p q r t : Int) : Bool := decide ((1000000 : Int) < (p.natAbs : Int)) || (decide ((1000000 : Int) < q) || (decide ((1000000 : Int) < (r.natAbs : Int)) || decide ((1000000 : Int) < t)))
noncomputable def liE (a p q r t : Int) : Int := sel (fi [wi a 0 100000, rtE p q, rtE r t]) (wh (bgB p q r t) 4)
end
end Sp
namespace Qq
noncomputable section
theorem firstS_t (l : List Int) (n : Nat) (c : Nat) (es : Nat) (more : Bool) (rw : Bool) (K : Value → Heap → Prop) :
    (fnP Tryz.prog c0 (hFirst l n c es more rw) (173 : FuncId) [Value.slice (some { block := (0 : Nat), off := (0 : Nat) }) n c] [some (AObj.row (ints l) es more rw true)] K) =
    ((∃ s, Is (s ≤ List.length l ∧ fi (List.drop s l) = fi l) ∧ [poi, poi, poi, poi, poi, Value.slice (some { block := (0 : Nat), off := (0 : Nat) }) n c, Value.int IntKind.i64 (↑n : Int), Value.int IntKind.i64 (0 : Int), poi, poi, poi, poi, poi, poi, poi] = [poi, poi, poi, poi, poi, Value.slice (some { block := (0 : Nat), off := (0 : Nat) }) n c, Value.int IntKind.i64 (↑n : Int), Value.int IntKind.i64 (↑s : Int), poi, poi, poi, poi, poi, poi, poi] ∧ some (AObj.row (ints l) es more rw true) :: noH = some (AObj.row (ints l) es more rw true) :: noH) ∧ ∀ (s : Nat), Is (s ≤ List.length l ∧ fi (List.drop s l) = fi l) → br (decide ((↑s : Int) < (↑n : Int))) (Is ((0 : Int) ≤ (↑s : Int) ∧ (↑s : Int) < (↑n : Int)) ∧ Is ((ints l)[(0 : Nat) + Int.toNat (↑s : Int) * (1 : Nat)]? = some (Value.int IntKind.i64 (List.getD l ((0 : Nat) + Int.toNat (↑s : Int) * (1 : Nat)) (0 : Int)))) ∧ br (List.getD l ((0 : Nat) + Int.toNat (↑s : Int) * (1 : Nat)) (0 : Int) != (0 : Int)) (K (Value.int IntKind.i64 (List.getD l ((0 : Nat) + Int.toNat (↑s : Int) * (1 : Nat)) (0 : Int))) (some (AObj.row (ints l) es more rw true) :: noH)) (∃ s', Is (s' ≤ List.length l ∧ fi (List.drop s' l) = fi l) ∧ Is (List.length l - s' < List.length l - s) ∧ [poi, poi, poi, poi, poi, Value.slice (some { block := (0 : Nat), off := (0 : Nat) }) n c, Value.int IntKind.i64 (↑n : Int), Value.int IntKind.i64 (IntKind.wrap IntKind.i64 ((↑s : Int) + (1 : Int))), poi, poi, poi, poi, poi, poi, poi] = [poi, poi, poi, poi, poi, Value.slice (some { block := (0 : Nat), off := (0 : Nat) }) n c, Value.int IntKind.i64 (↑n : Int), Value.int IntKind.i64 (↑s' : Int), poi, poi, poi, poi, poi, poi, poi] ∧ some (AObj.row (ints l) es more rw true) :: noH = some (AObj.row (ints l) es more rw true) :: noH)) (K (Value.int IntKind.i64 (0 : Int)) (some (AObj.row (ints l) es more rw true) :: noH))) := by kernel_rfl
theorem whenS_t (b : Bool) (e : Int) (K : Value → Heap → Prop) :
    (fnP Tryz.prog c0 h0 (191 : FuncId) [Value.bool b, Value.int IntKind.i64 e] [] K) =
    (br b (K (Value.int IntKind.i64 e) noH) (K (Value.int IntKind.i64 (0 : Int)) noH)) := by kernel_rfl
theorem okWhenS : Ok Tryz.prog 191 orcWhen := by
  intro args H ret H' h
  unfold orcWhen at h
  split at h
  · cases h
    refine fnP_res hm c0_ok (hs := h0) ?_
    rw [whenS_t]
    exact br_of (fun h => by simp [wh, h]) (fun h => by simp [wh, h])
  · cases h
theorem okFirstS : Ok Tryz.prog 173 orcFirst := by
  intro args H ret H' h
  unfold orcFirst at h
  split at h
  · rename_i n c cells es more rw
    split at h
    · rename_i l hl
      split at h
      · rename_i hn
        cases h
        have := intsOf_eq hl
        subst this
        obtain ⟨hn, hlt⟩ := hn
        subst hn
        refine fnP_res hm c0_ok (hs := hFirst l l.length c es more rw) ?_
        rw [firstS_t]
        refine ⟨⟨(0 : Nat), ⟨by simp, by simp⟩, rfl, rfl⟩, fun s hs => ?_⟩
        obtain ⟨h1, h2⟩ := hs.out
        refine br_of (fun hc => ?_) (fun hc => ?_)
        · have hc : s < l.length := by simpa using hc
          refine ⟨⟨by omega, by omega⟩, ⟨by simpa using ints_at hc⟩, br_of (fun hd => ?_) (fun hd => ?_)⟩
          · have := fi_drop hc
            have hd' : l.getD s 0 ≠ 0 := by simpa using hd
            rw [if_neg hd'] at this
            simp [← h2, this]
          · have := fi_drop hc
            have hd' : l.getD s 0 = 0 := by simpa using hd
            rw [if_pos hd'] at this
            refine ⟨s + 1, ⟨hc, by rw [← this, h2]⟩, ⟨by omega⟩, ?_, rfl⟩
            rw [wrap_eq (by omega) (by omega)]
            rfl
        · have hc : l.length ≤ s := by simpa using hc
          have : s = l.length := by omega
          subst this
          simp [← h2, fi]
      · cases h
    · cases h
  · cases h
noncomputable def s1 : List (Nat × Orc) := [(191, orcWhen), (173, orcFirst)]
theorem s1_all : ∀ p ∈ s1, Ok Tryz.prog p.1 p.2 := all_cons okWhenS (all_cons okFirstS all_nil)
noncomputable def cs1 : CallF := ctx Tryz.prog s1
theorem cs1_ok : CallOK Tryz.prog cs1 := ctx_ok hm s1_all
theorem withinS_t (n : Int) (lo : Int) (hi : Int) (K : Value → Heap → Prop) :
    (fnP Tryz.prog cs1 h0 (174 : FuncId) [Value.int IntKind.i64 n, Value.int IntKind.i64 lo, Value.int IntKind.i64 hi] [] K) =
    (br (decide (n < lo)) (K (Value.int IntKind.i64 (3 : Int)) noH) (K (Value.int IntKind.i64 (wh (decide (hi < n)) (3 : Int))) noH)) := by kernel_rfl
theorem okWithinS : Ok Tryz.prog 174 orcWithin := by
  intro args H ret H' h
  unfold orcWithin at h
  split at h
  · cases h
    refine fnP_res hm cs1_ok (hs := h0) ?_
    rw [withinS_t]
    exact br_of (fun h => by simp [wi, of_decide_eq_true h]) (fun h => by simp [wi, wh, of_decide_eq_false h])
  · cases h
noncomputable def s2 : List (Nat × Orc) := (174, orcWithin) :: s1
theorem s2_all : ∀ p ∈ s2, Ok Tryz.prog p.1 p.2 := all_cons okWithinS s1_all
noncomputable def cs2 : CallF := ctx Tryz.prog s2
theorem cs2_ok : CallOK Tryz.prog cs2 := ctx_ok hm s2_all
/- The greatest common divisor. -/
noncomputable def lpCom (g : Nat) : Lp where
  σ := Int × Int
  E s := slots 15 [(0, .int .i64 s.1), (1, .int .i64 s.2)]
  Hp _ := []
  I s := Nat.gcd s.1.natAbs s.2.natAbs = g ∧ s.1.natAbs < 9223372036854775808 ∧ s.2.natAbs < 9223372036854775808
  m s := s.2.natAbs
noncomputable def hCom (g : Nat) : Hs Tryz.prog where
  lp _ := some (lpCom g)
  cl _ := keep 15 [0, 1]
  au := au0 Tryz.prog
theorem com_t (a : Int) (b : Int) (g : Nat) (K : Value → Heap → Prop) :
    (fnP Tryz.prog c0 (hCom g) (239 : FuncId) [Value.int IntKind.i64 a, Value.int IntKind.i64 b] [] K) =
    ((∃ s, Is (Nat.gcd (Int.natAbs (Prod.fst s)) (Int.natAbs (Prod.snd s)) = g ∧ Int.natAbs (Prod.fst s) < (9223372036854775808 : Nat) ∧ Int.natAbs (Prod.snd s) < (9223372036854775808 : Nat)) ∧ [Value.int IntKind.i64 a, Value.int IntKind.i64 b, poi, poi, poi, poi, poi, poi, poi, poi, poi, poi, poi, poi, poi] = [Value.int IntKind.i64 (Prod.fst s), Value.int IntKind.i64 (Prod.snd s), poi, poi, poi, poi, poi, poi, poi, poi, poi, poi, poi, poi, poi] ∧ noH = noH) ∧ ∀ (s : Int × Int), Is (Nat.gcd (Int.natAbs (Prod.fst s)) (Int.natAbs (Prod.snd s)) = g ∧ Int.natAbs (Prod.fst s) < (9223372036854775808 : Nat) ∧ Int.natAbs (Prod.snd s) < (9223372036854775808 : Nat)) → br (Prod.snd s != (0 : Int)) (Is (Prod.snd s ≠ (0 : Int)) ∧ ∃ s', Is (Nat.gcd (Int.natAbs (Prod.fst s')) (Int.natAbs (Prod.snd s')) = g ∧ Int.natAbs (Prod.fst s') < (9223372036854775808 : Nat) ∧ Int.natAbs (Prod.snd s') < (9223372036854775808 : Nat)) ∧ Is (Int.natAbs (Prod.snd s') < Int.natAbs (Prod.snd s)) ∧ [Value.int IntKind.i64 (Prod.snd s), Value.int IntKind.i64 (Int.tmod (Prod.fst s) (Prod.snd s)), poi, poi, poi, poi, poi, poi, poi, poi, poi, poi, poi, poi, poi] = [Value.int IntKind.i64 (Prod.fst s'), Value.int IntKind.i64 (Prod.snd s'), poi, poi, poi, poi, poi, poi, poi, poi, poi, poi, poi, poi, poi] ∧ noH = noH) (K (Value.int IntKind.i64 (if IntKind.wrap IntKind.i64 ((0 : Int) - Prod.fst s) > Prod.fst s then IntKind.wrap IntKind.i64 ((0 : Int) - Prod.fst s) else Prod.fst s)) noH)) := by kernel_rfl
noncomputable def orcCom : OrcV
  | [.int .i64 a, .int .i64 b], [] => some (.int .i64 (Nat.gcd a.natAbs b.natAbs : Nat), [], a.natAbs < 9223372036854775808 ∧ b.natAbs < 9223372036854775808)
  | _, _ => none
theorem okCom : OkV Tryz.prog 239 orcCom := by
  intro args H ret H' vc h hv
  unfold orcCom at h
  split at h
  · rename_i a b
    cases h
    obtain ⟨v1, v2⟩ := hv
    refine fnP_res hm c0_ok (hs := hCom (Nat.gcd a.natAbs b.natAbs)) ?_
    rw [com_t]
    refine ⟨⟨(a, b), ⟨rfl, v1, v2⟩, by first | trivial | rfl, by first | trivial | rfl⟩, fun s hs => ?_⟩
    obtain ⟨i1, i2, i3⟩ := hs.out
    refine br_of (fun hc => ?_) (fun hc => ?_)
    · have hc : s.2 ≠ 0 := by simpa using hc
      have e : (s.1.tmod s.2).natAbs = s.1.natAbs % s.2.natAbs := Int.natAbs_tmod ..
      have lt : s.1.natAbs % s.2.natAbs < s.2.natAbs := Nat.mod_lt _ (by omega)
      refine ⟨⟨hc⟩, (s.2, s.1.tmod s.2), ⟨by simp only [e]; rw [← i1]; exact gcd_step, i3, by simp only [e]; omega⟩, ⟨by simp only [e]; omega⟩, by first | trivial | rfl, by first | trivial | rfl⟩
    · have hc : s.2 = 0 := by simpa using hc
      rw [hc] at i1
      have i1 : s.1.natAbs = Nat.gcd a.natAbs b.natAbs := by simpa using i1
      have := max_abs (n := s.1) (by omega) (by omega)
      simp only [W] at this
      rw [this, i1]
      exact ⟨by first | trivial | rfl, by first | trivial | rfl⟩
  · cases h
noncomputable def orcRt : Orc
  | [.agg ⟨[.int .i64 n, .int .i64 d]⟩], [] => some (.int .i64 (rtE n d), [])
  | _, _ => none
noncomputable def hsRt : Hs Tryz.prog where
  au := auCalls [(239, hCa Tryz.prog 239 orcCom okCom)]
theorem rt_t (n : Int) (d : Int) (K : Value → Heap → Prop) :
    (fnP Tryz.prog cs2 hsRt (206 : FuncId) [Value.agg #[Value.int IntKind.i64 n, Value.int IntKind.i64 d]] [] K) =
    (br (fi [wi n (-999999999 : Int) (999999999 : Int), wi d (1 : Int) (999999999 : Int)] != (0 : Int)) (K (Value.int IntKind.i64 (fi [wi n (-999999999 : Int) (999999999 : Int), wi d (1 : Int) (999999999 : Int)])) noH) (Is (Int.natAbs n < (9223372036854775808 : Nat) ∧ Int.natAbs d < (9223372036854775808 : Nat)) ∧ K (Value.int IntKind.i64 (wh (decide ((1 : Int) < (↑(Nat.gcd (Int.natAbs n) (Int.natAbs d)) : Int))) (1 : Int))) noH)) := by kernel_rfl
noncomputable def hsRtR : Hs Tryz.prog where
  au := auCalls [(165, hCa Tryz.prog 165 orcDiv okDiv)]
theorem rtR_t (n : Int) (d : Int) (K : Value → Heap → Prop) :
    (fnP Tryz.prog cr2 hsRtR (144 : FuncId) [Value.agg #[Value.int IntKind.i64 n, Value.int IntKind.i64 d]] [] K) =
    (br (fi [wi n (-999999999 : Int) (999999999 : Int), wi d (1 : Int) (999999999 : Int)] != (0 : Int)) (K (Value.int IntKind.i64 (fi [wi n (-999999999 : Int) (999999999 : Int), wi d (1 : Int) (999999999 : Int)])) noH) (Is ((-9223372036854775808 : Int) < n ∧ n < (9223372036854775808 : Int) ∧ (-9223372036854775808 : Int) < d ∧ d < (9223372036854775808 : Int)) ∧ K (Value.int IntKind.i64 (wh ((↑(Nat.gcd (Int.natAbs n) (Int.natAbs d)) : Int) != (1 : Int)) (1 : Int))) noH)) := by kernel_rfl
theorem okRt : Ok Tryz.prog 206 orcRt := by
  intro args H ret H' h
  unfold orcRt at h
  split at h
  · rename_i n d
    cases h
    refine fnP_res hm cs2_ok (hs := hsRt) ?_
    rw [rt_t]
    refine br_of (fun h => ?_) (fun h => ?_)
    · rw [rtE, sel_ne h]; exact ⟨by first | trivial | rfl, by first | trivial | rfl⟩
    · have h' : fi [wi n (-999999999) 999999999, wi d 1 999999999] = 0 := by simpa using h
      have h1 := wi_zero.1 (fi_zero.1 h' (wi n (-999999999) 999999999) (by simp))
      have h2 := wi_zero.1 (fi_zero.1 h' (wi d 1 999999999) (by simp))
      rw [rtE, sel_eq h]
      exact ⟨⟨by omega, by omega⟩, by first | trivial | rfl, by first | trivial | rfl⟩
  · cases h
theorem okRtR : Ok Tryz.prog 144 orcRt := by
  intro args H ret H' h
  unfold orcRt at h
  split at h
  · rename_i n d
    cases h
    refine fnP_res hm cr2_ok (hs := hsRtR) ?_
    rw [rtR_t]
    refine br_of (fun h => ?_) (fun h => ?_)
    · rw [rtE, sel_ne h]; exact ⟨by first | trivial | rfl, by first | trivial | rfl⟩
    · have h' : fi [wi n (-999999999) 999999999, wi d 1 999999999] = 0 := by simpa using h
      have h1 := wi_zero.1 (fi_zero.1 h' (wi n (-999999999) 999999999) (by simp))
      have h2 := wi_zero.1 (fi_zero.1 h' (wi d 1 999999999) (by simp))
      have hg : 0 < Nat.gcd n.natAbs d.natAbs := Nat.gcd_pos_of_pos_right _ (by omega)
      have e : (((Nat.gcd n.natAbs d.natAbs : Nat) : Int) != 1) = decide ((1 : Int) < (Nat.gcd n.natAbs d.natAbs : Nat)) := by
        by_cases hh : Nat.gcd n.natAbs d.natAbs = 1
        · rw [hh]; rfl
        · rw [decide_eq_true (by omega)]; simp; omega
      rw [rtE, sel_eq h]
      rw [e]
      exact ⟨⟨by omega, by omega, by omega, by omega⟩, by first | trivial | rfl, by first | trivial | rfl⟩
  · cases h
/- The greatest of a list. -/
noncomputable def lpMax (l : List Int) (n c es : Nat) (more rw : Bool) : Lp where
  σ := Nat × Int
  E s := slots 25 [(0, .slice (some ⟨0, 0, none⟩) n c), (3, .int .i64 s.2), (4, .int .i64 (Int.ofNat s.1))]
  Hp _ := [some (.row (ints l) es more rw true)]
  I s := s.1 ≤ l.length ∧ mxG s.2 (l.drop s.1) = mxL l
  m s := l.length - s.1
noncomputable def hsMax (l : List Int) (n c es : Nat) (more rw : Bool) : Hs Tryz.prog where
  op y := if [301, 703].contains y then some (hIa Tryz.prog) else if [302, 704].contains y then some (hLd Tryz.prog (zI l)) else none
  lp _ := some (lpMax l n c es more rw)
  cl _ := keep 25 [0, 3, 4]
  au := au0 Tryz.prog
theorem max_t (l : List Int) (n : Nat) (c : Nat) (es : Nat) (more : Bool) (rw : Bool) (K : Value → Heap → Prop) :
    (fnP Tryz.prog c0 (hsMax l n c es more rw) (120 : FuncId) [Value.slice (some { block := (0 : Nat), off := (0 : Nat) }) n c] [some (AObj.row (ints l) es more rw true)] K) =
    (br (decide ((↑n : Int) < (1 : Int))) False (Is ((0 : Int) ≤ (0 : Int) ∧ (0 : Int) < (↑n : Int)) ∧ Is ((ints l)[(0 : Nat)]? = some (Value.int IntKind.i64 (List.getD l (0 : Nat) (0 : Int)))) ∧ (∃ s, Is (Prod.fst s ≤ List.length l ∧ mxG (Prod.snd s) (List.drop (Prod.fst s) l) = mxL l) ∧ [Value.slice (some { block := (0 : Nat), off := (0 : Nat) }) n c, poi, poi, Value.int IntKind.i64 (List.getD l (0 : Nat) (0 : Int)), Value.int IntKind.i64 (1 : Int), poi, poi, poi, poi, poi, poi, poi, poi, poi, poi, poi, poi, poi, poi, poi, poi, poi, poi, poi, poi] = [Value.slice (some { block := (0 : Nat), off := (0 : Nat) }) n c, poi, poi, Value.int IntKind.i64 (Prod.snd s), Value.int IntKind.i64 (↑(Prod.fst s) : Int), poi, poi, poi, poi, poi, poi, poi, poi, poi, poi, poi, poi, poi, poi, poi, poi, poi, poi, poi, poi] ∧ some (AObj.row (ints l) es more rw true) :: noH = some (AObj.row (ints l) es more rw true) :: noH) ∧ ∀ (s : Nat × Int), Is (Prod.fst s ≤ List.length l ∧ mxG (Prod.snd s) (List.drop (Prod.fst s) l) = mxL l) → br (decide ((↑(Prod.fst s) : Int) < (↑n : Int))) (Is ((0 : Int) ≤ (↑(Prod.fst s) : Int) ∧ (↑(Prod.fst s) : Int) < (↑n : Int)) ∧ Is ((ints l)[(0 : Nat) + Int.toNat (↑(Prod.fst s) : Int) * (1 : Nat)]? = some (Value.int IntKind.i64 (List.getD l ((0 : Nat) + Int.toNat (↑(Prod.fst s) : Int) * (1 : Nat)) (0 : Int)))) ∧ ∃ s', Is (Prod.fst s' ≤ List.length l ∧ mxG (Prod.snd s') (List.drop (Prod.fst s') l) = mxL l) ∧ Is (List.length l - Prod.fst s' < List.length l - Prod.fst s) ∧ [Value.slice (some { block := (0 : Nat), off := (0 : Nat) }) n c, poi, poi, Value.int IntKind.i64 (if List.getD l ((0 : Nat) + Int.toNat (↑(Prod.fst s) : Int) * (1 : Nat)) (0 : Int) > Prod.snd s then List.getD l ((0 : Nat) + Int.toNat (↑(Prod.fst s) : Int) * (1 : Nat)) (0 : Int) else Prod.snd s), Value.int IntKind.i64 (IntKind.wrap IntKind.i64 ((↑(Prod.fst s) : Int) + (1 : Int))), poi, poi, poi, poi, poi, poi, poi, poi, poi, poi, poi, poi, poi, poi, poi, poi, poi, poi, poi, poi] = [Value.slice (some { block := (0 : Nat), off := (0 : Nat) }) n c, poi, poi, Value.int IntKind.i64 (Prod.snd s'), Value.int IntKind.i64 (↑(Prod.fst s') : Int), poi, poi, poi, poi, poi, poi, poi, poi, poi, poi, poi, poi, poi, poi, poi, poi, poi, poi, poi, poi] ∧ some (AObj.row (ints l) es more rw true) :: noH = some (AObj.row (ints l) es more rw true) :: noH) (K (Value.int IntKind.i64 (Prod.snd s)) (some (AObj.row (ints l) es more rw true) :: noH)))) := by kernel_rfl
noncomputable def orcMax : Orc
  | [.slice (some ⟨0, 0, none⟩) n _c], [some (.row cells es more rw true)] =>
    match intsOf cells with
    | some l => if n = l.length ∧ 0 < n ∧ n < 1000 then some (.int .i64 (mxL l), [some (.row cells es more rw true)]) else none
    | none => none
  | _, _ => none
theorem mxG_drop {l : List Int} {i : Nat} (m : Int) (h : i < l.length) : mxG m (l.drop i) = mxG (if l.getD i 0 > m then l.getD i 0 else m) (l.drop (i + 1)) := by
  rw [List.drop_eq_getElem_cons h]
  simp [mxG, List.getD_eq_getElem?_getD, h]
theorem okMax : Ok Tryz.prog 120 orcMax := by
  intro args H ret H' h
  unfold orcMax at h
  split at h
  · rename_i n c cells es more rw
    split at h
    · rename_i l hl
      split at h
      · rename_i hn
        cases h
        have := intsOf_eq hl
        subst this
        obtain ⟨hn, h00, hlt⟩ := hn
        subst hn
        refine fnP_res hm c0_ok (hs := hsMax l l.length c es more rw) ?_
        rw [max_t]
        refine br_of (fun h => by have := of_decide_eq_true h; omega) (fun _ => ⟨⟨by omega, by omega⟩, ⟨by simpa using ints_at h00⟩, ⟨(1, l.getD 0 0), ⟨by simp only; omega, rfl⟩, by first | trivial | rfl, by first | trivial | rfl⟩, fun s hs => ?_⟩)
        obtain ⟨h1, h2⟩ := hs.out
        refine br_of (fun hc => ?_) (fun hc => ?_)
        · have hc : s.1 < l.length := by simpa using hc
          have st := mxG_drop s.2 hc
          refine ⟨⟨by omega, by omega⟩, ⟨by simpa using ints_at hc⟩, (s.1 + 1, if l.getD s.1 0 > s.2 then l.getD s.1 0 else s.2), ⟨by simp only; omega, by rw [← st, h2]⟩, ⟨by simp only; omega⟩, ?_, by first | trivial | rfl⟩
          simp only [Nat.zero_add, Nat.mul_one, Int.toNat_natCast]
          rw [wrap_eq (by omega) (by omega)]
          rfl
        · have hc : l.length ≤ s.1 := by simpa using hc
          rw [List.drop_eq_nil_of_le hc] at h2
          rw [← h2]
          exact ⟨by first | trivial | rfl, by first | trivial | rfl⟩
      · cases h
    · cases h
  · cases h
/- Lines, checked. -/
noncomputable def orcLi : Orc
  | [.agg ⟨[.int .i64 a, .int .i64 p, .int .i64 q, .int .i64 r, .int .i64 t]⟩], [] => some (.int .i64 (liE a p q r t), [])
  | _, _ => none
noncomputable def t20 : List (Nat × Orc) := (132, orcDay) :: (206, orcRt) :: (120, orcMax) :: t2
theorem t20_all : ∀ p ∈ t20, Ok Tryz.prog p.1 p.2 := all_cons okDayP (all_cons okRt (all_cons okMax t2_all))
noncomputable def c20 : CallF := ctx Tryz.prog t20
theorem c20_ok : CallOK Tryz.prog c20 := ctx_ok hm t20_all
noncomputable def r20 : List (Nat × Orc) := (46, orcDay) :: (144, orcRt) :: r2
theorem r20_all : ∀ p ∈ r20, Ok Tryz.prog p.1 p.2 := all_cons okDayR (all_cons okRtR r2_all)
noncomputable def cr20 : CallF := ctx Tryz.prog r20
theorem cr20_ok : CallOK Tryz.prog cr20 := ctx_ok hm r20_all
theorem li_t (a : Int) (p : Int) (q : Int) (r : Int) (t : Int) (K : Value → Heap → Prop) :
    (fnP Tryz.prog c20 h0 (140 : FuncId) [Value.agg (List.toArray (liC a p q r t))] [] K) =
    (br (fi [wi a (0 : Int) (100000 : Int), rtE p q, rtE r t] != (0 : Int)) (K (Value.int IntKind.i64 (fi [wi a (0 : Int) (100000 : Int), rtE p q, rtE r t])) noH) (K (Value.int IntKind.i64 (wh (decide ((1000000 : Int) < mxL [p, IntKind.wrap IntKind.i64 ((0 : Int) - p), q, r, IntKind.wrap IntKind.i64 ((0 : Int) - r), t])) (4 : Int))) noH)) := by kernel_rfl
theorem liR_t (a : Int) (p : Int) (q : Int) (r : Int) (t : Int) (K : Value → Heap → Prop) :
    (fnP Tryz.prog cr20 h0 (55 : FuncId) [Value.agg (List.toArray (liC a p q r t))] [] K) =
    (K (Value.int IntKind.i64 (fi [wi a (0 : Int) (100000 : Int), rtE p q, rtE r t, wh (decide ((1000000 : Int) < if t > if (if IntKind.wrap IntKind.i64 ((0 : Int) - r) > r then IntKind.wrap IntKind.i64 ((0 : Int) - r) else r) > if q > if IntKind.wrap IntKind.i64 ((0 : Int) - p) > p then IntKind.wrap IntKind.i64 ((0 : Int) - p) else p then q else if IntKind.wrap IntKind.i64 ((0 : Int) - p) > p then IntKind.wrap IntKind.i64 ((0 : Int) - p) else p then if IntKind.wrap IntKind.i64 ((0 : Int) - r) > r then IntKind.wrap IntKind.i64 ((0 : Int) - r) else r else if q > if IntKind.wrap IntKind.i64 ((0 : Int) - p) > p then IntKind.wrap IntKind.i64 ((0 : Int) - p) else p then q else if IntKind.wrap IntKind.i64 ((0 : Int) - p) > p then IntKind.wrap IntKind.i64 ((0 : Int) - p) else p then t else if (if IntKind.wrap IntKind.i64 ((0 : Int) - r) > r then IntKind.wrap IntKind.i64 ((0 : Int) - r) else r) > if q > if IntKind.wrap IntKind.i64 ((0 : Int) - p) > p then IntKind.wrap IntKind.i64 ((0 : Int) - p) else p then q else if IntKind.wrap IntKind.i64 ((0 : Int) - p) > p then IntKind.wrap IntKind.i64 ((0 : Int) - p) else p then if IntKind.wrap IntKind.i64 ((0 : Int) - r) > r then IntKind.wrap IntKind.i64 ((0 : Int) - r) else r else if q > if IntKind.wrap IntKind.i64 ((0 : Int) - p) > p then IntKind.wrap IntKind.i64 ((0 : Int) - p) else p then q else if IntKind.wrap IntKind.i64 ((0 : Int) - p) > p then IntKind.wrap IntKind.i64 ((0 : Int) - p) else p)) (4 : Int)])) noH) := by kernel_rfl
end
end Qq
