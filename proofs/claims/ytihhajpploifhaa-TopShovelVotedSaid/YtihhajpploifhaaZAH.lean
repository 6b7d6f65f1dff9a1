/- Parts of the proof: WJ, WS, WK, WL, WM, FlF, WO, WP. -/
import Derived.Test.YtihhajpploifhaaZAF
import Derived.Test.YtihhajpploifhaaZAE
import Derived.Test.YtihhajpploifhaaZAD
import Derived.Test.YtihhajpploifhaaZAG
import Derived.Test.YtihhajpploifhaaZAC
section
/- The reference's check of a run, at given rows. -/
open Go Go.Vm Go.Proofs Sp
namespace Qq
noncomputable section
noncomputable def lpChY (hs : List Int) (k d : Nat) (n : Int) : Lp where
  σ := Nat × Int
  E s := slots 42 [(0, .slice (some ⟨0, 0, none⟩) k d), (1, .int .i64 n), (5, .int .i64 (Int.ofNat s.1))]
  Hp _ := [some (.row (ints hs) 2 false false true)]
  I s := s.1 ≤ k ∧ hchk n (hs.drop (s.1 * 2)) s.2 = hchk n hs (-1) ∧ s.2 = if s.1 = 0 then -1 else hs.getD ((s.1 - 1) * 2 + 1) 0
  m s := k - s.1
noncomputable def hsChY (hs : List Int) (k d : Nat) (n : Int) : Hs Try.prog where
  op y := if [402, 411, 418].contains y then some (hIa Try.prog) else if y = 403 then some (hLd Try.prog (z2 hs)) else if [413, 420].contains y then some (hLd Try.prog (zI hs)) else none
  lp _ := some (lpChY hs k d n)
  cl _ := keep 42 [0, 1, 5]
  au := au0 Try.prog
theorem chY_t (hs : List Int) (k : Nat) (d : Nat) (n : Int) (K : Value → Heap → Prop) :
    (fnP Try.prog cr14 (hsChY hs k d n) (45 : FuncId) [Value.slice (some { block := (0 : Nat), off := (0 : Nat) }) k d, Value.int IntKind.i64 n] [some (AObj.row (ints hs) (2 : Nat) false false true)] K) =
    ((∃ (s : Nat × Int), Is (Prod.fst s ≤ k ∧ hchk n (List.drop (Prod.fst s * (2 : Nat)) hs) (Prod.snd s) = hchk n hs (-1 : Int) ∧ Prod.snd s = if Prod.fst s = (0 : Nat) then (-1 : Int) else List.getD hs ((Prod.fst s - (1 : Nat)) * (2 : Nat) + (1 : Nat)) (0 : Int)) ∧ [Value.slice (some { block := (0 : Nat), off := (0 : Nat) }) k d, Value.int IntKind.i64 n, poi, poi, poi, Value.int IntKind.i64 (0 : Int), poi, poi, poi, poi, poi, poi, poi, poi, poi, poi, poi, poi, poi, poi, poi, poi, poi, poi, poi, poi, poi, poi, poi, poi, poi, poi, poi, poi, poi, poi, poi, poi, poi, poi, poi, poi] = [Value.slice (some { block := (0 : Nat), off := (0 : Nat) }) k d, Value.int IntKind.i64 n, poi, poi, poi, Value.int IntKind.i64 (↑(Prod.fst s) : Int), poi, poi, poi, poi, poi, poi, poi, poi, poi, poi, poi, poi, poi, poi, poi, poi, poi, poi, poi, poi, poi, poi, poi, poi, poi, poi, poi, poi, poi, poi, poi, poi, poi, poi, poi, poi] ∧ some (AObj.row (ints hs) (2 : Nat) false false true) :: noH = some (AObj.row (ints hs) (2 : Nat) false false true) :: noH) ∧ ∀ (s : Nat × Int), Is (Prod.fst s ≤ k ∧ hchk n (List.drop (Prod.fst s * (2 : Nat)) hs) (Prod.snd s) = hchk n hs (-1 : Int) ∧ Prod.snd s = if Prod.fst s = (0 : Nat) then (-1 : Int) else List.getD hs ((Prod.fst s - (1 : Nat)) * (2 : Nat) + (1 : Nat)) (0 : Int)) → br (decide ((↑(Prod.fst s) : Int) < (↑k : Int))) (Is ((0 : Int) ≤ (↑(Prod.fst s) : Int) ∧ (↑(Prod.fst s) : Int) < (↑k : Int)) ∧ Is ((if (0 : Nat) + Int.toNat (↑(Prod.fst s) : Int) * (2 : Nat) + (2 : Nat) ≤ List.length (ints hs) then some (Value.agg (List.toArray (List.take (2 : Nat) (List.drop ((0 : Nat) + Int.toNat (↑(Prod.fst s) : Int) * (2 : Nat)) (ints hs))))) else none) = some (Value.agg #[Value.int IntKind.i64 (List.getD hs ((0 : Nat) + Int.toNat (↑(Prod.fst s) : Int) * (2 : Nat)) (0 : Int)), Value.int IntKind.i64 (List.getD hs ((0 : Nat) + Int.toNat (↑(Prod.fst s) : Int) * (2 : Nat) + (1 : Nat)) (0 : Int))])) ∧ br (decide ((0 : Int) < (↑(Prod.fst s) : Int))) (Is ((0 : Int) ≤ (↑(Prod.fst s) : Int) ∧ (↑(Prod.fst s) : Int) < (↑k : Int)) ∧ Is ((ints hs)[(0 : Nat) + Int.toNat (↑(Prod.fst s) : Int) * (2 : Nat) + (0 : Nat)]? = some (Value.int IntKind.i64 (List.getD hs ((0 : Nat) + Int.toNat (↑(Prod.fst s) : Int) * (2 : Nat) + (0 : Nat)) (0 : Int)))) ∧ Is (((0 : Int) ≤ if IntKind.wrap IntKind.i64 ((↑(Prod.fst s) : Int) - (1 : Int)) > (0 : Int) then IntKind.wrap IntKind.i64 ((↑(Prod.fst s) : Int) - (1 : Int)) else (0 : Int)) ∧ (if IntKind.wrap IntKind.i64 ((↑(Prod.fst s) : Int) - (1 : Int)) > (0 : Int) then IntKind.wrap IntKind.i64 ((↑(Prod.fst s) : Int) - (1 : Int)) else (0 : Int)) < (↑k : Int)) ∧ Is ((ints hs)[(0 : Nat) + Int.toNat (if IntKind.wrap IntKind.i64 ((↑(Prod.fst s) : Int) - (1 : Int)) > (0 : Int) then IntKind.wrap IntKind.i64 ((↑(Prod.fst s) : Int) - (1 : Int)) else (0 : Int)) * (2 : Nat) + (1 : Nat)]? = some (Value.int IntKind.i64 (List.getD hs ((0 : Nat) + Int.toNat (if IntKind.wrap IntKind.i64 ((↑(Prod.fst s) : Int) - (1 : Int)) > (0 : Int) then IntKind.wrap IntKind.i64 ((↑(Prod.fst s) : Int) - (1 : Int)) else (0 : Int)) * (2 : Nat) + (1 : Nat)) (0 : Int)))) ∧ br (fi [wh (decide (List.getD hs ((0 : Nat) + Int.toNat (↑(Prod.fst s) : Int) * (2 : Nat)) (0 : Int) < (0 : Int)) || (decide (List.getD hs ((0 : Nat) + Int.toNat (↑(Prod.fst s) : Int) * (2 : Nat) + (1 : Nat)) (0 : Int) ≤ List.getD hs ((0 : Nat) + Int.toNat (↑(Prod.fst s) : Int) * (2 : Nat)) (0 : Int)) || decide (n < List.getD hs ((0 : Nat) + Int.toNat (↑(Prod.fst s) : Int) * (2 : Nat) + (1 : Nat)) (0 : Int)))) (14 : Int), wh (decide (List.getD hs ((0 : Nat) + Int.toNat (↑(Prod.fst s) : Int) * (2 : Nat) + (0 : Nat)) (0 : Int) ≤ List.getD hs ((0 : Nat) + Int.toNat (if IntKind.wrap IntKind.i64 ((↑(Prod.fst s) : Int) - (1 : Int)) > (0 : Int) then IntKind.wrap IntKind.i64 ((↑(Prod.fst s) : Int) - (1 : Int)) else (0 : Int)) * (2 : Nat) + (1 : Nat)) (0 : Int))) (11 : Int)] != (0 : Int)) (K (Value.int IntKind.i64 (fi [wh (decide (List.getD hs ((0 : Nat) + Int.toNat (↑(Prod.fst s) : Int) * (2 : Nat)) (0 : Int) < (0 : Int)) || (decide (List.getD hs ((0 : Nat) + Int.toNat (↑(Prod.fst s) : Int) * (2 : Nat) + (1 : Nat)) (0 : Int) ≤ List.getD hs ((0 : Nat) + Int.toNat (↑(Prod.fst s) : Int) * (2 : Nat)) (0 : Int)) || decide (n < List.getD hs ((0 : Nat) + Int.toNat (↑(Prod.fst s) : Int) * (2 : Nat) + (1 : Nat)) (0 : Int)))) (14 : Int), wh (decide (List.getD hs ((0 : Nat) + Int.toNat (↑(Prod.fst s) : Int) * (2 : Nat) + (0 : Nat)) (0 : Int) ≤ List.getD hs ((0 : Nat) + Int.toNat (if IntKind.wrap IntKind.i64 ((↑(Prod.fst s) : Int) - (1 : Int)) > (0 : Int) then IntKind.wrap IntKind.i64 ((↑(Prod.fst s) : Int) - (1 : Int)) else (0 : Int)) * (2 : Nat) + (1 : Nat)) (0 : Int))) (11 : Int)])) (some (AObj.row (ints hs) (2 : Nat) false false true) :: noH)) (∃ (s' : Nat × Int), Is (Prod.fst s' ≤ k ∧ hchk n (List.drop (Prod.fst s' * (2 : Nat)) hs) (Prod.snd s') = hchk n hs (-1 : Int) ∧ Prod.snd s' = if Prod.fst s' = (0 : Nat) then (-1 : Int) else List.getD hs ((Prod.fst s' - (1 : Nat)) * (2 : Nat) + (1 : Nat)) (0 : Int)) ∧ Is (k - Prod.fst s' < k - Prod.fst s) ∧ [Value.slice (some { block := (0 : Nat), off := (0 : Nat) }) k d, Value.int IntKind.i64 n, poi, poi, poi, Value.int IntKind.i64 (IntKind.wrap IntKind.i64 ((↑(Prod.fst s) : Int) + (1 : Int))), poi, poi, poi, poi, poi, poi, poi, poi, poi, poi, poi, poi, poi, poi, poi, poi, poi, poi, poi, poi, poi, poi, poi, poi, poi, poi, poi, poi, poi, poi, poi, poi, poi, poi, poi, poi] = [Value.slice (some { block := (0 : Nat), off := (0 : Nat) }) k d, Value.int IntKind.i64 n, poi, poi, poi, Value.int IntKind.i64 (↑(Prod.fst s') : Int), poi, poi, poi, poi, poi, poi, poi, poi, poi, poi, poi, poi, poi, poi, poi, poi, poi, poi, poi, poi, poi, poi, poi, poi, poi, poi, poi, poi, poi, poi, poi, poi, poi, poi, poi, poi] ∧ some (AObj.row (ints hs) (2 : Nat) false false true) :: noH = some (AObj.row (ints hs) (2 : Nat) false false true) :: noH)) (br (fi [wh (decide (List.getD hs ((0 : Nat) + Int.toNat (↑(Prod.fst s) : Int) * (2 : Nat)) (0 : Int) < (0 : Int)) || (decide (List.getD hs ((0 : Nat) + Int.toNat (↑(Prod.fst s) : Int) * (2 : Nat) + (1 : Nat)) (0 : Int) ≤ List.getD hs ((0 : Nat) + Int.toNat (↑(Prod.fst s) : Int) * (2 : Nat)) (0 : Int)) || decide (n < List.getD hs ((0 : Nat) + Int.toNat (↑(Prod.fst s) : Int) * (2 : Nat) + (1 : Nat)) (0 : Int)))) (14 : Int), (0 : Int)] != (0 : Int)) (K (Value.int IntKind.i64 (fi [wh (decide (List.getD hs ((0 : Nat) + Int.toNat (↑(Prod.fst s) : Int) * (2 : Nat)) (0 : Int) < (0 : Int)) || (decide (List.getD hs ((0 : Nat) + Int.toNat (↑(Prod.fst s) : Int) * (2 : Nat) + (1 : Nat)) (0 : Int) ≤ List.getD hs ((0 : Nat) + Int.toNat (↑(Prod.fst s) : Int) * (2 : Nat)) (0 : Int)) || decide (n < List.getD hs ((0 : Nat) + Int.toNat (↑(Prod.fst s) : Int) * (2 : Nat) + (1 : Nat)) (0 : Int)))) (14 : Int), (0 : Int)])) (some (AObj.row (ints hs) (2 : Nat) false false true) :: noH)) (∃ (s' : Nat × Int), Is (Prod.fst s' ≤ k ∧ hchk n (List.drop (Prod.fst s' * (2 : Nat)) hs) (Prod.snd s') = hchk n hs (-1 : Int) ∧ Prod.snd s' = if Prod.fst s' = (0 : Nat) then (-1 : Int) else List.getD hs ((Prod.fst s' - (1 : Nat)) * (2 : Nat) + (1 : Nat)) (0 : Int)) ∧ Is (k - Prod.fst s' < k - Prod.fst s) ∧ [Value.slice (some { block := (0 : Nat), off := (0 : Nat) }) k d, Value.int IntKind.i64 n, poi, poi, poi, Value.int IntKind.i64 (IntKind.wrap IntKind.i64 ((↑(Prod.fst s) : Int) + (1 : Int))), poi, poi, poi, poi, poi, poi, poi, poi, poi, poi, poi, poi, poi, poi, poi, poi, poi, poi, poi, poi, poi, poi, poi, poi, poi, poi, poi, poi, poi, poi, poi, poi, poi, poi, poi, poi] = [Value.slice (some { block := (0 : Nat), off := (0 : Nat) }) k d, Value.int IntKind.i64 n, poi, poi, poi, Value.int IntKind.i64 (↑(Prod.fst s') : Int), poi, poi, poi, poi, poi, poi, poi, poi, poi, poi, poi, poi, poi, poi, poi, poi, poi, poi, poi, poi, poi, poi, poi, poi, poi, poi, poi, poi, poi, poi, poi, poi, poi, poi, poi, poi] ∧ some (AObj.row (ints hs) (2 : Nat) false false true) :: noH = some (AObj.row (ints hs) (2 : Nat) false false true) :: noH))) (K (Value.int IntKind.i64 (0 : Int)) (some (AObj.row (ints hs) (2 : Nat) false false true) :: noH))) := by kernel_rfl
noncomputable def lpSmY (xs : List Nat) (n c : Nat) : Lp where
  σ := Nat
  E s := slots 19 [(0, .slice (some ⟨0, 0, none⟩) n c), (3, .int .i64 (Int.ofNat s))]
  Hp _ := [fRs xs]
  I s := s ≤ n ∧ fi ((xs.drop s).map sE) = fi (xs.map sE)
  m s := n - s
noncomputable def hsSmY (xs : List Nat) (n c : Nat) : Hs Try.prog where
  op y := if y = 402 then some (hIa Try.prog) else if y = 403 then some (hLd Try.prog (xF xs)) else none
  lp _ := some (lpSmY xs n c)
  cl _ := keep 19 [0, 3]
  au := au0 Try.prog
theorem smY_t (xs : List Nat) (n : Nat) (c : Nat) (K : Value → Heap → Prop) :
    (fnP Try.prog csr4 (hsSmY xs n c) (65 : FuncId) [Value.slice (some { block := (0 : Nat), off := (0 : Nat) }) n c] [fRs xs] K) =
    ((∃ (s : Nat), Is (s ≤ n ∧ fi (List.map sE (List.drop s xs)) = fi (List.map sE xs)) ∧ [Value.slice (some { block := (0 : Nat), off := (0 : Nat) }) n c, poi, poi, Value.int IntKind.i64 (0 : Int), poi, poi, poi, poi, poi, poi, poi, poi, poi, poi, poi, poi, poi, poi, poi] = [Value.slice (some { block := (0 : Nat), off := (0 : Nat) }) n c, poi, poi, Value.int IntKind.i64 (↑s : Int), poi, poi, poi, poi, poi, poi, poi, poi, poi, poi, poi, poi, poi, poi, poi] ∧ some (AObj.row (flts xs) (1 : Nat) false false true) :: noH = some (AObj.row (flts xs) (1 : Nat) false false true) :: noH) ∧ ∀ (s : Nat), Is (s ≤ n ∧ fi (List.map sE (List.drop s xs)) = fi (List.map sE xs)) → br (decide ((↑s : Int) < (↑n : Int))) (Is ((0 : Int) ≤ (↑s : Int) ∧ (↑s : Int) < (↑n : Int)) ∧ Is ((flts xs)[(0 : Nat) + Int.toNat (↑s : Int) * (1 : Nat)]? = some (Value.float FloatKind.f32 (List.getD xs ((0 : Nat) + Int.toNat (↑s : Int) * (1 : Nat)) (0 : Nat)))) ∧ br (sE (List.getD xs ((0 : Nat) + Int.toNat (↑s : Int) * (1 : Nat)) (0 : Nat)) != (0 : Int)) (K (Value.int IntKind.i64 (sE (List.getD xs ((0 : Nat) + Int.toNat (↑s : Int) * (1 : Nat)) (0 : Nat)))) (some (AObj.row (flts xs) (1 : Nat) false false true) :: noH)) (∃ (s' : Nat), Is (s' ≤ n ∧ fi (List.map sE (List.drop s' xs)) = fi (List.map sE xs)) ∧ Is (n - s' < n - s) ∧ [Value.slice (some { block := (0 : Nat), off := (0 : Nat) }) n c, poi, poi, Value.int IntKind.i64 (IntKind.wrap IntKind.i64 ((↑s : Int) + (1 : Int))), poi, poi, poi, poi, poi, poi, poi, poi, poi, poi, poi, poi, poi, poi, poi] = [Value.slice (some { block := (0 : Nat), off := (0 : Nat) }) n c, poi, poi, Value.int IntKind.i64 (↑s' : Int), poi, poi, poi, poi, poi, poi, poi, poi, poi, poi, poi, poi, poi, poi, poi] ∧ some (AObj.row (flts xs) (1 : Nat) false false true) :: noH = some (AObj.row (flts xs) (1 : Nat) false false true) :: noH)) (K (Value.int IntKind.i64 (0 : Int)) (some (AObj.row (flts xs) (1 : Nat) false false true) :: noH))) := by kernel_rfl
set_option maxRecDepth 100000 in
theorem chY_ok {hs : List Int} {k d : Nat} {n : Int} (hk : hs.length = k * 2) (hk9 : k ≤ 100000) :
    SmallRes Try.prog 45 [.slice (some ⟨0, 0, none⟩) k d, .int .i64 n] [some (.row (ints hs) 2 false false true)] (.int .i64 (hchk n hs (-1))) [some (.row (ints hs) 2 false false true)] := by
  refine fnP_res hm cr14_ok (hs := hsChY hs k d n) ?_
  rw [chY_t]
  refine ⟨⟨((0 : Nat), (-1 : Int)), ⟨by omega, by rw [Nat.zero_mul, List.drop_zero], by first | trivial | rfl⟩, by first | trivial | rfl, by first | trivial | rfl⟩, fun s hs' => br_of (fun hc => ?_) (fun hc => ?_)⟩
  · have hc := lt_of_dec hc
    obtain ⟨i1, i2, i3⟩ := hs'.out
    rw [spn_drop (show s.1 * 2 + 2 ≤ hs.length by omega), hchk] at i2
    simp only [pred1 hc (by omega), Nat.zero_add, Nat.add_zero, Int.toNat_natCast]
    have b1 : 0 ≤ (s.1 : Int) ∧ (s.1 : Int) < (k : Int) := by omega
    refine ⟨⟨b1⟩, ⟨ldh (by omega)⟩, br_of (fun h1 => ⟨⟨b1⟩, ⟨zint_at (by omega)⟩, ⟨by omega, by omega⟩, ⟨zint_at (by omega)⟩, ?_⟩) (fun h1 => ?_)⟩
    · have h1 : 0 < s.1 := by have := of_decide_eq_true h1; omega
      rw [if_neg (show ¬ s.1 = 0 by omega)] at i3
      rw [← i3]
      refine br_of (fun h => ?_) (fun h => ⟨(s.1 + 1, hs.getD (s.1 * 2 + 1) 0), ⟨hc, ?_, ?_⟩, ⟨by simp only; omega⟩, ?_, by first | trivial | rfl⟩)
      · rw [sel_ne h] at i2
        rw [← i2]
        exact ⟨by first | trivial | rfl, by first | trivial | rfl⟩
      · rw [sel_eq h] at i2
        exact i2
      · rw [if_neg (by simp only; omega)]; rfl
      · rw [up1 hc (by omega)]
    · have h1 : s.1 = 0 := by have := of_decide_eq_false h1; omega
      rw [if_pos h1] at i3
      have e : ∀ {b : Bool}, (b = true → wh (decide (hs.getD (s.1 * 2) 0 < 0) || (decide (hs.getD (s.1 * 2 + 1) 0 ≤ hs.getD (s.1 * 2) 0) || decide (n < hs.getD (s.1 * 2 + 1) 0))) 14 ≠ 0) →
          fi [wh (decide (hs.getD (s.1 * 2) 0 < 0) || (decide (hs.getD (s.1 * 2 + 1) 0 ≤ hs.getD (s.1 * 2) 0) || decide (n < hs.getD (s.1 * 2 + 1) 0))) 14, wh b 11] = fi [wh (decide (hs.getD (s.1 * 2) 0 < 0) || (decide (hs.getD (s.1 * 2 + 1) 0 ≤ hs.getD (s.1 * 2) 0) || decide (n < hs.getD (s.1 * 2 + 1) 0))) 14, 0] := fun h => fi_late h
      rw [e (fun h => ?_)] at i2
      · refine br_of (fun h => ?_) (fun h => ⟨(s.1 + 1, hs.getD (s.1 * 2 + 1) 0), ⟨hc, ?_, ?_⟩, ⟨by simp only; omega⟩, ?_, by first | trivial | rfl⟩)
        · rw [sel_ne h] at i2
          rw [← i2]
          exact ⟨by first | trivial | rfl, by first | trivial | rfl⟩
        · rw [sel_eq h] at i2
          exact i2
        · rw [if_neg (by simp only; omega)]; rfl
        · rw [up1 hc (by omega)]
      · have h := of_decide_eq_true h
        have : decide (hs.getD (s.1 * 2) 0 < 0) = true := decide_eq_true (by omega)
        rw [this]; simp [wh]
  · have hc := ge_of_dec hc
    obtain ⟨i1, i2, _⟩ := hs'.out
    rw [List.drop_eq_nil_of_le (by omega)] at i2
    rw [← i2]
    exact ⟨by first | trivial | rfl, by first | trivial | rfl⟩
noncomputable def orcChY (hs : List Int) : OrcV
  | [.slice (some ⟨0, 0, none⟩) k _, .int .i64 n], [some (.row e1 2 false false true)] => some (.int .i64 (hchk n hs (-1)), [some (.row e1 2 false false true)], e1 = ints hs ∧ hs.length = k * 2 ∧ k ≤ 100000)
  | _, _ => none
theorem okChY (hs : List Int) : OkV Try.prog 45 (orcChY hs) := by
  intro args H ret H' vc h hv
  unfold orcChY at h
  split at h
  · cases h
    obtain ⟨rfl, h1, h2⟩ := hv
    exact chY_ok h1 h2
  · cases h
set_option maxRecDepth 100000 in
theorem smY_ok {xs : List Nat} {n c : Nat} (hn : xs.length = n) (h9 : n ≤ 100000) :
    SmallRes Try.prog 65 [.slice (some ⟨0, 0, none⟩) n c] [fRs xs] (.int .i64 (fi (xs.map sE))) [fRs xs] := by
  refine fnP_res hm csr4_ok (hs := hsSmY xs n c) ?_
  rw [smY_t]
  refine ⟨⟨(0 : Nat), ⟨by omega, by rw [List.drop_zero]⟩, by first | trivial | rfl, by first | trivial | rfl⟩, fun s hs' => br_of (fun hc => ?_) (fun hc => ?_)⟩
  · have hc := lt_of_dec hc
    obtain ⟨i1, i2⟩ := hs'.out
    have e := fi_one (l := xs.map sE) (i := s) (by rw [List.length_map]; omega)
    rw [map_getD (by omega)] at e
    rw [List.map_drop, e] at i2
    simp only [Nat.zero_add, Nat.mul_one, Int.toNat_natCast]
    refine ⟨⟨by omega, by omega⟩, ⟨flts_at (by omega)⟩, br_of (fun h => ?_) (fun h => ⟨s + 1, ⟨hc, ?_⟩, ⟨by omega⟩, by rw [up1 hc (by omega)], by first | trivial | rfl⟩)⟩
    · rw [if_pos (by simpa using h)] at i2
      rw [← i2]
      exact ⟨by first | trivial | rfl, by first | trivial | rfl⟩
    · rw [if_neg (by simpa using h)] at i2
      rw [List.map_drop]
      exact i2
  · have hc := ge_of_dec hc
    obtain ⟨i1, i2⟩ := hs'.out
    rw [List.drop_eq_nil_of_le (by omega)] at i2
    rw [← i2]
    exact ⟨by first | trivial | rfl, by first | trivial | rfl⟩
noncomputable def orcSmY (xs : List Nat) : OrcV
  | [.slice (some ⟨0, 0, none⟩) n _], [some (.row e1 1 false false true)] => some (.int .i64 (fi (xs.map sE)), [some (.row e1 1 false false true)], e1 = flts xs ∧ xs.length = n ∧ n ≤ 100000)
  | _, _ => none
theorem okSmY (xs : List Nat) : OkV Try.prog 65 (orcSmY xs) := by
  intro args H ret H' vc h hv
  unfold orcSmY at h
  split at h
  · cases h
    obtain ⟨rfl, h1, h2⟩ := hv
    exact smY_ok h1 h2
  · cases h
noncomputable def hsLiY (xs : List Nat) : Hs Try.prog where
  au := auCalls [(65, hCa Try.prog 65 (orcSmY xs) (okSmY xs))]
theorem lsY_t (xs : List Nat) (n : Nat) (c : Nat) (K : Value → Heap → Prop) :
    (fnP Try.prog cr14 (hsLiY xs) (44 : FuncId) [Value.slice (some { block := (0 : Nat), off := (0 : Nat) }) n c] [fRs xs] K) =
    (Is (flts xs = flts xs ∧ List.length xs = n ∧ n ≤ (100000 : Nat)) ∧ K (Value.int IntKind.i64 (fi [wh (decide ((4096 : Int) < (↑n : Int))) (5 : Int), fi (List.map sE xs)])) (some (AObj.row (flts xs) (1 : Nat) false false true) :: noH)) := by kernel_rfl
noncomputable def orcLiY (xs : List Nat) : OrcV
  | [.slice (some ⟨0, 0, none⟩) n _], [some (.row e1 1 false false true)] => some (.int .i64 (fi [wh (decide ((4096 : Int) < n)) 5, fi (xs.map sE)]), [some (.row e1 1 false false true)], e1 = flts xs ∧ xs.length = n ∧ n ≤ 100000)
  | _, _ => none
theorem okLiY (xs : List Nat) : OkV Try.prog 44 (orcLiY xs) := by
  intro args H ret H' vc h hv
  unfold orcLiY at h
  split at h
  · cases h
    obtain ⟨rfl, h1, h2⟩ := hv
    refine fnP_res hm cr14_ok (hs := hsLiY xs) ?_
    show fnP Try.prog cr14 (hsLiY xs) 44 _ [fRs xs] _
    rw [lsY_t]
    exact ⟨⟨rfl, h1, h2⟩, by first | trivial | rfl, by first | trivial | rfl⟩
  · cases h
noncomputable def lpCrY (nm : ByteArray) (f : Int) (n c k d : Nat) (xs : List Nat) (hs : List Int) : Lp where
  σ := Nat
  E s := slots 62 [(1, .pointer (some ⟨2, 0, none⟩)), (5, .int .i64 (Int.ofNat s))]
  Hp _ := hp2r xs hs false false false false [runOs nm f n c k d]
  I s := s ≤ n ∧ ∀ j, j < s → nzB (xs.getD j 0) = true → knB hs (j : Int) = true
  m s := n - s
noncomputable def hsCrY (nm : ByteArray) (f : Int) (n c k d : Nat) (xs : List Nat) (hs : List Int) : Hs Try.prog where
  op y := if y = 1003 then some (hIa Try.prog) else if y = 1004 then some (hLd Try.prog (xF xs)) else none
  lp _ := some (lpCrY nm f n c k d xs hs)
  cl _ := keep 62 [1, 5]
  au := auF [(44, hCa Try.prog 44 (orcLiY xs) (okLiY xs)), (45, hCa Try.prog 45 (orcChY hs) (okChY hs)), (23, hCa Try.prog 23 (orcKn xs hs) (okKn xs hs))]
theorem crY_t (nm : ByteArray) (f : Int) (n : Nat) (c : Nat) (k : Nat) (d : Nat) (xs : List Nat) (hs : List Int) (K : Value → Heap → Prop) :
    (fnP Try.prog cr14 (hsCrY nm f n c k d xs hs) (12 : FuncId) [Value.agg (List.toArray (runA nm f (0 : Nat) n c (1 : Nat) k d))] (hp2r xs hs false false false false []) K) =
    (Is (flts xs = flts xs ∧ List.length xs = n ∧ n ≤ (100000 : Nat)) ∧ br (decide (IntKind.wrap IntKind.i64 ((100000000 : Int) - (↑n : Int)) < f)) (br (fi [wh (!nameB nm) (8 : Int), wi f (0 : Int) (100000000 : Int), fi [wh (decide ((4096 : Int) < (↑n : Int))) (5 : Int), fi (List.map sE xs)], wh (decide ((↑n : Int) ≤ (4096 : Int))) (4 : Int)] != (0 : Int)) (K (Value.int IntKind.i64 (fi [wh (!nameB nm) (8 : Int), wi f (0 : Int) (100000000 : Int), fi [wh (decide ((4096 : Int) < (↑n : Int))) (5 : Int), fi (List.map sE xs)], wh (decide ((↑n : Int) ≤ (4096 : Int))) (4 : Int)])) (some (AObj.row (flts xs) (1 : Nat) false false true) :: some (AObj.row (ints hs) (2 : Nat) false false true) :: noH)) (Is (ints hs = ints hs ∧ List.length hs = k * (2 : Nat) ∧ k ≤ (100000 : Nat)) ∧ br (hchk (↑n : Int) hs (-1 : Int) != (0 : Int)) (K (Value.int IntKind.i64 (hchk (↑n : Int) hs (-1 : Int))) (some (AObj.row (flts xs) (1 : Nat) false false true) :: some (AObj.row (ints hs) (2 : Nat) false false true) :: noH)) ((∃ (s : Nat), Is (s ≤ n ∧ ∀ (j : Nat), j < s → nzB (List.getD xs j (0 : Nat)) = true → knB hs (↑j : Int) = true) ∧ [poi, Value.pointer (some { block := (2 : Nat), off := (0 : Nat) }), poi, poi, poi, Value.int IntKind.i64 (0 : Int), poi, poi, poi, poi, poi, poi, poi, poi, poi, poi, poi, poi, poi, poi, poi, poi, poi, poi, poi, poi, poi, poi, poi, poi, poi, poi, poi, poi, poi, poi, poi, poi, poi, poi, poi, poi, poi, poi, poi, poi, poi, poi, poi, poi, poi, poi, poi, poi, poi, poi, poi, poi, poi, poi, poi, poi] = [poi, Value.pointer (some { block := (2 : Nat), off := (0 : Nat) }), poi, poi, poi, Value.int IntKind.i64 (↑s : Int), poi, poi, poi, poi, poi, poi, poi, poi, poi, poi, poi, poi, poi, poi, poi, poi, poi, poi, poi, poi, poi, poi, poi, poi, poi, poi, poi, poi, poi, poi, poi, poi, poi, poi, poi, poi, poi, poi, poi, poi, poi, poi, poi, poi, poi, poi, poi, poi, poi, poi, poi, poi, poi, poi, poi, poi] ∧ some (AObj.row (flts xs) (1 : Nat) false false true) :: some (AObj.row (ints hs) (2 : Nat) false false true) :: some (AObj.row [Value.string nm, Value.int IntKind.i64 f, Value.slice (some { block := (0 : Nat), off := (0 : Nat) }) n c, Value.slice (some { block := (1 : Nat), off := (0 : Nat) }) k d] (0 : Nat) false true (List.all [Value.string nm, Value.int IntKind.i64 f, Value.slice (some { block := (0 : Nat), off := (0 : Nat) }) n c, Value.slice (some { block := (1 : Nat), off := (0 : Nat) }) k d] atom)) :: noH = some (AObj.row (flts xs) (1 : Nat) false false true) :: some (AObj.row (ints hs) (2 : Nat) false false true) :: some (AObj.row [Value.string nm, Value.int IntKind.i64 f, Value.slice (some { block := (0 : Nat), off := (0 : Nat) }) n c, Value.slice (some { block := (1 : Nat), off := (0 : Nat) }) k d] (0 : Nat) false true false) :: noH) ∧ ∀ (s : Nat), Is (s ≤ n ∧ ∀ (j : Nat), j < s → nzB (List.getD xs j (0 : Nat)) = true → knB hs (↑j : Int) = true) → br (decide ((↑s : Int) < (↑n : Int))) (Is ((0 : Int) ≤ (↑s : Int) ∧ (↑s : Int) < (↑n : Int)) ∧ Is ((flts xs)[(0 : Nat) + Int.toNat (↑s : Int) * (1 : Nat)]? = some (Value.float FloatKind.f32 (List.getD xs ((0 : Nat) + Int.toNat (↑s : Int) * (1 : Nat)) (0 : Nat)))) ∧ Is True ∧ br (fNe (List.getD xs ((0 : Nat) + Int.toNat (↑s : Int) * (1 : Nat)) (0 : Nat)) (0 : Nat)) (Is (isRn0 xs hs k (flts xs) (ints hs)) ∧ br (!knB hs (↑s : Int)) (K (Value.int IntKind.i64 (1 : Int)) (some (AObj.row (flts xs) (1 : Nat) false false true) :: some (AObj.row (ints hs) (2 : Nat) false false true) :: noH)) (∃ (s' : Nat), Is (s' ≤ n ∧ ∀ (j : Nat), j < s' → nzB (List.getD xs j (0 : Nat)) = true → knB hs (↑j : Int) = true) ∧ Is (n - s' < n - s) ∧ [poi, Value.pointer (some { block := (2 : Nat), off := (0 : Nat) }), poi, poi, poi, Value.int IntKind.i64 (IntKind.wrap IntKind.i64 ((↑s : Int) + (1 : Int))), poi, poi, poi, poi, poi, poi, poi, poi, poi, poi, poi, poi, poi, poi, poi, poi, poi, poi, poi, poi, poi, poi, poi, poi, poi, poi, poi, poi, poi, poi, poi, poi, poi, poi, poi, poi, poi, poi, poi, poi, poi, poi, poi, poi, poi, poi, poi, poi, poi, poi, poi, poi, poi, poi, poi, poi] = [poi, Value.pointer (some { block := (2 : Nat), off := (0 : Nat) }), poi, poi, poi, Value.int IntKind.i64 (↑s' : Int), poi, poi, poi, poi, poi, poi, poi, poi, poi, poi, poi, poi, poi, poi, poi, poi, poi, poi, poi, poi, poi, poi, poi, poi, poi, poi, poi, poi, poi, poi, poi, poi, poi, poi, poi, poi, poi, poi, poi, poi, poi, poi, poi, poi, poi, poi, poi, poi, poi, poi, poi, poi, poi, poi, poi, poi] ∧ some (AObj.row (flts xs) (1 : Nat) false false true) :: some (AObj.row (ints hs) (2 : Nat) false false true) :: some (AObj.row [Value.string nm, Value.int IntKind.i64 f, Value.slice (some { block := (0 : Nat), off := (0 : Nat) }) n c, Value.slice (some { block := (1 : Nat), off := (0 : Nat) }) k d] (0 : Nat) false true false) :: noH = some (AObj.row (flts xs) (1 : Nat) false false true) :: some (AObj.row (ints hs) (2 : Nat) false false true) :: some (AObj.row [Value.string nm, Value.int IntKind.i64 f, Value.slice (some { block := (0 : Nat), off := (0 : Nat) }) n c, Value.slice (some { block := (1 : Nat), off := (0 : Nat) }) k d] (0 : Nat) false true false) :: noH)) (∃ (s' : Nat), Is (s' ≤ n ∧ ∀ (j : Nat), j < s' → nzB (List.getD xs j (0 : Nat)) = true → knB hs (↑j : Int) = true) ∧ Is (n - s' < n - s) ∧ [poi, Value.pointer (some { block := (2 : Nat), off := (0 : Nat) }), poi, poi, poi, Value.int IntKind.i64 (IntKind.wrap IntKind.i64 ((↑s : Int) + (1 : Int))), poi, poi, poi, poi, poi, poi, poi, poi, poi, poi, poi, poi, poi, poi, poi, poi, poi, poi, poi, poi, poi, poi, poi, poi, poi, poi, poi, poi, poi, poi, poi, poi, poi, poi, poi, poi, poi, poi, poi, poi, poi, poi, poi, poi, poi, poi, poi, poi, poi, poi, poi, poi, poi, poi, poi, poi] = [poi, Value.pointer (some { block := (2 : Nat), off := (0 : Nat) }), poi, poi, poi, Value.int IntKind.i64 (↑s' : Int), poi, poi, poi, poi, poi, poi, poi, poi, poi, poi, poi, poi, poi, poi, poi, poi, poi, poi, poi, poi, poi, poi, poi, poi, poi, poi, poi, poi, poi, poi, poi, poi, poi, poi, poi, poi, poi, poi, poi, poi, poi, poi, poi, poi, poi, poi, poi, poi, poi, poi, poi, poi, poi, poi, poi, poi] ∧ some (AObj.row (flts xs) (1 : Nat) false false true) :: some (AObj.row (ints hs) (2 : Nat) false false true) :: some (AObj.row [Value.string nm, Value.int IntKind.i64 f, Value.slice (some { block := (0 : Nat), off := (0 : Nat) }) n c, Value.slice (some { block := (1 : Nat), off := (0 : Nat) }) k d] (0 : Nat) false true false) :: noH = some (AObj.row (flts xs) (1 : Nat) false false true) :: some (AObj.row (ints hs) (2 : Nat) false false true) :: some (AObj.row [Value.string nm, Value.int IntKind.i64 f, Value.slice (some { block := (0 : Nat), off := (0 : Nat) }) n c, Value.slice (some { block := (1 : Nat), off := (0 : Nat) }) k d] (0 : Nat) false true false) :: noH)) (K (Value.int IntKind.i64 (0 : Int)) (some (AObj.row (flts xs) (1 : Nat) false false true) :: some (AObj.row (ints hs) (2 : Nat) false false true) :: noH))))) (br (fi [wh (!nameB nm) (8 : Int), wi f (0 : Int) (100000000 : Int), fi [wh (decide ((4096 : Int) < (↑n : Int))) (5 : Int), fi (List.map sE xs)], (0 : Int)] != (0 : Int)) (K (Value.int IntKind.i64 (fi [wh (!nameB nm) (8 : Int), wi f (0 : Int) (100000000 : Int), fi [wh (decide ((4096 : Int) < (↑n : Int))) (5 : Int), fi (List.map sE xs)], (0 : Int)])) (some (AObj.row (flts xs) (1 : Nat) false false true) :: some (AObj.row (ints hs) (2 : Nat) false false true) :: noH)) (Is (ints hs = ints hs ∧ List.length hs = k * (2 : Nat) ∧ k ≤ (100000 : Nat)) ∧ br (hchk (↑n : Int) hs (-1 : Int) != (0 : Int)) (K (Value.int IntKind.i64 (hchk (↑n : Int) hs (-1 : Int))) (some (AObj.row (flts xs) (1 : Nat) false false true) :: some (AObj.row (ints hs) (2 : Nat) false false true) :: noH)) ((∃ (s : Nat), Is (s ≤ n ∧ ∀ (j : Nat), j < s → nzB (List.getD xs j (0 : Nat)) = true → knB hs (↑j : Int) = true) ∧ [poi, Value.pointer (some { block := (2 : Nat), off := (0 : Nat) }), poi, poi, poi, Value.int IntKind.i64 (0 : Int), poi, poi, poi, poi, poi, poi, poi, poi, poi, poi, poi, poi, poi, poi, poi, poi, poi, poi, poi, poi, poi, poi, poi, poi, poi, poi, poi, poi, poi, poi, poi, poi, poi, poi, poi, poi, poi, poi, poi, poi, poi, poi, poi, poi, poi, poi, poi, poi, poi, poi, poi, poi, poi, poi, poi, poi] = [poi, Value.pointer (some { block := (2 : Nat), off := (0 : Nat) }), poi, poi, poi, Value.int IntKind.i64 (↑s : Int), poi, poi, poi, poi, poi, poi, poi, poi, poi, poi, poi, poi, poi, poi, poi, poi, poi, poi, poi, poi, poi, poi, poi, poi, poi, poi, poi, poi, poi, poi, poi, poi, poi, poi, poi, poi, poi, poi, poi, poi, poi, poi, poi, poi, poi, poi, poi, poi, poi, poi, poi, poi, poi, poi, poi, poi] ∧ some (AObj.row (flts xs) (1 : Nat) false false true) :: some (AObj.row (ints hs) (2 : Nat) false false true) :: some (AObj.row [Value.string nm, Value.int IntKind.i64 f, Value.slice (some { block := (0 : Nat), off := (0 : Nat) }) n c, Value.slice (some { block := (1 : Nat), off := (0 : Nat) }) k d] (0 : Nat) false true (List.all [Value.string nm, Value.int IntKind.i64 f, Value.slice (some { block := (0 : Nat), off := (0 : Nat) }) n c, Value.slice (some { block := (1 : Nat), off := (0 : Nat) }) k d] atom)) :: noH = some (AObj.row (flts xs) (1 : Nat) false false true) :: some (AObj.row (ints hs) (2 : Nat) false false true) :: some (AObj.row [Value.string nm, Value.int IntKind.i64 f, Value.slice (some { block := (0 : Nat), off := (0 : Nat) }) n c, Value.slice (some { block := (1 : Nat), off := (0 : Nat) }) k d] (0 : Nat) false true false) :: noH) ∧ ∀ (s : Nat), Is (s ≤ n ∧ ∀ (j : Nat), j < s → nzB (List.getD xs j (0 : Nat)) = true → knB hs (↑j : Int) = true) → br (decide ((↑s : Int) < (↑n : Int))) (Is ((0 : Int) ≤ (↑s : Int) ∧ (↑s : Int) < (↑n : Int)) ∧ Is ((flts xs)[(0 : Nat) + Int.toNat (↑s : Int) * (1 : Nat)]? = some (Value.float FloatKind.f32 (List.getD xs ((0 : Nat) + Int.toNat (↑s : Int) * (1 : Nat)) (0 : Nat)))) ∧ Is True ∧ br (fNe (List.getD xs ((0 : Nat) + Int.toNat (↑s : Int) * (1 : Nat)) (0 : Nat)) (0 : Nat)) (Is (isRn0 xs hs k (flts xs) (ints hs)) ∧ br (!knB hs (↑s : Int)) (K (Value.int IntKind.i64 (1 : Int)) (some (AObj.row (flts xs) (1 : Nat) false false true) :: some (AObj.row (ints hs) (2 : Nat) false false true) :: noH)) (∃ (s' : Nat), Is (s' ≤ n ∧ ∀ (j : Nat), j < s' → nzB (List.getD xs j (0 : Nat)) = true → knB hs (↑j : Int) = true) ∧ Is (n - s' < n - s) ∧ [poi, Value.pointer (some { block := (2 : Nat), off := (0 : Nat) }), poi, poi, poi, Value.int IntKind.i64 (IntKind.wrap IntKind.i64 ((↑s : Int) + (1 : Int))), poi, poi, poi, poi, poi, poi, poi, poi, poi, poi, poi, poi, poi, poi, poi, poi, poi, poi, poi, poi, poi, poi, poi, poi, poi, poi, poi, poi, poi, poi, poi, poi, poi, poi, poi, poi, poi, poi, poi, poi, poi, poi, poi, poi, poi, poi, poi, poi, poi, poi, poi, poi, poi, poi, poi, poi] = [poi, Value.pointer (some { block := (2 : Nat), off := (0 : Nat) }), poi, poi, poi, Value.int IntKind.i64 (↑s' : Int), poi, poi, poi, poi, poi, poi, poi, poi, poi, poi, poi, poi, poi, poi, poi, poi, poi, poi, poi, poi, poi, poi, poi, poi, poi, poi, poi, poi, poi, poi, poi, poi, poi, poi, poi, poi, poi, poi, poi, poi, poi, poi, poi, poi, poi, poi, poi, poi, poi, poi, poi, poi, poi, poi, poi, poi] ∧ some (AObj.row (flts xs) (1 : Nat) false false true) :: some (AObj.row (ints hs) (2 : Nat) false false true) :: some (AObj.row [Value.string nm, Value.int IntKind.i64 f, Value.slice (some { block := (0 : Nat), off := (0 : Nat) }) n c, Value.slice (some { block := (1 : Nat), off := (0 : Nat) }) k d] (0 : Nat) false true false) :: noH = some (AObj.row (flts xs) (1 : Nat) false false true) :: some (AObj.row (ints hs) (2 : Nat) false false true) :: some (AObj.row [Value.string nm, Value.int IntKind.i64 f, Value.slice (some { block := (0 : Nat), off := (0 : Nat) }) n c, Value.slice (some { block := (1 : Nat), off := (0 : Nat) }) k d] (0 : Nat) false true false) :: noH)) (∃ (s' : Nat), Is (s' ≤ n ∧ ∀ (j : Nat), j < s' → nzB (List.getD xs j (0 : Nat)) = true → knB hs (↑j : Int) = true) ∧ Is (n - s' < n - s) ∧ [poi, Value.pointer (some { block := (2 : Nat), off := (0 : Nat) }), poi, poi, poi, Value.int IntKind.i64 (IntKind.wrap IntKind.i64 ((↑s : Int) + (1 : Int))), poi, poi, poi, poi, poi, poi, poi, poi, poi, poi, poi, poi, poi, poi, poi, poi, poi, poi, poi, poi, poi, poi, poi, poi, poi, poi, poi, poi, poi, poi, poi, poi, poi, poi, poi, poi, poi, poi, poi, poi, poi, poi, poi, poi, poi, poi, poi, poi, poi, poi, poi, poi, poi, poi, poi, poi] = [poi, Value.pointer (some { block := (2 : Nat), off := (0 : Nat) }), poi, poi, poi, Value.int IntKind.i64 (↑s' : Int), poi, poi, poi, poi, poi, poi, poi, poi, poi, poi, poi, poi, poi, poi, poi, poi, poi, poi, poi, poi, poi, poi, poi, poi, poi, poi, poi, poi, poi, poi, poi, poi, poi, poi, poi, poi, poi, poi, poi, poi, poi, poi, poi, poi, poi, poi, poi, poi, poi, poi, poi, poi, poi, poi, poi, poi] ∧ some (AObj.row (flts xs) (1 : Nat) false false true) :: some (AObj.row (ints hs) (2 : Nat) false false true) :: some (AObj.row [Value.string nm, Value.int IntKind.i64 f, Value.slice (some { block := (0 : Nat), off := (0 : Nat) }) n c, Value.slice (some { block := (1 : Nat), off := (0 : Nat) }) k d] (0 : Nat) false true false) :: noH = some (AObj.row (flts xs) (1 : Nat) false false true) :: some (AObj.row (ints hs) (2 : Nat) false false true) :: some (AObj.row [Value.string nm, Value.int IntKind.i64 f, Value.slice (some { block := (0 : Nat), off := (0 : Nat) }) n c, Value.slice (some { block := (1 : Nat), off := (0 : Nat) }) k d] (0 : Nat) false true false) :: noH)) (K (Value.int IntKind.i64 (0 : Int)) (some (AObj.row (flts xs) (1 : Nat) false false true) :: some (AObj.row (ints hs) (2 : Nat) false false true) :: noH)))))) := by kernel_rfl
set_option maxRecDepth 100000 in
theorem crY_ok {nm : ByteArray} {f : Int} {n c k d : Nat} {xs : List Nat} {hs : List Int} (hn : xs.length = n) (h9 : n ≤ 100000) (hk : hs.length = k * 2) (hk9 : k ≤ 100000) :
    SmallRes Try.prog 12 [.agg (runA nm f 0 n c 1 k d).toArray] (hp2r xs hs false false false false []) (.int .i64 (runE nm f xs n hs)) (hp2r xs hs false false false false []) := by
  refine fnP_res hm cr14_ok (hs := hsCrY nm f n c k d xs hs) ?_
  rw [crY_t, wrap_eq (x := 100000000 - (n : Int)) (by omega) (by omega)]
  have pre : ∀ {b : Bool} {e : Int}, wh b 4 = e → (b = true ↔ (100000000 : Int) < f + n ∧ n ≤ 4096) → runE nm f xs n hs = sel (fi [wh (!nameB nm) 8, wi f 0 100000000, fi [wh (decide ((4096 : Int) < n)) 5, fi (xs.map sE)], e]) (sel (hchk n hs (-1)) (wh (!hzH xs hs) 1)) := by
    intro b e he hb
    subst he
    have e4 : ∀ x : Int, wh (decide ((4096 : Int) < n)) 5 = 0 → fi [fi (xs.map sE), wh (decide ((100000000 : Int) < f + n)) 4] = fi [fi (xs.map sE), wh b 4] := fun _ h => by
      have h := (wh_zero (by decide)).1 h
      have h := of_decide_eq_false h
      have : decide ((100000000 : Int) < f + n) = b := by
        rw [Bool.eq_iff_iff, decide_eq_true_iff, hb]
        exact ⟨fun h1 => ⟨h1, by omega⟩, fun h1 => h1.1⟩
      rw [this]
    rw [runE]
    by_cases h1 : wh (!nameB nm) 8 = 0
    · by_cases h2 : wi f 0 100000000 = 0
      · by_cases h3 : wh (decide ((4096 : Int) < n)) 5 = 0
        · rw [e4 0 h3]
          by_cases h4 : fi (xs.map sE) = 0 <;> simp [fi, h1, h2, h3, h4, sel]
        · simp [fi, h1, h2, h3, sel]
      · simp [fi, h1, h2, sel]
    · simp [fi, h1, sel]
  have go : ∀ {e : Int}, runE nm f xs n hs = sel e (sel (hchk n hs (-1)) (wh (!hzH xs hs) 1)) → e = 0 → hchk n hs (-1) = 0 → runE nm f xs n hs = wh (!hzH xs hs) 1 := fun h h1 h2 => by rw [h, h1, h2]; rfl
  have yes : runE nm f xs n hs = wh (!hzH xs hs) 1 → hchk n hs (-1) = 0 → (∀ j, j < n → nzB (xs.getD j 0) = true → knB hs (j : Int) = true) → runE nm f xs n hs = 0 := fun h h1 h2 => by
    subst hn
    rw [h, (hz_iff hs (-1) h1).2 h2]; rfl
  have no : runE nm f xs n hs = wh (!hzH xs hs) 1 → hchk n hs (-1) = 0 → ∀ j, j < n → nzB (xs.getD j 0) = true → knB hs (j : Int) = false → runE nm f xs n hs = 1 := fun h h1 j hj h2 h3 => by
    subst hn
    have : hzH xs hs = false := by
      cases hz : hzH xs hs
      · rfl
      · rw [(hz_iff hs (-1) h1).1 hz j hj h2] at h3; cases h3
    rw [h, this]; rfl
  refine ⟨⟨rfl, hn, h9⟩, br_of (fun hb => ?_) (fun hb => ?_)⟩
  case' refine_1 => have P := pre (b := decide ((n : Int) ≤ 4096)) rfl (by rw [decide_eq_true_iff]; have := of_decide_eq_true hb; omega)
  case' refine_2 => have P := pre (b := false) (e := 0) rfl (by have := of_decide_eq_false hb; constructor <;> intro h; cases h; omega)
  all_goals
    refine br_of (fun h => ?_) (fun h => ⟨⟨rfl, hk, hk9⟩, br_of (fun h2 => ?_) (fun h2 => ?_)⟩)
    · rw [P]
      rw [sel_ne h]
      exact ⟨by first | trivial | rfl, by first | trivial | rfl⟩
    · rw [P]
      rw [sel_eq h, sel_ne h2]
      exact ⟨by first | trivial | rfl, by first | trivial | rfl⟩
    have h2' : hchk n hs (-1) = 0 := by simpa using h2
    have h0 : runE nm f xs n hs = wh (!hzH xs hs) 1 := go P (by simpa using h) h2'
    refine ⟨⟨(0 : Nat), ⟨by omega, fun j hj => by omega⟩, by first | trivial | rfl, by first | trivial | rfl⟩, fun s hs' => br_of (fun hc => ?_) (fun hc => ?_)⟩
    · have hc := lt_of_dec hc
      obtain ⟨i1, i2⟩ := hs'.out
      simp only [Nat.zero_add, Nat.mul_one, Int.toNat_natCast]
      have next : (nzB (xs.getD s 0) = true → knB hs (s : Int) = true) → ∀ j, j < s + 1 → nzB (xs.getD j 0) = true → knB hs (j : Int) = true := fun h j hj hz => by
        rcases Nat.lt_succ_iff_lt_or_eq.1 hj with h' | rfl
        · exact i2 j h' hz
        · exact h hz
      refine ⟨⟨by omega, by omega⟩, ⟨flts_at (by omega)⟩, ⟨trivial⟩, br_of (fun hz => ⟨⟨rfl, rfl, hk, hk9⟩, br_of (fun hkn => ?_) (fun hkn => ⟨s + 1, ⟨hc, next fun _ => by simpa using hkn⟩, ⟨by omega⟩, by rw [up1 hc (by omega)], by first | trivial | rfl⟩)⟩) (fun hz => ⟨s + 1, ⟨hc, next fun h => ?_⟩, ⟨by omega⟩, by rw [up1 hc (by omega)], by first | trivial | rfl⟩)⟩
      · rw [no h0 h2' s hc hz (by simpa using hkn)]
        exact ⟨by first | trivial | rfl, by first | trivial | rfl⟩
      · have hz : nzB (xs.getD s 0) = false := hz
        rw [hz] at h; cases h
    · have hc := ge_of_dec hc
      obtain ⟨i1, i2⟩ := hs'.out
      rw [yes h0 h2' (fun j hj => i2 j (by omega))]
      exact ⟨by first | trivial | rfl, by first | trivial | rfl⟩
noncomputable def orcCrY (xs : List Nat) (hs : List Int) : OrcV
  | [.agg ⟨[.string nm, .int .i64 f, .slice (some ⟨0, 0, none⟩) n _, .slice (some ⟨1, 0, none⟩) k _]⟩], [some (.row e1 1 false false true), some (.row e2 2 false false true)] =>
    some (.int .i64 (runE nm f xs n hs), [some (.row e1 1 false false true), some (.row e2 2 false false true)], isRun xs hs n k e1 e2)
  | _, _ => none
theorem okCrY (xs : List Nat) (hs : List Int) : OkV Try.prog 12 (orcCrY xs hs) := by
  intro args H ret H' vc h hv
  unfold orcCrY at h
  split at h
  · cases h
    obtain ⟨rfl, rfl, h1, h2, h3, h4⟩ := hv
    exact crY_ok h1 h2 h3 h4
  · cases h
end
end Qq
end
section
/- The fixed example: evaluated. -/
open Go Go.Vm Go.Proofs Sp
namespace Qq
noncomputable section
noncomputable def cS0 : CallF := ctx Try.prog []
noncomputable def hS0 : Hs Try.prog := {}
set_option maxRecDepth 1000000 in
set_option maxHeartbeats 0 in
theorem sent_t (K : Value → Heap → Prop) :
    (fnP Try.prog cS0 hS0 (5 : FuncId) [] [] K) =
    (K (Value.bool true) noH) := by kernel_rfl
end
end Qq
end
section
/- Contracts that the law calls. -/
open Go Go.Vm Go.Proofs Sp
namespace Sp
noncomputable section
/-- Data of contracts, told by cells. -/
noncomputable def rEG (nm : ByteArray) (f : Int) (n : Nat) (e1 e2 : List Value) : Int := runE nm f (fxs e1) n (ihs e2)
def knG (e2 : List Value) (i : Int) : Bool := knB (ihs e2) i
noncomputable def ngX (n : Nat) (e1 e2 : List Value) : List Value := flts (mkX (chR (rdF (fxs e1) (knB (ihs e2))) ngI n) n)
noncomputable def ngH (n : Nat) (e1 e2 : List Value) : List Value := ints (mkS (mkB (chR (rdF (fxs e1) (knB (ihs e2))) ngI n)) n)
noncomputable def ngK (n : Nat) (e1 e2 : List Value) : Nat := mkK (mkB (chR (rdF (fxs e1) (knB (ihs e2))) ngI n)) n
/-- How many readings are known. -/
def knZ (R : Nat → Int × Bool) : Nat → Nat
  | 0 => 0
  | s + 1 => if (R s).2 = true then knZ R s + 1 else knZ R s
def zrs (m : Nat) : List Int := List.replicate m 0
end
end Sp
namespace Qq
noncomputable section
noncomputable def smX (n : Nat) (e1 e2 e3 e4 : List Value) : List Value := flts (mkX (suR (rdF (fxs e1) (knB (ihs e2))) (rdF (fxs e3) (knB (ihs e4))) n) n)
noncomputable def smH (n : Nat) (e1 e2 e3 e4 : List Value) : List Value := ints (mkS (mkB (suR (rdF (fxs e1) (knB (ihs e2))) (rdF (fxs e3) (knB (ihs e4))) n)) n)
noncomputable def smK (n : Nat) (e1 e2 e3 e4 : List Value) : Nat := mkK (mkB (suR (rdF (fxs e1) (knB (ihs e2))) (rdF (fxs e3) (knB (ihs e4))) n)) n
def isFI (e1 e2 : List Value) : Prop := e1 = flts (fxs e1) ∧ e2 = ints (ihs e2)
noncomputable def orcShG : OrcV
  | [.agg ⟨[.string nm, .int .i64 _, .slice (some ⟨0, 0, none⟩) n _, .slice (some ⟨1, 0, none⟩) k _]⟩], [some (.row e1 1 false false true), some (.row e2 2 false false true)] =>
    some (.bool (shB nm n k), [some (.row e1 1 false false true), some (.row e2 2 false false true)], isFI e1 e2)
  | _, _ => none
theorem okShG : OkV Try.prog 4 orcShG := by
  intro args H ret H' vc h hv
  unfold orcShG at h
  split at h
  · rename_i nm f n c k d e1 e2
    cases h
    exact okShR (fxs e1) (ihs e2) _ _ _ _ _ (show orcShR (fxs e1) (ihs e2) [.agg ⟨[.string nm, .int .i64 f, .slice (some ⟨0, 0, none⟩) n c, .slice (some ⟨1, 0, none⟩) k d]⟩] [some (.row e1 1 false false true), some (.row e2 2 false false true)] = some _ from rfl) hv
  · cases h
noncomputable def orcCkG : OrcV
  | [.agg ⟨[.string nm, .int .i64 f, .slice (some ⟨0, 0, none⟩) n _, .slice (some ⟨1, 0, none⟩) k _]⟩], [some (.row e1 1 false false true), some (.row e2 2 false false true)] =>
    some (.int .i64 (rEG nm f n e1 e2), [some (.row e1 1 false false true), some (.row e2 2 false false true)], isRunG n k e1 e2)
  | _, _ => none
theorem okCkG : OkV Try.prog 12 orcCkG := by
  intro args H ret H' vc h hv
  unfold orcCkG at h
  split at h
  · rename_i nm f n c k d e1 e2
    cases h
    exact okCrY (fxs e1) (ihs e2) _ _ _ _ _ (show orcCrY (fxs e1) (ihs e2) [.agg ⟨[.string nm, .int .i64 f, .slice (some ⟨0, 0, none⟩) n c, .slice (some ⟨1, 0, none⟩) k d]⟩] [some (.row e1 1 false false true), some (.row e2 2 false false true)] = some _ from rfl) hv
  · cases h
/-- Three runs. -/
def agg3 (nm0 nm1 nm2 : ByteArray) (f0 f1 f2 : Int) (n0 n1 n2 k0 k1 k2 a0 a1 a2 d0 d1 d2 i : Nat) : List Value :=
  [.string nm0, .int .i64 f0, .slice (some ⟨i, 0, none⟩) n0 a0, .slice (some ⟨i + 1, 0, none⟩) k0 d0, .string nm1, .int .i64 f1, .slice (some ⟨i + 2, 0, none⟩) n1 a1, .slice (some ⟨i + 3, 0, none⟩) k1 d1, .string nm2, .int .i64 f2, .slice (some ⟨i + 4, 0, none⟩) n2 a2, .slice (some ⟨i + 5, 0, none⟩) k2 d2]
theorem s9_t (nm : ByteArray) (nm2 : ByteArray) (f : Int) (f2 : Int) (n : Nat) (c : Nat) (k : Nat) (d : Nat) (n2 : Nat) (c2 : Nat) (k2 : Nat) (d2 : Nat) (e1 : List Value) (e2 : List Value) (e3 : List Value) (e4 : List Value) (K : Value → Heap → Prop) :
    (fnP Try.prog c0 h0 (29 : FuncId) [Value.agg (List.toArray (runA nm f (0 : Nat) n c (1 : Nat) k d)), Value.agg (List.toArray (runA nm2 f2 (2 : Nat) n2 c2 (3 : Nat) k2 d2))] [some (AObj.row e1 (1 : Nat) false false true), some (AObj.row e2 (2 : Nat) false false true), some (AObj.row e3 (1 : Nat) false false true), some (AObj.row e4 (2 : Nat) false false true)] K) =
    (br (f == f2) (K (Value.bool ((↑n : Int) == (↑n2 : Int))) (some (AObj.row e1 (1 : Nat) false false true) :: some (AObj.row e2 (2 : Nat) false false true) :: some (AObj.row e3 (1 : Nat) false false true) :: some (AObj.row e4 (2 : Nat) false false true) :: noH)) (K (Value.bool false) (some (AObj.row e1 (1 : Nat) false false true) :: some (AObj.row e2 (2 : Nat) false false true) :: some (AObj.row e3 (1 : Nat) false false true) :: some (AObj.row e4 (2 : Nat) false false true) :: noH))) := by kernel_rfl
def sh9 (f f2 : Int) (n n2 : Nat) : Bool := f == f2 && ((n : Int) == n2)
noncomputable def orcS9 : OrcV
  | [.agg ⟨[.string _, .int .i64 f, .slice (some ⟨0, 0, none⟩) n _, .slice (some ⟨1, 0, none⟩) _ _]⟩, .agg ⟨[.string _, .int .i64 f2, .slice (some ⟨2, 0, none⟩) n2 _, .slice (some ⟨3, 0, none⟩) _ _]⟩], [some (.row e1 1 false false true), some (.row e2 2 false false true), some (.row e3 1 false false true), some (.row e4 2 false false true)] =>
    some (.bool (sh9 f f2 n n2), [some (.row e1 1 false false true), some (.row e2 2 false false true), some (.row e3 1 false false true), some (.row e4 2 false false true)], True)
  | _, _ => none
theorem okS9 : OkV Try.prog 29 orcS9 := by
  intro args H ret H' vc h hv
  unfold orcS9 at h
  split at h
  · cases h
    refine fnP_res hm c0_ok (hs := h0) ?_
    show fnP Try.prog c0 h0 29 [.agg (runA _ _ 0 _ _ 1 _ _).toArray, .agg (runA _ _ 2 _ _ 3 _ _).toArray] _ _
    rw [s9_t]
    refine br_of (fun h => ?_) (fun h => ?_)
    · rw [sh9, h]; exact ⟨by first | trivial | rfl, by first | trivial | rfl⟩
    · rw [sh9, h]; exact ⟨by first | trivial | rfl, by first | trivial | rfl⟩
  · cases h
noncomputable def hsC3 : Hs Try.prog where
  op y := if [102, 105, 108].contains y then some (hCa Try.prog 12 orcCkG okCkG) else if [113, 120].contains y then some (hCa Try.prog 29 orcS9 okS9) else none
  au := au0 Try.prog
noncomputable def cC3 : CallF := ctx Try.prog r1
theorem cC3_ok : CallOK Try.prog cC3 := ctx_ok hm (all_cons okWhenR (all_cons okFirstR all_nil))
theorem c3_t (nm0 : ByteArray) (nm1 : ByteArray) (nm2 : ByteArray) (f0 : Int) (f1 : Int) (f2 : Int) (n0 : Nat) (n1 : Nat) (n2 : Nat) (k0 : Nat) (k1 : Nat) (k2 : Nat) (a0 : Nat) (a1 : Nat) (a2 : Nat) (d0 : Nat) (d1 : Nat) (d2 : Nat) (e0 : List Value) (g0 : List Value) (e1 : List Value) (g1 : List Value) (e2 : List Value) (g2 : List Value) (K : Value → Heap → Prop) :
    (fnP Try.prog cC3 hsC3 (6 : FuncId) [Value.agg (List.toArray (agg3 nm0 nm1 nm2 f0 f1 f2 n0 n1 n2 k0 k1 k2 a0 a1 a2 d0 d1 d2 (0 : Nat)))] (row6g e0 g0 e1 g1 e2 g2) K) =
    (Is (isRunG n0 k0 e0 g0) ∧ Is (isRunG n1 k1 e1 g1) ∧ Is (isRunG n2 k2 e2 g2) ∧ Is True ∧ br (!sh9 f0 f1 n0 n1) (K (Value.int IntKind.i64 (fi [rEG nm0 f0 n0 e0 g0, rEG nm1 f1 n1 e1 g1, rEG nm2 f2 n2 e2 g2, (2 : Int)])) (some (AObj.row e0 (1 : Nat) false false true) :: some (AObj.row g0 (2 : Nat) false false true) :: some (AObj.row e1 (1 : Nat) false false true) :: some (AObj.row g1 (2 : Nat) false false true) :: some (AObj.row e2 (1 : Nat) false false true) :: some (AObj.row g2 (2 : Nat) false false true) :: noH)) (Is True ∧ K (Value.int IntKind.i64 (fi [rEG nm0 f0 n0 e0 g0, rEG nm1 f1 n1 e1 g1, rEG nm2 f2 n2 e2 g2, wh (!sh9 f0 f2 n0 n2) (2 : Int)])) (some (AObj.row e0 (1 : Nat) false false true) :: some (AObj.row g0 (2 : Nat) false false true) :: some (AObj.row e1 (1 : Nat) false false true) :: some (AObj.row g1 (2 : Nat) false false true) :: some (AObj.row e2 (1 : Nat) false false true) :: some (AObj.row g2 (2 : Nat) false false true) :: noH))) := by kernel_rfl
noncomputable def cLi : CallF := ctx Try.prog ((30, orcSm1) :: r1)
theorem cLi_ok : CallOK Try.prog cLi := ctx_ok hm (all_cons okSm1R (all_cons okWhenR (all_cons okFirstR all_nil)))
theorem li_t (l : Nat) (K : Value → Heap → Prop) :
    (fnP Try.prog cLi h0 (7 : FuncId) [Value.float FloatKind.f32 l] [] K) =
    (K (Value.int IntKind.i64 (fi [sE l, wh (Ieee.Format.order (FloatKind.format FloatKind.f32) l (0 : Nat) == some Ordering.lt) (3 : Int)])) noH) := by kernel_rfl
noncomputable def lpSsZ (xs : List Nat) (n c d : Nat) : Lp where
  σ := Nat
  E s := slots 26 [(0, .slice (some ⟨0, 0, none⟩) n c), (1, .slice (some ⟨1, 0, none⟩) n d), (5, .int .i64 (Int.ofNat s))]
  Hp _ := [fV xs true, fV xs true]
  I s := s ≤ n
  m s := n - s
noncomputable def hsSsmZ (xs : List Nat) (n c d : Nat) : Hs Try.prog where
  op y := if [602, 606].contains y then some (hIa Try.prog) else if [603, 607].contains y then some (hLd Try.prog (xF xs)) else none
  lp _ := some (lpSsZ xs n c d)
  cl _ := keep 26 [0, 1, 5]
  au := auF []
theorem ss_tZ (xs : List Nat) (n : Nat) (c : Nat) (d : Nat) (K : Value → Heap → Prop) :
    (fnP Try.prog c0 (hsSsmZ xs n c d) (47 : FuncId) [Value.slice (some { block := (0 : Nat), off := (0 : Nat) }) n c, Value.slice (some { block := (1 : Nat), off := (0 : Nat) }) n d] [fV xs true, fV xs true] K) =
    (br ((↑n : Int) != (↑n : Int)) (K (Value.bool false) (some (AObj.row (flts xs) (1 : Nat) true true true) :: some (AObj.row (flts xs) (1 : Nat) true true true) :: noH)) ((∃ (s : Nat), Is (s ≤ n) ∧ [Value.slice (some { block := (0 : Nat), off := (0 : Nat) }) n c, Value.slice (some { block := (1 : Nat), off := (0 : Nat) }) n d, poi, poi, poi, Value.int IntKind.i64 (0 : Int), poi, poi, poi, poi, poi, poi, poi, poi, poi, poi, poi, poi, poi, poi, poi, poi, poi, poi, poi, poi] = [Value.slice (some { block := (0 : Nat), off := (0 : Nat) }) n c, Value.slice (some { block := (1 : Nat), off := (0 : Nat) }) n d, poi, poi, poi, Value.int IntKind.i64 (↑s : Int), poi, poi, poi, poi, poi, poi, poi, poi, poi, poi, poi, poi, poi, poi, poi, poi, poi, poi, poi, poi] ∧ some (AObj.row (flts xs) (1 : Nat) true true true) :: some (AObj.row (flts xs) (1 : Nat) true true true) :: noH = some (AObj.row (flts xs) (1 : Nat) true true true) :: some (AObj.row (flts xs) (1 : Nat) true true true) :: noH) ∧ ∀ (s : Nat), Is (s ≤ n) → br (decide ((↑s : Int) < (↑n : Int))) (Is ((0 : Int) ≤ (↑s : Int) ∧ (↑s : Int) < (↑n : Int)) ∧ Is ((flts xs)[(0 : Nat) + Int.toNat (↑s : Int) * (1 : Nat)]? = some (Value.float FloatKind.f32 (List.getD xs ((0 : Nat) + Int.toNat (↑s : Int) * (1 : Nat)) (0 : Nat)))) ∧ Is ((0 : Int) ≤ (↑s : Int) ∧ (↑s : Int) < (↑n : Int)) ∧ Is ((flts xs)[(0 : Nat) + Int.toNat (↑s : Int) * (1 : Nat)]? = some (Value.float FloatKind.f32 (List.getD xs ((0 : Nat) + Int.toNat (↑s : Int) * (1 : Nat)) (0 : Nat)))) ∧ Is True ∧ br (fNe (List.getD xs ((0 : Nat) + Int.toNat (↑s : Int) * (1 : Nat)) (0 : Nat)) (List.getD xs ((0 : Nat) + Int.toNat (↑s : Int) * (1 : Nat)) (0 : Nat))) (K (Value.bool false) (some (AObj.row (flts xs) (1 : Nat) true true true) :: some (AObj.row (flts xs) (1 : Nat) true true true) :: noH)) (∃ (s' : Nat), Is (s' ≤ n) ∧ Is (n - s' < n - s) ∧ [Value.slice (some { block := (0 : Nat), off := (0 : Nat) }) n c, Value.slice (some { block := (1 : Nat), off := (0 : Nat) }) n d, poi, poi, poi, Value.int IntKind.i64 (IntKind.wrap IntKind.i64 ((↑s : Int) + (1 : Int))), poi, poi, poi, poi, poi, poi, poi, poi, poi, poi, poi, poi, poi, poi, poi, poi, poi, poi, poi, poi] = [Value.slice (some { block := (0 : Nat), off := (0 : Nat) }) n c, Value.slice (some { block := (1 : Nat), off := (0 : Nat) }) n d, poi, poi, poi, Value.int IntKind.i64 (↑s' : Int), poi, poi, poi, poi, poi, poi, poi, poi, poi, poi, poi, poi, poi, poi, poi, poi, poi, poi, poi, poi] ∧ some (AObj.row (flts xs) (1 : Nat) true true true) :: some (AObj.row (flts xs) (1 : Nat) true true true) :: noH = some (AObj.row (flts xs) (1 : Nat) true true true) :: some (AObj.row (flts xs) (1 : Nat) true true true) :: noH)) (K (Value.bool true) (some (AObj.row (flts xs) (1 : Nat) true true true) :: some (AObj.row (flts xs) (1 : Nat) true true true) :: noH)))) := by kernel_rfl
noncomputable def orcSs1Z (xs : List Nat) : OrcV
  | [.slice (some ⟨0, 0, none⟩) n _, .slice (some ⟨1, 0, none⟩) m _], [some (.row e1 1 true true true), some (.row e2 1 true true true)] =>
    some (.bool true, [some (.row e1 1 true true true), some (.row e2 1 true true true)], e1 = flts xs ∧ e2 = flts xs ∧ xs.length = n ∧ m = n ∧ n ≤ 100000 ∧ fi (xs.map sE) = 0)
  | _, _ => none
set_option maxRecDepth 100000 in
theorem okSs1Z (xs : List Nat) : OkV Try.prog 47 (orcSs1Z xs) := by
  intro args H ret H' vc h hv
  unfold orcSs1Z at h
  split at h
  · rename_i n c m d e1 e2
    cases h
    obtain ⟨rfl, rfl, h1, rfl, h4, h5⟩ := hv
    refine fnP_res hm c0_ok (hs := hsSsmZ xs m c d) ?_
    show fnP Try.prog c0 (hsSsmZ xs m c d) 47 [.slice (some ⟨0, 0, none⟩) m _, .slice (some ⟨1, 0, none⟩) m _] [fV xs true, fV xs true] _
    rw [ss_tZ]
    refine br_of (fun h => by simp at h) (fun _ => ⟨⟨(0 : Nat), ⟨by omega⟩, by first | trivial | rfl, by first | trivial | rfl⟩, fun s hs' => br_of (fun hc => ?_) (fun hc => ⟨by first | trivial | rfl, by first | trivial | rfl⟩)⟩)
    have hc := lt_of_dec hc
    simp only [Nat.zero_add, Nat.mul_one, Int.toNat_natCast]
    have hne : fNe (xs.getD s 0) (xs.getD s 0) = false := by
      rw [Fl.ne_lev (Fl.smp (smps h5 (by omega))) (Fl.smp (smps h5 (by omega)))]
      exact decide_eq_false (fun h => h rfl)
    rw [hne]
    exact ⟨⟨by omega, by omega⟩, ⟨flts_at (by omega)⟩, ⟨by omega, by omega⟩, ⟨flts_at (by omega)⟩, ⟨trivial⟩, br_of (fun h => by cases h) (fun _ => ⟨s + 1, ⟨hc⟩, ⟨by omega⟩, by rw [up1 hc (by omega)], by first | trivial | rfl⟩)⟩
  · cases h
noncomputable def hsSrZ (xs : List Nat) : Hs Try.prog where
  au := auCalls [(47, hCa Try.prog 47 (orcSs1Z xs) (okSs1Z xs)), (22, hCa Try.prog 22 orcSameX same_okX)]
theorem sr_tZ (nm1 : ByteArray) (nm2 : ByteArray) (f : Int) (g : Int) (n : Nat) (c : Nat) (k : Nat) (d : Nat) (m : Nat) (c2 : Nat) (k2 : Nat) (d2 : Nat) (xs : List Nat) (hs : List Int) (K : Value → Heap → Prop) :
    (fnP Try.prog c0 (hsSrZ xs) (14 : FuncId) [Value.agg (List.toArray (runA nm1 f (0 : Nat) n c (1 : Nat) k d)), Value.agg (List.toArray (runA nm2 g (2 : Nat) m c2 (3 : Nat) k2 d2))] [fV xs true, some (AObj.row (ints hs) (2 : Nat) true true true), fV xs true, some (AObj.row (ints hs) (2 : Nat) true true true)] K) =
    (br (ByteArray.toList nm1 == ByteArray.toList nm2) (br (f == g) (Is (flts xs = flts xs ∧ flts xs = flts xs ∧ List.length xs = n ∧ m = n ∧ n ≤ (100000 : Nat) ∧ fi (List.map sE xs) = (0 : Int)) ∧ Is (k = k2 ∧ ints hs = ints hs ∧ k ≤ (100000 : Nat) ∧ isInts (ints hs) k) ∧ K (Value.bool true) (some (AObj.row (flts xs) (1 : Nat) true true true) :: some (AObj.row (ints hs) (2 : Nat) true true true) :: some (AObj.row (flts xs) (1 : Nat) true true true) :: some (AObj.row (ints hs) (2 : Nat) true true true) :: noH)) (K (Value.bool false) (some (AObj.row (flts xs) (1 : Nat) true true true) :: some (AObj.row (ints hs) (2 : Nat) true true true) :: some (AObj.row (flts xs) (1 : Nat) true true true) :: some (AObj.row (ints hs) (2 : Nat) true true true) :: noH))) (K (Value.bool false) (some (AObj.row (flts xs) (1 : Nat) true true true) :: some (AObj.row (ints hs) (2 : Nat) true true true) :: some (AObj.row (flts xs) (1 : Nat) true true true) :: some (AObj.row (ints hs) (2 : Nat) true true true) :: noH))) := by kernel_rfl
noncomputable def orcSrZ (xs : List Nat) (hs : List Int) : OrcV
  | [.agg ⟨[.string nm1, .int .i64 f, .slice (some ⟨0, 0, none⟩) n _, .slice (some ⟨1, 0, none⟩) k _]⟩, .agg ⟨[.string nm2, .int .i64 g, .slice (some ⟨2, 0, none⟩) m _, .slice (some ⟨3, 0, none⟩) k2 _]⟩], [some (.row e1 1 true true true), some (.row e2 2 true true true), some (.row e3 1 true true true), some (.row e4 2 true true true)] =>
    some (.bool true, [some (.row e1 1 true true true), some (.row e2 2 true true true), some (.row e3 1 true true true), some (.row e4 2 true true true)], isSr xs hs e1 e2 e3 e4 ∧ nm2 = nm1 ∧ g = f ∧ m = n ∧ k2 = k ∧ hs.length = k * 2 ∧ k ≤ 100000 ∧ xs.length = n ∧ n ≤ 100000 ∧ fi (xs.map sE) = 0)
  | _, _ => none
theorem okSrZ (xs : List Nat) (hs : List Int) : OkV Try.prog 14 (orcSrZ xs hs) := by
  intro args H ret H' vc h hv
  unfold orcSrZ at h
  split at h
  · rename_i nm1 f n c k d nm2 g m c2 k2 d2 e1 e2 e3 e4
    cases h
    obtain ⟨⟨rfl, rfl, rfl, rfl⟩, rfl, rfl, rfl, rfl, hk, hk9, hn, h9, hx⟩ := hv
    refine fnP_res hm c0_ok (hs := hsSrZ xs) ?_
    show fnP Try.prog c0 (hsSrZ xs) 14 [.agg (runA nm2 g 0 m _ 1 k2 _).toArray, .agg (runA nm2 g 2 m _ 3 k2 _).toArray] [fV xs true, some (.row (ints hs) 2 true true true), fV xs true, some (.row (ints hs) 2 true true true)] _
    rw [sr_tZ, beq_self_eq_true, beq_self_eq_true]
    exact br_of (fun _ => br_of (fun _ => ⟨⟨by first | trivial | rfl, by first | trivial | rfl, hn, by first | trivial | rfl, h9, hx⟩, ⟨by first | trivial | rfl, by first | trivial | rfl, hk9, hs, by first | trivial | rfl, hk⟩, by first | trivial | rfl, by first | trivial | rfl⟩) (fun h => by cases h)) (fun h => by cases h)
  · cases h

noncomputable def hsKz0 (xs : List Nat) (hs : List Int) (nm : ByteArray) (f : Int) (n c k d : Nat) : Lp where
  σ := Nat
  E _ := slots 22 [(1, .pointer (some ⟨2, 0, none⟩)), (3, .slice (some ⟨3, 0, none⟩) 0 0)]
  Hp _ := hp2r xs hs true true true true [runO nm f n c k d, some (.row [] 1 true true true)]
  I s := s = 0
  m _ := 0
noncomputable def hsKz1 (xs : List Nat) (hs : List Int) (n : Nat) : Lp where
  σ := Nat
  E s := slots 22 [(3, .slice (some ⟨2, 0, none⟩) (knZ (rdF xs (knB hs)) s) 0), (7, .slice (some ⟨3, 0, none⟩) n 0), (8, .int .i64 (Int.ofNat n)), (9, .int .i64 (Int.ofNat s))]
  Hp s := hp2r xs hs true true true true [oneR (zrs (knZ (rdF xs (knB hs)) s)), rdR n (rdF xs (knB hs))]
  I s := s ≤ n
  m s := n - s
noncomputable def hsKz (nm : ByteArray) (f : Int) (n c k d : Nat) (xs : List Nat) (hs : List Int) : Hs Try.prog where
  op y := if y = 400 then some (hIa Try.prog) else if y = 401 then some (hLd Try.prog (zR (rdF xs (knB hs)))) else if y = 604 then some (hAp Try.prog) else none
  lp _ := some (hsKz1 xs hs n)
  cut y := if y = 2 then some (hsKz0 xs hs nm f n c k d) else none
  cl y := if y = 2 then keep 22 [1, 3] else keep 22 [3, 7, 8, 9]
  nl y := if y = 2 then [.slot 3 1] else []
  au := auCalls [(38, hCa Try.prog 38 (orcRr xs hs) (okRr xs hs))]
theorem kz_t (nm : ByteArray) (f : Int) (n : Nat) (c : Nat) (k : Nat) (d : Nat) (xs : List Nat) (hs : List Int) (K : Value → Heap → Prop) :
    (fnP Try.prog c0 (hsKz nm f n c k d xs hs) (54 : FuncId) [Value.agg (List.toArray (runA nm f (0 : Nat) n c (1 : Nat) k d))] (hp2r xs hs true true true true []) K) =
    ((∃ (s : Nat), Is (s = (0 : Nat)) ∧ [poi, Value.pointer (some { block := (2 : Nat), off := (0 : Nat) }), poi, Value.slice (some { block := (3 : Nat), off := (0 : Nat) }) (0 : Nat) (0 : Nat), poi, poi, poi, poi, poi, poi, poi, poi, poi, poi, poi, poi, poi, poi, poi, poi, poi, poi] = [poi, Value.pointer (some { block := (2 : Nat), off := (0 : Nat) }), poi, Value.slice (some { block := (3 : Nat), off := (0 : Nat) }) (0 : Nat) (0 : Nat), poi, poi, poi, poi, poi, poi, poi, poi, poi, poi, poi, poi, poi, poi, poi, poi, poi, poi] ∧ some (AObj.row (flts xs) (1 : Nat) true true true) :: some (AObj.row (ints hs) (2 : Nat) true true true) :: some (AObj.row [Value.string nm, Value.int IntKind.i64 f, Value.slice (some { block := (0 : Nat), off := (0 : Nat) }) n c, Value.slice (some { block := (1 : Nat), off := (0 : Nat) }) k d] (0 : Nat) false true (List.all [Value.string nm, Value.int IntKind.i64 f, Value.slice (some { block := (0 : Nat), off := (0 : Nat) }) n c, Value.slice (some { block := (1 : Nat), off := (0 : Nat) }) k d] atom)) :: some (AObj.row [] (1 : Nat) true true true) :: noH = some (AObj.row (flts xs) (1 : Nat) true true true) :: some (AObj.row (ints hs) (2 : Nat) true true true) :: some (AObj.row [Value.string nm, Value.int IntKind.i64 f, Value.slice (some { block := (0 : Nat), off := (0 : Nat) }) n c, Value.slice (some { block := (1 : Nat), off := (0 : Nat) }) k d] (0 : Nat) false true false) :: some (AObj.row [] (1 : Nat) true true true) :: noH) ∧ ∀ (s : Nat), Is (s = (0 : Nat)) → Is (isRun xs hs n k (flts xs) (ints hs) ∧ fi (List.map sE xs) = (0 : Int) ∧ hchk (↑n : Int) hs (-1 : Int) = (0 : Int)) ∧ (∃ (s : Nat), Is (s ≤ n) ∧ [poi, poi, poi, Value.slice (some { block := (2 : Nat), off := (0 : Nat) }) (0 : Nat) (0 : Nat), poi, poi, poi, Value.slice (some { block := (3 : Nat), off := (0 : Nat) }) n (0 : Nat), Value.int IntKind.i64 (↑n : Int), Value.int IntKind.i64 (0 : Int), poi, poi, poi, poi, poi, poi, poi, poi, poi, poi, poi, poi] = [poi, poi, poi, Value.slice (some { block := (2 : Nat), off := (0 : Nat) }) (knZ (rdF xs (knB hs)) s) (0 : Nat), poi, poi, poi, Value.slice (some { block := (3 : Nat), off := (0 : Nat) }) n (0 : Nat), Value.int IntKind.i64 (↑n : Int), Value.int IntKind.i64 (↑s : Int), poi, poi, poi, poi, poi, poi, poi, poi, poi, poi, poi, poi] ∧ some (AObj.row (flts xs) (1 : Nat) true true true) :: some (AObj.row (ints hs) (2 : Nat) true true true) :: some (AObj.row [] (1 : Nat) true true true) :: some (AObj.row (rdc n (rdF xs (knB hs))) (2 : Nat) true true true) :: noH = some (AObj.row (flts xs) (1 : Nat) true true true) :: some (AObj.row (ints hs) (2 : Nat) true true true) :: some (AObj.row (ints (zrs (knZ (rdF xs (knB hs)) s))) (1 : Nat) true true true) :: some (AObj.row (rdc n (rdF xs (knB hs))) (2 : Nat) true true true) :: noH) ∧ ∀ (s : Nat), Is (s ≤ n) → br (decide ((↑s : Int) < (↑n : Int))) (Is ((0 : Int) ≤ (↑s : Int) ∧ (↑s : Int) < (↑n : Int)) ∧ Is ((if (0 : Nat) + Int.toNat (↑s : Int) * (2 : Nat) + (2 : Nat) ≤ List.length (rdc n (rdF xs (knB hs))) then some (Value.agg (List.toArray (List.take (2 : Nat) (List.drop ((0 : Nat) + Int.toNat (↑s : Int) * (2 : Nat)) (rdc n (rdF xs (knB hs))))))) else none) = some (Value.agg #[Value.int IntKind.i64 (rdV (rdF xs (knB hs)) ((0 : Nat) + Int.toNat (↑s : Int) * (2 : Nat))), Value.bool (rdW (rdF xs (knB hs)) ((0 : Nat) + Int.toNat (↑s : Int) * (2 : Nat)))])) ∧ br (rdW (rdF xs (knB hs)) ((0 : Nat) + Int.toNat (↑s : Int) * (2 : Nat))) (Is (List.length (ints (zrs (knZ (rdF xs (knB hs)) s))) = knZ (rdF xs (knB hs)) s * (1 : Nat) ∧ (knZ (rdF xs (knB hs)) s + (1 : Nat)) * (8 : Nat) ≤ (140737488355328 : Nat) ∧ knZ (rdF xs (knB hs)) s + (1 : Nat) ≤ (9223372036854775807 : Nat)) ∧ ∃ (s' : Nat), Is (s' ≤ n) ∧ Is (n - s' < n - s) ∧ [poi, poi, poi, Value.slice (some { block := (2 : Nat), off := (0 : Nat) }) (knZ (rdF xs (knB hs)) s + (1 : Nat)) (0 : Nat), poi, poi, poi, Value.slice (some { block := (3 : Nat), off := (0 : Nat) }) n (0 : Nat), Value.int IntKind.i64 (↑n : Int), Value.int IntKind.i64 (IntKind.wrap IntKind.i64 ((↑s : Int) + (1 : Int))), poi, poi, poi, poi, poi, poi, poi, poi, poi, poi, poi, poi] = [poi, poi, poi, Value.slice (some { block := (2 : Nat), off := (0 : Nat) }) (knZ (rdF xs (knB hs)) s') (0 : Nat), poi, poi, poi, Value.slice (some { block := (3 : Nat), off := (0 : Nat) }) n (0 : Nat), Value.int IntKind.i64 (↑n : Int), Value.int IntKind.i64 (↑s' : Int), poi, poi, poi, poi, poi, poi, poi, poi, poi, poi, poi, poi] ∧ some (AObj.row (flts xs) (1 : Nat) true true true) :: some (AObj.row (ints hs) (2 : Nat) true true true) :: some (AObj.row (ints (zrs (knZ (rdF xs (knB hs)) s)) ++ [Value.int IntKind.i64 (rdV (rdF xs (knB hs)) ((0 : Nat) + Int.toNat (↑s : Int) * (2 : Nat)))]) (1 : Nat) true true (List.all [Value.int IntKind.i64 (rdV (rdF xs (knB hs)) ((0 : Nat) + Int.toNat (↑s : Int) * (2 : Nat)))] atom)) :: some (AObj.row (rdc n (rdF xs (knB hs))) (2 : Nat) true true true) :: noH = some (AObj.row (flts xs) (1 : Nat) true true true) :: some (AObj.row (ints hs) (2 : Nat) true true true) :: some (AObj.row (ints (zrs (knZ (rdF xs (knB hs)) s'))) (1 : Nat) true true true) :: some (AObj.row (rdc n (rdF xs (knB hs))) (2 : Nat) true true true) :: noH) (∃ (s' : Nat), Is (s' ≤ n) ∧ Is (n - s' < n - s) ∧ [poi, poi, poi, Value.slice (some { block := (2 : Nat), off := (0 : Nat) }) (knZ (rdF xs (knB hs)) s) (0 : Nat), poi, poi, poi, Value.slice (some { block := (3 : Nat), off := (0 : Nat) }) n (0 : Nat), Value.int IntKind.i64 (↑n : Int), Value.int IntKind.i64 (IntKind.wrap IntKind.i64 ((↑s : Int) + (1 : Int))), poi, poi, poi, poi, poi, poi, poi, poi, poi, poi, poi, poi] = [poi, poi, poi, Value.slice (some { block := (2 : Nat), off := (0 : Nat) }) (knZ (rdF xs (knB hs)) s') (0 : Nat), poi, poi, poi, Value.slice (some { block := (3 : Nat), off := (0 : Nat) }) n (0 : Nat), Value.int IntKind.i64 (↑n : Int), Value.int IntKind.i64 (↑s' : Int), poi, poi, poi, poi, poi, poi, poi, poi, poi, poi, poi, poi] ∧ some (AObj.row (flts xs) (1 : Nat) true true true) :: some (AObj.row (ints hs) (2 : Nat) true true true) :: some (AObj.row (ints (zrs (knZ (rdF xs (knB hs)) s))) (1 : Nat) true true true) :: some (AObj.row (rdc n (rdF xs (knB hs))) (2 : Nat) true true true) :: noH = some (AObj.row (flts xs) (1 : Nat) true true true) :: some (AObj.row (ints hs) (2 : Nat) true true true) :: some (AObj.row (ints (zrs (knZ (rdF xs (knB hs)) s'))) (1 : Nat) true true true) :: some (AObj.row (rdc n (rdF xs (knB hs))) (2 : Nat) true true true) :: noH)) (K (Value.slice (some { block := (2 : Nat), off := (0 : Nat) }) (knZ (rdF xs (knB hs)) s) (0 : Nat)) (some (AObj.row (flts xs) (1 : Nat) true true true) :: some (AObj.row (ints hs) (2 : Nat) true true true) :: some (AObj.row (ints (zrs (knZ (rdF xs (knB hs)) s))) (1 : Nat) true true true) :: noH))) := by kernel_rfl
end
end Qq
end
section
/- Contracts that the law calls: proved. -/
open Go Go.Vm Go.Proofs Sp
namespace Sp
noncomputable section
/-- The error of three runs. -/
noncomputable def c3G (nm0 nm1 nm2 : ByteArray) (f0 f1 f2 : Int) (n0 n1 n2 : Nat) (e0 g0 e1 g1 e2 g2 : List Value) : Int :=
  fi [rEG nm0 f0 n0 e0 g0, rEG nm1 f1 n1 e1 g1, rEG nm2 f2 n2 e2 g2, wh (!Qq.sh9 f0 f1 n0 n1 || !Qq.sh9 f0 f2 n0 n2) 2]
noncomputable def liE (l : Nat) : Int := fi [sE l, wh (fLt l 0) 3]
noncomputable def suQ (n : Nat) (e1 e2 e3 e4 : List Value) : Prop := ∀ i, i < n → (rdF (fxs e1) (knB (ihs e2)) i).2 = true → (rdF (fxs e3) (knB (ihs e4)) i).2 = true → ((rdF (fxs e1) (knB (ihs e2)) i).1 + (rdF (fxs e3) (knB (ihs e4)) i).1).natAbs ≤ 16384
noncomputable def enQ (n : Nat) (e1 e2 : List Value) : Prop := ∀ i, i < n → (rdF (fxs e1) (knB (ihs e2)) i).1 = 0
end
end Sp
namespace Qq
noncomputable section
noncomputable def orcC3 : OrcV
  | [.agg ⟨[.string nm0, .int .i64 f0, .slice (some ⟨0, 0, none⟩) n0 _, .slice (some ⟨1, 0, none⟩) k0 _, .string nm1, .int .i64 f1, .slice (some ⟨2, 0, none⟩) n1 _, .slice (some ⟨3, 0, none⟩) k1 _, .string nm2, .int .i64 f2, .slice (some ⟨4, 0, none⟩) n2 _, .slice (some ⟨5, 0, none⟩) k2 _]⟩],
      [some (.row e0 1 false false true), some (.row g0 2 false false true), some (.row e1 1 false false true), some (.row g1 2 false false true), some (.row e2 1 false false true), some (.row g2 2 false false true)] =>
    some (.int .i64 (c3G nm0 nm1 nm2 f0 f1 f2 n0 n1 n2 e0 g0 e1 g1 e2 g2), row6g e0 g0 e1 g1 e2 g2, isRunG n0 k0 e0 g0 ∧ isRunG n1 k1 e1 g1 ∧ isRunG n2 k2 e2 g2)
  | _, _ => none
theorem okC3 : OkV Try.prog 6 orcC3 := by
  intro args H ret H' vc h hv
  unfold orcC3 at h
  split at h
  · cases h
    obtain ⟨h0, h1, h2⟩ := hv
    refine fnP_res hm cC3_ok (hs := hsC3) ?_
    show fnP Try.prog cC3 hsC3 6 [.agg (agg3 _ _ _ _ _ _ _ _ _ _ _ _ _ _ _ _ _ _ 0).toArray] (row6g _ _ _ _ _ _) _
    rw [c3_t]
    refine ⟨⟨h0⟩, ⟨h1⟩, ⟨h2⟩, ⟨trivial⟩, br_of (fun h => ?_) (fun h => ?_)⟩
    · rw [c3G, h, Bool.true_or]; exact ⟨by first | trivial | rfl, by first | trivial | rfl⟩
    · rw [c3G, h, Bool.false_or]; exact ⟨⟨trivial⟩, by first | trivial | rfl, by first | trivial | rfl⟩
  · cases h
noncomputable def orcLi : OrcV
  | [.float .f32 l], [] => some (.int .i64 (liE l), [], True)
  | _, _ => none
theorem okLi : OkV Try.prog 7 orcLi := by
  intro args H ret H' vc h hv
  unfold orcLi at h
  split at h
  · cases h
    refine fnP_res hm cLi_ok (hs := h0) ?_
    show fnP Try.prog cLi h0 7 _ _ _
    rw [li_t]
    exact ⟨by first | trivial | rfl, by first | trivial | rfl⟩
  · cases h
noncomputable def orcSent : OrcV
  | [], [] => some (.bool true, [], True)
  | _, _ => none
theorem cS0_ok : CallOK Try.prog cS0 := ctx_ok hm all_nil
theorem okSent : OkV Try.prog 5 orcSent := by
  intro args H ret H' vc h hv
  unfold orcSent at h
  split at h
  · cases h
    refine fnP_res hm cS0_ok (hs := hS0) ?_
    show fnP Try.prog cS0 hS0 5 _ _ _
    rw [sent_t]
    exact ⟨by first | trivial | rfl, by first | trivial | rfl⟩
  · cases h
/- Both are runs of one's own. -/
noncomputable def orcSrG : OrcV
  | [.agg ⟨[.string nm1, .int .i64 f, .slice (some ⟨0, 0, none⟩) n _, .slice (some ⟨1, 0, none⟩) k _]⟩, .agg ⟨[.string nm2, .int .i64 g, .slice (some ⟨2, 0, none⟩) m _, .slice (some ⟨3, 0, none⟩) k2 _]⟩], [some (.row e1 1 true true true), some (.row e2 2 true true true), some (.row e3 1 true true true), some (.row e4 2 true true true)] =>
    some (.bool true, [some (.row e1 1 true true true), some (.row e2 2 true true true), some (.row e3 1 true true true), some (.row e4 2 true true true)], (e3 = e1 ∧ e4 = e2 ∧ nm2 = nm1 ∧ g = f ∧ m = n ∧ k2 = k) ∧ okRun nm1 f n k e1 e2)
  | _, _ => none
theorem okSrG : OkV Try.prog 14 orcSrG := by
  intro args H ret H' vc h hv
  unfold orcSrG at h
  split at h
  · rename_i nm1 f n c k d nm2 g m c2 k2 d2 e1 e2 e3 e4
    cases h
    obtain ⟨⟨rfl, rfl, rfl, rfl, rfl, rfl⟩, h1, h2⟩ := hv
    obtain ⟨q1, q2, q3, q4, q5, q6⟩ := h1
    obtain ⟨_, _, _, _, hx, _⟩ := run_zero h2
    exact okSrZ (fxs e3) (ihs e4) _ _ _ _ _ (show orcSrZ (fxs e3) (ihs e4) [.agg ⟨[.string nm2, .int .i64 g, .slice (some ⟨0, 0, none⟩) m c, .slice (some ⟨1, 0, none⟩) k2 d]⟩, .agg ⟨[.string nm2, .int .i64 g, .slice (some ⟨2, 0, none⟩) m c2, .slice (some ⟨3, 0, none⟩) k2 d2]⟩] [some (.row e3 1 true true true), some (.row e4 2 true true true), some (.row e3 1 true true true), some (.row e4 2 true true true)] = some _ from rfl) ⟨⟨q1, q1, q2, q2⟩, rfl, rfl, rfl, rfl, q5, q6, q3, q4, hx⟩
  · cases h
noncomputable def orcOwTG : OrcV
  | [.agg ⟨[.string nm, .int .i64 f, .slice (some ⟨0, 0, none⟩) n _, .slice (some ⟨1, 0, none⟩) k _]⟩], [some (.row e1 1 true true true), some (.row e2 2 true true true)] =>
    some (.agg #[.string nm, .int .i64 f, .slice (some ⟨2, 0, none⟩) n 0, .slice (some ⟨3, 0, none⟩) k 0], [some (.row e1 1 true true true), some (.row e2 2 true true true), some (.row e1 1 true true true), some (.row e2 2 true true true)], isRunG n k e1 e2)
  | _, _ => none
theorem okOwTG : OkV Try.prog 9 orcOwTG := by
  intro args H ret H' vc h hv
  unfold orcOwTG at h
  split at h
  · rename_i nm f n c k d e1 e2
    cases h
    have hv' : isRun (fxs e1) (ihs e2) n k e1 e2 := hv
    have := okOwT (fxs e1) (ihs e2) _ _ _ _ _ (show orcOwT (fxs e1) (ihs e2) [.agg ⟨[.string nm, .int .i64 f, .slice (some ⟨0, 0, none⟩) n c, .slice (some ⟨1, 0, none⟩) k d]⟩] [some (.row e1 1 true true true), some (.row e2 2 true true true)] = some _ from rfl) hv'
    have q1 : fR (fxs e1) = some (.row e1 1 true true true) := by rw [fR, ← hv'.1]
    have q2 := hv'.2.1
    rw [q1, ← q2] at this
    exact this
  · cases h
noncomputable def orcKbG : OrcV
  | [.agg ⟨[.string _, .int .i64 _, .slice (some ⟨0, 0, none⟩) n _, .slice (some ⟨1, 0, none⟩) k _]⟩, .int .i64 i], [some (.row e1 1 m1 w1 true), some (.row e2 2 m2 w2 true)] =>
    some (.bool (knG e2 i), [some (.row e1 1 m1 w1 true), some (.row e2 2 m2 w2 true)], isRunG n k e1 e2)
  | _, _ => none
theorem okKbG : OkV Try.prog 23 orcKbG := by
  intro args H ret H' vc h hv
  unfold orcKbG at h
  split at h
  · rename_i nm f n c k d i e1 m1 w1 e2 m2 w2
    cases h
    obtain ⟨q1, q2, q3, q4, q5, q6⟩ := hv
    exact okKn (fxs e1) (ihs e2) _ _ _ _ _ (show orcKn (fxs e1) (ihs e2) [.agg ⟨[.string nm, .int .i64 f, .slice (some ⟨0, 0, none⟩) n c, .slice (some ⟨1, 0, none⟩) k d]⟩, .int .i64 i] [some (.row e1 1 m1 w1 true), some (.row e2 2 m2 w2 true)] = some _ from rfl) ⟨q1, q2, q5, q6⟩
  · cases h
noncomputable def orcNgG : OrcV
  | [.agg ⟨[.string nm, .int .i64 f, .slice (some ⟨0, 0, none⟩) n _, .slice (some ⟨1, 0, none⟩) k _]⟩, .int .i64 p, .int .i64 q], [some (.row e1 1 true true true), some (.row e2 2 true true true)] =>
    some (.tuple #[.agg #[.string nm, .int .i64 f, .slice (some ⟨2, 0, none⟩) n 0, .slice (some ⟨3, 0, none⟩) (ngK n e1 e2) 0], .int .i64 0], [some (.row e1 1 true true true), some (.row e2 2 true true true), some (.row (ngX n e1 e2) 1 true true true), some (.row (ngH n e1 e2) 2 true true true)], okRun nm f n k e1 e2 ∧ p = -1 ∧ q = 1)
  | _, _ => none
theorem okNgG : OkV Try.prog 19 orcNgG := by
  intro args H ret H' vc h hv
  unfold orcNgG at h
  split at h
  · rename_i nm f n c k d p q e1 e2
    cases h
    obtain ⟨⟨h1, h2⟩, h3, h4⟩ := hv
    exact okSd (fxs e1) (ihs e2) _ _ _ _ _ (show orcSd (fxs e1) (ihs e2) [.agg ⟨[.string nm, .int .i64 f, .slice (some ⟨0, 0, none⟩) n c, .slice (some ⟨1, 0, none⟩) k d]⟩, .int .i64 p, .int .i64 q] [some (.row e1 1 true true true), some (.row e2 2 true true true)] = some _ from rfl) ⟨h1, h2, h3, h4⟩
  · cases h
noncomputable def orcSuG : OrcV
  | [.agg ⟨[.string nm, .int .i64 f, .slice (some ⟨0, 0, none⟩) n _, .slice (some ⟨1, 0, none⟩) k _]⟩, .agg ⟨[.string nm2, .int .i64 f2, .slice (some ⟨2, 0, none⟩) n2 _, .slice (some ⟨3, 0, none⟩) k2 _]⟩], [some (.row e1 1 true true true), some (.row e2 2 true true true), some (.row e3 1 true true true), some (.row e4 2 true true true)] =>
    some (.tuple #[.agg #[.string nm, .int .i64 f, .slice (some ⟨4, 0, none⟩) n 0, .slice (some ⟨5, 0, none⟩) (smK n e1 e2 e3 e4) 0], .int .i64 0], [some (.row e1 1 true true true), some (.row e2 2 true true true), some (.row e3 1 true true true), some (.row e4 2 true true true), some (.row (smX n e1 e2 e3 e4) 1 true true true), some (.row (smH n e1 e2 e3 e4) 2 true true true)],
      okRun nm f n k e1 e2 ∧ okRun nm2 f n k2 e3 e4 ∧ f2 = f ∧ n2 = n ∧ suQ n e1 e2 e3 e4)
  | _, _ => none
theorem okSuG : OkV Try.prog 20 orcSuG := by
  intro args H ret H' vc h hv
  unfold orcSuG at h
  split at h
  · rename_i nm f n c k d nm2 f2 n2 c2 k2 d2 e1 e2 e3 e4
    cases h
    obtain ⟨⟨h1, h2⟩, ⟨h3, h4⟩, rfl, rfl, h5⟩ := hv
    exact okSu (fxs e1) (fxs e3) (ihs e2) (ihs e4) _ _ _ _ _ (show orcSu (fxs e1) (fxs e3) (ihs e2) (ihs e4) [.agg ⟨[.string nm, .int .i64 f2, .slice (some ⟨0, 0, none⟩) n2 c, .slice (some ⟨1, 0, none⟩) k d]⟩, .agg ⟨[.string nm2, .int .i64 f2, .slice (some ⟨2, 0, none⟩) n2 c2, .slice (some ⟨3, 0, none⟩) k2 d2]⟩] [some (.row e1 1 true true true), some (.row e2 2 true true true), some (.row e3 1 true true true), some (.row e4 2 true true true)] = some _ from rfl) ⟨h1, h3, rfl, rfl, h2, h4, h5⟩
  · cases h
end
end Qq
end
section
/- The energy of a run whose readings are nought. -/
open Go Go.Vm Go.Proofs Sp
namespace Sp
def zLd (_ : Nat) : Value := .int .i64 0
theorem knZ_le (R : Nat → Int × Bool) : ∀ s, knZ R s ≤ s
  | 0 => Nat.le_refl 0
  | s + 1 => by
    have := knZ_le R s
    rw [knZ]; split <;> omega
theorem zrs_snoc (m : Nat) : zrs m ++ [0] = zrs (m + 1) := by rw [zrs, zrs, List.replicate_succ']
theorem zrs_len (m : Nat) : (zrs m).length = m := List.length_replicate ..
end Sp
namespace Qq
noncomputable section
set_option maxRecDepth 100000 in
theorem kz_ok {nm : ByteArray} {f : Int} {n c k d : Nat} {xs : List Nat} {hs : List Int} (hi : isRun xs hs n k (flts xs) (ints hs)) (hx : fi (xs.map sE) = 0) (hh : hchk n hs (-1) = 0) (hz : ∀ i, i < n → (rdF xs (knB hs) i).1 = 0) :
    SmallRes Try.prog 54 [.agg (runA nm f 0 n c 1 k d).toArray] (hp2r xs hs true true true true []) (.slice (some ⟨2, 0, none⟩) (knZ (rdF xs (knB hs)) n) 0) (hp2r xs hs true true true true [oneR (zrs (knZ (rdF xs (knB hs)) n))]) := by
  refine fnP_res hm c0_ok (hs := hsKz nm f n c k d xs hs) ?_
  rw [kz_t]
  have h9 := hi.2.2.2.1
  refine ⟨⟨(0 : Nat), ⟨rfl⟩, by first | trivial | rfl, by first | trivial | rfl⟩, fun _ _ => ⟨⟨hi, hx, hh⟩, ⟨(0 : Nat), ⟨by omega⟩, by first | trivial | rfl, by first | trivial | rfl⟩, fun s hs' => br_of (fun hc => ?_) (fun hc => ?_)⟩⟩
  · have hc := lt_of_dec hc
    simp only [Nat.zero_add, Int.toNat_natCast, rdV_at, rdW_at]
    have hk := knZ_le (rdF xs (knB hs)) s
    refine ⟨⟨by omega, by omega⟩, ⟨rdc_take hc⟩, br_of (fun hb => ?_) (fun hb => ?_)⟩
    · refine ⟨⟨by rw [ints_len, zrs_len]; omega, by omega, by omega⟩, s + 1, ⟨hc⟩, ⟨by omega⟩, by rw [up1 hc (by omega), knZ, if_pos hb], ?_⟩
      rw [knZ, if_pos hb, hz s hc, ← zrs_snoc, ← ints_app]
      first | trivial | rfl
    · refine ⟨s + 1, ⟨hc⟩, ⟨by omega⟩, by rw [up1 hc (by omega), knZ, if_neg (by rw [hb]; simp)], ?_⟩
      rw [knZ, if_neg (by rw [hb]; simp)]
  · have hc := ge_of_dec hc
    have : s = n := by have := hs'.out; omega
    subst this
    exact ⟨by first | trivial | rfl, by first | trivial | rfl⟩
noncomputable def orcKz (xs : List Nat) (hs : List Int) : OrcV
  | [.agg ⟨[.string nm, .int .i64 f, .slice (some ⟨0, 0, none⟩) n _, .slice (some ⟨1, 0, none⟩) k _]⟩], [some (.row e1 1 true true true), some (.row e2 2 true true true)] =>
    some (.slice (some ⟨2, 0, none⟩) (knZ (rdF xs (knB hs)) n) 0, [some (.row e1 1 true true true), some (.row e2 2 true true true), oneR (zrs (knZ (rdF xs (knB hs)) n))], isRun xs hs n k e1 e2 ∧ fi (xs.map sE) = 0 ∧ hchk n hs (-1) = 0 ∧ ∀ i, i < n → (rdF xs (knB hs) i).1 = 0)
  | _, _ => none
theorem okKz (xs : List Nat) (hs : List Int) : OkV Try.prog 54 (orcKz xs hs) := by
  intro args H ret H' vc h hv
  unfold orcKz at h
  split at h
  · cases h
    obtain ⟨⟨rfl, rfl, h1, h2, h3, h4⟩, h5, h6, h7⟩ := hv
    exact kz_ok ⟨rfl, rfl, h1, h2, h3, h4⟩ h5 h6 h7
  · cases h
noncomputable def lpEn (xs : List Nat) (hs : List Int) (m : Nat) : Lp where
  σ := Nat
  E s := slots 27 [(5, .int .i64 0), (14, .slice (some ⟨2, 0, none⟩) m 0), (15, .int .i64 (Int.ofNat m)), (16, .int .i64 (Int.ofNat s))]
  Hp _ := hp2r xs hs true true true true [oneR (zrs m)]
  I s := s ≤ m
  m s := m - s
noncomputable def hsEn (xs : List Nat) (hs : List Int) (m : Nat) : Hs Try.prog where
  op y := if y = 700 then some (hIa Try.prog) else if y = 701 then some (hLd Try.prog zLd) else none
  lp _ := some (lpEn xs hs m)
  cl _ := keep 27 [5, 14, 15, 16]
  au := auCalls [(33, hCa Try.prog 33 (orcCrP xs hs) (okCrP xs hs)), (54, hCa Try.prog 54 (orcKz xs hs) (okKz xs hs))]
theorem en2_t (nm : ByteArray) (f : Int) (n : Nat) (c : Nat) (k : Nat) (d : Nat) (xs : List Nat) (hs : List Int) (K : Value → Heap → Prop) :
    (fnP Try.prog c0 (hsEn xs hs (knZ (rdF xs (knB hs)) n)) (21 : FuncId) [Value.agg (List.toArray (runA nm f (0 : Nat) n c (1 : Nat) k d))] (hp2r xs hs true true true true []) K) =
    (Is (isRun xs hs n k (flts xs) (ints hs)) ∧ br (runE nm f xs n hs != (0 : Int)) (K (Value.tuple #[Value.int IntKind.i64 (0 : Int), Value.int IntKind.i64 (runE nm f xs n hs)]) (some (AObj.row (flts xs) (1 : Nat) true true true) :: some (AObj.row (ints hs) (2 : Nat) true true true) :: noH)) (Is (isRun xs hs n k (flts xs) (ints hs) ∧ fi (List.map sE xs) = (0 : Int) ∧ hchk (↑n : Int) hs (-1 : Int) = (0 : Int) ∧ ∀ (i : Nat), i < n → Prod.fst (rdF xs (knB hs) i) = (0 : Int)) ∧ (∃ (s : Nat), Is (s ≤ knZ (rdF xs (knB hs)) n) ∧ [poi, poi, poi, poi, poi, Value.int IntKind.i64 (0 : Int), poi, poi, poi, poi, poi, poi, poi, poi, Value.slice (some { block := (2 : Nat), off := (0 : Nat) }) (knZ (rdF xs (knB hs)) n) (0 : Nat), Value.int IntKind.i64 (↑(knZ (rdF xs (knB hs)) n) : Int), Value.int IntKind.i64 (0 : Int), poi, poi, poi, poi, poi, poi, poi, poi, poi, poi] = [poi, poi, poi, poi, poi, Value.int IntKind.i64 (0 : Int), poi, poi, poi, poi, poi, poi, poi, poi, Value.slice (some { block := (2 : Nat), off := (0 : Nat) }) (knZ (rdF xs (knB hs)) n) (0 : Nat), Value.int IntKind.i64 (↑(knZ (rdF xs (knB hs)) n) : Int), Value.int IntKind.i64 (↑s : Int), poi, poi, poi, poi, poi, poi, poi, poi, poi, poi] ∧ some (AObj.row (flts xs) (1 : Nat) true true true) :: some (AObj.row (ints hs) (2 : Nat) true true true) :: some (AObj.row (ints (zrs (knZ (rdF xs (knB hs)) n))) (1 : Nat) true true true) :: noH = some (AObj.row (flts xs) (1 : Nat) true true true) :: some (AObj.row (ints hs) (2 : Nat) true true true) :: some (AObj.row (ints (zrs (knZ (rdF xs (knB hs)) n))) (1 : Nat) true true true) :: noH) ∧ ∀ (s : Nat), Is (s ≤ knZ (rdF xs (knB hs)) n) → br (decide ((↑s : Int) < (↑(knZ (rdF xs (knB hs)) n) : Int))) (Is ((0 : Int) ≤ (↑s : Int) ∧ (↑s : Int) < (↑(knZ (rdF xs (knB hs)) n) : Int)) ∧ Is ((ints (zrs (knZ (rdF xs (knB hs)) n)))[(0 : Nat) + Int.toNat (↑s : Int) * (1 : Nat)]? = some (Value.int IntKind.i64 (0 : Int))) ∧ ∃ (s' : Nat), Is (s' ≤ knZ (rdF xs (knB hs)) n) ∧ Is (knZ (rdF xs (knB hs)) n - s' < knZ (rdF xs (knB hs)) n - s) ∧ [poi, poi, poi, poi, poi, Value.int IntKind.i64 (0 : Int), poi, poi, poi, poi, poi, poi, poi, poi, Value.slice (some { block := (2 : Nat), off := (0 : Nat) }) (knZ (rdF xs (knB hs)) n) (0 : Nat), Value.int IntKind.i64 (↑(knZ (rdF xs (knB hs)) n) : Int), Value.int IntKind.i64 (IntKind.wrap IntKind.i64 ((↑s : Int) + (1 : Int))), poi, poi, poi, poi, poi, poi, poi, poi, poi, poi] = [poi, poi, poi, poi, poi, Value.int IntKind.i64 (0 : Int), poi, poi, poi, poi, poi, poi, poi, poi, Value.slice (some { block := (2 : Nat), off := (0 : Nat) }) (knZ (rdF xs (knB hs)) n) (0 : Nat), Value.int IntKind.i64 (↑(knZ (rdF xs (knB hs)) n) : Int), Value.int IntKind.i64 (↑s' : Int), poi, poi, poi, poi, poi, poi, poi, poi, poi, poi] ∧ some (AObj.row (flts xs) (1 : Nat) true true true) :: some (AObj.row (ints hs) (2 : Nat) true true true) :: some (AObj.row (ints (zrs (knZ (rdF xs (knB hs)) n))) (1 : Nat) true true true) :: noH = some (AObj.row (flts xs) (1 : Nat) true true true) :: some (AObj.row (ints hs) (2 : Nat) true true true) :: some (AObj.row (ints (zrs (knZ (rdF xs (knB hs)) n))) (1 : Nat) true true true) :: noH) (K (Value.tuple #[Value.int IntKind.i64 (0 : Int), Value.int IntKind.i64 (0 : Int)]) (some (AObj.row (flts xs) (1 : Nat) true true true) :: some (AObj.row (ints hs) (2 : Nat) true true true) :: noH)))) := by kernel_rfl
set_option maxRecDepth 100000 in
theorem en_ok {nm : ByteArray} {f : Int} {n c k d : Nat} {xs : List Nat} {hs : List Int} (hi : isRun xs hs n k (flts xs) (ints hs)) (hr : runE nm f xs n hs = 0) (hz : ∀ i, i < n → (rdF xs (knB hs) i).1 = 0) :
    SmallRes Try.prog 21 [.agg (runA nm f 0 n c 1 k d).toArray] (hp2r xs hs true true true true []) (.tuple #[.int .i64 0, .int .i64 0]) (hp2r xs hs true true true true []) := by
  refine fnP_res hm c0_ok (hs := hsEn xs hs (knZ (rdF xs (knB hs)) n)) ?_
  obtain ⟨_, _, _, _, hx, hh, _⟩ := run_zero hr
  have h9 := hi.2.2.2.1
  have hk := knZ_le (rdF xs (knB hs)) n
  rw [en2_t, hr]
  refine ⟨⟨hi⟩, br_of (fun h => by cases h) (fun _ => ⟨⟨hi, hx, hh, hz⟩, ⟨(0 : Nat), ⟨by omega⟩, by first | trivial | rfl, by first | trivial | rfl⟩, fun s hs' => br_of (fun hc => ?_) (fun hc => ⟨by first | trivial | rfl, by first | trivial | rfl⟩)⟩)⟩
  have hc := lt_of_dec hc
  simp only [Nat.zero_add, Nat.mul_one, Int.toNat_natCast]
  refine ⟨⟨by omega, by omega⟩, ⟨?_⟩, s + 1, ⟨hc⟩, ⟨by omega⟩, by rw [up1 hc (by omega)], by first | trivial | rfl⟩
  rw [zint_at (by rw [zrs_len]; exact hc), zrs, List.getD_eq_getElem?_getD, List.getElem?_replicate, if_pos hc]; rfl
noncomputable def orcEnG : OrcV
  | [.agg ⟨[.string nm, .int .i64 f, .slice (some ⟨0, 0, none⟩) n _, .slice (some ⟨1, 0, none⟩) k _]⟩], [some (.row e1 1 true true true), some (.row e2 2 true true true)] =>
    some (.tuple #[.int .i64 0, .int .i64 0], [some (.row e1 1 true true true), some (.row e2 2 true true true)], okRun nm f n k e1 e2 ∧ enQ n e1 e2)
  | _, _ => none
theorem okEnG : OkV Try.prog 21 orcEnG := by
  intro args H ret H' vc h hv
  unfold orcEnG at h
  split at h
  · rename_i nm f n c k d e1 e2
    cases h
    obtain ⟨⟨h1, h2⟩, h3⟩ := hv
    have q1 := h1.1
    have q2 := h1.2.1
    have := en_ok (nm := nm) (f := f) (n := n) (c := c) (k := k) (d := d) (by rw [← q1, ← q2]; exact h1) h2 h3
    rw [hp2r, ← q1, ← q2] at this
    exact this
  · cases h
end
end Qq
end
section
/- The difference of two samples, and the greater of two. -/
open Go
namespace Fl
open Ieee Sp
theorem sub_ok {x y : Nat} (hx : Smp x) (hy : Smp y) (h1 : (lev x).natAbs ≤ 16384) (h2 : (lev y).natAbs ≤ 16384) : fSubOk x y ∧ IsF (fSub x y) ∧ val (fSub x y) * 16 = (lev x - lev y) * (one : Int) := by
  obtain ⟨r, e1, hr1⟩ := Has.sum (lo := -149) (by decide) hx.fin.has hy.fin.has.opposite
  have es : single.sub x y = some (single.write r) := by
    have e3 : single.sub x y = ((single.read x).sum (single.read y).opposite).map single.write := rfl
    rw [e3, e1]; rfl
  have hv : (val x + -val y) * 16 = (lev x - lev y) * (one : Int) := by rw [Int.add_mul, Int.neg_mul, hx.v, hy.v, Int.sub_mul]; rfl
  have ht : val x + -val y = (lev x - lev y) * ((2 ^ 396 : Nat) : Int) := by
    have e4 : ((2 ^ 396 : Nat) : Int) * 16 = (one : Int) := one_split (a := 396) (b := 4) (k := 16) rfl rfl
    rw [← e4, ← Int.mul_assoc] at hv
    omega
  have hr : Rep (val x + -val y) := rep_pow (by omega) (by decide) (by decide) ht
  have hw := has_fin (hr1.write (by decide) hr)
  have em : fSub x y = single.write r := by rw [fSub, fmt32, es]; rfl
  exact ⟨by rw [fSubOk, fmt32, es]; rfl, by rw [em]; exact hw.1, by rw [em, hw.2, hv]⟩
theorem max_ok {x y : Nat} (hx : IsF x) (hy : IsF y) : fMaxOk x y ∧ IsF (fMax x y) ∧ val (fMax x y) = max (val x) (val y) := by
  have ho : single.order x y = some (compare (val x) (val y)) := by
    have e : single.order x y = (single.read x).order (single.read y) := rfl
    rw [e]; exact Has.order (lo := -149) (by decide) hx.has hy.has
  refine ⟨by rw [fMaxOk, fmt32, ho]; rfl, ?_⟩
  rw [fMax, fmt32, ho]
  rcases Int.lt_trichotomy (val x) (val y) with h | h | h
  · rw [show compare (val x) (val y) = .lt from Int.compare_eq_lt.2 h]
    simp only []
    exact ⟨hy, by omega⟩
  · rw [show compare (val x) (val y) = .eq from Int.compare_eq_eq.2 h]
    simp only []
    split
    · exact ⟨hy, by omega⟩
    · exact ⟨hx, by omega⟩
  · rw [show compare (val x) (val y) = .gt from Int.compare_eq_gt.2 h]
    simp only []
    exact ⟨hx, by omega⟩
/-- Two samples differ by more than a limit, if their integers do. -/
theorem far_lev {x y l : Nat} (hx : Smp x) (hy : Smp y) (hl : Smp l) (h1 : (lev x).natAbs ≤ 16384) (h2 : (lev y).natAbs ≤ 16384) :
    (fSubOk x y ∧ fSubOk y x ∧ fMaxOk (fSub x y) (fSub y x)) ∧ fGt (fMax (fSub x y) (fSub y x)) l = decide (lev l < max (lev x - lev y) (lev y - lev x)) := by
  obtain ⟨a1, a2, a3⟩ := sub_ok hx hy h1 h2
  obtain ⟨b1, b2, b3⟩ := sub_ok hy hx h2 h1
  obtain ⟨c1, c2, c3⟩ := max_ok a2 b2
  refine ⟨⟨a1, b1, c1⟩, ?_⟩
  rw [gt_val c2 hl.fin, c3]
  have hp := one_pos
  have hv := hl.v
  refine decide_eq_decide.2 ?_
  have key : ∀ d e : Int, d * 16 = e * (one : Int) → (val l < d ↔ lev l < e) := fun d e h => by
    constructor
    · intro q
      have : lev l * (one : Int) < e * (one : Int) := by omega
      exact Int.lt_of_mul_lt_mul_right this (by omega)
    · intro q
      have := Int.mul_lt_mul_of_pos_right q (show (0 : Int) < one by omega)
      omega
  have k1 := key _ _ a3
  have k2 := key _ _ b3
  omega
end Fl
end
section
/- The law of the vote: plain facts. -/
open Go Go.Vm Go.Proofs Sp
namespace Qq
noncomputable section
/-- Ahead of its first hole all is known. -/
theorem knB_before {n : Int} : ∀ (s : Nat) {l : List Int} {last i : Int}, l.length = s * 2 → hchk n l last = 0 → i ≤ last → knB l i = true
  | 0, [], _, _, _, _, _ => rfl
  | s + 1, a :: b :: r, last, i, hl, h, hi => by
    obtain ⟨h1, h2, h3⟩ := hchk_cons.1 h
    have := knB_before s (l := r) (last := b) (i := i) (by simp only [List.length_cons] at hl; omega) h3 (by omega)
    rw [knB, this, decide_eq_false (show ¬ a ≤ i by omega)]; rfl
  | s + 1, [x], _, _, h, _, _ => by simp only [List.length_cons, List.length_nil] at h; omega
  | s + 1, [], _, _, h, _, _ => by simp only [List.length_nil] at h; omega
  | 0, x :: l, _, _, h, _, _ => by simp only [List.length_cons] at h; omega
/-- Holes that are in order are told by what is known. -/
theorem holes_one {n : Int} : ∀ (s : Nat) {l m : List Int} {t : Nat} {last : Int}, l.length = s * 2 → m.length = t * 2 → hchk n l last = 0 → hchk n m last = 0 → (∀ i : Int, 0 ≤ i → last ≤ i → i < n → knB l i = knB m i) → l = m
  | 0, [], m, t, last, _, hm, _, h2, he => by
    match m, t, hm with
    | [], _, _ => rfl
    | [x], t, h => simp only [List.length_cons, List.length_nil] at h; omega
    | a :: b :: r, t, h =>
      obtain ⟨q1, q2, q3⟩ := hchk_cons.1 h2
      have := he a (by omega) (by omega) (by omega)
      rw [show knB [] a = true from rfl, knB, decide_eq_true (Int.le_refl a), decide_eq_true (show a < b by omega)] at this
      simp at this
  | s + 1, a :: b :: r, m, t, last, hl, hm, h1, h2, he => by
    obtain ⟨p1, p2, p3⟩ := hchk_cons.1 h1
    have lr : r.length = s * 2 := by simp only [List.length_cons] at hl; omega
    match m, t, hm with
    | [], _, _ =>
      have := he a (by omega) (by omega) (by omega)
      rw [show knB [] a = true from rfl, knB, decide_eq_true (Int.le_refl a), decide_eq_true (show a < b by omega)] at this
      simp at this
    | [x], t, h => simp only [List.length_cons, List.length_nil] at h; omega
    | a' :: b' :: r', t, h =>
      obtain ⟨q1, q2, q3⟩ := hchk_cons.1 h2
      have lr' : r'.length = (t - 1) * 2 := by simp only [List.length_cons] at h; omega
      have kr : ∀ i : Int, i ≤ b → knB r i = true := fun i hi => knB_before s lr p3 hi
      have kr' : ∀ i : Int, i ≤ b' → knB r' i = true := fun i hi => knB_before (t - 1) lr' q3 hi
      have ea : a = a' := by
        rcases Int.lt_trichotomy a a' with h | h | h
        · have := he a (by omega) (by omega) (by omega)
          rw [knB, knB, kr' a (by omega), decide_eq_true (Int.le_refl a), decide_eq_true (show a < b by omega), decide_eq_false (show ¬ a' ≤ a by omega)] at this
          simp at this
        · exact h
        · have := he a' (by omega) (by omega) (by omega)
          rw [knB, knB, kr a' (by omega), decide_eq_true (Int.le_refl a'), decide_eq_true (show a' < b' by omega), decide_eq_false (show ¬ a ≤ a' by omega)] at this
          simp at this
      subst ea
      have eb : b = b' := by
        rcases Int.lt_trichotomy b b' with h | h | h
        · have := he b (by omega) (by omega) (by omega)
          rw [knB, knB, kr b (by omega), decide_eq_false (show ¬ b < b by omega), decide_eq_true (show a ≤ b by omega), decide_eq_true h] at this
          simp at this
        · exact h
        · have := he b' (by omega) (by omega) (by omega)
          rw [knB, knB, kr' b' (by omega), decide_eq_false (show ¬ b' < b' by omega), decide_eq_true (show a ≤ b' by omega), decide_eq_true h] at this
          simp at this
      subst eb
      have := holes_one s (l := r) (m := r') (t := t - 1) (last := b) lr lr' p3 q3 fun i i0 i1 i2 => by
        have := he i i0 (by omega) i2
        rw [knB, knB, decide_eq_false (show ¬ i < b by omega)] at this
        simpa using this
      rw [this]
  | s + 1, [x], _, _, _, h, _, _, _, _ => by simp only [List.length_cons, List.length_nil] at h; omega
  | s + 1, [], _, _, _, h, _, _, _, _ => by simp only [List.length_nil] at h; omega
  | 0, x :: l, _, _, _, h, _, _, _, _ => by simp only [List.length_cons] at h; omega
/-- Holes that are in order are those that are made of what is known. -/
theorem holes_mk {n k : Nat} {xs : List Nat} {hs : List Int} (hk : hs.length = k * 2) (hh : hchk n hs (-1) = 0) : mkS (mkB (rdF xs (knB hs))) n = hs := by
  refine holes_one _ (mkS_len _ n).1 hk (mkS_hchk _ n) hh fun i i0 _ i2 => ?_
  obtain ⟨i, rfl⟩ : ∃ j : Nat, i = j := ⟨i.toNat, by omega⟩
  rw [mkS_kn (by omega), mkB, rdF]
  cases knB hs i <;> simp
theorem mkX_congr {R S : Nat → Int × Bool} {n : Nat} (h : ∀ i, i < n → R i = S i) : mkX R n = mkX S n := by
  rw [mkX, mkX]
  exact List.map_congr_left fun i hi => by rw [h i (List.mem_range.1 hi)]
theorem mkS_congr {B C : Nat → Bool} : ∀ {n : Nat}, (∀ i, i < n → B i = C i) → mkS B n = mkS C n
  | 0, _ => by rw [mkS_zero, mkS_zero]
  | n + 1, h => by rw [mkS, mkS, mkS_congr (n := n) fun i hi => h i (by omega), h n (by omega)]
theorem mkB_congr {R S : Nat → Int × Bool} {n : Nat} (h : ∀ i, i < n → R i = S i) : mkS (mkB R) n = mkS (mkB S) n := mkS_congr fun i hi => by rw [mkB, mkB, h i hi]
theorem mkK_congr {R S : Nat → Int × Bool} {n : Nat} (h : ∀ i, i < n → R i = S i) : mkK (mkB R) n = mkK (mkB S) n := by rw [mkK, mkK, mkB_congr h]
theorem RdOk.congr {R S : Nat → Int × Bool} {n : Nat} (h : ∀ i, i < n → R i = S i) (hR : RdOk R n) : RdOk S n := ⟨fun i hi => by rw [← h i hi]; exact hR.few i hi, fun i hi => by rw [← h i hi]; exact hR.zero i hi⟩
theorem wrN_congr {V W R S : Nat → Int × Bool} {l : Int} : ∀ {n : Nat}, (∀ i, i < n → V i = W i) → (∀ i, i < n → R i = S i) → wrN V R l n = wrN W S l n
  | 0, _, _ => rfl
  | n + 1, h, g => by rw [wrN, wrN, wrN_congr (n := n) (fun i hi => h i (by omega)) (fun i hi => g i (by omega)), h n (by omega), g n (by omega)]
theorem wrN_rv {V R : Nat → Int × Bool} {l : Int} {n : Nat} : ∀ s : Nat, s ≤ n → wrN V R l n = wrN V R l (n - s) + wrN (rvA n V) (rvA n R) l s
  | 0, _ => by rw [Nat.sub_zero, wrN, Int.add_zero]
  | s + 1, h => by
    rw [wrN_rv s (by omega), show n - s = (n - (s + 1)) + 1 by omega, wrN, wrN, rvA, rvA, show n - 1 - s = n - (s + 1) by omega]
    by_cases hb : wrB (V (n - (s + 1))) (R (n - (s + 1))) l = true
    · rw [if_pos hb, if_pos hb]; omega
    · rw [if_neg hb, if_neg hb]
theorem wrN_rev {V R : Nat → Int × Bool} {l : Int} {n : Nat} : wrN (rvA n V) (rvA n R) l n = wrN V R l n := by
  have := wrN_rv (V := V) (R := R) (l := l) n (Nat.le_refl n)
  rw [Nat.sub_self, wrN] at this
  omega
/-- Readings of what is made of readings, voted. -/
theorem vtF_ok {R0 R1 R2 : Nat → Int × Bool} {l : Int} {n : Nat} (h0 : RdOk R0 n) (h1 : RdOk R1 n) (h2 : RdOk R2 n) : RdOk (vtF R0 R1 R2 l) n :=
  ⟨fun i hi => vtR_few (h0.few i hi) (h1.few i hi) (h2.few i hi), fun i _ hb => by rw [vtF, vtR_none hb]⟩
theorem vtF_congr {R0 R1 R2 S0 S1 S2 : Nat → Int × Bool} {l : Int} {n : Nat} (h0 : ∀ i, i < n → R0 i = S0 i) (h1 : ∀ i, i < n → R1 i = S1 i) (h2 : ∀ i, i < n → R2 i = S2 i) : ∀ i, i < n → vtF R0 R1 R2 l i = vtF S0 S1 S2 l i := fun i hi => by
  rw [vtF, vtF, h0 i hi, h1 i hi, h2 i hi]
/-- A run that is made of readings: valid, told by its cells. -/
theorem okRun_mk {nm : ByteArray} {f : Int} {n : Nat} {R : Nat → Int × Bool} (h : RdOk R n) (h1 : nameB nm = true) (h2 : 0 ≤ f ∧ f ≤ 100000000) (h3 : n ≤ 4096) (h4 : f + n ≤ 100000000) : okRun nm f n (mkK (mkB R) n) (flts (mkX R n)) (ints (mkS (mkB R) n)) :=
  okRun_of (mk_isRun (by omega)) (mk_runE h h1 h2 h3 h4)
end
end Qq
end
section
/- The law of the vote: facts about one run. -/
open Go Go.Vm Go.Proofs Sp
namespace Sp
noncomputable section
noncomputable def zoX (n : Nat) (e g : List Value) : List Value := Qq.smX n e g (ngX n e g) (ngH n e g)
noncomputable def zoH (n : Nat) (e g : List Value) : List Value := Qq.smH n e g (ngX n e g) (ngH n e g)
noncomputable def zoK (n : Nat) (e g : List Value) : Nat := Qq.smK n e g (ngX n e g) (ngH n e g)
end
end Sp
namespace Qq
noncomputable section
theorem ng_rd {R : Nat → Int × Bool} {n i : Nat} (hi : i < n) (h : RdOk R n) : chR R ngI n i = (-(R i).1, (R i).2) := by
  rw [chR, decide_eq_true hi, Bool.true_and]
  cases hb : (R i).2
  · rw [if_neg (by simp)]
    have := h.zero i hi hb
    generalize R i = p at *
    obtain ⟨a, b⟩ := p
    simp only at this hb
    subst this; subst hb; rfl
  · rw [if_pos rfl]; rfl
theorem ng_ok {R : Nat → Int × Bool} {n : Nat} (h : RdOk R n) : RdOk (chR R ngI n) n :=
  ⟨fun i hi => by rw [ng_rd hi h]; have := h.few i hi; simp only [Int.natAbs_neg]; exact this, fun i hi hb => by rw [ng_rd hi h] at hb ⊢; simp only at hb ⊢; rw [h.zero i hi hb]; rfl⟩
theorem su_zero {R Q : Nat → Int × Bool} {n : Nat} (h : RdOk R n) (hQ : ∀ i, i < n → Q i = chR R ngI n i) : ∀ i, i < n → suR R Q n i = (0, (R i).2) := fun i hi => by
  have e1 : ∀ j, j < n → mzR R Q n j = R j := fun j hj => by
    rw [mzR, hQ j hj, ng_rd hj h, decide_eq_true hj, Bool.true_and]
    cases hb : (R j).2
    · rw [if_pos (by rfl)]
      have := h.zero j hj hb
      generalize R j = p at *
      obtain ⟨a, b⟩ := p
      simp only at this hb
      subst this; subst hb; rfl
    · rw [if_neg (by simp)]
  have e2 : rdF (mkX (mzR R Q n) n) (knB (mkS (mkB (mzR R Q n)) n)) i = R i := by
    rw [mkX_congr e1, mkB_congr e1]; exact mk_back h hi
  rw [suR, chR, e2, decide_eq_true hi, Bool.true_and]
  cases hb : (R i).2
  · rw [if_neg (by simp)]
    have := h.zero i hi hb
    generalize R i = p at *
    obtain ⟨a, b⟩ := p
    simp only at this hb
    subst this; subst hb; rfl
  · rw [if_pos rfl, adI, hQ i hi, ng_rd hi h, hb]
    have : (R i).1 + -(R i).1 = 0 := by omega
    rw [this]
/-- All that the law asks of one run. -/
structure Rk (nm : ByteArray) (f : Int) (n k : Nat) (xs : List Nat) (hs : List Int) : Prop where
  run : okRun nm f n k (flts xs) (ints hs)
  ng : okRun nm f n (ngK n (flts xs) (ints hs)) (ngX n (flts xs) (ints hs)) (ngH n (flts xs) (ints hs))
  few : ∀ i, i < n → (rdF (fxs (flts xs)) (knB (ihs (ints hs))) i).2 = true → (rdF (fxs (ngX n (flts xs) (ints hs))) (knB (ihs (ngH n (flts xs) (ints hs)))) i).2 = true → ((rdF (fxs (flts xs)) (knB (ihs (ints hs))) i).1 + (rdF (fxs (ngX n (flts xs) (ints hs))) (knB (ihs (ngH n (flts xs) (ints hs)))) i).1).natAbs ≤ 16384
  zo : okRun nm f n (zoK n (flts xs) (ints hs)) (zoX n (flts xs) (ints hs)) (zoH n (flts xs) (ints hs))
  ze : ∀ i, i < n → (rdF (fxs (zoX n (flts xs) (ints hs))) (knB (ihs (zoH n (flts xs) (ints hs)))) i).1 = 0
  hK : zoK n (flts xs) (ints hs) = k
  hH : zoH n (flts xs) (ints hs) = ints hs
theorem okRun_get {nm : ByteArray} {f : Int} {n k : Nat} {xs : List Nat} {hs : List Int} (h : okRun nm f n k (flts xs) (ints hs)) : (xs.length = n ∧ n ≤ 100000 ∧ hs.length = k * 2 ∧ k ≤ 100000) ∧ runE nm f xs n hs = 0 := by
  rw [okRun, fxs_flts, ihs_ints] at h
  exact ⟨h.1.2.2, h.2⟩
theorem rk_of {nm : ByteArray} {f : Int} {n k : Nat} {xs : List Nat} {hs : List Int} (h : okRun nm f n k (flts xs) (ints hs)) : Rk nm f n k xs hs := by
  obtain ⟨⟨hn, h9, hk, hk9⟩, hr⟩ := okRun_get h
  obtain ⟨a1, a2, a3, a4, hx, hh, _⟩ := run_zero hr
  have R := rdF_ok (P := knB hs) hx hn
  have eN : ∀ i, i < n → rdF (fxs (ngX n (flts xs) (ints hs))) (knB (ihs (ngH n (flts xs) (ints hs)))) i = chR (rdF xs (knB hs)) ngI n i := fun i hi => by
    rw [ngX, ngH, fxs_flts, ihs_ints, fxs_flts, ihs_ints]; exact mk_back (ng_ok R) hi
  have eZ := su_zero R eN
  have zok : RdOk (suR (rdF xs (knB hs)) (rdF (fxs (ngX n (flts xs) (ints hs))) (knB (ihs (ngH n (flts xs) (ints hs))))) n) n := ⟨fun i hi => by rw [eZ i hi]; exact Nat.zero_le _, fun i hi _ => by rw [eZ i hi]⟩
  have eH : mkS (mkB (suR (rdF xs (knB hs)) (rdF (fxs (ngX n (flts xs) (ints hs))) (knB (ihs (ngH n (flts xs) (ints hs))))) n)) n = hs := by
    exact (mkS_congr (C := mkB (rdF xs (knB hs))) fun i hi => by rw [mkB, eZ i hi]; rfl).trans (holes_mk hk hh)
  refine ⟨h, ?_, ?_, ?_, ?_, ?_, ?_⟩
  · rw [ngK, ngX, ngH, fxs_flts, ihs_ints]
    exact okRun_mk (ng_ok R) a1 a2 a3 a4
  · intro i hi _ _
    rw [eN i hi, ng_rd hi R, fxs_flts, ihs_ints]
    have : (rdF xs (knB hs) i).1 + -(rdF xs (knB hs) i).1 = 0 := by omega
    rw [this]; decide
  · rw [zoK, zoX, zoH, smK, smX, smH, fxs_flts, ihs_ints]
    exact okRun_mk zok a1 a2 a3 a4
  · intro i hi
    rw [zoX, zoH, smX, smH, fxs_flts (mkX _ _), ihs_ints (mkS _ _), fxs_flts xs, ihs_ints hs, mk_back zok hi, eZ i hi]
  · rw [zoK, smK, fxs_flts xs, ihs_ints hs, mkK, eH, hk]; omega
  · rw [zoH, smH, fxs_flts xs, ihs_ints hs, eH]
end
end Qq
end
