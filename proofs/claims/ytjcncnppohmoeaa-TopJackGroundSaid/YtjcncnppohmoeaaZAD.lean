/- Parts of the proof: QA, QF, QH, KP, KQ, KR, KS, FlA, FlB, QO, QY, QLR, QLC, QXP, QFF, QHH, RA, RC, RF, RL, KT, YD, KA. -/
import Derived.Test.YtjcncnppohmoeaaZAC
import Derived.Test.YtjcncnppohmoeaaProg
import Derived.Laws.RangeString
import Derived.Laws.RangeAny
import Ieee.Arith
import Derived.Test.YtjcncnppohmoeaaZAA
section
/- Contracts of the small functions of chapter 8: errors, ranges, moments, quotients in lowest terms. -/
open Go Go.Vm Go.Proofs Sp
namespace Qq
noncomputable section

theorem hm : Try.prog.follows .mixedOrders = true := by kernel_rfl
theorem ints_at {l : List Int} {i : Nat} (h : i < l.length) : (ints l)[i]? = some (.int .i64 (l.getD i 0)) := by
  simp [ints, List.getD_eq_getElem?_getD, h]
theorem fi_drop {l : List Int} {i : Nat} (h : i < l.length) : fi (l.drop i) = if l.getD i 0 = 0 then fi (l.drop (i + 1)) else l.getD i 0 := by
  rw [List.drop_eq_getElem_cons h]
  simp [fi, List.getD_eq_getElem?_getD, h]

noncomputable def orcWhen : Orc
  | [.bool b, .int .i64 e], [] => some (.int .i64 (wh b e), [])
  | _, _ => none
noncomputable def orcFirst : Orc
  | [.slice (some ⟨0, 0, none⟩) n _c], [some (.row cells es more rw true)] =>
    match intsOf cells with
    | some l => if n = l.length ∧ n < 1000 then some (.int .i64 (fi l), [some (.row cells es more rw true)]) else none
    | none => none
  | _, _ => none

noncomputable def c0 : CallF := ctx Try.prog []
theorem c0_ok : CallOK Try.prog c0 := ctx_ok hm all_nil
noncomputable def h0 : Hs Try.prog := {au := au0 Try.prog}
theorem when_t (b : Bool) (e : Int) (K : Value → Heap → Prop) :
    (fnP Try.prog c0 h0 (47 : FuncId) [Value.bool b, Value.int IntKind.i64 e] [] K) =
    (br b (K (Value.int IntKind.i64 e) noH) (K (Value.int IntKind.i64 (0 : Int)) noH)) := by kernel_rfl
theorem okWhen : Ok Try.prog 47 orcWhen := by
  intro args H ret H' h
  unfold orcWhen at h
  split at h
  · cases h
    refine fnP_res hm c0_ok (hs := h0) ?_
    rw [when_t]
    exact br_of (fun h => by simp [wh, h]) (fun h => by simp [wh, h])
  · cases h
noncomputable def lpFirst (l : List Int) (n c es : Nat) (more rw : Bool) : Lp where
  σ := Nat
  E i := slots 15 [(5, .slice (some ⟨0, 0, none⟩) n c), (6, .int .i64 (Int.ofNat n)), (7, .int .i64 (Int.ofNat i))]
  Hp _ := [some (.row (ints l) es more rw true)]
  I i := i ≤ l.length ∧ fi (l.drop i) = fi l
  m i := l.length - i
noncomputable def hFirst (l : List Int) (n c es : Nat) (more rw : Bool) : Hs Try.prog where
  op k := if k = 300 then some (hIa Try.prog) else if k = 301 then some (hLd Try.prog fun off => .int .i64 (l.getD off 0)) else none
  lp _ := some (lpFirst l n c es more rw)
  cl _ := keep 15 [5, 6, 7]
theorem first_t (l : List Int) (n : Nat) (c : Nat) (es : Nat) (more : Bool) (rw : Bool) (K : Value → Heap → Prop) :
    (fnP Try.prog c0 (hFirst l n c es more rw) (27 : FuncId) [Value.slice (some { block := (0 : Nat), off := (0 : Nat) }) n c] [some (AObj.row (ints l) es more rw true)] K) =
    ((∃ s, Is (s ≤ List.length l ∧ fi (List.drop s l) = fi l) ∧ [poi, poi, poi, poi, poi, Value.slice (some { block := (0 : Nat), off := (0 : Nat) }) n c, Value.int IntKind.i64 (↑n : Int), Value.int IntKind.i64 (0 : Int), poi, poi, poi, poi, poi, poi, poi] = [poi, poi, poi, poi, poi, Value.slice (some { block := (0 : Nat), off := (0 : Nat) }) n c, Value.int IntKind.i64 (↑n : Int), Value.int IntKind.i64 (↑s : Int), poi, poi, poi, poi, poi, poi, poi] ∧ some (AObj.row (ints l) es more rw true) :: noH = some (AObj.row (ints l) es more rw true) :: noH) ∧ ∀ (s : Nat), Is (s ≤ List.length l ∧ fi (List.drop s l) = fi l) → br (decide ((↑s : Int) < (↑n : Int))) (Is ((0 : Int) ≤ (↑s : Int) ∧ (↑s : Int) < (↑n : Int)) ∧ Is ((ints l)[(0 : Nat) + Int.toNat (↑s : Int) * (1 : Nat)]? = some (Value.int IntKind.i64 (List.getD l ((0 : Nat) + Int.toNat (↑s : Int) * (1 : Nat)) (0 : Int)))) ∧ br (List.getD l ((0 : Nat) + Int.toNat (↑s : Int) * (1 : Nat)) (0 : Int) != (0 : Int)) (K (Value.int IntKind.i64 (List.getD l ((0 : Nat) + Int.toNat (↑s : Int) * (1 : Nat)) (0 : Int))) (some (AObj.row (ints l) es more rw true) :: noH)) (∃ s', Is (s' ≤ List.length l ∧ fi (List.drop s' l) = fi l) ∧ Is (List.length l - s' < List.length l - s) ∧ [poi, poi, poi, poi, poi, Value.slice (some { block := (0 : Nat), off := (0 : Nat) }) n c, Value.int IntKind.i64 (↑n : Int), Value.int IntKind.i64 (IntKind.wrap IntKind.i64 ((↑s : Int) + (1 : Int))), poi, poi, poi, poi, poi, poi, poi] = [poi, poi, poi, poi, poi, Value.slice (some { block := (0 : Nat), off := (0 : Nat) }) n c, Value.int IntKind.i64 (↑n : Int), Value.int IntKind.i64 (↑s' : Int), poi, poi, poi, poi, poi, poi, poi] ∧ some (AObj.row (ints l) es more rw true) :: noH = some (AObj.row (ints l) es more rw true) :: noH)) (K (Value.int IntKind.i64 (0 : Int)) (some (AObj.row (ints l) es more rw true) :: noH))) := by kernel_rfl

theorem okFirst : Ok Try.prog 27 orcFirst := by
  intro args H ret H' h
  unfold orcFirst at h
  split at h
  · rename_i n c cells es more rw
    split at h
    · rename_i l hl
      split at h
      · rename_i hn
        cases h
        have := intsOf_eq hl
        subst this
        obtain ⟨hn, hlt⟩ := hn
        subst hn
        refine fnP_res hm c0_ok (hs := hFirst l l.length c es more rw) ?_
        rw [first_t]
        refine ⟨⟨(0 : Nat), ⟨by simp, by simp⟩, rfl, rfl⟩, fun s hs => ?_⟩
        obtain ⟨h1, h2⟩ := hs.out
        refine br_of (fun hc => ?_) (fun hc => ?_)
        · have hc : s < l.length := by simpa using hc
          refine ⟨⟨by omega, by omega⟩, ⟨by simpa using ints_at hc⟩, br_of (fun hd => ?_) (fun hd => ?_)⟩
          · have := fi_drop hc
            have hd' : l.getD s 0 ≠ 0 := by simpa using hd
            rw [if_neg hd'] at this
            simp [← h2, this]
          · have := fi_drop hc
            have hd' : l.getD s 0 = 0 := by simpa using hd
            rw [if_pos hd'] at this
            refine ⟨s + 1, ⟨hc, by rw [← this, h2]⟩, ⟨by omega⟩, ?_, rfl⟩
            rw [wrap_eq (by omega) (by omega)]
            rfl
        · have hc : l.length ≤ s := by simpa using hc
          have : s = l.length := by omega
          subst this
          simp [← h2, fi]
      · cases h
    · cases h
  · cases h

noncomputable def orcWithin : Orc
  | [.int .i64 n, .int .i64 lo, .int .i64 hi], [] => some (.int .i64 (wi n lo hi), [])
  | _, _ => none
noncomputable def t1 : List (Nat × Orc) := [(47, orcWhen), (27, orcFirst)]
theorem t1_all : ∀ p ∈ t1, Ok Try.prog p.1 p.2 := all_cons okWhen (all_cons okFirst all_nil)
noncomputable def c1 : CallF := ctx Try.prog t1
theorem c1_ok : CallOK Try.prog c1 := ctx_ok hm t1_all
theorem within_t (n : Int) (lo : Int) (hi : Int) (K : Value → Heap → Prop) :
    (fnP Try.prog c1 h0 (29 : FuncId) [Value.int IntKind.i64 n, Value.int IntKind.i64 lo, Value.int IntKind.i64 hi] [] K) =
    (br (decide (n < lo)) (K (Value.int IntKind.i64 (3 : Int)) noH) (K (Value.int IntKind.i64 (wh (decide (hi < n)) (3 : Int))) noH)) := by kernel_rfl
theorem okWithin : Ok Try.prog 29 orcWithin := by
  intro args H ret H' h
  unfold orcWithin at h
  split at h
  · cases h
    refine fnP_res hm c1_ok (hs := h0) ?_
    rw [within_t]
    exact br_of (fun h => by simp [wi, of_decide_eq_true h]) (fun h => by simp [wi, wh, of_decide_eq_false h])
  · cases h
noncomputable def t2 : List (Nat × Orc) := (29, orcWithin) :: t1
theorem t2_all : ∀ p ∈ t2, Ok Try.prog p.1 p.2 := all_cons okWithin t1_all
noncomputable def c2 : CallF := ctx Try.prog t2
theorem c2_ok : CallOK Try.prog c2 := ctx_ok hm t2_all
/-! ### Plain facts -/
/-- Moments that pass. -/
structure MomOK (n a b : Int) : Prop where
  n0 : 0 ≤ n
  n1 : n ≤ 4096
  a0 : -(n * 16384) ≤ a
  a1 : a ≤ n * 16384
  b0 : 0 ≤ b
  b1 : b ≤ n * 268435456
  ab : a * a ≤ n * b
  aa : a * a ≤ 4503599627370496
  nb : n * b ≤ 4503599627370496
  nb0 : 0 ≤ n * b
  aa0 : 0 ≤ a * a

noncomputable def h4 : Hs Try.prog := {au := au0 Try.prog}
/-! ### The reference -/
theorem whenR_t (b : Bool) (e : Int) (K : Value → Heap → Prop) :
    (fnP Try.prog c0 h0 (18 : FuncId) [Value.bool b, Value.int IntKind.i64 e] [] K) =
    (br b (K (Value.int IntKind.i64 e) noH) (K (Value.int IntKind.i64 (0 : Int)) noH)) := by kernel_rfl
theorem okWhenR : Ok Try.prog 18 orcWhen := by
  intro args H ret H' h
  unfold orcWhen at h
  split at h
  · cases h
    refine fnP_res hm c0_ok (hs := h0) ?_
    rw [whenR_t]
    exact br_of (fun h => by simp [wh, h]) (fun h => by simp [wh, h])
  · cases h
noncomputable def lpFirstR (l : List Int) (n c es : Nat) (more rw : Bool) : Lp where
  σ := Nat
  E i := slots 19 [(0, .slice (some ⟨0, 0, none⟩) n c), (3, .int .i64 (Int.ofNat i))]
  Hp _ := [some (.row (ints l) es more rw true)]
  I i := i ≤ l.length ∧ fi (l.drop i) = fi l
  m i := l.length - i
noncomputable def hFirstR (l : List Int) (n c es : Nat) (more rw : Bool) : Hs Try.prog where
  op k := if k = 402 then some (hIa Try.prog) else if k = 502 then some (hIa Try.prog) else if k = 403 then some (hLd Try.prog fun off => .int .i64 (l.getD off 0)) else if k = 503 then some (hLd Try.prog fun off => .int .i64 (l.getD off 0)) else none
  lp _ := some (lpFirstR l n c es more rw)
  cl _ := keep 19 [0, 3]
theorem firstR_t (l : List Int) (n : Nat) (c : Nat) (es : Nat) (more : Bool) (rw : Bool) (K : Value → Heap → Prop) :
    (fnP Try.prog c0 (hFirstR l n c es more rw) (17 : FuncId) [Value.slice (some { block := (0 : Nat), off := (0 : Nat) }) n c] [some (AObj.row (ints l) es more rw true)] K) =
    ((∃ s, Is (s ≤ List.length l ∧ fi (List.drop s l) = fi l) ∧ [Value.slice (some { block := (0 : Nat), off := (0 : Nat) }) n c, poi, poi, Value.int IntKind.i64 (0 : Int), poi, poi, poi, poi, poi, poi, poi, poi, poi, poi, poi, poi, poi, poi, poi] = [Value.slice (some { block := (0 : Nat), off := (0 : Nat) }) n c, poi, poi, Value.int IntKind.i64 (↑s : Int), poi, poi, poi, poi, poi, poi, poi, poi, poi, poi, poi, poi, poi, poi, poi] ∧ some (AObj.row (ints l) es more rw true) :: noH = some (AObj.row (ints l) es more rw true) :: noH) ∧ ∀ (s : Nat), Is (s ≤ List.length l ∧ fi (List.drop s l) = fi l) → br (decide ((↑s : Int) < (↑n : Int))) (Is ((0 : Int) ≤ (↑s : Int) ∧ (↑s : Int) < (↑n : Int)) ∧ Is ((ints l)[(0 : Nat) + Int.toNat (↑s : Int) * (1 : Nat)]? = some (Value.int IntKind.i64 (List.getD l ((0 : Nat) + Int.toNat (↑s : Int) * (1 : Nat)) (0 : Int)))) ∧ br (List.getD l ((0 : Nat) + Int.toNat (↑s : Int) * (1 : Nat)) (0 : Int) != (0 : Int)) (Is ((0 : Int) ≤ (↑s : Int) ∧ (↑s : Int) < (↑n : Int)) ∧ Is ((ints l)[(0 : Nat) + Int.toNat (↑s : Int) * (1 : Nat)]? = some (Value.int IntKind.i64 (List.getD l ((0 : Nat) + Int.toNat (↑s : Int) * (1 : Nat)) (0 : Int)))) ∧ K (Value.int IntKind.i64 (List.getD l ((0 : Nat) + Int.toNat (↑s : Int) * (1 : Nat)) (0 : Int))) (some (AObj.row (ints l) es more rw true) :: noH)) (∃ s', Is (s' ≤ List.length l ∧ fi (List.drop s' l) = fi l) ∧ Is (List.length l - s' < List.length l - s) ∧ [Value.slice (some { block := (0 : Nat), off := (0 : Nat) }) n c, poi, poi, Value.int IntKind.i64 (IntKind.wrap IntKind.i64 ((↑s : Int) + (1 : Int))), poi, poi, poi, poi, poi, poi, poi, poi, poi, poi, poi, poi, poi, poi, poi] = [Value.slice (some { block := (0 : Nat), off := (0 : Nat) }) n c, poi, poi, Value.int IntKind.i64 (↑s' : Int), poi, poi, poi, poi, poi, poi, poi, poi, poi, poi, poi, poi, poi, poi, poi] ∧ some (AObj.row (ints l) es more rw true) :: noH = some (AObj.row (ints l) es more rw true) :: noH)) (K (Value.int IntKind.i64 (0 : Int)) (some (AObj.row (ints l) es more rw true) :: noH))) := by kernel_rfl
theorem okFirstR : Ok Try.prog 17 orcFirst := by
  intro args H ret H' h
  unfold orcFirst at h
  split at h
  · rename_i n c cells es more rw
    split at h
    · rename_i l hl
      split at h
      · rename_i hn
        cases h
        have := intsOf_eq hl
        subst this
        obtain ⟨hn, hlt⟩ := hn
        subst hn
        refine fnP_res hm c0_ok (hs := hFirstR l l.length c es more rw) ?_
        rw [firstR_t]
        refine ⟨⟨(0 : Nat), ⟨by simp, by simp⟩, rfl, rfl⟩, fun s hs => ?_⟩
        obtain ⟨h1, h2⟩ := hs.out
        refine br_of (fun hc => ?_) (fun hc => ?_)
        · have hc : s < l.length := by simpa using hc
          have hat := ints_at hc
          refine ⟨⟨by omega, by omega⟩, ⟨by simpa using hat⟩, br_of (fun hd => ?_) (fun hd => ?_)⟩
          · have := fi_drop hc
            have hd' : l.getD s 0 ≠ 0 := by simpa using hd
            rw [if_neg hd'] at this
            refine ⟨⟨by omega, by omega⟩, ⟨by simpa using hat⟩, ?_⟩
            simp [← h2, this]
          · have := fi_drop hc
            have hd' : l.getD s 0 = 0 := by simpa using hd
            rw [if_pos hd'] at this
            refine ⟨s + 1, ⟨hc, by rw [← this, h2]⟩, ⟨by omega⟩, ?_, rfl⟩
            rw [wrap_eq (by omega) (by omega)]
            rfl
        · have hc : l.length ≤ s := by simpa using hc
          have : s = l.length := by omega
          subst this
          simp [← h2, fi]
      · cases h
    · cases h
  · cases h
noncomputable def r1 : List (Nat × Orc) := [(18, orcWhen), (17, orcFirst)]
theorem r1_all : ∀ p ∈ r1, Ok Try.prog p.1 p.2 := all_cons okWhenR (all_cons okFirstR all_nil)
noncomputable def cr1 : CallF := ctx Try.prog r1
theorem cr1_ok : CallOK Try.prog cr1 := ctx_ok hm r1_all
theorem rangeR_t (n : Int) (lo : Int) (hi : Int) (K : Value → Heap → Prop) :
    (fnP Try.prog cr1 h0 (19 : FuncId) [Value.int IntKind.i64 n, Value.int IntKind.i64 lo, Value.int IntKind.i64 hi] [] K) =
    (br (decide (n < lo)) (K (Value.int IntKind.i64 (3 : Int)) noH) (K (Value.int IntKind.i64 (wh (decide (hi < n)) (3 : Int))) noH)) := by kernel_rfl
theorem okRangeR : Ok Try.prog 19 orcWithin := by
  intro args H ret H' h
  unfold orcWithin at h
  split at h
  · cases h
    refine fnP_res hm cr1_ok (hs := h0) ?_
    rw [rangeR_t]
    exact br_of (fun h => by simp [wi, of_decide_eq_true h]) (fun h => by simp [wi, wh, of_decide_eq_false h])
  · cases h
end
end Qq
end
section
/- Sections: copies of them. -/
open Go Go.Vm Go.Proofs Sp
namespace Qq
noncomputable section

theorem ints_len (zs : List Int) : (ints zs).length = zs.length := by simp [ints]
theorem ints_take (zs : List Int) (i : Nat) : (ints zs).take i = ints (zs.take i) := by simp [ints, List.map_take]
theorem ints_drop (zs : List Int) (i : Nat) : (ints zs).drop i = ints (zs.drop i) := by simp [ints, List.map_drop]
theorem ints_app (zs ys : List Int) : ints zs ++ ints ys = ints (zs ++ ys) := by simp [ints]
theorem pair_at {zs : List Int} {i : Nat} (h : i + 2 ≤ zs.length) : (zs.drop i).take 2 = [zs.getD i 0, zs.getD (i + 1) 0] := by
  have h1 : i < zs.length := by omega
  have h2 : i + 1 < zs.length := by omega
  rw [List.drop_eq_getElem_cons h1, List.drop_eq_getElem_cons h2]
  simp only [List.take_succ_cons, List.take_zero, List.getD_eq_getElem?_getD, List.getElem?_eq_getElem h1, List.getElem?_eq_getElem h2, Option.getD_some]
theorem ints_pair {zs : List Int} {i : Nat} (h : i + 2 ≤ zs.length) : ((ints zs).drop i).take 2 = [.int .i64 (zs.getD i 0), .int .i64 (zs.getD (i + 1) 0)] := by
  rw [ints_drop, ints_take, pair_at h]; rfl
/-- The program's loops count in 64 bits. -/
theorem up1 {s n : Nat} (h : s < n) (hn : n ≤ 100000) : IntKind.wrap .i64 ((s : Int) + 1) = ((s + 1 : Nat) : Int) := by
  rw [wrap_eq (by omega) (by omega)]; rfl
theorem lt_of_dec {s n : Nat} (h : decide ((s : Int) < (n : Int)) = true) : s < n := by simpa using h
theorem ge_of_dec {s n : Nat} (h : decide ((s : Int) < (n : Int)) = false) : n ≤ s := by simpa using h
end
end Qq
end
section
/- Sections, checked. -/
open Go Go.Vm Go.Proofs Sp
namespace Sp
noncomputable section
end
end Sp
namespace Qq
noncomputable section
noncomputable def zI (zs : List Int) (off : Nat) : Value := .int .i64 (zs.getD off 0)
theorem zint_at {zs : List Int} {i : Nat} (h : i < zs.length) : (ints zs)[i]? = some (.int .i64 (zs.getD i 0)) := by
  simp [ints, List.getElem?_map, List.getElem?_eq_getElem h, List.getD_eq_getElem?_getD]
end
end Qq
end
section
/- Profiles, checked. -/
open Go Go.Vm Go.Proofs Sp
namespace Sp
noncomputable section
noncomputable def errs (f : Nat → Int) : Nat → Nat → Int
  | _, 0 => 0
  | i, k + 1 => sel (f i) (errs f (i + 1) k)
noncomputable def deI : List Value → List Int
  | .int _ x :: r => x :: deI r
  | _ => []
noncomputable def chkP (x y : Int) : Int := fi [wi x (-10000) 10000, wi y (-10000) 10000]
noncomputable def pfI (zs : List Int) (i : Nat) : Int := fi [chkP (zs.getD (i * 2) 0) (zs.getD (i * 2 + 1) 0), wh (decide (0 < i) && decide (zs.getD (i * 2) 0 ≤ zs.getD ((i - 1) * 2) 0)) 11]
noncomputable def pfE (zs : List Int) (n : Nat) : Int := sel (fi [wh (decide ((n : Int) < 2)) 16, wh (decide ((24 : Int) < n)) 5]) (errs (pfI zs) 0 n)
noncomputable def hasP (zs : List Int) (n : Nat) (x : Int) : Bool := decide (zs.getD 0 0 ≤ x) && decide (x ≤ zs.getD ((n - 1) * 2) 0)
/-- The cells of n points. -/
def isZ (cells : List Value) (n : Nat) : Prop := cells = ints (deI cells) ∧ (deI cells).length = n * 2 ∧ n ≤ 1000
end
end Sp
namespace Qq
noncomputable section
theorem errs_step (f : Nat → Int) {s n : Nat} (h : s < n) : errs f s (n - s) = sel (f s) (errs f (s + 1) (n - (s + 1))) := by
  rw [show n - s = (n - (s + 1)) + 1 by omega, errs]
theorem errs_zero {f : Nat → Int} : ∀ {k i : Nat}, errs f i k = 0 → ∀ j, i ≤ j → j < i + k → f j = 0
  | 0, i, _, j, h1, h2 => by omega
  | k + 1, i, h, j, h1, h2 => by
    rw [errs, sel] at h
    split at h
    · rename_i h0
      by_cases e : j = i
      · rw [e]; exact h0
      · exact errs_zero h j (by omega) (by omega)
    · rename_i h0; exact absurd h h0
theorem errs_all {f : Nat → Int} : ∀ {k i : Nat}, (∀ j, i ≤ j → j < i + k → f j = 0) → errs f i k = 0
  | 0, i, _ => rfl
  | k + 1, i, h => by
    rw [errs, sel, if_pos (h i (Nat.le_refl _) (by omega))]
    exact errs_all fun j h1 h2 => h j (by omega) (by omega)
theorem deI_ints : ∀ zs : List Int, deI (ints zs) = zs
  | [] => by rw [ints, List.map_nil, deI]; intro _ _ _ h; cases h
  | x :: r => by
    have : ints (x :: r) = .int .i64 x :: ints r := rfl
    rw [this, deI, deI_ints r]
theorem isZ_of {zs : List Int} {n : Nat} (h : zs.length = n * 2) (hn : n ≤ 1000) : isZ (ints zs) n := by
  rw [isZ, deI_ints]; exact ⟨rfl, h, hn⟩
theorem se_ne {e d : Int} (h : (e != 0) = true) : sel e d = e := by
  have : e ≠ 0 := by simpa using h
  simp [sel, this]
theorem se_eq {e d : Int} (h : (e != 0) = false) : sel e d = d := by
  have : e = 0 := by simpa using h
  simp [sel, this]
theorem prd1 {s n : Nat} (h : s < n) (hn : n ≤ 100000) : (if IntKind.wrap .i64 ((s : Int) - 1) > 0 then IntKind.wrap .i64 ((s : Int) - 1) else 0) = ((s - 1 : Nat) : Int) := by
  rw [wrap_eq (by omega) (by omega)]
  split <;> omega
noncomputable def z2 (zs : List Int) (off : Nat) : Value := .agg #[.int .i64 (zs.getD off 0), .int .i64 (zs.getD (off + 1) 0)]
noncomputable def rZ (zs : List Int) (m w : Bool) : Option AObj := some (.row (ints zs) 2 m w true)
noncomputable def orcPc : Orc
  | [.agg ⟨[.int .i64 x, .int .i64 y]⟩], [] => some (.int .i64 (chkP x y), [])
  | _, _ => none
theorem pc_t (x : Int) (y : Int) (K : Value → Heap → Prop) :
    (fnP Try.prog c2 h0 (60 : FuncId) [Value.agg #[Value.int IntKind.i64 x, Value.int IntKind.i64 y]] [] K) =
    (K (Value.int IntKind.i64 (fi [wi x (-10000 : Int) (10000 : Int), wi y (-10000 : Int) (10000 : Int)])) noH) := by kernel_rfl
theorem okPc : Ok Try.prog 60 orcPc := by
  intro args H ret H' h
  unfold orcPc at h
  split at h
  · cases h
    refine fnP_res hm c2_ok (hs := h0) ?_
    rw [pc_t]
    exact ⟨rfl, rfl⟩
  · cases h
noncomputable def t13 : List (Nat × Orc) := (60, orcPc) :: t2
theorem t13_all : ∀ p ∈ t13, Ok Try.prog p.1 p.2 := all_cons okPc t2_all
noncomputable def c13 : CallF := ctx Try.prog t13
theorem c13_ok : CallOK Try.prog c13 := ctx_ok hm t13_all
noncomputable def lpPf (zs : List Int) (n c : Nat) (m w : Bool) : Lp where
  σ := Nat
  E s := slots 50 [(0, .slice (some ⟨0, 0, none⟩) n c), (20, .slice (some ⟨0, 0, none⟩) n c), (21, .int .i64 (Int.ofNat n)), (22, .int .i64 (Int.ofNat s))]
  Hp _ := [rZ zs m w]
  I s := s ≤ n ∧ errs (pfI zs) s (n - s) = errs (pfI zs) 0 n
  m s := n - s
noncomputable def hsPf (zs : List Int) (n c : Nat) (m w : Bool) : Hs Try.prog where
  op x := if [601, 711].contains x then some (hIa Try.prog) else if x = 602 then some (hLd Try.prog (z2 zs)) else if x = 713 then some (hLd Try.prog (zI zs)) else none
  lp _ := some (lpPf zs n c m w)
  cl _ := keep 50 [0, 20, 21, 22]
  au := au0 Try.prog
theorem pf_t (zs : List Int) (n : Nat) (c : Nat) (m : Bool) (w : Bool) (K : Value → Heap → Prop) :
    (fnP Try.prog c13 (hsPf zs n c m w) (33 : FuncId) [Value.slice (some { block := (0 : Nat), off := (0 : Nat) }) n c] [rZ zs m w] K) =
    (br (fi [wh (decide ((↑n : Int) < (2 : Int))) (16 : Int), wh (decide ((24 : Int) < (↑n : Int))) (5 : Int)] != (0 : Int)) (K (Value.int IntKind.i64 (fi [wh (decide ((↑n : Int) < (2 : Int))) (16 : Int), wh (decide ((24 : Int) < (↑n : Int))) (5 : Int)])) (some (AObj.row (ints zs) (2 : Nat) m w true) :: noH)) ((∃ (s : Nat), Is (s ≤ n ∧ errs (pfI zs) s (n - s) = errs (pfI zs) (0 : Nat) n) ∧ [Value.slice (some { block := (0 : Nat), off := (0 : Nat) }) n c, poi, poi, poi, poi, poi, poi, poi, poi, poi, poi, poi, poi, poi, poi, poi, poi, poi, poi, poi, Value.slice (some { block := (0 : Nat), off := (0 : Nat) }) n c, Value.int IntKind.i64 (↑n : Int), Value.int IntKind.i64 (0 : Int), poi, poi, poi, poi, poi, poi, poi, poi, poi, poi, poi, poi, poi, poi, poi, poi, poi, poi, poi, poi, poi, poi, poi, poi, poi, poi, poi] = [Value.slice (some { block := (0 : Nat), off := (0 : Nat) }) n c, poi, poi, poi, poi, poi, poi, poi, poi, poi, poi, poi, poi, poi, poi, poi, poi, poi, poi, poi, Value.slice (some { block := (0 : Nat), off := (0 : Nat) }) n c, Value.int IntKind.i64 (↑n : Int), Value.int IntKind.i64 (↑s : Int), poi, poi, poi, poi, poi, poi, poi, poi, poi, poi, poi, poi, poi, poi, poi, poi, poi, poi, poi, poi, poi, poi, poi, poi, poi, poi, poi] ∧ some (AObj.row (ints zs) (2 : Nat) m w true) :: noH = some (AObj.row (ints zs) (2 : Nat) m w true) :: noH) ∧ ∀ (s : Nat), Is (s ≤ n ∧ errs (pfI zs) s (n - s) = errs (pfI zs) (0 : Nat) n) → br (decide ((↑s : Int) < (↑n : Int))) (Is ((0 : Int) ≤ (↑s : Int) ∧ (↑s : Int) < (↑n : Int)) ∧ Is ((if (0 : Nat) + Int.toNat (↑s : Int) * (2 : Nat) + (2 : Nat) ≤ List.length (ints zs) then some (Value.agg (List.toArray (List.take (2 : Nat) (List.drop ((0 : Nat) + Int.toNat (↑s : Int) * (2 : Nat)) (ints zs))))) else none) = some (Value.agg #[Value.int IntKind.i64 (List.getD zs ((0 : Nat) + Int.toNat (↑s : Int) * (2 : Nat)) (0 : Int)), Value.int IntKind.i64 (List.getD zs ((0 : Nat) + Int.toNat (↑s : Int) * (2 : Nat) + (1 : Nat)) (0 : Int))])) ∧ br (decide ((0 : Int) < (↑s : Int))) (Is (((0 : Int) ≤ if IntKind.wrap IntKind.i64 ((↑s : Int) - (1 : Int)) > (0 : Int) then IntKind.wrap IntKind.i64 ((↑s : Int) - (1 : Int)) else (0 : Int)) ∧ (if IntKind.wrap IntKind.i64 ((↑s : Int) - (1 : Int)) > (0 : Int) then IntKind.wrap IntKind.i64 ((↑s : Int) - (1 : Int)) else (0 : Int)) < (↑n : Int)) ∧ Is ((ints zs)[(0 : Nat) + Int.toNat (if IntKind.wrap IntKind.i64 ((↑s : Int) - (1 : Int)) > (0 : Int) then IntKind.wrap IntKind.i64 ((↑s : Int) - (1 : Int)) else (0 : Int)) * (2 : Nat) + (0 : Nat)]? = some (Value.int IntKind.i64 (List.getD zs ((0 : Nat) + Int.toNat (if IntKind.wrap IntKind.i64 ((↑s : Int) - (1 : Int)) > (0 : Int) then IntKind.wrap IntKind.i64 ((↑s : Int) - (1 : Int)) else (0 : Int)) * (2 : Nat) + (0 : Nat)) (0 : Int)))) ∧ br (fi [chkP (List.getD zs ((0 : Nat) + Int.toNat (↑s : Int) * (2 : Nat)) (0 : Int)) (List.getD zs ((0 : Nat) + Int.toNat (↑s : Int) * (2 : Nat) + (1 : Nat)) (0 : Int)), wh (decide (List.getD zs ((0 : Nat) + Int.toNat (↑s : Int) * (2 : Nat)) (0 : Int) ≤ List.getD zs ((0 : Nat) + Int.toNat (if IntKind.wrap IntKind.i64 ((↑s : Int) - (1 : Int)) > (0 : Int) then IntKind.wrap IntKind.i64 ((↑s : Int) - (1 : Int)) else (0 : Int)) * (2 : Nat) + (0 : Nat)) (0 : Int))) (11 : Int)] != (0 : Int)) (K (Value.int IntKind.i64 (fi [chkP (List.getD zs ((0 : Nat) + Int.toNat (↑s : Int) * (2 : Nat)) (0 : Int)) (List.getD zs ((0 : Nat) + Int.toNat (↑s : Int) * (2 : Nat) + (1 : Nat)) (0 : Int)), wh (decide (List.getD zs ((0 : Nat) + Int.toNat (↑s : Int) * (2 : Nat)) (0 : Int) ≤ List.getD zs ((0 : Nat) + Int.toNat (if IntKind.wrap IntKind.i64 ((↑s : Int) - (1 : Int)) > (0 : Int) then IntKind.wrap IntKind.i64 ((↑s : Int) - (1 : Int)) else (0 : Int)) * (2 : Nat) + (0 : Nat)) (0 : Int))) (11 : Int)])) (some (AObj.row (ints zs) (2 : Nat) m w true) :: noH)) (∃ (s' : Nat), Is (s' ≤ n ∧ errs (pfI zs) s' (n - s') = errs (pfI zs) (0 : Nat) n) ∧ Is (n - s' < n - s) ∧ [Value.slice (some { block := (0 : Nat), off := (0 : Nat) }) n c, poi, poi, poi, poi, poi, poi, poi, poi, poi, poi, poi, poi, poi, poi, poi, poi, poi, poi, poi, Value.slice (some { block := (0 : Nat), off := (0 : Nat) }) n c, Value.int IntKind.i64 (↑n : Int), Value.int IntKind.i64 (IntKind.wrap IntKind.i64 ((↑s : Int) + (1 : Int))), poi, poi, poi, poi, poi, poi, poi, poi, poi, poi, poi, poi, poi, poi, poi, poi, poi, poi, poi, poi, poi, poi, poi, poi, poi, poi, poi] = [Value.slice (some { block := (0 : Nat), off := (0 : Nat) }) n c, poi, poi, poi, poi, poi, poi, poi, poi, poi, poi, poi, poi, poi, poi, poi, poi, poi, poi, poi, Value.slice (some { block := (0 : Nat), off := (0 : Nat) }) n c, Value.int IntKind.i64 (↑n : Int), Value.int IntKind.i64 (↑s' : Int), poi, poi, poi, poi, poi, poi, poi, poi, poi, poi, poi, poi, poi, poi, poi, poi, poi, poi, poi, poi, poi, poi, poi, poi, poi, poi, poi] ∧ some (AObj.row (ints zs) (2 : Nat) m w true) :: noH = some (AObj.row (ints zs) (2 : Nat) m w true) :: noH)) (br (fi [chkP (List.getD zs ((0 : Nat) + Int.toNat (↑s : Int) * (2 : Nat)) (0 : Int)) (List.getD zs ((0 : Nat) + Int.toNat (↑s : Int) * (2 : Nat) + (1 : Nat)) (0 : Int)), (0 : Int)] != (0 : Int)) (K (Value.int IntKind.i64 (fi [chkP (List.getD zs ((0 : Nat) + Int.toNat (↑s : Int) * (2 : Nat)) (0 : Int)) (List.getD zs ((0 : Nat) + Int.toNat (↑s : Int) * (2 : Nat) + (1 : Nat)) (0 : Int)), (0 : Int)])) (some (AObj.row (ints zs) (2 : Nat) m w true) :: noH)) (∃ (s' : Nat), Is (s' ≤ n ∧ errs (pfI zs) s' (n - s') = errs (pfI zs) (0 : Nat) n) ∧ Is (n - s' < n - s) ∧ [Value.slice (some { block := (0 : Nat), off := (0 : Nat) }) n c, poi, poi, poi, poi, poi, poi, poi, poi, poi, poi, poi, poi, poi, poi, poi, poi, poi, poi, poi, Value.slice (some { block := (0 : Nat), off := (0 : Nat) }) n c, Value.int IntKind.i64 (↑n : Int), Value.int IntKind.i64 (IntKind.wrap IntKind.i64 ((↑s : Int) + (1 : Int))), poi, poi, poi, poi, poi, poi, poi, poi, poi, poi, poi, poi, poi, poi, poi, poi, poi, poi, poi, poi, poi, poi, poi, poi, poi, poi, poi] = [Value.slice (some { block := (0 : Nat), off := (0 : Nat) }) n c, poi, poi, poi, poi, poi, poi, poi, poi, poi, poi, poi, poi, poi, poi, poi, poi, poi, poi, poi, Value.slice (some { block := (0 : Nat), off := (0 : Nat) }) n c, Value.int IntKind.i64 (↑n : Int), Value.int IntKind.i64 (↑s' : Int), poi, poi, poi, poi, poi, poi, poi, poi, poi, poi, poi, poi, poi, poi, poi, poi, poi, poi, poi, poi, poi, poi, poi, poi, poi, poi, poi] ∧ some (AObj.row (ints zs) (2 : Nat) m w true) :: noH = some (AObj.row (ints zs) (2 : Nat) m w true) :: noH))) (K (Value.int IntKind.i64 (0 : Int)) (some (AObj.row (ints zs) (2 : Nat) m w true) :: noH)))) := by kernel_rfl
noncomputable def lpPfR (zs : List Int) (n c : Nat) (m w : Bool) : Lp where
  σ := Nat
  E s := slots 60 [(0, .slice (some ⟨0, 0, none⟩) n c), (4, .int .i64 (Int.ofNat s))]
  Hp _ := [rZ zs m w]
  I s := s ≤ n ∧ errs (pfI zs) s (n - s) = errs (pfI zs) 0 n
  m s := n - s
noncomputable def hsPfR (zs : List Int) (n c : Nat) (m w : Bool) : Hs Try.prog where
  op x := if [702, 708, 717, 724].contains x then some (hIa Try.prog) else if [704, 710, 719, 726].contains x then some (hLd Try.prog (zI zs)) else none
  lp _ := some (lpPfR zs n c m w)
  cl _ := keep 60 [0, 4]
  au := au0 Try.prog
noncomputable def r3 : List (Nat × Orc) := (19, orcWithin) :: r1
theorem r3_all : ∀ p ∈ r3, Ok Try.prog p.1 p.2 := all_cons okRangeR r1_all
noncomputable def cr3 : CallF := ctx Try.prog r3
theorem cr3_ok : CallOK Try.prog cr3 := ctx_ok hm r3_all
theorem pfR_t (zs : List Int) (n : Nat) (c : Nat) (m : Bool) (w : Bool) (K : Value → Heap → Prop) :
    (fnP Try.prog cr3 (hsPfR zs n c m w) (5 : FuncId) [Value.slice (some { block := (0 : Nat), off := (0 : Nat) }) n c] [rZ zs m w] K) =
    (br (fi [wh (decide ((↑n : Int) < (2 : Int))) (16 : Int), wh (decide ((24 : Int) < (↑n : Int))) (5 : Int)] != (0 : Int)) (K (Value.int IntKind.i64 (fi [wh (decide ((↑n : Int) < (2 : Int))) (16 : Int), wh (decide ((24 : Int) < (↑n : Int))) (5 : Int)])) (some (AObj.row (ints zs) (2 : Nat) m w true) :: noH)) ((∃ (s : Nat), Is (s ≤ n ∧ errs (pfI zs) s (n - s) = errs (pfI zs) (0 : Nat) n) ∧ [Value.slice (some { block := (0 : Nat), off := (0 : Nat) }) n c, poi, poi, poi, Value.int IntKind.i64 (0 : Int), poi, poi, poi, poi, poi, poi, poi, poi, poi, poi, poi, poi, poi, poi, poi, poi, poi, poi, poi, poi, poi, poi, poi, poi, poi, poi, poi, poi, poi, poi, poi, poi, poi, poi, poi, poi, poi, poi, poi, poi, poi, poi, poi, poi, poi, poi, poi, poi, poi, poi, poi, poi, poi, poi, poi] = [Value.slice (some { block := (0 : Nat), off := (0 : Nat) }) n c, poi, poi, poi, Value.int IntKind.i64 (↑s : Int), poi, poi, poi, poi, poi, poi, poi, poi, poi, poi, poi, poi, poi, poi, poi, poi, poi, poi, poi, poi, poi, poi, poi, poi, poi, poi, poi, poi, poi, poi, poi, poi, poi, poi, poi, poi, poi, poi, poi, poi, poi, poi, poi, poi, poi, poi, poi, poi, poi, poi, poi, poi, poi, poi, poi] ∧ some (AObj.row (ints zs) (2 : Nat) m w true) :: noH = some (AObj.row (ints zs) (2 : Nat) m w true) :: noH) ∧ ∀ (s : Nat), Is (s ≤ n ∧ errs (pfI zs) s (n - s) = errs (pfI zs) (0 : Nat) n) → br (decide ((↑s : Int) < (↑n : Int))) (Is ((0 : Int) ≤ (↑s : Int) ∧ (↑s : Int) < (↑n : Int)) ∧ Is ((ints zs)[(0 : Nat) + Int.toNat (↑s : Int) * (2 : Nat) + (0 : Nat)]? = some (Value.int IntKind.i64 (List.getD zs ((0 : Nat) + Int.toNat (↑s : Int) * (2 : Nat) + (0 : Nat)) (0 : Int)))) ∧ Is ((0 : Int) ≤ (↑s : Int) ∧ (↑s : Int) < (↑n : Int)) ∧ Is ((ints zs)[(0 : Nat) + Int.toNat (↑s : Int) * (2 : Nat) + (1 : Nat)]? = some (Value.int IntKind.i64 (List.getD zs ((0 : Nat) + Int.toNat (↑s : Int) * (2 : Nat) + (1 : Nat)) (0 : Int)))) ∧ br (decide ((0 : Int) < (↑s : Int))) (Is ((0 : Int) ≤ (↑s : Int) ∧ (↑s : Int) < (↑n : Int)) ∧ Is ((ints zs)[(0 : Nat) + Int.toNat (↑s : Int) * (2 : Nat) + (0 : Nat)]? = some (Value.int IntKind.i64 (List.getD zs ((0 : Nat) + Int.toNat (↑s : Int) * (2 : Nat) + (0 : Nat)) (0 : Int)))) ∧ Is (((0 : Int) ≤ if IntKind.wrap IntKind.i64 ((↑s : Int) - (1 : Int)) > (0 : Int) then IntKind.wrap IntKind.i64 ((↑s : Int) - (1 : Int)) else (0 : Int)) ∧ (if IntKind.wrap IntKind.i64 ((↑s : Int) - (1 : Int)) > (0 : Int) then IntKind.wrap IntKind.i64 ((↑s : Int) - (1 : Int)) else (0 : Int)) < (↑n : Int)) ∧ Is ((ints zs)[(0 : Nat) + Int.toNat (if IntKind.wrap IntKind.i64 ((↑s : Int) - (1 : Int)) > (0 : Int) then IntKind.wrap IntKind.i64 ((↑s : Int) - (1 : Int)) else (0 : Int)) * (2 : Nat) + (0 : Nat)]? = some (Value.int IntKind.i64 (List.getD zs ((0 : Nat) + Int.toNat (if IntKind.wrap IntKind.i64 ((↑s : Int) - (1 : Int)) > (0 : Int) then IntKind.wrap IntKind.i64 ((↑s : Int) - (1 : Int)) else (0 : Int)) * (2 : Nat) + (0 : Nat)) (0 : Int)))) ∧ br (fi [wi (List.getD zs ((0 : Nat) + Int.toNat (↑s : Int) * (2 : Nat) + (0 : Nat)) (0 : Int)) (-10000 : Int) (10000 : Int), wi (List.getD zs ((0 : Nat) + Int.toNat (↑s : Int) * (2 : Nat) + (1 : Nat)) (0 : Int)) (-10000 : Int) (10000 : Int), wh (decide (List.getD zs ((0 : Nat) + Int.toNat (↑s : Int) * (2 : Nat) + (0 : Nat)) (0 : Int) ≤ List.getD zs ((0 : Nat) + Int.toNat (if IntKind.wrap IntKind.i64 ((↑s : Int) - (1 : Int)) > (0 : Int) then IntKind.wrap IntKind.i64 ((↑s : Int) - (1 : Int)) else (0 : Int)) * (2 : Nat) + (0 : Nat)) (0 : Int))) (11 : Int)] != (0 : Int)) (K (Value.int IntKind.i64 (fi [wi (List.getD zs ((0 : Nat) + Int.toNat (↑s : Int) * (2 : Nat) + (0 : Nat)) (0 : Int)) (-10000 : Int) (10000 : Int), wi (List.getD zs ((0 : Nat) + Int.toNat (↑s : Int) * (2 : Nat) + (1 : Nat)) (0 : Int)) (-10000 : Int) (10000 : Int), wh (decide (List.getD zs ((0 : Nat) + Int.toNat (↑s : Int) * (2 : Nat) + (0 : Nat)) (0 : Int) ≤ List.getD zs ((0 : Nat) + Int.toNat (if IntKind.wrap IntKind.i64 ((↑s : Int) - (1 : Int)) > (0 : Int) then IntKind.wrap IntKind.i64 ((↑s : Int) - (1 : Int)) else (0 : Int)) * (2 : Nat) + (0 : Nat)) (0 : Int))) (11 : Int)])) (some (AObj.row (ints zs) (2 : Nat) m w true) :: noH)) (∃ (s' : Nat), Is (s' ≤ n ∧ errs (pfI zs) s' (n - s') = errs (pfI zs) (0 : Nat) n) ∧ Is (n - s' < n - s) ∧ [Value.slice (some { block := (0 : Nat), off := (0 : Nat) }) n c, poi, poi, poi, Value.int IntKind.i64 (IntKind.wrap IntKind.i64 ((↑s : Int) + (1 : Int))), poi, poi, poi, poi, poi, poi, poi, poi, poi, poi, poi, poi, poi, poi, poi, poi, poi, poi, poi, poi, poi, poi, poi, poi, poi, poi, poi, poi, poi, poi, poi, poi, poi, poi, poi, poi, poi, poi, poi, poi, poi, poi, poi, poi, poi, poi, poi, poi, poi, poi, poi, poi, poi, poi, poi] = [Value.slice (some { block := (0 : Nat), off := (0 : Nat) }) n c, poi, poi, poi, Value.int IntKind.i64 (↑s' : Int), poi, poi, poi, poi, poi, poi, poi, poi, poi, poi, poi, poi, poi, poi, poi, poi, poi, poi, poi, poi, poi, poi, poi, poi, poi, poi, poi, poi, poi, poi, poi, poi, poi, poi, poi, poi, poi, poi, poi, poi, poi, poi, poi, poi, poi, poi, poi, poi, poi, poi, poi, poi, poi, poi, poi] ∧ some (AObj.row (ints zs) (2 : Nat) m w true) :: noH = some (AObj.row (ints zs) (2 : Nat) m w true) :: noH)) (br (fi [wi (List.getD zs ((0 : Nat) + Int.toNat (↑s : Int) * (2 : Nat) + (0 : Nat)) (0 : Int)) (-10000 : Int) (10000 : Int), wi (List.getD zs ((0 : Nat) + Int.toNat (↑s : Int) * (2 : Nat) + (1 : Nat)) (0 : Int)) (-10000 : Int) (10000 : Int), (0 : Int)] != (0 : Int)) (K (Value.int IntKind.i64 (fi [wi (List.getD zs ((0 : Nat) + Int.toNat (↑s : Int) * (2 : Nat) + (0 : Nat)) (0 : Int)) (-10000 : Int) (10000 : Int), wi (List.getD zs ((0 : Nat) + Int.toNat (↑s : Int) * (2 : Nat) + (1 : Nat)) (0 : Int)) (-10000 : Int) (10000 : Int), (0 : Int)])) (some (AObj.row (ints zs) (2 : Nat) m w true) :: noH)) (∃ (s' : Nat), Is (s' ≤ n ∧ errs (pfI zs) s' (n - s') = errs (pfI zs) (0 : Nat) n) ∧ Is (n - s' < n - s) ∧ [Value.slice (some { block := (0 : Nat), off := (0 : Nat) }) n c, poi, poi, poi, Value.int IntKind.i64 (IntKind.wrap IntKind.i64 ((↑s : Int) + (1 : Int))), poi, poi, poi, poi, poi, poi, poi, poi, poi, poi, poi, poi, poi, poi, poi, poi, poi, poi, poi, poi, poi, poi, poi, poi, poi, poi, poi, poi, poi, poi, poi, poi, poi, poi, poi, poi, poi, poi, poi, poi, poi, poi, poi, poi, poi, poi, poi, poi, poi, poi, poi, poi, poi, poi, poi] = [Value.slice (some { block := (0 : Nat), off := (0 : Nat) }) n c, poi, poi, poi, Value.int IntKind.i64 (↑s' : Int), poi, poi, poi, poi, poi, poi, poi, poi, poi, poi, poi, poi, poi, poi, poi, poi, poi, poi, poi, poi, poi, poi, poi, poi, poi, poi, poi, poi, poi, poi, poi, poi, poi, poi, poi, poi, poi, poi, poi, poi, poi, poi, poi, poi, poi, poi, poi, poi, poi, poi, poi, poi, poi, poi, poi] ∧ some (AObj.row (ints zs) (2 : Nat) m w true) :: noH = some (AObj.row (ints zs) (2 : Nat) m w true) :: noH))) (K (Value.int IntKind.i64 (0 : Int)) (some (AObj.row (ints zs) (2 : Nat) m w true) :: noH)))) := by kernel_rfl
noncomputable def hsLf (zs : List Int) : Hs Try.prog where
  op x := if x = 101 then some (hIa Try.prog) else if x = 103 then some (hLd Try.prog (zI zs)) else none
  au := au0 Try.prog
noncomputable def hsRt (zs : List Int) : Hs Try.prog where
  op x := if x = 104 then some (hIa Try.prog) else if x = 106 then some (hLd Try.prog (zI zs)) else none
  au := au0 Try.prog
noncomputable def hsHr (zs : List Int) : Hs Try.prog where
  op x := if [102, 112].contains x then some (hIa Try.prog) else if [104, 114].contains x then some (hLd Try.prog (zI zs)) else none
  au := au0 Try.prog
theorem lf_t (zs : List Int) (n : Nat) (c : Nat) (m : Bool) (w : Bool) (K : Value → Heap → Prop) :
    (fnP Try.prog c0 (hsLf zs) (73 : FuncId) [Value.slice (some { block := (0 : Nat), off := (0 : Nat) }) n c] [rZ zs m w] K) =
    (Is ((0 : Int) ≤ (0 : Int) ∧ (0 : Int) < (↑n : Int)) ∧ Is ((ints zs)[(0 : Nat)]? = some (Value.int IntKind.i64 (List.getD zs (0 : Nat) (0 : Int)))) ∧ K (Value.int IntKind.i64 (List.getD zs (0 : Nat) (0 : Int))) (some (AObj.row (ints zs) (2 : Nat) m w true) :: noH)) := by kernel_rfl
theorem rt_t (zs : List Int) (n : Nat) (c : Nat) (m : Bool) (w : Bool) (K : Value → Heap → Prop) :
    (fnP Try.prog c0 (hsRt zs) (74 : FuncId) [Value.slice (some { block := (0 : Nat), off := (0 : Nat) }) n c] [rZ zs m w] K) =
    (Is ((0 : Int) ≤ IntKind.wrap IntKind.i64 ((↑n : Int) - (1 : Int)) ∧ IntKind.wrap IntKind.i64 ((↑n : Int) - (1 : Int)) < (↑n : Int)) ∧ Is ((ints zs)[(0 : Nat) + Int.toNat (IntKind.wrap IntKind.i64 ((↑n : Int) - (1 : Int))) * (2 : Nat) + (0 : Nat)]? = some (Value.int IntKind.i64 (List.getD zs ((0 : Nat) + Int.toNat (IntKind.wrap IntKind.i64 ((↑n : Int) - (1 : Int))) * (2 : Nat) + (0 : Nat)) (0 : Int)))) ∧ K (Value.int IntKind.i64 (List.getD zs ((0 : Nat) + Int.toNat (IntKind.wrap IntKind.i64 ((↑n : Int) - (1 : Int))) * (2 : Nat) + (0 : Nat)) (0 : Int))) (some (AObj.row (ints zs) (2 : Nat) m w true) :: noH)) := by kernel_rfl
theorem hr_t (zs : List Int) (n : Nat) (c : Nat) (x : Int) (m : Bool) (w : Bool) (K : Value → Heap → Prop) :
    (fnP Try.prog c0 (hsHr zs) (20 : FuncId) [Value.slice (some { block := (0 : Nat), off := (0 : Nat) }) n c, Value.int IntKind.i64 x] [rZ zs m w] K) =
    (Is ((0 : Int) ≤ (0 : Int) ∧ (0 : Int) < (↑n : Int)) ∧ Is ((ints zs)[(0 : Nat)]? = some (Value.int IntKind.i64 (List.getD zs (0 : Nat) (0 : Int)))) ∧ br (decide (List.getD zs (0 : Nat) (0 : Int) ≤ x)) (Is ((0 : Int) ≤ IntKind.wrap IntKind.i64 ((↑n : Int) - (1 : Int)) ∧ IntKind.wrap IntKind.i64 ((↑n : Int) - (1 : Int)) < (↑n : Int)) ∧ Is ((ints zs)[(0 : Nat) + Int.toNat (IntKind.wrap IntKind.i64 ((↑n : Int) - (1 : Int))) * (2 : Nat) + (0 : Nat)]? = some (Value.int IntKind.i64 (List.getD zs ((0 : Nat) + Int.toNat (IntKind.wrap IntKind.i64 ((↑n : Int) - (1 : Int))) * (2 : Nat) + (0 : Nat)) (0 : Int)))) ∧ K (Value.bool (decide (x ≤ List.getD zs ((0 : Nat) + Int.toNat (IntKind.wrap IntKind.i64 ((↑n : Int) - (1 : Int))) * (2 : Nat) + (0 : Nat)) (0 : Int)))) (some (AObj.row (ints zs) (2 : Nat) m w true) :: noH)) (K (Value.bool false) (some (AObj.row (ints zs) (2 : Nat) m w true) :: noH))) := by kernel_rfl
theorem pfI_first {zs : List Int} {s : Nat} (h : s = 0) : pfI zs s = fi [chkP (zs.getD (s * 2) 0) (zs.getD (s * 2 + 1) 0), 0] := by
  rw [pfI, h]; rfl
theorem pfI_next {zs : List Int} {s : Nat} (h : 0 < s) : pfI zs s = fi [chkP (zs.getD (s * 2) 0) (zs.getD (s * 2 + 1) 0), wh (decide (zs.getD (s * 2) 0 ≤ zs.getD ((s - 1) * 2) 0)) 11] := by
  rw [pfI, decide_eq_true h, Bool.true_and]
theorem fi_cat {a b : Int} {c : Int} : fi [a, b, c] = fi [fi [a, b], c] := by
  by_cases ha : a = 0
  · by_cases hb : b = 0
    · simp [fi, ha, hb]
    · simp [fi, ha, hb]
  · simp [fi, ha]
set_option maxRecDepth 100000 in
theorem pf_ok {zs : List Int} {n c : Nat} {m w : Bool} (hz : zs.length = n * 2) (hn : n ≤ 1000) :
    SmallRes Try.prog 33 [.slice (some ⟨0, 0, none⟩) n c] [rZ zs m w] (.int .i64 (pfE zs n)) [rZ zs m w] := by
  refine fnP_res hm c13_ok (hs := hsPf zs n c m w) ?_
  rw [pf_t]
  refine br_of (fun h => ?_) (fun h0 => ⟨⟨(0 : Nat), ⟨by omega, rfl⟩, by first | trivial | rfl, by first | trivial | rfl⟩, fun s hs => br_of (fun h => ?_) (fun h => ?_)⟩)
  · rw [pfE, se_ne h]; exact ⟨rfl, rfl⟩
  · obtain ⟨a1, a2⟩ := hs.out
    have h := lt_of_dec h
    have hst := errs_step (pfI zs) h
    have pair : (if s * 2 + 2 ≤ (ints zs).length then some (Value.agg (List.take 2 (List.drop (s * 2) (ints zs))).toArray) else none) = some (.agg #[.int .i64 (zs.getD (s * 2) 0), .int .i64 (zs.getD (s * 2 + 1) 0)]) := by
      rw [ints_len, if_pos (by omega), ints_pair (by omega)]
    simp only [Nat.zero_add, Nat.add_zero, Int.toNat_natCast, prd1 h (by omega)]
    refine ⟨⟨by omega, by omega⟩, ⟨pair⟩, br_of (fun hp => ?_) (fun hp => ?_)⟩
    · have hp : 0 < s := by have := of_decide_eq_true hp; omega
      rw [pfI_next hp] at hst
      refine ⟨⟨by omega, by omega⟩, ⟨zint_at (by omega)⟩, br_of (fun he => ?_) (fun he => ⟨s + 1, ⟨h, ?_⟩, ⟨by omega⟩, ?_, by first | trivial | rfl⟩)⟩
      · rw [pfE, se_eq h0, ← a2, hst, se_ne he]; exact ⟨rfl, rfl⟩
      · rw [← a2, hst, se_eq he]
      · rw [up1 h (by omega)]
    · have hp : s = 0 := by have := of_decide_eq_false hp; omega
      rw [pfI_first hp] at hst
      refine br_of (fun he => ?_) (fun he => ⟨s + 1, ⟨h, ?_⟩, ⟨by omega⟩, ?_, by first | trivial | rfl⟩)
      · rw [pfE, se_eq h0, ← a2, hst, se_ne he]; exact ⟨rfl, rfl⟩
      · rw [← a2, hst, se_eq he]
      · rw [up1 h (by omega)]
  · obtain ⟨a1, a2⟩ := hs.out
    have h := ge_of_dec h
    rw [pfE, se_eq h0, ← a2, show n - s = 0 by omega]
    exact ⟨rfl, rfl⟩
set_option maxRecDepth 100000 in
theorem pfR_ok {zs : List Int} {n c : Nat} {m w : Bool} (hz : zs.length = n * 2) (hn : n ≤ 1000) :
    SmallRes Try.prog 5 [.slice (some ⟨0, 0, none⟩) n c] [rZ zs m w] (.int .i64 (pfE zs n)) [rZ zs m w] := by
  refine fnP_res hm cr3_ok (hs := hsPfR zs n c m w) ?_
  rw [pfR_t]
  refine br_of (fun h => ?_) (fun h0 => ⟨⟨(0 : Nat), ⟨by omega, rfl⟩, by first | trivial | rfl, by first | trivial | rfl⟩, fun s hs => br_of (fun h => ?_) (fun h => ?_)⟩)
  · rw [pfE, se_ne h]; exact ⟨rfl, rfl⟩
  · obtain ⟨a1, a2⟩ := hs.out
    have h := lt_of_dec h
    have hst := errs_step (pfI zs) h
    simp only [Nat.zero_add, Nat.add_zero, Int.toNat_natCast, prd1 h (by omega)]
    refine ⟨⟨by omega, by omega⟩, ⟨zint_at (by omega)⟩, ⟨by omega, by omega⟩, ⟨zint_at (by omega)⟩, br_of (fun hp => ?_) (fun hp => ?_)⟩
    · have hp : 0 < s := by have := of_decide_eq_true hp; omega
      rw [pfI_next hp, chkP, ← fi_cat] at hst
      refine ⟨⟨by omega, by omega⟩, ⟨zint_at (by omega)⟩, ⟨by omega, by omega⟩, ⟨zint_at (by omega)⟩, br_of (fun he => ?_) (fun he => ⟨s + 1, ⟨h, ?_⟩, ⟨by omega⟩, ?_, by first | trivial | rfl⟩)⟩
      · rw [pfE, se_eq h0, ← a2, hst, se_ne he]; exact ⟨rfl, rfl⟩
      · rw [← a2, hst, se_eq he]
      · rw [up1 h (by omega)]
    · have hp : s = 0 := by have := of_decide_eq_false hp; omega
      rw [pfI_first hp, chkP, ← fi_cat] at hst
      refine br_of (fun he => ?_) (fun he => ⟨s + 1, ⟨h, ?_⟩, ⟨by omega⟩, ?_, by first | trivial | rfl⟩)
      · rw [pfE, se_eq h0, ← a2, hst, se_ne he]; exact ⟨rfl, rfl⟩
      · rw [← a2, hst, se_eq he]
      · rw [up1 h (by omega)]
  · obtain ⟨a1, a2⟩ := hs.out
    have h := ge_of_dec h
    rw [pfE, se_eq h0, ← a2, show n - s = 0 by omega]
    exact ⟨rfl, rfl⟩
noncomputable def orcPf : OrcV
  | [.slice (some ⟨0, 0, none⟩) n _], [some (.row cells 2 m w true)] => some (.int .i64 (pfE (deI cells) n), [some (.row cells 2 m w true)], isZ cells n)
  | _, _ => none
noncomputable def orcLf : OrcV
  | [.slice (some ⟨0, 0, none⟩) n _], [some (.row cells 2 m w true)] => some (.int .i64 ((deI cells).getD 0 0), [some (.row cells 2 m w true)], isZ cells n ∧ 0 < n)
  | _, _ => none
noncomputable def orcRt : OrcV
  | [.slice (some ⟨0, 0, none⟩) n _], [some (.row cells 2 m w true)] => some (.int .i64 ((deI cells).getD ((n - 1) * 2) 0), [some (.row cells 2 m w true)], isZ cells n ∧ 0 < n)
  | _, _ => none
noncomputable def orcHas : OrcV
  | [.slice (some ⟨0, 0, none⟩) n _, .int .i64 x], [some (.row cells 2 m w true)] => some (.bool (hasP (deI cells) n x), [some (.row cells 2 m w true)], isZ cells n ∧ 0 < n)
  | _, _ => none
theorem okPf : OkV Try.prog 33 orcPf := by
  intro args H ret H' vc h hv
  unfold orcPf at h
  split at h
  · cases h
    obtain ⟨e, h1, h2⟩ := hv
    rw [e, deI_ints]
    exact pf_ok h1 h2
  · cases h
theorem okPfR : OkV Try.prog 5 orcPf := by
  intro args H ret H' vc h hv
  unfold orcPf at h
  split at h
  · cases h
    obtain ⟨e, h1, h2⟩ := hv
    rw [e, deI_ints]
    exact pfR_ok h1 h2
  · cases h
theorem last_eq {n : Nat} (h : 0 < n) (hn : n ≤ 1000) : IntKind.wrap .i64 ((n : Int) - 1) = ((n - 1 : Nat) : Int) := by
  rw [wrap_eq (by omega) (by omega)]; omega
theorem okLf : OkV Try.prog 73 orcLf := by
  intro args H ret H' vc h hv
  unfold orcLf at h
  split at h
  · rename_i n c cells m w
    cases h
    obtain ⟨⟨e, h1, h2⟩, h3⟩ := hv
    rw [e, deI_ints]
    refine fnP_res hm c0_ok (hs := hsLf (deI cells)) ?_
    show fnP Try.prog c0 (hsLf (deI cells)) 73 [_] [rZ (deI cells) m w] _
    rw [lf_t]
    exact ⟨⟨by omega, by omega⟩, ⟨zint_at (by omega)⟩, by first | trivial | rfl, by first | trivial | rfl⟩
  · cases h
theorem okRt : OkV Try.prog 74 orcRt := by
  intro args H ret H' vc h hv
  unfold orcRt at h
  split at h
  · rename_i n c cells m w
    cases h
    obtain ⟨⟨e, h1, h2⟩, h3⟩ := hv
    rw [e, deI_ints]
    refine fnP_res hm c0_ok (hs := hsRt (deI cells)) ?_
    show fnP Try.prog c0 (hsRt (deI cells)) 74 [_] [rZ (deI cells) m w] _
    rw [rt_t]
    simp only [Nat.zero_add, Nat.add_zero, last_eq h3 h2, Int.toNat_natCast]
    exact ⟨⟨by omega, by omega⟩, ⟨zint_at (by omega)⟩, by first | trivial | rfl, by first | trivial | rfl⟩
  · cases h
theorem okHasR : OkV Try.prog 20 orcHas := by
  intro args H ret H' vc h hv
  unfold orcHas at h
  split at h
  · rename_i n c x cells m w
    cases h
    obtain ⟨⟨e, h1, h2⟩, h3⟩ := hv
    rw [e, deI_ints]
    refine fnP_res hm c0_ok (hs := hsHr (deI cells)) ?_
    show fnP Try.prog c0 (hsHr (deI cells)) 20 [_, _] [rZ (deI cells) m w] _
    rw [hr_t]
    simp only [Nat.zero_add, Nat.add_zero, last_eq h3 h2, Int.toNat_natCast]
    refine ⟨⟨by omega, by omega⟩, ⟨zint_at (by omega)⟩, br_of (fun hb => ⟨⟨by omega, by omega⟩, ⟨zint_at (by omega)⟩, ?_⟩) (fun hb => ?_)⟩
    · rw [hasP, hb, Bool.true_and]; exact ⟨by first | trivial | rfl, by first | trivial | rfl⟩
    · rw [hasP, hb, Bool.false_and]; exact ⟨by first | trivial | rfl, by first | trivial | rfl⟩
  · cases h
noncomputable def hsHas : Hs Try.prog where
  au := auCalls [(73, hCa Try.prog 73 orcLf okLf), (74, hCa Try.prog 74 orcRt okRt)]
theorem has_t (cells : List Value) (n : Nat) (c : Nat) (x : Int) (K : Value → Heap → Prop) :
    (fnP Try.prog c0 hsHas (49 : FuncId) [Value.slice (some { block := (0 : Nat), off := (0 : Nat) }) n c, Value.int IntKind.i64 x] [some (AObj.row cells (2 : Nat) true true true)] K) =
    (Is (isZ cells n ∧ (0 : Nat) < n) ∧ br (decide (List.getD (deI cells) (0 : Nat) (0 : Int) ≤ x)) (Is (isZ cells n ∧ (0 : Nat) < n) ∧ K (Value.bool (decide (x ≤ List.getD (deI cells) ((n - (1 : Nat)) * (2 : Nat)) (0 : Int)))) (some (AObj.row cells (2 : Nat) true true true) :: noH)) (K (Value.bool false) (some (AObj.row cells (2 : Nat) true true true) :: noH))) := by kernel_rfl
noncomputable def orcHasT : OrcV
  | [.slice (some ⟨0, 0, none⟩) n _, .int .i64 x], [some (.row cells 2 true true true)] => some (.bool (hasP (deI cells) n x), [some (.row cells 2 true true true)], isZ cells n ∧ 0 < n)
  | _, _ => none
theorem okHas : OkV Try.prog 49 orcHasT := by
  intro args H ret H' vc h hv
  unfold orcHasT at h
  split at h
  · cases h
    refine fnP_res hm c0_ok (hs := hsHas) ?_
    rw [has_t]
    refine ⟨⟨hv⟩, br_of (fun hb => ⟨⟨hv⟩, ?_⟩) (fun hb => ?_)⟩
    · rw [hasP, hb, Bool.true_and]; exact ⟨by first | trivial | rfl, by first | trivial | rfl⟩
    · rw [hasP, hb, Bool.false_and]; exact ⟨by first | trivial | rfl, by first | trivial | rfl⟩
  · cases h
noncomputable def hsBo : Hs Try.prog where
  au := auCalls [(33, hCa Try.prog 33 orcPf okPf)]
theorem both_t (e1 : List Value) (e2 : List Value) (n1 : Nat) (n2 : Nat) (b1 : Nat) (b2 : Nat) (K : Value → Heap → Prop) :
    (fnP Try.prog c13 hsBo (24 : FuncId) [Value.slice (some { block := (0 : Nat), off := (0 : Nat) }) n1 b1, Value.slice (some { block := (1 : Nat), off := (0 : Nat) }) n2 b2] [some (AObj.row e1 (2 : Nat) true true true), some (AObj.row e2 (2 : Nat) true true true)] K) =
    (Is (isZ e1 n1) ∧ Is (isZ e2 n2) ∧ K (Value.int IntKind.i64 (fi [pfE (deI e1) n1, pfE (deI e2) n2])) (some (AObj.row e1 (2 : Nat) true true true) :: some (AObj.row e2 (2 : Nat) true true true) :: noH)) := by kernel_rfl
noncomputable def orcBo : OrcV
  | [.slice (some ⟨0, 0, none⟩) n1 _, .slice (some ⟨1, 0, none⟩) n2 _], [some (.row e1 2 true true true), some (.row e2 2 true true true)] =>
    some (.int .i64 (fi [pfE (deI e1) n1, pfE (deI e2) n2]), [some (.row e1 2 true true true), some (.row e2 2 true true true)], isZ e1 n1 ∧ isZ e2 n2)
  | _, _ => none
theorem okBo : OkV Try.prog 24 orcBo := by
  intro args H ret H' vc h hv
  unfold orcBo at h
  split at h
  · cases h
    refine fnP_res hm c13_ok (hs := hsBo) ?_
    rw [both_t]
    exact ⟨⟨hv.1⟩, ⟨hv.2⟩, rfl, rfl⟩
  · cases h
/-- A profile that passes. -/
structure PfOk (zs : List Int) (n : Nat) : Prop where
  len : zs.length = n * 2
  lo : 2 ≤ n
  hi : n ≤ 24
  x : ∀ i, i < n → -10000 ≤ zs.getD (i * 2) 0 ∧ zs.getD (i * 2) 0 ≤ 10000
  y : ∀ i, i < n → -10000 ≤ zs.getD (i * 2 + 1) 0 ∧ zs.getD (i * 2 + 1) 0 ≤ 10000
  up : ∀ i, i + 1 < n → zs.getD (i * 2) 0 < zs.getD ((i + 1) * 2) 0
end
end Qq
end
section
/- Columns, checked. -/
open Go Go.Vm Go.Proofs Sp
namespace Sp
noncomputable section
noncomputable def ixB (b1 b2 : Bool) : Int := if b1 then 0 else if b2 then 1 else -1
noncomputable def colI (b : Bool) (cs : List Int) (i : Nat) : Int := fi [wh b 14, wh (decide (0 < i) && decide (cs.getD i 0 ≤ cs.getD (i - 1) 0)) 11]
/-- The error of columns of one profile, and of two. -/
noncomputable def co1 (zs : List Int) (n : Nat) (cs : List Int) (i : Nat) : Int := colI (!hasP zs n (cs.getD i 0)) cs i
noncomputable def co2 (zs : List Int) (n : Nat) (ys : List Int) (k : Nat) (cs : List Int) (i : Nat) : Int := colI (!hasP zs n (cs.getD i 0) || !hasP ys k (cs.getD i 0)) cs i
noncomputable def col1 (zs : List Int) (n : Nat) (cs : List Int) (l : Nat) : Int := sel (fi [wh ((l : Int) == 0) 12, wh (decide ((64 : Int) < l)) 5]) (errs (co1 zs n cs) 0 l)
noncomputable def col2 (zs : List Int) (n : Nat) (ys : List Int) (k : Nat) (cs : List Int) (l : Nat) : Int := sel (fi [wh ((l : Int) == 0) 12, wh (decide ((64 : Int) < l)) 5]) (errs (co2 zs n ys k cs) 0 l)
/-- The cells of n integers. -/
def isC (cells : List Value) (n : Nat) : Prop := cells = ints (deI cells) ∧ (deI cells).length = n ∧ n ≤ 1000
end
end Sp
namespace Qq
noncomputable section
noncomputable def hsLk : Hs Try.prog where
  au := auCalls [(49, hCa Try.prog 49 orcHasT okHas)]
noncomputable def bxC (x : Int) : Option AObj := some (.row [.int .i64 x] 0 false true true)
theorem lk_t (e : List Value) (n : Nat) (c : Nat) (x : Int) (K : Value → Heap → Prop) :
    (fnP Try.prog c0 hsLk (48 : FuncId) [Value.slice (some { block := (0 : Nat), off := (0 : Nat) }) n c, Value.pointer (some { block := (1 : Nat), off := (0 : Nat) })] [some (AObj.row e (2 : Nat) true true true), bxC x] K) =
    (Is (isZ e n ∧ (0 : Nat) < n) ∧ K (Value.bool !hasP (deI e) n x) (some (AObj.row e (2 : Nat) true true true) :: some (AObj.row [Value.int IntKind.i64 x] (0 : Nat) false true true) :: noH)) := by kernel_rfl
noncomputable def orcLk : OrcV
  | [.slice (some ⟨0, 0, none⟩) n _, .pointer (some ⟨1, 0, none⟩)], [some (.row e 2 true true true), some (.row [.int .i64 x] 0 false true true)] =>
    some (.bool (!hasP (deI e) n x), [some (.row e 2 true true true), some (.row [.int .i64 x] 0 false true true)], isZ e n ∧ 0 < n)
  | _, _ => none
theorem okLk : OkV Try.prog 48 orcLk := by
  intro args H ret H' vc h hv
  unfold orcLk at h
  split at h
  · cases h
    refine fnP_res hm c0_ok (hs := hsLk) ?_
    show fnP Try.prog c0 hsLk 48 _ [_, bxC _] _
    rw [lk_t]
    exact ⟨⟨hv⟩, by first | trivial | rfl, by first | trivial | rfl⟩
  · cases h
noncomputable def f48 (i : Nat) : Value := .func (.func 48) #[] #[.pointer (some ⟨i, 0, none⟩)]
noncomputable def hsIx : Hs Try.prog where
  op y := if y = 405 then some (hCa Try.prog 48 orcLk okLk) else none
  cl _ := keep 19 [0, 1, 7, 8]
  au := au0 Try.prog
noncomputable def vr1 (n c : Nat) : Option AObj := some (.row [.slice (some ⟨1, 0, none⟩) n c] 1 false true false)
noncomputable def vr2 (n c k d : Nat) : Option AObj := some (.row [.slice (some ⟨1, 0, none⟩) n c, .slice (some ⟨2, 0, none⟩) k d] 1 false true false)
theorem ix1_t (e : List Value) (n : Nat) (c : Nat) (a : Nat) (x : Int) (K : Value → Heap → Prop) :
    (fnP Try.prog c0 hsIx (75 : FuncId) [Value.slice (some { block := (0 : Nat), off := (0 : Nat) }) (1 : Nat) a, f48 (2 : Nat)] [vr1 n c, some (AObj.row e (2 : Nat) true true true), bxC x] K) =
    (Is (isZ e n ∧ (0 : Nat) < n) ∧ br (!hasP (deI e) n x) (K (Value.int IntKind.i64 (0 : Int)) (some (AObj.row [Value.slice (some { block := (1 : Nat), off := (0 : Nat) }) n c] (1 : Nat) false true false) :: some (AObj.row e (2 : Nat) true true true) :: some (AObj.row [Value.int IntKind.i64 x] (0 : Nat) false true true) :: noH)) (K (Value.int IntKind.i64 (-1 : Int)) (some (AObj.row [Value.slice (some { block := (1 : Nat), off := (0 : Nat) }) n c] (1 : Nat) false true false) :: some (AObj.row e (2 : Nat) true true true) :: some (AObj.row [Value.int IntKind.i64 x] (0 : Nat) false true true) :: noH))) := by kernel_rfl
theorem ix2_t (e : List Value) (g : List Value) (n : Nat) (c : Nat) (k : Nat) (d : Nat) (a : Nat) (x : Int) (K : Value → Heap → Prop) :
    (fnP Try.prog c0 hsIx (75 : FuncId) [Value.slice (some { block := (0 : Nat), off := (0 : Nat) }) (2 : Nat) a, f48 (3 : Nat)] [vr2 n c k d, some (AObj.row e (2 : Nat) true true true), some (AObj.row g (2 : Nat) true true true), bxC x] K) =
    (Is (isZ e n ∧ (0 : Nat) < n) ∧ br (!hasP (deI e) n x) (K (Value.int IntKind.i64 (0 : Int)) (some (AObj.row [Value.slice (some { block := (1 : Nat), off := (0 : Nat) }) n c, Value.slice (some { block := (2 : Nat), off := (0 : Nat) }) k d] (1 : Nat) false true false) :: some (AObj.row e (2 : Nat) true true true) :: some (AObj.row g (2 : Nat) true true true) :: some (AObj.row [Value.int IntKind.i64 x] (0 : Nat) false true true) :: noH)) (Is (isZ g k ∧ (0 : Nat) < k) ∧ br (!hasP (deI g) k x) (K (Value.int IntKind.i64 (1 : Int)) (some (AObj.row [Value.slice (some { block := (1 : Nat), off := (0 : Nat) }) n c, Value.slice (some { block := (2 : Nat), off := (0 : Nat) }) k d] (1 : Nat) false true false) :: some (AObj.row e (2 : Nat) true true true) :: some (AObj.row g (2 : Nat) true true true) :: some (AObj.row [Value.int IntKind.i64 x] (0 : Nat) false true true) :: noH)) (K (Value.int IntKind.i64 (-1 : Int)) (some (AObj.row [Value.slice (some { block := (1 : Nat), off := (0 : Nat) }) n c, Value.slice (some { block := (2 : Nat), off := (0 : Nat) }) k d] (1 : Nat) false true false) :: some (AObj.row e (2 : Nat) true true true) :: some (AObj.row g (2 : Nat) true true true) :: some (AObj.row [Value.int IntKind.i64 x] (0 : Nat) false true true) :: noH)))) := by kernel_rfl
noncomputable def orcIx : OrcV
  | [.slice (some ⟨0, 0, none⟩) 1 _, f], [some (.row [.slice (some ⟨1, 0, none⟩) n c] 1 false true false), some (.row e 2 true true true), some (.row [.int .i64 x] 0 false true true)] =>
    some (.int .i64 (ixB (!hasP (deI e) n x) false), [some (.row [.slice (some ⟨1, 0, none⟩) n c] 1 false true false), some (.row e 2 true true true), some (.row [.int .i64 x] 0 false true true)], f = f48 2 ∧ isZ e n ∧ 0 < n)
  | [.slice (some ⟨0, 0, none⟩) 2 _, f], [some (.row [.slice (some ⟨1, 0, none⟩) n c, .slice (some ⟨2, 0, none⟩) k d] 1 false true false), some (.row e 2 true true true), some (.row g 2 true true true), some (.row [.int .i64 x] 0 false true true)] =>
    some (.int .i64 (ixB (!hasP (deI e) n x) (!hasP (deI g) k x)), [some (.row [.slice (some ⟨1, 0, none⟩) n c, .slice (some ⟨2, 0, none⟩) k d] 1 false true false), some (.row e 2 true true true), some (.row g 2 true true true), some (.row [.int .i64 x] 0 false true true)], f = f48 3 ∧ (isZ e n ∧ 0 < n) ∧ isZ g k ∧ 0 < k)
  | _, _ => none
noncomputable def orcCf : OrcV
  | [.slice (some ⟨0, 0, none⟩) 1 _, f], [some (.row [.slice (some ⟨1, 0, none⟩) n c] 1 false true false), some (.row e 2 true true true), some (.row [.int .i64 x] 0 false true true)] =>
    some (.bool (!hasP (deI e) n x), [some (.row [.slice (some ⟨1, 0, none⟩) n c] 1 false true false), some (.row e 2 true true true), some (.row [.int .i64 x] 0 false true true)], f = f48 2 ∧ isZ e n ∧ 0 < n)
  | [.slice (some ⟨0, 0, none⟩) 2 _, f], [some (.row [.slice (some ⟨1, 0, none⟩) n c, .slice (some ⟨2, 0, none⟩) k d] 1 false true false), some (.row e 2 true true true), some (.row g 2 true true true), some (.row [.int .i64 x] 0 false true true)] =>
    some (.bool (!hasP (deI e) n x || !hasP (deI g) k x), [some (.row [.slice (some ⟨1, 0, none⟩) n c, .slice (some ⟨2, 0, none⟩) k d] 1 false true false), some (.row e 2 true true true), some (.row g 2 true true true), some (.row [.int .i64 x] 0 false true true)], f = f48 3 ∧ (isZ e n ∧ 0 < n) ∧ isZ g k ∧ 0 < k)
  | _, _ => none
theorem okIx : OkV Try.prog 75 orcIx := by
  intro args H ret H' vc h hv
  unfold orcIx at h
  split at h
  · cases h
    obtain ⟨rfl, h1⟩ := hv
    refine fnP_res hm c0_ok (hs := hsIx) ?_
    show fnP Try.prog c0 hsIx 75 _ [vr1 _ _, _, bxC _] _
    rw [ix1_t, ixB]
    refine ⟨⟨h1⟩, br_of (fun h => ?_) (fun h => ?_)⟩
    · rw [h]; exact ⟨by first | trivial | rfl, by first | trivial | rfl⟩
    · rw [h]; exact ⟨by first | trivial | rfl, by first | trivial | rfl⟩
  · cases h
    obtain ⟨rfl, h1, h2⟩ := hv
    refine fnP_res hm c0_ok (hs := hsIx) ?_
    show fnP Try.prog c0 hsIx 75 _ [vr2 _ _ _ _, _, _, bxC _] _
    rw [ix2_t, ixB]
    refine ⟨⟨h1⟩, br_of (fun h => ?_) (fun h => ⟨⟨h2⟩, br_of (fun h2 => ?_) (fun h2 => ?_)⟩)⟩
    · rw [h]; exact ⟨by first | trivial | rfl, by first | trivial | rfl⟩
    · rw [h, h2]; exact ⟨by first | trivial | rfl, by first | trivial | rfl⟩
    · rw [h, h2]; exact ⟨by first | trivial | rfl, by first | trivial | rfl⟩
  · cases h
noncomputable def hsCf : Hs Try.prog where
  au := auCalls [(75, hCa Try.prog 75 orcIx okIx)]
theorem cf1_t (e : List Value) (n : Nat) (c : Nat) (a : Nat) (x : Int) (K : Value → Heap → Prop) :
    (fnP Try.prog c0 hsCf (50 : FuncId) [Value.slice (some { block := (0 : Nat), off := (0 : Nat) }) (1 : Nat) a, f48 (2 : Nat)] [vr1 n c, some (AObj.row e (2 : Nat) true true true), bxC x] K) =
    (Is (Value.func (Fn.func (48 : Nat)) #[] #[Value.pointer (some { block := (2 : Nat), off := (0 : Nat) })] = Value.func (Fn.func (48 : Nat)) #[] #[Value.pointer (some { block := (2 : Nat), off := (0 : Nat) })] ∧ isZ e n ∧ (0 : Nat) < n) ∧ K (Value.bool (decide ((0 : Int) ≤ ixB (!hasP (deI e) n x) false))) (some (AObj.row [Value.slice (some { block := (1 : Nat), off := (0 : Nat) }) n c] (1 : Nat) false true false) :: some (AObj.row e (2 : Nat) true true true) :: some (AObj.row [Value.int IntKind.i64 x] (0 : Nat) false true true) :: noH)) := by kernel_rfl
theorem cf2_t (e : List Value) (g : List Value) (n : Nat) (c : Nat) (k : Nat) (d : Nat) (a : Nat) (x : Int) (K : Value → Heap → Prop) :
    (fnP Try.prog c0 hsCf (50 : FuncId) [Value.slice (some { block := (0 : Nat), off := (0 : Nat) }) (2 : Nat) a, f48 (3 : Nat)] [vr2 n c k d, some (AObj.row e (2 : Nat) true true true), some (AObj.row g (2 : Nat) true true true), bxC x] K) =
    (Is (Value.func (Fn.func (48 : Nat)) #[] #[Value.pointer (some { block := (3 : Nat), off := (0 : Nat) })] = Value.func (Fn.func (48 : Nat)) #[] #[Value.pointer (some { block := (3 : Nat), off := (0 : Nat) })] ∧ (isZ e n ∧ (0 : Nat) < n) ∧ isZ g k ∧ (0 : Nat) < k) ∧ K (Value.bool (decide ((0 : Int) ≤ ixB (!hasP (deI e) n x) !hasP (deI g) k x))) (some (AObj.row [Value.slice (some { block := (1 : Nat), off := (0 : Nat) }) n c, Value.slice (some { block := (2 : Nat), off := (0 : Nat) }) k d] (1 : Nat) false true false) :: some (AObj.row e (2 : Nat) true true true) :: some (AObj.row g (2 : Nat) true true true) :: some (AObj.row [Value.int IntKind.i64 x] (0 : Nat) false true true) :: noH)) := by kernel_rfl
theorem ixB_ge (b1 b2 : Bool) : decide (0 ≤ ixB b1 b2) = (b1 || b2) := by cases b1 <;> cases b2 <;> rfl
theorem okCf : OkV Try.prog 50 orcCf := by
  intro args H ret H' vc h hv
  unfold orcCf at h
  split at h
  · cases h
    obtain ⟨rfl, h1⟩ := hv
    refine fnP_res hm c0_ok (hs := hsCf) ?_
    show fnP Try.prog c0 hsCf 50 _ [vr1 _ _, _, bxC _] _
    rw [cf1_t, ixB_ge, Bool.or_false]
    exact ⟨⟨rfl, h1⟩, by first | trivial | rfl, by first | trivial | rfl⟩
  · cases h
    obtain ⟨rfl, h1, h2⟩ := hv
    refine fnP_res hm c0_ok (hs := hsCf) ?_
    show fnP Try.prog c0 hsCf 50 _ [vr2 _ _ _ _, _, _, bxC _] _
    rw [cf2_t, ixB_ge]
    exact ⟨⟨rfl, h1, h2⟩, by first | trivial | rfl, by first | trivial | rfl⟩
  · cases h
noncomputable def rC (cs : List Int) : Option AObj := some (.row (ints cs) 1 true true true)
noncomputable def lpC1 (cs zs : List Int) (l a n c b : Nat) : Lp where
  σ := Nat
  E s := slots 54 [(0, .slice (some ⟨0, 0, none⟩) l a), (1, .slice (some ⟨1, 0, none⟩) 1 b), (23, .slice (some ⟨0, 0, none⟩) l a), (24, .int .i64 (Int.ofNat l)), (25, .int .i64 (Int.ofNat s))]
  Hp _ := [rC cs, some (.row [.slice (some ⟨2, 0, none⟩) n c] 1 false true false), rZ zs true true]
  I s := s ≤ l ∧ errs (co1 zs n cs) s (l - s) = errs (co1 zs n cs) 0 l
  m s := l - s
noncomputable def lpC2 (cs zs ys : List Int) (l a n c k d b : Nat) : Lp where
  σ := Nat
  E s := slots 54 [(0, .slice (some ⟨0, 0, none⟩) l a), (1, .slice (some ⟨1, 0, none⟩) 2 b), (23, .slice (some ⟨0, 0, none⟩) l a), (24, .int .i64 (Int.ofNat l)), (25, .int .i64 (Int.ofNat s))]
  Hp _ := [rC cs, some (.row [.slice (some ⟨2, 0, none⟩) n c, .slice (some ⟨3, 0, none⟩) k d] 1 false true false), rZ zs true true, rZ ys true true]
  I s := s ≤ l ∧ errs (co2 zs n ys k cs) s (l - s) = errs (co2 zs n ys k cs) 0 l
  m s := l - s
noncomputable def hsC (lp : Lp) (cs : List Int) : Hs Try.prog where
  op y := if [601, 812].contains y then some (hIa Try.prog) else if [602, 813].contains y then some (hLd Try.prog (zI cs)) else if y = 802 then some (hCa Try.prog 50 orcCf okCf) else none
  lp _ := some lp
  cl _ := keep 54 [0, 1, 23, 24, 25]
  au := au0 Try.prog
theorem c1_t (cs : List Int) (zs : List Int) (l : Nat) (a : Nat) (n : Nat) (c : Nat) (b : Nat) (K : Value → Heap → Prop) :
    (fnP Try.prog c2 (hsC (lpC1 cs zs l a n c b) cs) (25 : FuncId) [Value.slice (some { block := (0 : Nat), off := (0 : Nat) }) l a, Value.slice (some { block := (1 : Nat), off := (0 : Nat) }) (1 : Nat) b] [rC cs, some (AObj.row [Value.slice (some { block := (2 : Nat), off := (0 : Nat) }) n c] (1 : Nat) false true false), rZ zs true true] K) =
    (br (fi [wh ((↑l : Int) == (0 : Int)) (12 : Int), wh (decide ((64 : Int) < (↑l : Int))) (5 : Int)] != (0 : Int)) (K (Value.int IntKind.i64 (fi [wh ((↑l : Int) == (0 : Int)) (12 : Int), wh (decide ((64 : Int) < (↑l : Int))) (5 : Int)])) (some (AObj.row (ints cs) (1 : Nat) true true true) :: some (AObj.row [Value.slice (some { block := (2 : Nat), off := (0 : Nat) }) n c] (1 : Nat) false true false) :: some (AObj.row (ints zs) (2 : Nat) true true true) :: noH)) ((∃ (s : Nat), Is (s ≤ l ∧ errs (co1 zs n cs) s (l - s) = errs (co1 zs n cs) (0 : Nat) l) ∧ [Value.slice (some { block := (0 : Nat), off := (0 : Nat) }) l a, Value.slice (some { block := (1 : Nat), off := (0 : Nat) }) (1 : Nat) b, poi, poi, poi, poi, poi, poi, poi, poi, poi, poi, poi, poi, poi, poi, poi, poi, poi, poi, poi, poi, poi, Value.slice (some { block := (0 : Nat), off := (0 : Nat) }) l a, Value.int IntKind.i64 (↑l : Int), Value.int IntKind.i64 (0 : Int), poi, poi, poi, poi, poi, poi, poi, poi, poi, poi, poi, poi, poi, poi, poi, poi, poi, poi, poi, poi, poi, poi, poi, poi, poi, poi, poi, poi] = [Value.slice (some { block := (0 : Nat), off := (0 : Nat) }) l a, Value.slice (some { block := (1 : Nat), off := (0 : Nat) }) (1 : Nat) b, poi, poi, poi, poi, poi, poi, poi, poi, poi, poi, poi, poi, poi, poi, poi, poi, poi, poi, poi, poi, poi, Value.slice (some { block := (0 : Nat), off := (0 : Nat) }) l a, Value.int IntKind.i64 (↑l : Int), Value.int IntKind.i64 (↑s : Int), poi, poi, poi, poi, poi, poi, poi, poi, poi, poi, poi, poi, poi, poi, poi, poi, poi, poi, poi, poi, poi, poi, poi, poi, poi, poi, poi, poi] ∧ some (AObj.row (ints cs) (1 : Nat) true true true) :: some (AObj.row [Value.slice (some { block := (2 : Nat), off := (0 : Nat) }) n c] (1 : Nat) false true false) :: some (AObj.row (ints zs) (2 : Nat) true true true) :: noH = some (AObj.row (ints cs) (1 : Nat) true true true) :: some (AObj.row [Value.slice (some { block := (2 : Nat), off := (0 : Nat) }) n c] (1 : Nat) false true false) :: some (AObj.row (ints zs) (2 : Nat) true true true) :: noH) ∧ ∀ (s : Nat), Is (s ≤ l ∧ errs (co1 zs n cs) s (l - s) = errs (co1 zs n cs) (0 : Nat) l) → br (decide ((↑s : Int) < (↑l : Int))) (Is ((0 : Int) ≤ (↑s : Int) ∧ (↑s : Int) < (↑l : Int)) ∧ Is ((ints cs)[(0 : Nat) + Int.toNat (↑s : Int) * (1 : Nat)]? = some (Value.int IntKind.i64 (List.getD cs ((0 : Nat) + Int.toNat (↑s : Int) * (1 : Nat)) (0 : Int)))) ∧ Is (Value.func (Fn.func (48 : Nat)) #[] #[Value.pointer (some { block := (2 : Nat), off := (0 : Nat) })] = Value.func (Fn.func (48 : Nat)) #[] #[Value.pointer (some { block := (2 : Nat), off := (0 : Nat) })] ∧ isZ (ints zs) n ∧ (0 : Nat) < n) ∧ br (decide ((0 : Int) < (↑s : Int))) (Is (((0 : Int) ≤ if IntKind.wrap IntKind.i64 ((↑s : Int) - (1 : Int)) > (0 : Int) then IntKind.wrap IntKind.i64 ((↑s : Int) - (1 : Int)) else (0 : Int)) ∧ (if IntKind.wrap IntKind.i64 ((↑s : Int) - (1 : Int)) > (0 : Int) then IntKind.wrap IntKind.i64 ((↑s : Int) - (1 : Int)) else (0 : Int)) < (↑l : Int)) ∧ Is ((ints cs)[(0 : Nat) + Int.toNat (if IntKind.wrap IntKind.i64 ((↑s : Int) - (1 : Int)) > (0 : Int) then IntKind.wrap IntKind.i64 ((↑s : Int) - (1 : Int)) else (0 : Int)) * (1 : Nat)]? = some (Value.int IntKind.i64 (List.getD cs ((0 : Nat) + Int.toNat (if IntKind.wrap IntKind.i64 ((↑s : Int) - (1 : Int)) > (0 : Int) then IntKind.wrap IntKind.i64 ((↑s : Int) - (1 : Int)) else (0 : Int)) * (1 : Nat)) (0 : Int)))) ∧ br (fi [wh (!hasP (deI (ints zs)) n (List.getD cs ((0 : Nat) + Int.toNat (↑s : Int) * (1 : Nat)) (0 : Int))) (14 : Int), wh (decide (List.getD cs ((0 : Nat) + Int.toNat (↑s : Int) * (1 : Nat)) (0 : Int) ≤ List.getD cs ((0 : Nat) + Int.toNat (if IntKind.wrap IntKind.i64 ((↑s : Int) - (1 : Int)) > (0 : Int) then IntKind.wrap IntKind.i64 ((↑s : Int) - (1 : Int)) else (0 : Int)) * (1 : Nat)) (0 : Int))) (11 : Int)] != (0 : Int)) (K (Value.int IntKind.i64 (fi [wh (!hasP (deI (ints zs)) n (List.getD cs ((0 : Nat) + Int.toNat (↑s : Int) * (1 : Nat)) (0 : Int))) (14 : Int), wh (decide (List.getD cs ((0 : Nat) + Int.toNat (↑s : Int) * (1 : Nat)) (0 : Int) ≤ List.getD cs ((0 : Nat) + Int.toNat (if IntKind.wrap IntKind.i64 ((↑s : Int) - (1 : Int)) > (0 : Int) then IntKind.wrap IntKind.i64 ((↑s : Int) - (1 : Int)) else (0 : Int)) * (1 : Nat)) (0 : Int))) (11 : Int)])) (some (AObj.row (ints cs) (1 : Nat) true true true) :: some (AObj.row [Value.slice (some { block := (2 : Nat), off := (0 : Nat) }) n c] (1 : Nat) false true false) :: some (AObj.row (ints zs) (2 : Nat) true true true) :: noH)) (∃ (s' : Nat), Is (s' ≤ l ∧ errs (co1 zs n cs) s' (l - s') = errs (co1 zs n cs) (0 : Nat) l) ∧ Is (l - s' < l - s) ∧ [Value.slice (some { block := (0 : Nat), off := (0 : Nat) }) l a, Value.slice (some { block := (1 : Nat), off := (0 : Nat) }) (1 : Nat) b, poi, poi, poi, poi, poi, poi, poi, poi, poi, poi, poi, poi, poi, poi, poi, poi, poi, poi, poi, poi, poi, Value.slice (some { block := (0 : Nat), off := (0 : Nat) }) l a, Value.int IntKind.i64 (↑l : Int), Value.int IntKind.i64 (IntKind.wrap IntKind.i64 ((↑s : Int) + (1 : Int))), poi, poi, poi, poi, poi, poi, poi, poi, poi, poi, poi, poi, poi, poi, poi, poi, poi, poi, poi, poi, poi, poi, poi, poi, poi, poi, poi, poi] = [Value.slice (some { block := (0 : Nat), off := (0 : Nat) }) l a, Value.slice (some { block := (1 : Nat), off := (0 : Nat) }) (1 : Nat) b, poi, poi, poi, poi, poi, poi, poi, poi, poi, poi, poi, poi, poi, poi, poi, poi, poi, poi, poi, poi, poi, Value.slice (some { block := (0 : Nat), off := (0 : Nat) }) l a, Value.int IntKind.i64 (↑l : Int), Value.int IntKind.i64 (↑s' : Int), poi, poi, poi, poi, poi, poi, poi, poi, poi, poi, poi, poi, poi, poi, poi, poi, poi, poi, poi, poi, poi, poi, poi, poi, poi, poi, poi, poi] ∧ some (AObj.row (ints cs) (1 : Nat) true true true) :: some (AObj.row [Value.slice (some { block := (2 : Nat), off := (0 : Nat) }) n c] (1 : Nat) false true false) :: some (AObj.row (ints zs) (2 : Nat) true true true) :: noH = some (AObj.row (ints cs) (1 : Nat) true true true) :: some (AObj.row [Value.slice (some { block := (2 : Nat), off := (0 : Nat) }) n c] (1 : Nat) false true false) :: some (AObj.row (ints zs) (2 : Nat) true true true) :: noH)) (br (fi [wh (!hasP (deI (ints zs)) n (List.getD cs ((0 : Nat) + Int.toNat (↑s : Int) * (1 : Nat)) (0 : Int))) (14 : Int), (0 : Int)] != (0 : Int)) (K (Value.int IntKind.i64 (fi [wh (!hasP (deI (ints zs)) n (List.getD cs ((0 : Nat) + Int.toNat (↑s : Int) * (1 : Nat)) (0 : Int))) (14 : Int), (0 : Int)])) (some (AObj.row (ints cs) (1 : Nat) true true true) :: some (AObj.row [Value.slice (some { block := (2 : Nat), off := (0 : Nat) }) n c] (1 : Nat) false true false) :: some (AObj.row (ints zs) (2 : Nat) true true true) :: noH)) (∃ (s' : Nat), Is (s' ≤ l ∧ errs (co1 zs n cs) s' (l - s') = errs (co1 zs n cs) (0 : Nat) l) ∧ Is (l - s' < l - s) ∧ [Value.slice (some { block := (0 : Nat), off := (0 : Nat) }) l a, Value.slice (some { block := (1 : Nat), off := (0 : Nat) }) (1 : Nat) b, poi, poi, poi, poi, poi, poi, poi, poi, poi, poi, poi, poi, poi, poi, poi, poi, poi, poi, poi, poi, poi, Value.slice (some { block := (0 : Nat), off := (0 : Nat) }) l a, Value.int IntKind.i64 (↑l : Int), Value.int IntKind.i64 (IntKind.wrap IntKind.i64 ((↑s : Int) + (1 : Int))), poi, poi, poi, poi, poi, poi, poi, poi, poi, poi, poi, poi, poi, poi, poi, poi, poi, poi, poi, poi, poi, poi, poi, poi, poi, poi, poi, poi] = [Value.slice (some { block := (0 : Nat), off := (0 : Nat) }) l a, Value.slice (some { block := (1 : Nat), off := (0 : Nat) }) (1 : Nat) b, poi, poi, poi, poi, poi, poi, poi, poi, poi, poi, poi, poi, poi, poi, poi, poi, poi, poi, poi, poi, poi, Value.slice (some { block := (0 : Nat), off := (0 : Nat) }) l a, Value.int IntKind.i64 (↑l : Int), Value.int IntKind.i64 (↑s' : Int), poi, poi, poi, poi, poi, poi, poi, poi, poi, poi, poi, poi, poi, poi, poi, poi, poi, poi, poi, poi, poi, poi, poi, poi, poi, poi, poi, poi] ∧ some (AObj.row (ints cs) (1 : Nat) true true true) :: some (AObj.row [Value.slice (some { block := (2 : Nat), off := (0 : Nat) }) n c] (1 : Nat) false true false) :: some (AObj.row (ints zs) (2 : Nat) true true true) :: noH = some (AObj.row (ints cs) (1 : Nat) true true true) :: some (AObj.row [Value.slice (some { block := (2 : Nat), off := (0 : Nat) }) n c] (1 : Nat) false true false) :: some (AObj.row (ints zs) (2 : Nat) true true true) :: noH))) (K (Value.int IntKind.i64 (0 : Int)) (some (AObj.row (ints cs) (1 : Nat) true true true) :: some (AObj.row [Value.slice (some { block := (2 : Nat), off := (0 : Nat) }) n c] (1 : Nat) false true false) :: some (AObj.row (ints zs) (2 : Nat) true true true) :: noH)))) := by kernel_rfl
theorem c2_t (cs : List Int) (zs : List Int) (ys : List Int) (l : Nat) (a : Nat) (n : Nat) (c : Nat) (k : Nat) (d : Nat) (b : Nat) (K : Value → Heap → Prop) :
    (fnP Try.prog c2 (hsC (lpC2 cs zs ys l a n c k d b) cs) (25 : FuncId) [Value.slice (some { block := (0 : Nat), off := (0 : Nat) }) l a, Value.slice (some { block := (1 : Nat), off := (0 : Nat) }) (2 : Nat) b] [rC cs, some (AObj.row [Value.slice (some { block := (2 : Nat), off := (0 : Nat) }) n c, Value.slice (some { block := (3 : Nat), off := (0 : Nat) }) k d] (1 : Nat) false true false), rZ zs true true, rZ ys true true] K) =
    (br (fi [wh ((↑l : Int) == (0 : Int)) (12 : Int), wh (decide ((64 : Int) < (↑l : Int))) (5 : Int)] != (0 : Int)) (K (Value.int IntKind.i64 (fi [wh ((↑l : Int) == (0 : Int)) (12 : Int), wh (decide ((64 : Int) < (↑l : Int))) (5 : Int)])) (some (AObj.row (ints cs) (1 : Nat) true true true) :: some (AObj.row [Value.slice (some { block := (2 : Nat), off := (0 : Nat) }) n c, Value.slice (some { block := (3 : Nat), off := (0 : Nat) }) k d] (1 : Nat) false true false) :: some (AObj.row (ints zs) (2 : Nat) true true true) :: some (AObj.row (ints ys) (2 : Nat) true true true) :: noH)) ((∃ (s : Nat), Is (s ≤ l ∧ errs (co2 zs n ys k cs) s (l - s) = errs (co2 zs n ys k cs) (0 : Nat) l) ∧ [Value.slice (some { block := (0 : Nat), off := (0 : Nat) }) l a, Value.slice (some { block := (1 : Nat), off := (0 : Nat) }) (2 : Nat) b, poi, poi, poi, poi, poi, poi, poi, poi, poi, poi, poi, poi, poi, poi, poi, poi, poi, poi, poi, poi, poi, Value.slice (some { block := (0 : Nat), off := (0 : Nat) }) l a, Value.int IntKind.i64 (↑l : Int), Value.int IntKind.i64 (0 : Int), poi, poi, poi, poi, poi, poi, poi, poi, poi, poi, poi, poi, poi, poi, poi, poi, poi, poi, poi, poi, poi, poi, poi, poi, poi, poi, poi, poi] = [Value.slice (some { block := (0 : Nat), off := (0 : Nat) }) l a, Value.slice (some { block := (1 : Nat), off := (0 : Nat) }) (2 : Nat) b, poi, poi, poi, poi, poi, poi, poi, poi, poi, poi, poi, poi, poi, poi, poi, poi, poi, poi, poi, poi, poi, Value.slice (some { block := (0 : Nat), off := (0 : Nat) }) l a, Value.int IntKind.i64 (↑l : Int), Value.int IntKind.i64 (↑s : Int), poi, poi, poi, poi, poi, poi, poi, poi, poi, poi, poi, poi, poi, poi, poi, poi, poi, poi, poi, poi, poi, poi, poi, poi, poi, poi, poi, poi] ∧ some (AObj.row (ints cs) (1 : Nat) true true true) :: some (AObj.row [Value.slice (some { block := (2 : Nat), off := (0 : Nat) }) n c, Value.slice (some { block := (3 : Nat), off := (0 : Nat) }) k d] (1 : Nat) false true false) :: some (AObj.row (ints zs) (2 : Nat) true true true) :: some (AObj.row (ints ys) (2 : Nat) true true true) :: noH = some (AObj.row (ints cs) (1 : Nat) true true true) :: some (AObj.row [Value.slice (some { block := (2 : Nat), off := (0 : Nat) }) n c, Value.slice (some { block := (3 : Nat), off := (0 : Nat) }) k d] (1 : Nat) false true false) :: some (AObj.row (ints zs) (2 : Nat) true true true) :: some (AObj.row (ints ys) (2 : Nat) true true true) :: noH) ∧ ∀ (s : Nat), Is (s ≤ l ∧ errs (co2 zs n ys k cs) s (l - s) = errs (co2 zs n ys k cs) (0 : Nat) l) → br (decide ((↑s : Int) < (↑l : Int))) (Is ((0 : Int) ≤ (↑s : Int) ∧ (↑s : Int) < (↑l : Int)) ∧ Is ((ints cs)[(0 : Nat) + Int.toNat (↑s : Int) * (1 : Nat)]? = some (Value.int IntKind.i64 (List.getD cs ((0 : Nat) + Int.toNat (↑s : Int) * (1 : Nat)) (0 : Int)))) ∧ Is (Value.func (Fn.func (48 : Nat)) #[] #[Value.pointer (some { block := (3 : Nat), off := (0 : Nat) })] = Value.func (Fn.func (48 : Nat)) #[] #[Value.pointer (some { block := (3 : Nat), off := (0 : Nat) })] ∧ (isZ (ints zs) n ∧ (0 : Nat) < n) ∧ isZ (ints ys) k ∧ (0 : Nat) < k) ∧ br (decide ((0 : Int) < (↑s : Int))) (Is (((0 : Int) ≤ if IntKind.wrap IntKind.i64 ((↑s : Int) - (1 : Int)) > (0 : Int) then IntKind.wrap IntKind.i64 ((↑s : Int) - (1 : Int)) else (0 : Int)) ∧ (if IntKind.wrap IntKind.i64 ((↑s : Int) - (1 : Int)) > (0 : Int) then IntKind.wrap IntKind.i64 ((↑s : Int) - (1 : Int)) else (0 : Int)) < (↑l : Int)) ∧ Is ((ints cs)[(0 : Nat) + Int.toNat (if IntKind.wrap IntKind.i64 ((↑s : Int) - (1 : Int)) > (0 : Int) then IntKind.wrap IntKind.i64 ((↑s : Int) - (1 : Int)) else (0 : Int)) * (1 : Nat)]? = some (Value.int IntKind.i64 (List.getD cs ((0 : Nat) + Int.toNat (if IntKind.wrap IntKind.i64 ((↑s : Int) - (1 : Int)) > (0 : Int) then IntKind.wrap IntKind.i64 ((↑s : Int) - (1 : Int)) else (0 : Int)) * (1 : Nat)) (0 : Int)))) ∧ br (fi [wh (!hasP (deI (ints zs)) n (List.getD cs ((0 : Nat) + Int.toNat (↑s : Int) * (1 : Nat)) (0 : Int)) || !hasP (deI (ints ys)) k (List.getD cs ((0 : Nat) + Int.toNat (↑s : Int) * (1 : Nat)) (0 : Int))) (14 : Int), wh (decide (List.getD cs ((0 : Nat) + Int.toNat (↑s : Int) * (1 : Nat)) (0 : Int) ≤ List.getD cs ((0 : Nat) + Int.toNat (if IntKind.wrap IntKind.i64 ((↑s : Int) - (1 : Int)) > (0 : Int) then IntKind.wrap IntKind.i64 ((↑s : Int) - (1 : Int)) else (0 : Int)) * (1 : Nat)) (0 : Int))) (11 : Int)] != (0 : Int)) (K (Value.int IntKind.i64 (fi [wh (!hasP (deI (ints zs)) n (List.getD cs ((0 : Nat) + Int.toNat (↑s : Int) * (1 : Nat)) (0 : Int)) || !hasP (deI (ints ys)) k (List.getD cs ((0 : Nat) + Int.toNat (↑s : Int) * (1 : Nat)) (0 : Int))) (14 : Int), wh (decide (List.getD cs ((0 : Nat) + Int.toNat (↑s : Int) * (1 : Nat)) (0 : Int) ≤ List.getD cs ((0 : Nat) + Int.toNat (if IntKind.wrap IntKind.i64 ((↑s : Int) - (1 : Int)) > (0 : Int) then IntKind.wrap IntKind.i64 ((↑s : Int) - (1 : Int)) else (0 : Int)) * (1 : Nat)) (0 : Int))) (11 : Int)])) (some (AObj.row (ints cs) (1 : Nat) true true true) :: some (AObj.row [Value.slice (some { block := (2 : Nat), off := (0 : Nat) }) n c, Value.slice (some { block := (3 : Nat), off := (0 : Nat) }) k d] (1 : Nat) false true false) :: some (AObj.row (ints zs) (2 : Nat) true true true) :: some (AObj.row (ints ys) (2 : Nat) true true true) :: noH)) (∃ (s' : Nat), Is (s' ≤ l ∧ errs (co2 zs n ys k cs) s' (l - s') = errs (co2 zs n ys k cs) (0 : Nat) l) ∧ Is (l - s' < l - s) ∧ [Value.slice (some { block := (0 : Nat), off := (0 : Nat) }) l a, Value.slice (some { block := (1 : Nat), off := (0 : Nat) }) (2 : Nat) b, poi, poi, poi, poi, poi, poi, poi, poi, poi, poi, poi, poi, poi, poi, poi, poi, poi, poi, poi, poi, poi, Value.slice (some { block := (0 : Nat), off := (0 : Nat) }) l a, Value.int IntKind.i64 (↑l : Int), Value.int IntKind.i64 (IntKind.wrap IntKind.i64 ((↑s : Int) + (1 : Int))), poi, poi, poi, poi, poi, poi, poi, poi, poi, poi, poi, poi, poi, poi, poi, poi, poi, poi, poi, poi, poi, poi, poi, poi, poi, poi, poi, poi] = [Value.slice (some { block := (0 : Nat), off := (0 : Nat) }) l a, Value.slice (some { block := (1 : Nat), off := (0 : Nat) }) (2 : Nat) b, poi, poi, poi, poi, poi, poi, poi, poi, poi, poi, poi, poi, poi, poi, poi, poi, poi, poi, poi, poi, poi, Value.slice (some { block := (0 : Nat), off := (0 : Nat) }) l a, Value.int IntKind.i64 (↑l : Int), Value.int IntKind.i64 (↑s' : Int), poi, poi, poi, poi, poi, poi, poi, poi, poi, poi, poi, poi, poi, poi, poi, poi, poi, poi, poi, poi, poi, poi, poi, poi, poi, poi, poi, poi] ∧ some (AObj.row (ints cs) (1 : Nat) true true true) :: some (AObj.row [Value.slice (some { block := (2 : Nat), off := (0 : Nat) }) n c, Value.slice (some { block := (3 : Nat), off := (0 : Nat) }) k d] (1 : Nat) false true false) :: some (AObj.row (ints zs) (2 : Nat) true true true) :: some (AObj.row (ints ys) (2 : Nat) true true true) :: noH = some (AObj.row (ints cs) (1 : Nat) true true true) :: some (AObj.row [Value.slice (some { block := (2 : Nat), off := (0 : Nat) }) n c, Value.slice (some { block := (3 : Nat), off := (0 : Nat) }) k d] (1 : Nat) false true false) :: some (AObj.row (ints zs) (2 : Nat) true true true) :: some (AObj.row (ints ys) (2 : Nat) true true true) :: noH)) (br (fi [wh (!hasP (deI (ints zs)) n (List.getD cs ((0 : Nat) + Int.toNat (↑s : Int) * (1 : Nat)) (0 : Int)) || !hasP (deI (ints ys)) k (List.getD cs ((0 : Nat) + Int.toNat (↑s : Int) * (1 : Nat)) (0 : Int))) (14 : Int), (0 : Int)] != (0 : Int)) (K (Value.int IntKind.i64 (fi [wh (!hasP (deI (ints zs)) n (List.getD cs ((0 : Nat) + Int.toNat (↑s : Int) * (1 : Nat)) (0 : Int)) || !hasP (deI (ints ys)) k (List.getD cs ((0 : Nat) + Int.toNat (↑s : Int) * (1 : Nat)) (0 : Int))) (14 : Int), (0 : Int)])) (some (AObj.row (ints cs) (1 : Nat) true true true) :: some (AObj.row [Value.slice (some { block := (2 : Nat), off := (0 : Nat) }) n c, Value.slice (some { block := (3 : Nat), off := (0 : Nat) }) k d] (1 : Nat) false true false) :: some (AObj.row (ints zs) (2 : Nat) true true true) :: some (AObj.row (ints ys) (2 : Nat) true true true) :: noH)) (∃ (s' : Nat), Is (s' ≤ l ∧ errs (co2 zs n ys k cs) s' (l - s') = errs (co2 zs n ys k cs) (0 : Nat) l) ∧ Is (l - s' < l - s) ∧ [Value.slice (some { block := (0 : Nat), off := (0 : Nat) }) l a, Value.slice (some { block := (1 : Nat), off := (0 : Nat) }) (2 : Nat) b, poi, poi, poi, poi, poi, poi, poi, poi, poi, poi, poi, poi, poi, poi, poi, poi, poi, poi, poi, poi, poi, Value.slice (some { block := (0 : Nat), off := (0 : Nat) }) l a, Value.int IntKind.i64 (↑l : Int), Value.int IntKind.i64 (IntKind.wrap IntKind.i64 ((↑s : Int) + (1 : Int))), poi, poi, poi, poi, poi, poi, poi, poi, poi, poi, poi, poi, poi, poi, poi, poi, poi, poi, poi, poi, poi, poi, poi, poi, poi, poi, poi, poi] = [Value.slice (some { block := (0 : Nat), off := (0 : Nat) }) l a, Value.slice (some { block := (1 : Nat), off := (0 : Nat) }) (2 : Nat) b, poi, poi, poi, poi, poi, poi, poi, poi, poi, poi, poi, poi, poi, poi, poi, poi, poi, poi, poi, poi, poi, Value.slice (some { block := (0 : Nat), off := (0 : Nat) }) l a, Value.int IntKind.i64 (↑l : Int), Value.int IntKind.i64 (↑s' : Int), poi, poi, poi, poi, poi, poi, poi, poi, poi, poi, poi, poi, poi, poi, poi, poi, poi, poi, poi, poi, poi, poi, poi, poi, poi, poi, poi, poi] ∧ some (AObj.row (ints cs) (1 : Nat) true true true) :: some (AObj.row [Value.slice (some { block := (2 : Nat), off := (0 : Nat) }) n c, Value.slice (some { block := (3 : Nat), off := (0 : Nat) }) k d] (1 : Nat) false true false) :: some (AObj.row (ints zs) (2 : Nat) true true true) :: some (AObj.row (ints ys) (2 : Nat) true true true) :: noH = some (AObj.row (ints cs) (1 : Nat) true true true) :: some (AObj.row [Value.slice (some { block := (2 : Nat), off := (0 : Nat) }) n c, Value.slice (some { block := (3 : Nat), off := (0 : Nat) }) k d] (1 : Nat) false true false) :: some (AObj.row (ints zs) (2 : Nat) true true true) :: some (AObj.row (ints ys) (2 : Nat) true true true) :: noH))) (K (Value.int IntKind.i64 (0 : Int)) (some (AObj.row (ints cs) (1 : Nat) true true true) :: some (AObj.row [Value.slice (some { block := (2 : Nat), off := (0 : Nat) }) n c, Value.slice (some { block := (3 : Nat), off := (0 : Nat) }) k d] (1 : Nat) false true false) :: some (AObj.row (ints zs) (2 : Nat) true true true) :: some (AObj.row (ints ys) (2 : Nat) true true true) :: noH)))) := by kernel_rfl
theorem co1_first {zs : List Int} {n : Nat} {cs : List Int} {s : Nat} (h : s = 0) : co1 zs n cs s = fi [wh (!hasP zs n (cs.getD s 0)) 14, 0] := by
  rw [co1, colI, h]; rfl
theorem co1_next {zs : List Int} {n : Nat} {cs : List Int} {s : Nat} (h : 0 < s) : co1 zs n cs s = fi [wh (!hasP zs n (cs.getD s 0)) 14, wh (decide (cs.getD s 0 ≤ cs.getD (s - 1) 0)) 11] := by
  rw [co1, colI, decide_eq_true h, Bool.true_and]
theorem co2_first {zs : List Int} {n : Nat} {ys : List Int} {k : Nat} {cs : List Int} {s : Nat} (h : s = 0) : co2 zs n ys k cs s = fi [wh (!hasP zs n (cs.getD s 0) || !hasP ys k (cs.getD s 0)) 14, 0] := by
  rw [co2, colI, h]; rfl
theorem co2_next {zs : List Int} {n : Nat} {ys : List Int} {k : Nat} {cs : List Int} {s : Nat} (h : 0 < s) : co2 zs n ys k cs s = fi [wh (!hasP zs n (cs.getD s 0) || !hasP ys k (cs.getD s 0)) 14, wh (decide (cs.getD s 0 ≤ cs.getD (s - 1) 0)) 11] := by
  rw [co2, colI, decide_eq_true h, Bool.true_and]
set_option maxRecDepth 100000 in
theorem c1_ok' {cs zs : List Int} {l a n c b : Nat} (hl : cs.length = l) (hl9 : l ≤ 1000) (hz : isZ (ints zs) n) (h0n : 0 < n) :
    SmallRes Try.prog 25 [.slice (some ⟨0, 0, none⟩) l a, .slice (some ⟨1, 0, none⟩) 1 b] [rC cs, some (.row [.slice (some ⟨2, 0, none⟩) n c] 1 false true false), rZ zs true true] (.int .i64 (col1 zs n cs l)) [rC cs, some (.row [.slice (some ⟨2, 0, none⟩) n c] 1 false true false), rZ zs true true] := by
  refine fnP_res hm c2_ok (hs := hsC (lpC1 cs zs l a n c b) cs) ?_
  rw [c1_t]
  refine br_of (fun h => ?_) (fun h0 => ⟨⟨(0 : Nat), ⟨by omega, rfl⟩, by first | trivial | rfl, by first | trivial | rfl⟩, fun s hs => br_of (fun h => ?_) (fun h => ?_)⟩)
  · rw [col1, se_ne h]; exact ⟨rfl, rfl⟩
  · obtain ⟨a1, a2⟩ := hs.out
    have h := lt_of_dec h
    have hst := errs_step (co1 zs n cs) h
    simp only [Nat.zero_add, Nat.mul_one, Int.toNat_natCast, prd1 h (by omega), deI_ints]
    refine ⟨⟨by omega, by omega⟩, ⟨zint_at (by omega)⟩, ⟨by first | trivial | rfl, hz, h0n⟩, br_of (fun hp => ?_) (fun hp => ?_)⟩
    · have hp : 0 < s := by have := of_decide_eq_true hp; omega
      rw [co1_next hp] at hst
      refine ⟨⟨by omega, by omega⟩, ⟨zint_at (by omega)⟩, br_of (fun he => ?_) (fun he => ⟨s + 1, ⟨h, ?_⟩, ⟨by omega⟩, ?_, by first | trivial | rfl⟩)⟩
      · rw [col1, se_eq h0, ← a2, hst, se_ne he]; exact ⟨rfl, rfl⟩
      · rw [← a2, hst, se_eq he]
      · rw [up1 h (by omega)]
    · have hp : s = 0 := by have := of_decide_eq_false hp; omega
      rw [co1_first hp] at hst
      refine br_of (fun he => ?_) (fun he => ⟨s + 1, ⟨h, ?_⟩, ⟨by omega⟩, ?_, by first | trivial | rfl⟩)
      · rw [col1, se_eq h0, ← a2, hst, se_ne he]; exact ⟨rfl, rfl⟩
      · rw [← a2, hst, se_eq he]
      · rw [up1 h (by omega)]
  · obtain ⟨a1, a2⟩ := hs.out
    have h := ge_of_dec h
    rw [col1, se_eq h0, ← a2, show l - s = 0 by omega]
    exact ⟨rfl, rfl⟩
set_option maxRecDepth 100000 in
theorem c2_ok' {cs zs ys : List Int} {l a n c k d b : Nat} (hl : cs.length = l) (hl9 : l ≤ 1000) (hz : isZ (ints zs) n) (h0n : 0 < n) (hy : isZ (ints ys) k) (h0k : 0 < k) :
    SmallRes Try.prog 25 [.slice (some ⟨0, 0, none⟩) l a, .slice (some ⟨1, 0, none⟩) 2 b] [rC cs, some (.row [.slice (some ⟨2, 0, none⟩) n c, .slice (some ⟨3, 0, none⟩) k d] 1 false true false), rZ zs true true, rZ ys true true] (.int .i64 (col2 zs n ys k cs l)) [rC cs, some (.row [.slice (some ⟨2, 0, none⟩) n c, .slice (some ⟨3, 0, none⟩) k d] 1 false true false), rZ zs true true, rZ ys true true] := by
  refine fnP_res hm c2_ok (hs := hsC (lpC2 cs zs ys l a n c k d b) cs) ?_
  rw [c2_t]
  refine br_of (fun h => ?_) (fun h0 => ⟨⟨(0 : Nat), ⟨by omega, rfl⟩, by first | trivial | rfl, by first | trivial | rfl⟩, fun s hs => br_of (fun h => ?_) (fun h => ?_)⟩)
  · rw [col2, se_ne h]; exact ⟨rfl, rfl⟩
  · obtain ⟨a1, a2⟩ := hs.out
    have h := lt_of_dec h
    have hst := errs_step (co2 zs n ys k cs) h
    simp only [Nat.zero_add, Nat.mul_one, Int.toNat_natCast, prd1 h (by omega), deI_ints]
    refine ⟨⟨by omega, by omega⟩, ⟨zint_at (by omega)⟩, ⟨by first | trivial | rfl, ⟨hz, h0n⟩, hy, h0k⟩, br_of (fun hp => ?_) (fun hp => ?_)⟩
    · have hp : 0 < s := by have := of_decide_eq_true hp; omega
      rw [co2_next hp] at hst
      refine ⟨⟨by omega, by omega⟩, ⟨zint_at (by omega)⟩, br_of (fun he => ?_) (fun he => ⟨s + 1, ⟨h, ?_⟩, ⟨by omega⟩, ?_, by first | trivial | rfl⟩)⟩
      · rw [col2, se_eq h0, ← a2, hst, se_ne he]; exact ⟨rfl, rfl⟩
      · rw [← a2, hst, se_eq he]
      · rw [up1 h (by omega)]
    · have hp : s = 0 := by have := of_decide_eq_false hp; omega
      rw [co2_first hp] at hst
      refine br_of (fun he => ?_) (fun he => ⟨s + 1, ⟨h, ?_⟩, ⟨by omega⟩, ?_, by first | trivial | rfl⟩)
      · rw [col2, se_eq h0, ← a2, hst, se_ne he]; exact ⟨rfl, rfl⟩
      · rw [← a2, hst, se_eq he]
      · rw [up1 h (by omega)]
  · obtain ⟨a1, a2⟩ := hs.out
    have h := ge_of_dec h
    rw [col2, se_eq h0, ← a2, show l - s = 0 by omega]
    exact ⟨rfl, rfl⟩
noncomputable def orcCol : OrcV
  | [.slice (some ⟨0, 0, none⟩) l _, .slice (some ⟨1, 0, none⟩) 1 _], [some (.row cs 1 true true true), some (.row [.slice (some ⟨2, 0, none⟩) n c] 1 false true false), some (.row e 2 true true true)] =>
    some (.int .i64 (col1 (deI e) n (deI cs) l), [some (.row cs 1 true true true), some (.row [.slice (some ⟨2, 0, none⟩) n c] 1 false true false), some (.row e 2 true true true)], isC cs l ∧ isZ e n ∧ 0 < n)
  | [.slice (some ⟨0, 0, none⟩) l _, .slice (some ⟨1, 0, none⟩) 2 _], [some (.row cs 1 true true true), some (.row [.slice (some ⟨2, 0, none⟩) n c, .slice (some ⟨3, 0, none⟩) k d] 1 false true false), some (.row e 2 true true true), some (.row g 2 true true true)] =>
    some (.int .i64 (col2 (deI e) n (deI g) k (deI cs) l), [some (.row cs 1 true true true), some (.row [.slice (some ⟨2, 0, none⟩) n c, .slice (some ⟨3, 0, none⟩) k d] 1 false true false), some (.row e 2 true true true), some (.row g 2 true true true)], isC cs l ∧ (isZ e n ∧ 0 < n) ∧ isZ g k ∧ 0 < k)
  | _, _ => none
theorem okCol : OkV Try.prog 25 orcCol := by
  intro args H ret H' vc h hv
  unfold orcCol at h
  split at h
  · cases h
    obtain ⟨⟨e1, h1, h2⟩, ⟨e2, h3⟩, h4⟩ := hv
    rw [e1, e2]
    simp only [deI_ints]
    exact c1_ok' h1 h2 (isZ_of h3.1 h3.2) h4
  · cases h
    obtain ⟨⟨e1, h1, h2⟩, ⟨⟨e2, h3⟩, h4⟩, ⟨e3, h5⟩, h6⟩ := hv
    rw [e1, e2, e3]
    simp only [deI_ints]
    exact c2_ok' h1 h2 (isZ_of h3.1 h3.2) h4 (isZ_of h5.1 h5.2) h6
  · cases h
noncomputable def rCv (cs : List Int) : Option AObj := some (.row (ints cs) 1 true false true)
noncomputable def lpCR (cs zs ys : List Int) (l a n c k d : Nat) : Lp where
  σ := Nat
  E s := slots 67 [(0, .slice (some ⟨0, 0, none⟩) n c), (1, .slice (some ⟨1, 0, none⟩) k d), (2, .slice (some ⟨2, 0, none⟩) l a), (8, .int .i64 (Int.ofNat s))]
  Hp _ := [rZ zs true false, rZ ys true false, rCv cs]
  I s := s ≤ l ∧ errs (co2 zs n ys k cs) s (l - s) = errs (co2 zs n ys k cs) 0 l
  m s := l - s
noncomputable def hsCR (lp : Lp) (cs : List Int) : Hs Try.prog where
  op y := if [703, 711, 722, 728].contains y then some (hIa Try.prog) else if [704, 712, 723, 729].contains y then some (hLd Try.prog (zI cs)) else none
  lp _ := some lp
  cl _ := keep 67 [0, 1, 2, 8]
  au := auCalls [(20, hCa Try.prog 20 orcHas okHasR)]
theorem cR_t (cs : List Int) (zs : List Int) (ys : List Int) (l : Nat) (a : Nat) (n : Nat) (c : Nat) (k : Nat) (d : Nat) (K : Value → Heap → Prop) :
    (fnP Try.prog cr1 (hsCR (lpCR cs zs ys l a n c k d) cs) (6 : FuncId) [Value.slice (some { block := (0 : Nat), off := (0 : Nat) }) n c, Value.slice (some { block := (1 : Nat), off := (0 : Nat) }) k d, Value.slice (some { block := (2 : Nat), off := (0 : Nat) }) l a] [rZ zs true false, rZ ys true false, rCv cs] K) =
    (br (fi [wh ((↑l : Int) == (0 : Int)) (12 : Int), wh (decide ((64 : Int) < (↑l : Int))) (5 : Int)] != (0 : Int)) (K (Value.int IntKind.i64 (fi [wh ((↑l : Int) == (0 : Int)) (12 : Int), wh (decide ((64 : Int) < (↑l : Int))) (5 : Int)])) (some (AObj.row (ints zs) (2 : Nat) true false true) :: some (AObj.row (ints ys) (2 : Nat) true false true) :: some (AObj.row (ints cs) (1 : Nat) true false true) :: noH)) ((∃ (s : Nat), Is (s ≤ l ∧ errs (co2 zs n ys k cs) s (l - s) = errs (co2 zs n ys k cs) (0 : Nat) l) ∧ [Value.slice (some { block := (0 : Nat), off := (0 : Nat) }) n c, Value.slice (some { block := (1 : Nat), off := (0 : Nat) }) k d, Value.slice (some { block := (2 : Nat), off := (0 : Nat) }) l a, poi, poi, poi, poi, poi, Value.int IntKind.i64 (0 : Int), poi, poi, poi, poi, poi, poi, poi, poi, poi, poi, poi, poi, poi, poi, poi, poi, poi, poi, poi, poi, poi, poi, poi, poi, poi, poi, poi, poi, poi, poi, poi, poi, poi, poi, poi, poi, poi, poi, poi, poi, poi, poi, poi, poi, poi, poi, poi, poi, poi, poi, poi, poi, poi, poi, poi, poi, poi, poi] = [Value.slice (some { block := (0 : Nat), off := (0 : Nat) }) n c, Value.slice (some { block := (1 : Nat), off := (0 : Nat) }) k d, Value.slice (some { block := (2 : Nat), off := (0 : Nat) }) l a, poi, poi, poi, poi, poi, Value.int IntKind.i64 (↑s : Int), poi, poi, poi, poi, poi, poi, poi, poi, poi, poi, poi, poi, poi, poi, poi, poi, poi, poi, poi, poi, poi, poi, poi, poi, poi, poi, poi, poi, poi, poi, poi, poi, poi, poi, poi, poi, poi, poi, poi, poi, poi, poi, poi, poi, poi, poi, poi, poi, poi, poi, poi, poi, poi, poi, poi, poi, poi, poi] ∧ some (AObj.row (ints zs) (2 : Nat) true false true) :: some (AObj.row (ints ys) (2 : Nat) true false true) :: some (AObj.row (ints cs) (1 : Nat) true false true) :: noH = some (AObj.row (ints zs) (2 : Nat) true false true) :: some (AObj.row (ints ys) (2 : Nat) true false true) :: some (AObj.row (ints cs) (1 : Nat) true false true) :: noH) ∧ ∀ (s : Nat), Is (s ≤ l ∧ errs (co2 zs n ys k cs) s (l - s) = errs (co2 zs n ys k cs) (0 : Nat) l) → br (decide ((↑s : Int) < (↑l : Int))) (Is ((0 : Int) ≤ (↑s : Int) ∧ (↑s : Int) < (↑l : Int)) ∧ Is ((ints cs)[(0 : Nat) + Int.toNat (↑s : Int) * (1 : Nat)]? = some (Value.int IntKind.i64 (List.getD cs ((0 : Nat) + Int.toNat (↑s : Int) * (1 : Nat)) (0 : Int)))) ∧ Is (isZ (ints zs) n ∧ (0 : Nat) < n) ∧ br (!hasP (deI (ints zs)) n (List.getD cs ((0 : Nat) + Int.toNat (↑s : Int) * (1 : Nat)) (0 : Int))) (br (decide ((0 : Int) < (↑s : Int))) (Is ((0 : Int) ≤ (↑s : Int) ∧ (↑s : Int) < (↑l : Int)) ∧ Is ((ints cs)[(0 : Nat) + Int.toNat (↑s : Int) * (1 : Nat)]? = some (Value.int IntKind.i64 (List.getD cs ((0 : Nat) + Int.toNat (↑s : Int) * (1 : Nat)) (0 : Int)))) ∧ Is (((0 : Int) ≤ if IntKind.wrap IntKind.i64 ((↑s : Int) - (1 : Int)) > (0 : Int) then IntKind.wrap IntKind.i64 ((↑s : Int) - (1 : Int)) else (0 : Int)) ∧ (if IntKind.wrap IntKind.i64 ((↑s : Int) - (1 : Int)) > (0 : Int) then IntKind.wrap IntKind.i64 ((↑s : Int) - (1 : Int)) else (0 : Int)) < (↑l : Int)) ∧ Is ((ints cs)[(0 : Nat) + Int.toNat (if IntKind.wrap IntKind.i64 ((↑s : Int) - (1 : Int)) > (0 : Int) then IntKind.wrap IntKind.i64 ((↑s : Int) - (1 : Int)) else (0 : Int)) * (1 : Nat)]? = some (Value.int IntKind.i64 (List.getD cs ((0 : Nat) + Int.toNat (if IntKind.wrap IntKind.i64 ((↑s : Int) - (1 : Int)) > (0 : Int) then IntKind.wrap IntKind.i64 ((↑s : Int) - (1 : Int)) else (0 : Int)) * (1 : Nat)) (0 : Int)))) ∧ K (Value.int IntKind.i64 (fi [(14 : Int), wh (decide (List.getD cs ((0 : Nat) + Int.toNat (↑s : Int) * (1 : Nat)) (0 : Int) ≤ List.getD cs ((0 : Nat) + Int.toNat (if IntKind.wrap IntKind.i64 ((↑s : Int) - (1 : Int)) > (0 : Int) then IntKind.wrap IntKind.i64 ((↑s : Int) - (1 : Int)) else (0 : Int)) * (1 : Nat)) (0 : Int))) (11 : Int)])) (some (AObj.row (ints zs) (2 : Nat) true false true) :: some (AObj.row (ints ys) (2 : Nat) true false true) :: some (AObj.row (ints cs) (1 : Nat) true false true) :: noH)) (K (Value.int IntKind.i64 (14 : Int)) (some (AObj.row (ints zs) (2 : Nat) true false true) :: some (AObj.row (ints ys) (2 : Nat) true false true) :: some (AObj.row (ints cs) (1 : Nat) true false true) :: noH))) (Is ((0 : Int) ≤ (↑s : Int) ∧ (↑s : Int) < (↑l : Int)) ∧ Is ((ints cs)[(0 : Nat) + Int.toNat (↑s : Int) * (1 : Nat)]? = some (Value.int IntKind.i64 (List.getD cs ((0 : Nat) + Int.toNat (↑s : Int) * (1 : Nat)) (0 : Int)))) ∧ Is (isZ (ints ys) k ∧ (0 : Nat) < k) ∧ br (decide ((0 : Int) < (↑s : Int))) (Is ((0 : Int) ≤ (↑s : Int) ∧ (↑s : Int) < (↑l : Int)) ∧ Is ((ints cs)[(0 : Nat) + Int.toNat (↑s : Int) * (1 : Nat)]? = some (Value.int IntKind.i64 (List.getD cs ((0 : Nat) + Int.toNat (↑s : Int) * (1 : Nat)) (0 : Int)))) ∧ Is (((0 : Int) ≤ if IntKind.wrap IntKind.i64 ((↑s : Int) - (1 : Int)) > (0 : Int) then IntKind.wrap IntKind.i64 ((↑s : Int) - (1 : Int)) else (0 : Int)) ∧ (if IntKind.wrap IntKind.i64 ((↑s : Int) - (1 : Int)) > (0 : Int) then IntKind.wrap IntKind.i64 ((↑s : Int) - (1 : Int)) else (0 : Int)) < (↑l : Int)) ∧ Is ((ints cs)[(0 : Nat) + Int.toNat (if IntKind.wrap IntKind.i64 ((↑s : Int) - (1 : Int)) > (0 : Int) then IntKind.wrap IntKind.i64 ((↑s : Int) - (1 : Int)) else (0 : Int)) * (1 : Nat)]? = some (Value.int IntKind.i64 (List.getD cs ((0 : Nat) + Int.toNat (if IntKind.wrap IntKind.i64 ((↑s : Int) - (1 : Int)) > (0 : Int) then IntKind.wrap IntKind.i64 ((↑s : Int) - (1 : Int)) else (0 : Int)) * (1 : Nat)) (0 : Int)))) ∧ br (fi [wh (!hasP (deI (ints ys)) k (List.getD cs ((0 : Nat) + Int.toNat (↑s : Int) * (1 : Nat)) (0 : Int))) (14 : Int), wh (decide (List.getD cs ((0 : Nat) + Int.toNat (↑s : Int) * (1 : Nat)) (0 : Int) ≤ List.getD cs ((0 : Nat) + Int.toNat (if IntKind.wrap IntKind.i64 ((↑s : Int) - (1 : Int)) > (0 : Int) then IntKind.wrap IntKind.i64 ((↑s : Int) - (1 : Int)) else (0 : Int)) * (1 : Nat)) (0 : Int))) (11 : Int)] != (0 : Int)) (K (Value.int IntKind.i64 (fi [wh (!hasP (deI (ints ys)) k (List.getD cs ((0 : Nat) + Int.toNat (↑s : Int) * (1 : Nat)) (0 : Int))) (14 : Int), wh (decide (List.getD cs ((0 : Nat) + Int.toNat (↑s : Int) * (1 : Nat)) (0 : Int) ≤ List.getD cs ((0 : Nat) + Int.toNat (if IntKind.wrap IntKind.i64 ((↑s : Int) - (1 : Int)) > (0 : Int) then IntKind.wrap IntKind.i64 ((↑s : Int) - (1 : Int)) else (0 : Int)) * (1 : Nat)) (0 : Int))) (11 : Int)])) (some (AObj.row (ints zs) (2 : Nat) true false true) :: some (AObj.row (ints ys) (2 : Nat) true false true) :: some (AObj.row (ints cs) (1 : Nat) true false true) :: noH)) (∃ (s' : Nat), Is (s' ≤ l ∧ errs (co2 zs n ys k cs) s' (l - s') = errs (co2 zs n ys k cs) (0 : Nat) l) ∧ Is (l - s' < l - s) ∧ [Value.slice (some { block := (0 : Nat), off := (0 : Nat) }) n c, Value.slice (some { block := (1 : Nat), off := (0 : Nat) }) k d, Value.slice (some { block := (2 : Nat), off := (0 : Nat) }) l a, poi, poi, poi, poi, poi, Value.int IntKind.i64 (IntKind.wrap IntKind.i64 ((↑s : Int) + (1 : Int))), poi, poi, poi, poi, poi, poi, poi, poi, poi, poi, poi, poi, poi, poi, poi, poi, poi, poi, poi, poi, poi, poi, poi, poi, poi, poi, poi, poi, poi, poi, poi, poi, poi, poi, poi, poi, poi, poi, poi, poi, poi, poi, poi, poi, poi, poi, poi, poi, poi, poi, poi, poi, poi, poi, poi, poi, poi, poi] = [Value.slice (some { block := (0 : Nat), off := (0 : Nat) }) n c, Value.slice (some { block := (1 : Nat), off := (0 : Nat) }) k d, Value.slice (some { block := (2 : Nat), off := (0 : Nat) }) l a, poi, poi, poi, poi, poi, Value.int IntKind.i64 (↑s' : Int), poi, poi, poi, poi, poi, poi, poi, poi, poi, poi, poi, poi, poi, poi, poi, poi, poi, poi, poi, poi, poi, poi, poi, poi, poi, poi, poi, poi, poi, poi, poi, poi, poi, poi, poi, poi, poi, poi, poi, poi, poi, poi, poi, poi, poi, poi, poi, poi, poi, poi, poi, poi, poi, poi, poi, poi, poi, poi] ∧ some (AObj.row (ints zs) (2 : Nat) true false true) :: some (AObj.row (ints ys) (2 : Nat) true false true) :: some (AObj.row (ints cs) (1 : Nat) true false true) :: noH = some (AObj.row (ints zs) (2 : Nat) true false true) :: some (AObj.row (ints ys) (2 : Nat) true false true) :: some (AObj.row (ints cs) (1 : Nat) true false true) :: noH)) (br (fi [wh (!hasP (deI (ints ys)) k (List.getD cs ((0 : Nat) + Int.toNat (↑s : Int) * (1 : Nat)) (0 : Int))) (14 : Int), (0 : Int)] != (0 : Int)) (K (Value.int IntKind.i64 (fi [wh (!hasP (deI (ints ys)) k (List.getD cs ((0 : Nat) + Int.toNat (↑s : Int) * (1 : Nat)) (0 : Int))) (14 : Int), (0 : Int)])) (some (AObj.row (ints zs) (2 : Nat) true false true) :: some (AObj.row (ints ys) (2 : Nat) true false true) :: some (AObj.row (ints cs) (1 : Nat) true false true) :: noH)) (∃ (s' : Nat), Is (s' ≤ l ∧ errs (co2 zs n ys k cs) s' (l - s') = errs (co2 zs n ys k cs) (0 : Nat) l) ∧ Is (l - s' < l - s) ∧ [Value.slice (some { block := (0 : Nat), off := (0 : Nat) }) n c, Value.slice (some { block := (1 : Nat), off := (0 : Nat) }) k d, Value.slice (some { block := (2 : Nat), off := (0 : Nat) }) l a, poi, poi, poi, poi, poi, Value.int IntKind.i64 (IntKind.wrap IntKind.i64 ((↑s : Int) + (1 : Int))), poi, poi, poi, poi, poi, poi, poi, poi, poi, poi, poi, poi, poi, poi, poi, poi, poi, poi, poi, poi, poi, poi, poi, poi, poi, poi, poi, poi, poi, poi, poi, poi, poi, poi, poi, poi, poi, poi, poi, poi, poi, poi, poi, poi, poi, poi, poi, poi, poi, poi, poi, poi, poi, poi, poi, poi, poi, poi] = [Value.slice (some { block := (0 : Nat), off := (0 : Nat) }) n c, Value.slice (some { block := (1 : Nat), off := (0 : Nat) }) k d, Value.slice (some { block := (2 : Nat), off := (0 : Nat) }) l a, poi, poi, poi, poi, poi, Value.int IntKind.i64 (↑s' : Int), poi, poi, poi, poi, poi, poi, poi, poi, poi, poi, poi, poi, poi, poi, poi, poi, poi, poi, poi, poi, poi, poi, poi, poi, poi, poi, poi, poi, poi, poi, poi, poi, poi, poi, poi, poi, poi, poi, poi, poi, poi, poi, poi, poi, poi, poi, poi, poi, poi, poi, poi, poi, poi, poi, poi, poi, poi, poi] ∧ some (AObj.row (ints zs) (2 : Nat) true false true) :: some (AObj.row (ints ys) (2 : Nat) true false true) :: some (AObj.row (ints cs) (1 : Nat) true false true) :: noH = some (AObj.row (ints zs) (2 : Nat) true false true) :: some (AObj.row (ints ys) (2 : Nat) true false true) :: some (AObj.row (ints cs) (1 : Nat) true false true) :: noH)))) (K (Value.int IntKind.i64 (0 : Int)) (some (AObj.row (ints zs) (2 : Nat) true false true) :: some (AObj.row (ints ys) (2 : Nat) true false true) :: some (AObj.row (ints cs) (1 : Nat) true false true) :: noH)))) := by kernel_rfl
theorem co2_bad {zs : List Int} {n : Nat} {ys : List Int} {k : Nat} {cs : List Int} {s : Nat} (h : (!hasP zs n (cs.getD s 0)) = true) : co2 zs n ys k cs s = 14 := by
  rw [co2, colI, h]; rfl
set_option maxRecDepth 100000 in
theorem cR_ok {cs zs ys : List Int} {l a n c k d : Nat} (hl : cs.length = l) (hl9 : l ≤ 1000) (hz : isZ (ints zs) n) (h0n : 0 < n) (hy : isZ (ints ys) k) (h0k : 0 < k) :
    SmallRes Try.prog 6 [.slice (some ⟨0, 0, none⟩) n c, .slice (some ⟨1, 0, none⟩) k d, .slice (some ⟨2, 0, none⟩) l a] [rZ zs true false, rZ ys true false, rCv cs] (.int .i64 (col2 zs n ys k cs l)) [rZ zs true false, rZ ys true false, rCv cs] := by
  refine fnP_res hm cr1_ok (hs := hsCR (lpCR cs zs ys l a n c k d) cs) ?_
  rw [cR_t]
  refine br_of (fun h => ?_) (fun h0 => ⟨⟨(0 : Nat), ⟨by omega, rfl⟩, by first | trivial | rfl, by first | trivial | rfl⟩, fun s hs => br_of (fun h => ?_) (fun h => ?_)⟩)
  · rw [col2, se_ne h]; exact ⟨rfl, rfl⟩
  · obtain ⟨a1, a2⟩ := hs.out
    have h := lt_of_dec h
    have hst := errs_step (co2 zs n ys k cs) h
    simp only [Nat.zero_add, Nat.mul_one, Int.toNat_natCast, prd1 h (by omega), deI_ints]
    refine ⟨⟨by omega, by omega⟩, ⟨zint_at (by omega)⟩, ⟨hz, h0n⟩, br_of (fun hb => ?_) (fun hb => ⟨⟨by omega, by omega⟩, ⟨zint_at (by omega)⟩, ⟨hy, h0k⟩, br_of (fun hp => ?_) (fun hp => ?_)⟩)⟩
    · rw [co2_bad hb] at hst
      have e14 : col2 zs n ys k cs l = 14 := by
        rw [col2, se_eq h0, ← a2, hst]; rfl
      rw [e14]
      exact br_of (fun hp => ⟨⟨by omega, by omega⟩, ⟨zint_at (by omega)⟩, ⟨by omega, by omega⟩, ⟨zint_at (by omega)⟩, by first | trivial | rfl, by first | trivial | rfl⟩) (fun hp => ⟨by first | trivial | rfl, by first | trivial | rfl⟩)
    · have hp : 0 < s := by have := of_decide_eq_true hp; omega
      rw [co2_next hp, hb, Bool.false_or] at hst
      refine ⟨⟨by omega, by omega⟩, ⟨zint_at (by omega)⟩, ⟨by omega, by omega⟩, ⟨zint_at (by omega)⟩, br_of (fun he => ?_) (fun he => ⟨s + 1, ⟨h, ?_⟩, ⟨by omega⟩, ?_, by first | trivial | rfl⟩)⟩
      · rw [col2, se_eq h0, ← a2, hst, se_ne he]; exact ⟨rfl, rfl⟩
      · rw [← a2, hst, se_eq he]
      · rw [up1 h (by omega)]
    · have hp : s = 0 := by have := of_decide_eq_false hp; omega
      rw [co2_first hp, hb, Bool.false_or] at hst
      refine br_of (fun he => ?_) (fun he => ⟨s + 1, ⟨h, ?_⟩, ⟨by omega⟩, ?_, by first | trivial | rfl⟩)
      · rw [col2, se_eq h0, ← a2, hst, se_ne he]; exact ⟨rfl, rfl⟩
      · rw [← a2, hst, se_eq he]
      · rw [up1 h (by omega)]
  · obtain ⟨a1, a2⟩ := hs.out
    have h := ge_of_dec h
    rw [col2, se_eq h0, ← a2, show l - s = 0 by omega]
    exact ⟨rfl, rfl⟩
noncomputable def orcCR : OrcV
  | [.slice (some ⟨0, 0, none⟩) n _, .slice (some ⟨1, 0, none⟩) k _, .slice (some ⟨2, 0, none⟩) l _], [some (.row e 2 true false true), some (.row g 2 true false true), some (.row cs 1 true false true)] =>
    some (.int .i64 (col2 (deI e) n (deI g) k (deI cs) l), [some (.row e 2 true false true), some (.row g 2 true false true), some (.row cs 1 true false true)], isC cs l ∧ (isZ e n ∧ 0 < n) ∧ isZ g k ∧ 0 < k)
  | _, _ => none
theorem okCR : OkV Try.prog 6 orcCR := by
  intro args H ret H' vc h hv
  unfold orcCR at h
  split at h
  · cases h
    obtain ⟨⟨e1, h1, h2⟩, ⟨⟨e2, h3⟩, h4⟩, ⟨e3, h5⟩, h6⟩ := hv
    rw [e1, e2, e3]
    simp only [deI_ints]
    exact cR_ok h1 h2 (isZ_of h3.1 h3.2) h4 (isZ_of h5.1 h5.2) h6
  · cases h
end
end Qq
end
section
/- Heights. -/
open Go Go.Vm Go.Proofs Sp
namespace Sp
noncomputable section
noncomputable def flo (num den : Int) : Int := num / den
noncomputable def rnd (num den : Int) : Int := (2 * num + den) / (2 * den)
noncomputable def htI (zs : List Int) (x : Int) (i : Nat) : Int := rnd (zs.getD (i * 2 + 1) 0 * (zs.getD ((i + 1) * 2) 0 - x) + zs.getD ((i + 1) * 2 + 1) 0 * (x - zs.getD (i * 2) 0)) (zs.getD ((i + 1) * 2) 0 - zs.getD (i * 2) 0)
noncomputable def htG (zs : List Int) (x : Int) : Nat → Nat → Int
  | _, 0 => 0
  | i, k + 1 => if zs.getD (i * 2) 0 ≤ x ∧ x ≤ zs.getD ((i + 1) * 2) 0 then htI zs x i else htG zs x (i + 1) k
noncomputable def htP (zs : List Int) (n : Nat) (x : Int) : Int := htG zs x 0 (n - 1)
def flC (num den : Int) : Prop := 0 < den ∧ den ≤ 4000000000000 ∧ -4000000000000 ≤ num ∧ num ≤ 4000000000000
end
end Sp
namespace Qq
noncomputable section
theorem fl_t (a : Int) (b : Int) (K : Value → Heap → Prop) :
    (fnP Try.prog c0 h0 (92 : FuncId) [Value.int IntKind.i64 a, Value.int IntKind.i64 b] [] K) =
    (Is (b ≠ (0 : Int)) ∧ Is (b ≠ (0 : Int)) ∧ br (decide (Int.tmod a b < (0 : Int))) (K (Value.int IntKind.i64 (IntKind.wrap IntKind.i64 (IntKind.wrap IntKind.i64 (Int.tdiv a b) - (1 : Int)))) noH) (K (Value.int IntKind.i64 (IntKind.wrap IntKind.i64 (Int.tdiv a b))) noH)) := by kernel_rfl
noncomputable def orcFl : OrcV
  | [.int .i64 a, .int .i64 b], [] => some (.int .i64 (flo a b), [], flC a b)
  | _, _ => none
theorem flo_of {a b : Int} (hb : 0 < b) : flo a b = if a.tmod b < 0 then a.tdiv b - 1 else a.tdiv b := by
  have e := Int.mul_tdiv_add_tmod a b
  have h1 := Int.tmod_lt_of_pos a hb
  have h2 := Int.lt_tmod_of_pos a hb
  rw [flo]
  split
  · rename_i h
    refine ((Int.ediv_emod_unique (r := a.tmod b + b) (q := a.tdiv b - 1) hb).2 ⟨?_, by omega, by omega⟩).1
    rw [Int.mul_sub, Int.mul_one]; omega
  · rename_i h
    exact ((Int.ediv_emod_unique (r := a.tmod b) (q := a.tdiv b) hb).2 ⟨by omega, by omega, h1⟩).1
theorem flo_lo {a b L : Int} (hb : 0 < b) (h : L * b ≤ a) : L ≤ flo a b := Int.le_ediv_of_mul_le hb h
theorem flo_hi {a b L : Int} (hb : 0 < b) (h : a < (L + 1) * b) : flo a b ≤ L := by
  have := Int.ediv_lt_of_lt_mul hb h
  rw [flo]; omega
theorem okFl : OkV Try.prog 92 orcFl := by
  intro args H ret H' vc h hv
  unfold orcFl at h
  split at h
  · rename_i a b
    cases h
    obtain ⟨h1, h2, h3, h4⟩ := hv
    have l1 := flo_lo (a := a) (L := -4000000000001) h1 (by omega)
    have l2 := flo_hi (a := a) (L := 4000000000001) h1 (by omega)
    have e := flo_of (a := a) h1
    refine fnP_res hm c0_ok (hs := h0) ?_
    rw [fl_t]
    refine ⟨⟨by omega⟩, ⟨by omega⟩, br_of (fun h => ?_) (fun h => ?_)⟩
    · have h := of_decide_eq_true h
      rw [if_pos h] at e
      rw [wrap_eq (x := a.tdiv b) (by omega) (by omega), wrap_eq (by omega) (by omega), ← e]
      exact ⟨rfl, rfl⟩
    · have h := of_decide_eq_false h
      rw [if_neg h] at e
      rw [wrap_eq (by omega) (by omega), ← e]
      exact ⟨rfl, rfl⟩
  · cases h
noncomputable def hsRd : Hs Try.prog where
  au := auCalls [(92, hCa Try.prog 92 orcFl okFl)]
theorem rd_t (a : Int) (b : Int) (K : Value → Heap → Prop) :
    (fnP Try.prog c0 hsRd (76 : FuncId) [Value.int IntKind.i64 a, Value.int IntKind.i64 b] [] K) =
    (Is (flC (IntKind.wrap IntKind.i64 (IntKind.wrap IntKind.i64 ((2 : Int) * a) + b)) (IntKind.wrap IntKind.i64 ((2 : Int) * b))) ∧ K (Value.int IntKind.i64 (flo (IntKind.wrap IntKind.i64 (IntKind.wrap IntKind.i64 ((2 : Int) * a) + b)) (IntKind.wrap IntKind.i64 ((2 : Int) * b)))) noH) := by kernel_rfl
noncomputable def orcRd : OrcV
  | [.int .i64 a, .int .i64 b], [] => some (.int .i64 (rnd a b), [], (0 < b ∧ b ≤ 1000000000000) ∧ -1000000000000 ≤ a ∧ a ≤ 1000000000000)
  | _, _ => none
theorem okRd : OkV Try.prog 76 orcRd := by
  intro args H ret H' vc h hv
  unfold orcRd at h
  split at h
  · rename_i a b
    cases h
    obtain ⟨⟨h1, h2⟩, h3, h4⟩ := hv
    refine fnP_res hm c0_ok (hs := hsRd) ?_
    rw [rd_t, wrap_eq (x := 2 * a) (by omega) (by omega), wrap_eq (x := 2 * b) (by omega) (by omega), wrap_eq (by omega) (by omega)]
    exact ⟨⟨by omega, by omega, by omega, by omega⟩, rfl, rfl⟩
  · cases h
noncomputable def lpHt (zs : List Int) (n c : Nat) (x : Int) : Lp where
  σ := Nat
  E s := slots 55 [(0, .slice (some ⟨0, 0, none⟩) n c), (1, .int .i64 x), (10, .int .i64 (Int.ofNat (n - 1))), (11, .int .i64 (Int.ofNat s))]
  Hp _ := [rZ zs true true]
  I s := s ≤ n - 1 ∧ htG zs x s (n - 1 - s) = htP zs n x
  m s := n - 1 - s
noncomputable def hsHt (zs : List Int) (n c : Nat) (x : Int) : Hs Try.prog where
  op y := if [402, 407].contains y then some (hIa Try.prog) else if [403, 408].contains y then some (hLd Try.prog (z2 zs)) else none
  lp _ := some (lpHt zs n c x)
  cl _ := keep 55 [0, 1, 10, 11]
  sm := true
  au := auCalls [(76, hCa Try.prog 76 orcRd okRd)]
theorem ht_t (zs : List Int) (n : Nat) (c : Nat) (x : Int) (K : Value → Heap → Prop) :
    (fnP Try.prog c0 (hsHt zs n c x) (53 : FuncId) [Value.slice (some { block := (0 : Nat), off := (0 : Nat) }) n c, Value.int IntKind.i64 x] [rZ zs true true] K) =
    ((∃ (s : Nat), Is (s ≤ n - (1 : Nat) ∧ htG zs x s (n - (1 : Nat) - s) = htP zs n x) ∧ (Value.slice (some { block := (0 : Nat), off := (0 : Nat) }) n c = Value.slice (some { block := (0 : Nat), off := (0 : Nat) }) n c ∧ Value.int IntKind.i64 x = Value.int IntKind.i64 x ∧ Value.int IntKind.i64 (IntKind.wrap IntKind.i64 ((↑n : Int) - (1 : Int))) = Value.int IntKind.i64 (↑(n - (1 : Nat)) : Int) ∧ Value.int IntKind.i64 (0 : Int) = Value.int IntKind.i64 (↑s : Int) ∧ True) ∧ some (AObj.row (ints zs) (2 : Nat) true true true) :: noH = some (AObj.row (ints zs) (2 : Nat) true true true) :: noH) ∧ ∀ (s : Nat), Is (s ≤ n - (1 : Nat) ∧ htG zs x s (n - (1 : Nat) - s) = htP zs n x) → br (decide ((↑s : Int) < (↑(n - (1 : Nat)) : Int))) (Is ((0 : Int) ≤ (↑s : Int) ∧ (↑s : Int) < (↑n : Int)) ∧ Is ((if (0 : Nat) + Int.toNat (↑s : Int) * (2 : Nat) + (2 : Nat) ≤ List.length (ints zs) then some (Value.agg (List.toArray (List.take (2 : Nat) (List.drop ((0 : Nat) + Int.toNat (↑s : Int) * (2 : Nat)) (ints zs))))) else none) = some (Value.agg #[Value.int IntKind.i64 (List.getD zs ((0 : Nat) + Int.toNat (↑s : Int) * (2 : Nat)) (0 : Int)), Value.int IntKind.i64 (List.getD zs ((0 : Nat) + Int.toNat (↑s : Int) * (2 : Nat) + (1 : Nat)) (0 : Int))])) ∧ Is ((0 : Int) ≤ IntKind.wrap IntKind.i64 ((↑s : Int) + (1 : Int)) ∧ IntKind.wrap IntKind.i64 ((↑s : Int) + (1 : Int)) < (↑n : Int)) ∧ Is ((if (0 : Nat) + Int.toNat (IntKind.wrap IntKind.i64 ((↑s : Int) + (1 : Int))) * (2 : Nat) + (2 : Nat) ≤ List.length (ints zs) then some (Value.agg (List.toArray (List.take (2 : Nat) (List.drop ((0 : Nat) + Int.toNat (IntKind.wrap IntKind.i64 ((↑s : Int) + (1 : Int))) * (2 : Nat)) (ints zs))))) else none) = some (Value.agg #[Value.int IntKind.i64 (List.getD zs ((0 : Nat) + Int.toNat (IntKind.wrap IntKind.i64 ((↑s : Int) + (1 : Int))) * (2 : Nat)) (0 : Int)), Value.int IntKind.i64 (List.getD zs ((0 : Nat) + Int.toNat (IntKind.wrap IntKind.i64 ((↑s : Int) + (1 : Int))) * (2 : Nat) + (1 : Nat)) (0 : Int))])) ∧ br (decide (List.getD zs ((0 : Nat) + Int.toNat (↑s : Int) * (2 : Nat)) (0 : Int) ≤ x)) (br (decide (x ≤ List.getD zs ((0 : Nat) + Int.toNat (IntKind.wrap IntKind.i64 ((↑s : Int) + (1 : Int))) * (2 : Nat)) (0 : Int))) (Is (((0 : Int) < IntKind.wrap IntKind.i64 (List.getD zs ((0 : Nat) + Int.toNat (IntKind.wrap IntKind.i64 ((↑s : Int) + (1 : Int))) * (2 : Nat)) (0 : Int) - List.getD zs ((0 : Nat) + Int.toNat (↑s : Int) * (2 : Nat)) (0 : Int)) ∧ IntKind.wrap IntKind.i64 (List.getD zs ((0 : Nat) + Int.toNat (IntKind.wrap IntKind.i64 ((↑s : Int) + (1 : Int))) * (2 : Nat)) (0 : Int) - List.getD zs ((0 : Nat) + Int.toNat (↑s : Int) * (2 : Nat)) (0 : Int)) ≤ (1000000000000 : Int)) ∧ (-1000000000000 : Int) ≤ IntKind.wrap IntKind.i64 (IntKind.wrap IntKind.i64 (List.getD zs ((0 : Nat) + Int.toNat (↑s : Int) * (2 : Nat) + (1 : Nat)) (0 : Int) * IntKind.wrap IntKind.i64 (List.getD zs ((0 : Nat) + Int.toNat (IntKind.wrap IntKind.i64 ((↑s : Int) + (1 : Int))) * (2 : Nat)) (0 : Int) - x)) + IntKind.wrap IntKind.i64 (List.getD zs ((0 : Nat) + Int.toNat (IntKind.wrap IntKind.i64 ((↑s : Int) + (1 : Int))) * (2 : Nat) + (1 : Nat)) (0 : Int) * IntKind.wrap IntKind.i64 (x - List.getD zs ((0 : Nat) + Int.toNat (↑s : Int) * (2 : Nat)) (0 : Int)))) ∧ IntKind.wrap IntKind.i64 (IntKind.wrap IntKind.i64 (List.getD zs ((0 : Nat) + Int.toNat (↑s : Int) * (2 : Nat) + (1 : Nat)) (0 : Int) * IntKind.wrap IntKind.i64 (List.getD zs ((0 : Nat) + Int.toNat (IntKind.wrap IntKind.i64 ((↑s : Int) + (1 : Int))) * (2 : Nat)) (0 : Int) - x)) + IntKind.wrap IntKind.i64 (List.getD zs ((0 : Nat) + Int.toNat (IntKind.wrap IntKind.i64 ((↑s : Int) + (1 : Int))) * (2 : Nat) + (1 : Nat)) (0 : Int) * IntKind.wrap IntKind.i64 (x - List.getD zs ((0 : Nat) + Int.toNat (↑s : Int) * (2 : Nat)) (0 : Int)))) ≤ (1000000000000 : Int)) ∧ K (Value.int IntKind.i64 (rnd (IntKind.wrap IntKind.i64 (IntKind.wrap IntKind.i64 (List.getD zs ((0 : Nat) + Int.toNat (↑s : Int) * (2 : Nat) + (1 : Nat)) (0 : Int) * IntKind.wrap IntKind.i64 (List.getD zs ((0 : Nat) + Int.toNat (IntKind.wrap IntKind.i64 ((↑s : Int) + (1 : Int))) * (2 : Nat)) (0 : Int) - x)) + IntKind.wrap IntKind.i64 (List.getD zs ((0 : Nat) + Int.toNat (IntKind.wrap IntKind.i64 ((↑s : Int) + (1 : Int))) * (2 : Nat) + (1 : Nat)) (0 : Int) * IntKind.wrap IntKind.i64 (x - List.getD zs ((0 : Nat) + Int.toNat (↑s : Int) * (2 : Nat)) (0 : Int))))) (IntKind.wrap IntKind.i64 (List.getD zs ((0 : Nat) + Int.toNat (IntKind.wrap IntKind.i64 ((↑s : Int) + (1 : Int))) * (2 : Nat)) (0 : Int) - List.getD zs ((0 : Nat) + Int.toNat (↑s : Int) * (2 : Nat)) (0 : Int))))) (some (AObj.row (ints zs) (2 : Nat) true true true) :: noH)) (∃ (s' : Nat), Is (s' ≤ n - (1 : Nat) ∧ htG zs x s' (n - (1 : Nat) - s') = htP zs n x) ∧ Is (n - (1 : Nat) - s' < n - (1 : Nat) - s) ∧ (Value.slice (some { block := (0 : Nat), off := (0 : Nat) }) n c = Value.slice (some { block := (0 : Nat), off := (0 : Nat) }) n c ∧ Value.int IntKind.i64 x = Value.int IntKind.i64 x ∧ Value.int IntKind.i64 (↑(n - (1 : Nat)) : Int) = Value.int IntKind.i64 (↑(n - (1 : Nat)) : Int) ∧ Value.int IntKind.i64 (IntKind.wrap IntKind.i64 ((↑s : Int) + (1 : Int))) = Value.int IntKind.i64 (↑s' : Int) ∧ True) ∧ some (AObj.row (ints zs) (2 : Nat) true true true) :: noH = some (AObj.row (ints zs) (2 : Nat) true true true) :: noH)) (∃ (s' : Nat), Is (s' ≤ n - (1 : Nat) ∧ htG zs x s' (n - (1 : Nat) - s') = htP zs n x) ∧ Is (n - (1 : Nat) - s' < n - (1 : Nat) - s) ∧ (Value.slice (some { block := (0 : Nat), off := (0 : Nat) }) n c = Value.slice (some { block := (0 : Nat), off := (0 : Nat) }) n c ∧ Value.int IntKind.i64 x = Value.int IntKind.i64 x ∧ Value.int IntKind.i64 (↑(n - (1 : Nat)) : Int) = Value.int IntKind.i64 (↑(n - (1 : Nat)) : Int) ∧ Value.int IntKind.i64 (IntKind.wrap IntKind.i64 ((↑s : Int) + (1 : Int))) = Value.int IntKind.i64 (↑s' : Int) ∧ True) ∧ some (AObj.row (ints zs) (2 : Nat) true true true) :: noH = some (AObj.row (ints zs) (2 : Nat) true true true) :: noH)) (K (Value.int IntKind.i64 (0 : Int)) (some (AObj.row (ints zs) (2 : Nat) true true true) :: noH))) := by kernel_rfl
theorem prod_bd {a b : Int} (h1 : -10000 ≤ a) (h2 : a ≤ 10000) (h3 : 0 ≤ b) : -(10000 * b) ≤ a * b ∧ a * b ≤ 10000 * b := by
  have k1 := Int.mul_le_mul_of_nonneg_right h1 h3
  have k2 := Int.mul_le_mul_of_nonneg_right h2 h3
  omega
theorem num_bd {ax bx ay b x : Int} (h1 : -10000 ≤ ay) (h2 : ay ≤ 10000) (h3 : -10000 ≤ b) (h4 : b ≤ 10000) (h5 : ax ≤ x) (h6 : x ≤ bx) :
    -(10000 * (bx - ax)) ≤ ay * (bx - x) + b * (x - ax) ∧ ay * (bx - x) + b * (x - ax) ≤ 10000 * (bx - ax) := by
  have k1 := prod_bd (b := bx - x) h1 h2 (by omega)
  have k2 := prod_bd (b := x - ax) h3 h4 (by omega)
  omega
theorem rnd_bd {a b : Int} (hb : 0 < b) (h1 : -(10000 * b) ≤ a) (h2 : a ≤ 10000 * b) : -10000 ≤ rnd a b ∧ rnd a b ≤ 10000 := by
  have l1 := flo_lo (a := 2 * a + b) (L := -10000) (b := 2 * b) (by omega) (by omega)
  have l2 := flo_hi (a := 2 * a + b) (L := 10000) (b := 2 * b) (by omega) (by omega)
  exact ⟨l1, l2⟩
section
variable {zs : List Int} {n : Nat} (hp : PfOk zs n)
include hp
theorem htI_bd {x : Int} {i : Nat} (hi : i + 1 < n) (h1 : zs.getD (i * 2) 0 ≤ x) (h2 : x ≤ zs.getD ((i + 1) * 2) 0) : -10000 ≤ htI zs x i ∧ htI zs x i ≤ 10000 := by
  have y1 := hp.y i (by omega)
  have y2 := hp.y (i + 1) hi
  have u := hp.up i hi
  have k := num_bd y1.1 y1.2 y2.1 y2.2 h1 h2
  exact rnd_bd (by omega) k.1 k.2
theorem htG_bd {x : Int} : ∀ {k i : Nat}, i + k ≤ n - 1 → -10000 ≤ htG zs x i k ∧ htG zs x i k ≤ 10000
  | 0, i, _ => by rw [htG]; omega
  | k + 1, i, h => by
    rw [htG]
    split
    · rename_i hc; exact htI_bd hp (by omega) hc.1 hc.2
    · exact htG_bd (by omega)
theorem htP_bd (x : Int) : -10000 ≤ htP zs n x ∧ htP zs n x ≤ 10000 := htG_bd hp (by omega)
end
theorem z2_at {zs : List Int} {i : Nat} (h : i * 2 + 2 ≤ zs.length) : (if i * 2 + 2 ≤ (ints zs).length then some (Value.agg (List.take 2 (List.drop (i * 2) (ints zs))).toArray) else none) = some (.agg #[.int .i64 (zs.getD (i * 2) 0), .int .i64 (zs.getD (i * 2 + 1) 0)]) := by
  rw [ints_len, if_pos h, ints_pair h]
theorem htG_step (zs : List Int) (x : Int) {s n : Nat} (h : s < n) : htG zs x s (n - s) = if zs.getD (s * 2) 0 ≤ x ∧ x ≤ zs.getD ((s + 1) * 2) 0 then htI zs x s else htG zs x (s + 1) (n - (s + 1)) := by
  rw [show n - s = (n - (s + 1)) + 1 by omega, htG]
set_option maxRecDepth 100000 in
theorem ht_ok {zs : List Int} {n c : Nat} {x : Int} (hp : PfOk zs n) :
    SmallRes Try.prog 53 [.slice (some ⟨0, 0, none⟩) n c, .int .i64 x] [rZ zs true true] (.int .i64 (htP zs n x)) [rZ zs true true] := by
  have hl := hp.len
  have h24 := hp.hi
  have h2 := hp.lo
  refine fnP_res hm c0_ok (hs := hsHt zs n c x) ?_
  rw [ht_t]
  refine ⟨⟨(0 : Nat), ⟨by omega, rfl⟩, ⟨rfl, rfl, by rw [last_eq (by omega) (by omega)], rfl, trivial⟩, by first | trivial | rfl⟩, fun s hs => br_of (fun h => ?_) (fun h => ?_)⟩
  · obtain ⟨a1, a2⟩ := hs.out
    have h := lt_of_dec h
    have hst := htG_step zs x h
    simp only [Nat.zero_add, Int.toNat_natCast, up1 h (by omega)]
    have next : ¬ (zs.getD (s * 2) 0 ≤ x ∧ x ≤ zs.getD ((s + 1) * 2) 0) → s + 1 ≤ n - 1 ∧ htG zs x (s + 1) (n - 1 - (s + 1)) = htP zs n x := fun hc => by
      rw [if_neg hc] at hst
      exact ⟨h, by rw [← hst, a2]⟩
    refine ⟨⟨by omega, by omega⟩, ⟨z2_at (by omega)⟩, ⟨by omega, by omega⟩, ⟨z2_at (by omega)⟩, br_of (fun hb => br_of (fun hb2 => ?_) (fun hb2 => ?_)) (fun hb => ?_)⟩
    · have hb := of_decide_eq_true hb
      have hb2 := of_decide_eq_true hb2
      rw [if_pos ⟨hb, hb2⟩, a2, htI] at hst
      have y1 := hp.y s (by omega)
      have y2 := hp.y (s + 1) (by omega)
      have x1 := hp.x s (by omega)
      have x2 := hp.x (s + 1) (by omega)
      have u := hp.up s (by omega)
      have k1 := prod_bd (b := zs.getD ((s + 1) * 2) 0 - x) y1.1 y1.2 (by omega)
      have k2 := prod_bd (b := x - zs.getD (s * 2) 0) y2.1 y2.2 (by omega)
      rw [wrap_eq (x := zs.getD ((s + 1) * 2) 0 - x) (by omega) (by omega), wrap_eq (x := x - zs.getD (s * 2) 0) (by omega) (by omega), wrap_eq (x := zs.getD ((s + 1) * 2) 0 - zs.getD (s * 2) 0) (by omega) (by omega),
        wrap_eq (x := zs.getD (s * 2 + 1) 0 * (zs.getD ((s + 1) * 2) 0 - x)) (by omega) (by omega), wrap_eq (x := zs.getD ((s + 1) * 2 + 1) 0 * (x - zs.getD (s * 2) 0)) (by omega) (by omega), wrap_eq (by omega) (by omega), hst]
      exact ⟨⟨⟨by omega, by omega⟩, by omega, by omega⟩, rfl, rfl⟩
    · have hb2 := of_decide_eq_false hb2
      exact ⟨s + 1, ⟨next fun hc => hb2 hc.2⟩, ⟨by omega⟩, ⟨by first | trivial | rfl, by first | trivial | rfl, by first | trivial | rfl, by first | trivial | rfl, trivial⟩, by first | trivial | rfl⟩
    · have hb := of_decide_eq_false hb
      exact ⟨s + 1, ⟨next fun hc => hb hc.1⟩, ⟨by omega⟩, ⟨by first | trivial | rfl, by first | trivial | rfl, by first | trivial | rfl, by first | trivial | rfl, trivial⟩, by first | trivial | rfl⟩
  · obtain ⟨a1, a2⟩ := hs.out
    have h := ge_of_dec h
    rw [← a2, show n - 1 - s = 0 by omega]
    exact ⟨rfl, rfl⟩
/-- Points that pass, as cells. -/
def _root_.Sp.okZ (cells : List Value) (n : Nat) : Prop := cells = ints (deI cells) ∧ PfOk (deI cells) n
noncomputable def orcHt : OrcV
  | [.slice (some ⟨0, 0, none⟩) n _, .int .i64 x], [some (.row e 2 true true true)] => some (.int .i64 (htP (deI e) n x), [some (.row e 2 true true true)], Sp.okZ e n)
  | _, _ => none
theorem okHt : OkV Try.prog 53 orcHt := by
  intro args H ret H' vc h hv
  unfold orcHt at h
  split at h
  · cases h
    obtain ⟨e, h1⟩ := hv
    rw [e, deI_ints]
    exact ht_ok h1
  · cases h
end
end Qq
end
section
/- Wear. -/
open Go Go.Vm Go.Proofs Sp
namespace Sp
noncomputable section
/-- The wear of ys against zs. -/
noncomputable def wrL (zs : List Int) (n : Nat) (ys : List Int) (k : Nat) (cs : List Int) : List Int := cs.map fun x => htP zs n x - htP ys k x
end
end Sp
namespace Qq
noncomputable section
noncomputable def bxL (i n c : Nat) : Option AObj := some (.row [.slice (some ⟨i, 0, none⟩) n c] 0 false true false)
noncomputable def hsWr : Hs Try.prog where
  au := auCalls [(53, hCa Try.prog 53 orcHt okHt)]
theorem w1_t (e : List Value) (g : List Value) (x : Int) (n : Nat) (c : Nat) (k : Nat) (d : Nat) (K : Value → Heap → Prop) :
    (fnP Try.prog c0 hsWr (52 : FuncId) [Value.int IntKind.i64 x, Value.pointer (some { block := (0 : Nat), off := (0 : Nat) }), Value.pointer (some { block := (2 : Nat), off := (0 : Nat) })] [bxL (1 : Nat) n c, some (AObj.row e (2 : Nat) true true true), bxL (3 : Nat) k d, some (AObj.row g (2 : Nat) true true true)] K) =
    (Is (okZ e n) ∧ Is (okZ g k) ∧ K (Value.int IntKind.i64 (IntKind.wrap IntKind.i64 (htP (deI e) n x - htP (deI g) k x))) (some (AObj.row [Value.slice (some { block := (1 : Nat), off := (0 : Nat) }) n c] (0 : Nat) false true false) :: some (AObj.row e (2 : Nat) true true true) :: some (AObj.row [Value.slice (some { block := (3 : Nat), off := (0 : Nat) }) k d] (0 : Nat) false true false) :: some (AObj.row g (2 : Nat) true true true) :: noH)) := by kernel_rfl
noncomputable def orcW1 : OrcV
  | [.int .i64 x, .pointer (some ⟨0, 0, none⟩), .pointer (some ⟨2, 0, none⟩)], [some (.row [.slice (some ⟨1, 0, none⟩) n c] 0 false true false), some (.row e 2 true true true), some (.row [.slice (some ⟨3, 0, none⟩) k d] 0 false true false), some (.row g 2 true true true)] =>
    some (.int .i64 (htP (deI e) n x - htP (deI g) k x), [some (.row [.slice (some ⟨1, 0, none⟩) n c] 0 false true false), some (.row e 2 true true true), some (.row [.slice (some ⟨3, 0, none⟩) k d] 0 false true false), some (.row g 2 true true true)], okZ e n ∧ okZ g k)
  | _, _ => none
theorem okW1 : OkV Try.prog 52 orcW1 := by
  intro args H ret H' vc h hv
  unfold orcW1 at h
  split at h
  · rename_i x n c e k d g
    cases h
    obtain ⟨h1, h2⟩ := hv
    have b1 := htP_bd h1.2 x
    have b2 := htP_bd h2.2 x
    refine fnP_res hm c0_ok (hs := hsWr) ?_
    show fnP Try.prog c0 hsWr 52 _ [bxL _ _ _, _, bxL _ _ _, _] _
    rw [w1_t, wrap_eq (by omega) (by omega)]
    exact ⟨⟨h1⟩, ⟨h2⟩, by first | trivial | rfl, by first | trivial | rfl⟩
  · cases h
noncomputable def f52 (i j : Nat) : Value := .func (.func 52) #[] #[.pointer (some ⟨i, 0, none⟩), .pointer (some ⟨j, 0, none⟩)]
noncomputable def hpW (zs ys cs : List Int) (n c k d : Nat) (t : List (Option AObj)) : Heap := [rC cs, bxL 2 n c, rZ zs true true, bxL 4 k d, rZ ys true true] ++ t
noncomputable def lpMp (zs ys cs : List Int) (l a n c k d : Nat) : Lp where
  σ := Nat
  E i := slots 22 [(1, f52 1 3), (5, .slice (some ⟨5, 0, none⟩) i 0), (8, .slice (some ⟨0, 0, none⟩) l a), (9, .int .i64 (Int.ofNat l)), (10, .int .i64 (Int.ofNat i))]
  Hp i := hpW zs ys cs n c k d [rC ((wrL zs n ys k cs).take i)]
  I i := i ≤ l
  m i := l - i
noncomputable def hsMp (zs ys cs : List Int) (l a n c k d : Nat) : Hs Try.prog where
  op y := if y = 400 then some (hIa Try.prog) else if y = 401 then some (hLd Try.prog (zI cs)) else if y = 503 then some (hCa Try.prog 52 orcW1 okW1) else if y = 505 then some (hAp Try.prog) else none
  lp _ := some (lpMp zs ys cs l a n c k d)
  cl _ := keep 22 [1, 5, 8, 9, 10]
  nl _ := [.only (.slot 5 1)]
  sm := true
  au := au0 Try.prog
theorem mp_t (zs : List Int) (ys : List Int) (cs : List Int) (l : Nat) (a : Nat) (n : Nat) (c : Nat) (k : Nat) (d : Nat) (K : Value → Heap → Prop) :
    (fnP Try.prog c0 (hsMp zs ys cs l a n c k d) (51 : FuncId) [Value.slice (some { block := (0 : Nat), off := (0 : Nat) }) l a, f52 (1 : Nat) (3 : Nat)] (hpW zs ys cs n c k d []) K) =
    ((∃ (s : Nat), Is (s ≤ l) ∧ (Value.func (Fn.func (52 : Nat)) #[] #[Value.pointer (some { block := (1 : Nat), off := (0 : Nat) }), Value.pointer (some { block := (3 : Nat), off := (0 : Nat) })] = Value.func (Fn.func (52 : Nat)) #[] #[Value.pointer (some { block := (1 : Nat), off := (0 : Nat) }), Value.pointer (some { block := (3 : Nat), off := (0 : Nat) })] ∧ Value.slice (some { block := (5 : Nat), off := (0 : Nat) }) (0 : Nat) (0 : Nat) = Value.slice (some { block := (5 : Nat), off := (0 : Nat) }) s (0 : Nat) ∧ Value.slice (some { block := (0 : Nat), off := (0 : Nat) }) l a = Value.slice (some { block := (0 : Nat), off := (0 : Nat) }) l a ∧ Value.int IntKind.i64 (↑l : Int) = Value.int IntKind.i64 (↑l : Int) ∧ Value.int IntKind.i64 (0 : Int) = Value.int IntKind.i64 (↑s : Int) ∧ True) ∧ some (AObj.row (ints cs) (1 : Nat) true true true) :: some (AObj.row [Value.slice (some { block := (2 : Nat), off := (0 : Nat) }) n c] (0 : Nat) false true false) :: some (AObj.row (ints zs) (2 : Nat) true true true) :: some (AObj.row [Value.slice (some { block := (4 : Nat), off := (0 : Nat) }) k d] (0 : Nat) false true false) :: some (AObj.row (ints ys) (2 : Nat) true true true) :: some (AObj.row [] (1 : Nat) true true true) :: noH = some (AObj.row (ints cs) (1 : Nat) true true true) :: some (AObj.row [Value.slice (some { block := (2 : Nat), off := (0 : Nat) }) n c] (0 : Nat) false true false) :: some (AObj.row (ints zs) (2 : Nat) true true true) :: some (AObj.row [Value.slice (some { block := (4 : Nat), off := (0 : Nat) }) k d] (0 : Nat) false true false) :: some (AObj.row (ints ys) (2 : Nat) true true true) :: some (AObj.row (ints (List.take s (wrL zs n ys k cs))) (1 : Nat) true true true) :: noH) ∧ ∀ (s : Nat), Is (s ≤ l) → br (decide ((↑s : Int) < (↑l : Int))) (Is ((0 : Int) ≤ (↑s : Int) ∧ (↑s : Int) < (↑l : Int)) ∧ Is ((ints cs)[(0 : Nat) + Int.toNat (↑s : Int) * (1 : Nat)]? = some (Value.int IntKind.i64 (List.getD cs ((0 : Nat) + Int.toNat (↑s : Int) * (1 : Nat)) (0 : Int)))) ∧ Is (okZ (ints zs) n ∧ okZ (ints ys) k) ∧ Is (List.length (ints (List.take s (wrL zs n ys k cs))) = s * (1 : Nat) ∧ (s + (1 : Nat)) * (8 : Nat) ≤ (140737488355328 : Nat) ∧ s + (1 : Nat) ≤ (9223372036854775807 : Nat)) ∧ ∃ (s' : Nat), Is (s' ≤ l) ∧ Is (l - s' < l - s) ∧ (Value.func (Fn.func (52 : Nat)) #[] #[Value.pointer (some { block := (1 : Nat), off := (0 : Nat) }), Value.pointer (some { block := (3 : Nat), off := (0 : Nat) })] = Value.func (Fn.func (52 : Nat)) #[] #[Value.pointer (some { block := (1 : Nat), off := (0 : Nat) }), Value.pointer (some { block := (3 : Nat), off := (0 : Nat) })] ∧ Value.slice (some { block := (5 : Nat), off := (0 : Nat) }) (s + (1 : Nat)) (0 : Nat) = Value.slice (some { block := (5 : Nat), off := (0 : Nat) }) s' (0 : Nat) ∧ Value.slice (some { block := (0 : Nat), off := (0 : Nat) }) l a = Value.slice (some { block := (0 : Nat), off := (0 : Nat) }) l a ∧ Value.int IntKind.i64 (↑l : Int) = Value.int IntKind.i64 (↑l : Int) ∧ Value.int IntKind.i64 (IntKind.wrap IntKind.i64 ((↑s : Int) + (1 : Int))) = Value.int IntKind.i64 (↑s' : Int) ∧ True) ∧ some (AObj.row (ints cs) (1 : Nat) true true true) :: some (AObj.row [Value.slice (some { block := (2 : Nat), off := (0 : Nat) }) n c] (0 : Nat) false true false) :: some (AObj.row (ints zs) (2 : Nat) true true true) :: some (AObj.row [Value.slice (some { block := (4 : Nat), off := (0 : Nat) }) k d] (0 : Nat) false true false) :: some (AObj.row (ints ys) (2 : Nat) true true true) :: some (AObj.row (ints (List.take s (wrL zs n ys k cs)) ++ [Value.int IntKind.i64 (htP (deI (ints zs)) n (List.getD cs ((0 : Nat) + Int.toNat (↑s : Int) * (1 : Nat)) (0 : Int)) - htP (deI (ints ys)) k (List.getD cs ((0 : Nat) + Int.toNat (↑s : Int) * (1 : Nat)) (0 : Int)))]) (1 : Nat) true true (List.all [Value.int IntKind.i64 (htP (deI (ints zs)) n (List.getD cs ((0 : Nat) + Int.toNat (↑s : Int) * (1 : Nat)) (0 : Int)) - htP (deI (ints ys)) k (List.getD cs ((0 : Nat) + Int.toNat (↑s : Int) * (1 : Nat)) (0 : Int)))] atom)) :: noH = some (AObj.row (ints cs) (1 : Nat) true true true) :: some (AObj.row [Value.slice (some { block := (2 : Nat), off := (0 : Nat) }) n c] (0 : Nat) false true false) :: some (AObj.row (ints zs) (2 : Nat) true true true) :: some (AObj.row [Value.slice (some { block := (4 : Nat), off := (0 : Nat) }) k d] (0 : Nat) false true false) :: some (AObj.row (ints ys) (2 : Nat) true true true) :: some (AObj.row (ints (List.take s' (wrL zs n ys k cs))) (1 : Nat) true true true) :: noH) (K (Value.slice (some { block := (5 : Nat), off := (0 : Nat) }) s (0 : Nat)) (some (AObj.row (ints cs) (1 : Nat) true true true) :: some (AObj.row [Value.slice (some { block := (2 : Nat), off := (0 : Nat) }) n c] (0 : Nat) false true false) :: some (AObj.row (ints zs) (2 : Nat) true true true) :: some (AObj.row [Value.slice (some { block := (4 : Nat), off := (0 : Nat) }) k d] (0 : Nat) false true false) :: some (AObj.row (ints ys) (2 : Nat) true true true) :: some (AObj.row (ints (List.take s (wrL zs n ys k cs))) (1 : Nat) true true true) :: noH))) := by kernel_rfl
theorem wrL_len (zs : List Int) (n : Nat) (ys : List Int) (k : Nat) (cs : List Int) : (wrL zs n ys k cs).length = cs.length := by rw [wrL, List.length_map]
theorem wrL_get {zs : List Int} {n : Nat} {ys : List Int} {k : Nat} {cs : List Int} {i : Nat} (h : i < cs.length) : (wrL zs n ys k cs).getD i 0 = htP zs n (cs.getD i 0) - htP ys k (cs.getD i 0) := by
  rw [wrL, List.getD_eq_getElem?_getD, List.getElem?_map, List.getD_eq_getElem?_getD, List.getElem?_eq_getElem h]; rfl
theorem wrL_take {zs : List Int} {n : Nat} {ys : List Int} {k : Nat} {cs : List Int} {i : Nat} (h : i < cs.length) : ints ((wrL zs n ys k cs).take i) ++ [.int .i64 (htP zs n (cs.getD i 0) - htP ys k (cs.getD i 0))] = ints ((wrL zs n ys k cs).take (i + 1)) := by
  have hl : i < (wrL zs n ys k cs).length := by rw [wrL_len]; exact h
  rw [List.take_add_one, List.getElem?_eq_getElem hl, Option.toList_some, ← ints_app]
  have := wrL_get (zs := zs) (n := n) (ys := ys) (k := k) h
  rw [List.getD_eq_getElem?_getD, List.getElem?_eq_getElem hl, Option.getD_some] at this
  rw [this]; rfl
set_option maxRecDepth 100000 in
theorem mp_ok {zs ys cs : List Int} {l a n c k d : Nat} (hl : cs.length = l) (h9 : l ≤ 1000) (hz : PfOk zs n) (hy : PfOk ys k) :
    SmallRes Try.prog 51 [.slice (some ⟨0, 0, none⟩) l a, f52 1 3] (hpW zs ys cs n c k d []) (.slice (some ⟨5, 0, none⟩) l 0) (hpW zs ys cs n c k d [rC (wrL zs n ys k cs)]) := by
  refine fnP_res hm c0_ok (hs := hsMp zs ys cs l a n c k d) ?_
  rw [mp_t]
  have z1 : okZ (ints zs) n := by rw [okZ, deI_ints]; exact ⟨rfl, hz⟩
  have z2 : okZ (ints ys) k := by rw [okZ, deI_ints]; exact ⟨rfl, hy⟩
  refine ⟨⟨(0 : Nat), ⟨by omega⟩, ⟨rfl, rfl, rfl, rfl, rfl, trivial⟩, by first | trivial | rfl⟩, fun s hs => br_of (fun h => ?_) (fun h => ?_)⟩
  · have h := lt_of_dec h
    have h1 := hs.out
    simp only [Nat.zero_add, Nat.mul_one, Int.toNat_natCast, up1 h (by omega), deI_ints]
    refine ⟨⟨by omega, by omega⟩, ⟨zint_at (by omega)⟩, ⟨z1, z2⟩, ⟨by rw [ints_len, List.length_take, wrL_len]; omega, by omega, by omega⟩, s + 1, ⟨h⟩, ⟨by omega⟩, ⟨by first | trivial | rfl, by first | trivial | rfl, by first | trivial | rfl, by first | trivial | rfl, by first | trivial | rfl, trivial⟩, ?_⟩
    rw [wrL_take (by omega)]; rfl
  · have h := ge_of_dec h
    have : s = l := by have := hs.out; omega
    subst this
    have e : (wrL zs n ys k cs).take s = wrL zs n ys k cs := List.take_of_length_le (by rw [wrL_len]; omega)
    rw [e]
    exact ⟨rfl, rfl⟩
noncomputable def orcMp : OrcV
  | [.slice (some ⟨0, 0, none⟩) l _, f], [some (.row cs 1 true true true), some (.row [.slice (some ⟨2, 0, none⟩) n c] 0 false true false), some (.row e 2 true true true), some (.row [.slice (some ⟨4, 0, none⟩) k d] 0 false true false), some (.row g 2 true true true)] =>
    some (.slice (some ⟨5, 0, none⟩) l 0, [some (.row cs 1 true true true), some (.row [.slice (some ⟨2, 0, none⟩) n c] 0 false true false), some (.row e 2 true true true), some (.row [.slice (some ⟨4, 0, none⟩) k d] 0 false true false), some (.row g 2 true true true), some (.row (ints (wrL (deI e) n (deI g) k (deI cs))) 1 true true true)],
      f = f52 1 3 ∧ isC cs l ∧ okZ e n ∧ okZ g k)
  | _, _ => none
theorem okMp : OkV Try.prog 51 orcMp := by
  intro args H ret H' vc h hv
  unfold orcMp at h
  split at h
  · cases h
    obtain ⟨rfl, ⟨e1, h1, h2⟩, ⟨e2, h3⟩, e3, h4⟩ := hv
    rw [e1, e2, e3]
    simp only [deI_ints]
    exact mp_ok h1 h2 h3 h4
  · cases h
noncomputable def hsWe : Hs Try.prog where
  au := auCalls [(51, hCa Try.prog 51 orcMp okMp)]
noncomputable def r2c (e : List Value) : Option AObj := some (.row e 2 true true true)
noncomputable def r1c (e : List Value) : Option AObj := some (.row e 1 true true true)
theorem we_t (e : List Value) (g : List Value) (cs : List Value) (n : Nat) (c : Nat) (k : Nat) (d : Nat) (l : Nat) (a : Nat) (K : Value → Heap → Prop) :
    (fnP Try.prog c0 hsWe (26 : FuncId) [Value.slice (some { block := (0 : Nat), off := (0 : Nat) }) k d, Value.slice (some { block := (1 : Nat), off := (0 : Nat) }) n c, Value.slice (some { block := (2 : Nat), off := (0 : Nat) }) l a] [r2c g, r2c e, r1c cs] K) =
    (Is (Value.func (Fn.func (52 : Nat)) #[] #[Value.pointer (some { block := (1 : Nat), off := (0 : Nat) }), Value.pointer (some { block := (3 : Nat), off := (0 : Nat) })] = Value.func (Fn.func (52 : Nat)) #[] #[Value.pointer (some { block := (1 : Nat), off := (0 : Nat) }), Value.pointer (some { block := (3 : Nat), off := (0 : Nat) })] ∧ isC cs l ∧ okZ e n ∧ okZ g k) ∧ K (Value.slice (some { block := (3 : Nat), off := (0 : Nat) }) l (0 : Nat)) (some (AObj.row g (2 : Nat) true true true) :: some (AObj.row e (2 : Nat) true true true) :: some (AObj.row cs (1 : Nat) true true true) :: some (AObj.row (ints (wrL (deI e) n (deI g) k (deI cs))) (1 : Nat) true true true) :: noH)) := by kernel_rfl
noncomputable def orcWe : OrcV
  | [.slice (some ⟨0, 0, none⟩) k _, .slice (some ⟨1, 0, none⟩) n _, .slice (some ⟨2, 0, none⟩) l _], [some (.row g 2 true true true), some (.row e 2 true true true), some (.row cs 1 true true true)] =>
    some (.slice (some ⟨3, 0, none⟩) l 0, [some (.row g 2 true true true), some (.row e 2 true true true), some (.row cs 1 true true true), some (.row (ints (wrL (deI e) n (deI g) k (deI cs))) 1 true true true)], isC cs l ∧ okZ e n ∧ okZ g k)
  | _, _ => none
theorem okWe : OkV Try.prog 26 orcWe := by
  intro args H ret H' vc h hv
  unfold orcWe at h
  split at h
  · cases h
    refine fnP_res hm c0_ok (hs := hsWe) ?_
    show fnP Try.prog c0 hsWe 26 _ [r2c _, r2c _, r1c _] _
    rw [we_t]
    exact ⟨⟨by first | trivial | rfl, hv⟩, by first | trivial | rfl, by first | trivial | rfl⟩
  · cases h
/-- Two profiles and columns of both, all of which pass. -/
def _root_.Sp.weO (e : List Value) (n : Nat) (g : List Value) (k : Nat) (cs : List Value) (l : Nat) : Prop := okZ e n ∧ okZ g k ∧ isC cs l ∧ col2 (deI e) n (deI g) k (deI cs) l = 0
noncomputable def hsWx : Hs Try.prog where
  au := auCalls [(24, hCa Try.prog 24 orcBo okBo), (25, hCa Try.prog 25 orcCol okCol), (26, hCa Try.prog 26 orcWe okWe)]
theorem wx_t (e : List Value) (g : List Value) (cs : List Value) (n : Nat) (c : Nat) (k : Nat) (d : Nat) (l : Nat) (a : Nat) (K : Value → Heap → Prop) :
    (fnP Try.prog c0 hsWx (11 : FuncId) [Value.slice (some { block := (0 : Nat), off := (0 : Nat) }) n c, Value.slice (some { block := (1 : Nat), off := (0 : Nat) }) k d, Value.slice (some { block := (2 : Nat), off := (0 : Nat) }) l a] [r2c e, r2c g, r1c cs] K) =
    (Is (isZ e n ∧ isZ g k) ∧ br (fi [pfE (deI e) n, pfE (deI g) k] != (0 : Int)) (K (Value.tuple #[Value.slice none (0 : Nat) (0 : Nat), Value.int IntKind.i64 (fi [pfE (deI e) n, pfE (deI g) k])]) (some (AObj.row e (2 : Nat) true true true) :: some (AObj.row g (2 : Nat) true true true) :: some (AObj.row cs (1 : Nat) true true true) :: noH)) (Is (isC cs l ∧ (isZ e n ∧ (0 : Nat) < n) ∧ isZ g k ∧ (0 : Nat) < k) ∧ br (col2 (deI e) n (deI g) k (deI cs) l != (0 : Int)) (K (Value.tuple #[Value.slice none (0 : Nat) (0 : Nat), Value.int IntKind.i64 (col2 (deI e) n (deI g) k (deI cs) l)]) (some (AObj.row e (2 : Nat) true true true) :: some (AObj.row g (2 : Nat) true true true) :: some (AObj.row cs (1 : Nat) true true true) :: noH)) (Is (isC cs l ∧ okZ e n ∧ okZ g k) ∧ K (Value.tuple #[Value.slice (some { block := (3 : Nat), off := (0 : Nat) }) l (0 : Nat), Value.int IntKind.i64 (0 : Int)]) (some (AObj.row e (2 : Nat) true true true) :: some (AObj.row g (2 : Nat) true true true) :: some (AObj.row cs (1 : Nat) true true true) :: some (AObj.row (ints (wrL (deI e) n (deI g) k (deI cs))) (1 : Nat) true true true) :: noH)))) := by kernel_rfl
end
end Qq
end
section
/- Floats of 32 bits as exact numbers: what a word stands for, times 2^400. -/
namespace Fl
open Ieee
/-- A number with its sign. -/
def sg (s : Bool) (n : Nat) : Int := if s then -(n : Int) else n
/-! ### Writing -/
end Fl
end
section
/- Samples: what is known of their floats. -/
open Go
namespace Fl
open Ieee Sp
/-- Bits that are a number. -/
def IsF (x : Nat) : Prop := ∃ s m i, single.read x = .number s m i ∧ m < 2 ^ 24 ∧ -149 ≤ i ∧ i ≤ 104
def one : Nat := 2 ^ 400
/-- The value of a number, times 2^400. -/
noncomputable def val (x : Nat) : Int := match single.read x with
  | .number s m i => sg s (m * 2 ^ (i + 400).toNat)
  | _ => 0
end Fl
end
section
/- Parts of a section, and their sums. -/
open Go Go.Vm Go.Proofs Sp
namespace Sp
noncomputable section
noncomputable def d0 (zs : List Int) (off : Nat) : Int := zs.getD off 0
end
end Sp
namespace Qq
noncomputable section
/- The program's sums. -/
/- The reference's sums. -/
/-- A part whose sums do not leave the machine's integers. -/
structure Part (zs : List Int) (off m : Nat) : Prop where
  len : off + m * 2 ≤ zs.length
  few : m ≤ 32
  day : ∀ i, i < m → d0 zs off ≤ zs.getD (off + i * 2) 0 ∧ zs.getD (off + i * 2) 0 ≤ 100000
  idx : ∀ i, i < m → 0 ≤ zs.getD (off + i * 2 + 1) 0 ∧ zs.getD (off + i * 2 + 1) 0 ≤ 100000
  z0 : 0 ≤ d0 zs off
end
end Qq
end
section
/- When a line reaches a limit: the contract. -/
open Go Go.Vm Go.Proofs Sp
namespace Sp
noncomputable section
structure RcOK (a b c d l f : Int) : Prop where
  a0 : 0 ≤ a
  a1 : a ≤ 100000
  f0 : 0 ≤ f
  f1 : f ≤ 100000
  b0 : -1024000000000000000 ≤ b
  b1 : b ≤ 1024000000000000000
  p0 : -1024000000000000000 ≤ c * (f - a)
  p1 : c * (f - a) ≤ 1024000000000000000
  c1 : c ≤ 10240000000000
  q0 : 0 ≤ l * d
  q1 : l * d ≤ 1024000000000000000
end
end Sp
namespace Qq
noncomputable section
end
end Qq
end
section
/- Quotients in lowest terms, and lines through two points: plain laws. -/
open Go Go.Vm Go.Proofs Sp
namespace Qq
noncomputable section

/-- A quotient in lowest terms. -/
structure Low (r : Int × Int) : Prop where
  pos : 0 < r.2
  one : r.1.natAbs.gcd r.2.natAbs = 1
structure LowIn (a d : Int) : Prop where
  h0 : 0 < d
  h1 : d < 9223372036854775808
  a0 : -9223372036854775808 < a
  a1 : a < 9223372036854775808
end
end Qq
end
section
/- Lines through two measurements, each plus or less an error: as the program lists them, and as the reference does. -/
open Go Go.Vm Go.Proofs Sp
namespace Sp
noncomputable section
/-- A line: a day, the level there, the slope, the denominator. -/
abbrev Ln := Int × Int × Int × Int
noncomputable def lnat (l : Ln) (x : Int) : Int := l.2.1 + l.2.2.1 * (x - l.1)
noncomputable def fitB (w : Int) (l : Ln) : List Int → Bool
  | t :: y :: r => !decide (w * l.2.2.2 < ((lnat l t - y * l.2.2.2).natAbs : Int)) && fitB w l r
  | _ => true
noncomputable def sgR (a : Nat) : Int := 2 * a - 1
noncomputable def cqR (L : List Int) (w : Int) (i k a b : Nat) : Ln := (L.getD (i * 2) 0, L.getD (i * 2 + 1) 0 + sgR a * w, L.getD (k * 2) 0, L.getD (k * 2 + 1) 0 + sgR b * w)
noncomputable def lnOf (c : Ln) : Ln := (c.1, c.2.1 * (c.2.2.1 - c.1), c.2.2.2 - c.2.1, c.2.2.1 - c.1)
noncomputable def oneR (L : List Int) (w : Int) (i k a b : Nat) : List Ln := if fitB w (lnOf (cqR L w i k a b)) L = true then [cqR L w i k a b] else []
end
end Sp
namespace Qq
noncomputable section
end
end Qq
end
section
/- Lines of measurements that are near each other: plain laws. -/
open Go Go.Vm Go.Proofs Sp
namespace Qq
noncomputable section
/-- Measurements near the first one. -/
structure Near (zs : List Int) (off m : Nat) : Prop where
  len : off + m * 2 ≤ zs.length
  few : m ≤ 8
  day : ∀ i, i < m → 0 ≤ zs.getD (off + i * 2) 0 - d0 zs off ∧ zs.getD (off + i * 2) 0 - d0 zs off ≤ 400
  idx : ∀ i, i < m → 0 ≤ zs.getD (off + i * 2 + 1) 0 ∧ zs.getD (off + i * 2 + 1) 0 ≤ 400
end
end Qq
end
section
/- Lines that fit: the loops. -/
open Go Go.Vm Go.Proofs Sp
namespace Qq
noncomputable section
/-- A line and measurements whose numbers do not leave the machine's integers. -/
structure FitIn (zs : List Int) (off m : Nat) (w a b s d : Int) : Prop where
  len : off + m * 2 ≤ zs.length
  few : m ≤ 1000
  w0 : 0 ≤ w
  w1 : w ≤ 100000
  a0 : 0 ≤ a
  a1 : a ≤ 100000
  b0 : -1000000000000 ≤ b
  b1 : b ≤ 1000000000000
  s0 : -1000000000000 ≤ s
  s1 : s ≤ 1000000000000
  d0 : 0 < d
  d1 : d ≤ 1000000000000
  day : ∀ i, i < m → 0 ≤ zs.getD (off + i * 2) 0 ∧ zs.getD (off + i * 2) 0 ≤ 100000
  idx : ∀ i, i < m → 0 ≤ zs.getD (off + i * 2 + 1) 0 ∧ zs.getD (off + i * 2 + 1) 0 ≤ 100000
/-- A line through two points, near measurements. -/
structure CoIn (zs : List Int) (off m : Nat) (w x y u v : Int) : Prop where
  len : off + m * 2 ≤ zs.length
  few : m ≤ 1000
  w0 : 0 ≤ w
  w1 : w ≤ 100000
  x0 : 0 ≤ x
  xu : x < u
  u1 : u ≤ 100000
  y0 : -200000 ≤ y
  y1 : y ≤ 200000
  v0 : -200000 ≤ v
  v1 : v ≤ 200000
  day : ∀ i, i < m → 0 ≤ zs.getD (off + i * 2) 0 ∧ zs.getD (off + i * 2) 0 ≤ 100000
  idx : ∀ i, i < m → 0 ≤ zs.getD (off + i * 2 + 1) 0 ∧ zs.getD (off + i * 2 + 1) 0 ≤ 100000
end
end Qq
end
section
/- Lines that are given, checked; Fits. -/
open Go Go.Vm Go.Proofs Sp
namespace Sp
noncomputable section
noncomputable def mxG (m : Int) : List Int → Int
  | [] => m
  | x :: r => mxG (if x > m then x else m) r
noncomputable def mxL (l : List Int) : Int := mxG (l.getD 0 0) (l.drop 1)
end
end Sp
namespace Qq
noncomputable section
/- The greatest common divisor. -/
/- The greatest of a list. -/
noncomputable def lpMax (l : List Int) (n c es : Nat) (more rw : Bool) : Lp where
  σ := Nat × Int
  E s := slots 25 [(0, .slice (some ⟨0, 0, none⟩) n c), (3, .int .i64 s.2), (4, .int .i64 (Int.ofNat s.1))]
  Hp _ := [some (.row (ints l) es more rw true)]
  I s := s.1 ≤ l.length ∧ mxG s.2 (l.drop s.1) = mxL l
  m s := l.length - s.1
noncomputable def hsMax (l : List Int) (n c es : Nat) (more rw : Bool) : Hs Try.prog where
  op y := if [301, 703].contains y then some (hIa Try.prog) else if [302, 704].contains y then some (hLd Try.prog (zI l)) else none
  lp _ := some (lpMax l n c es more rw)
  cl _ := keep 25 [0, 3, 4]
  au := au0 Try.prog
theorem max_t (l : List Int) (n : Nat) (c : Nat) (es : Nat) (more : Bool) (rw : Bool) (K : Value → Heap → Prop) :
    (fnP Try.prog c0 (hsMax l n c es more rw) (22 : FuncId) [Value.slice (some { block := (0 : Nat), off := (0 : Nat) }) n c] [some (AObj.row (ints l) es more rw true)] K) =
    (br (decide ((↑n : Int) < (1 : Int))) False (Is ((0 : Int) ≤ (0 : Int) ∧ (0 : Int) < (↑n : Int)) ∧ Is ((ints l)[(0 : Nat)]? = some (Value.int IntKind.i64 (List.getD l (0 : Nat) (0 : Int)))) ∧ (∃ s, Is (Prod.fst s ≤ List.length l ∧ mxG (Prod.snd s) (List.drop (Prod.fst s) l) = mxL l) ∧ [Value.slice (some { block := (0 : Nat), off := (0 : Nat) }) n c, poi, poi, Value.int IntKind.i64 (List.getD l (0 : Nat) (0 : Int)), Value.int IntKind.i64 (1 : Int), poi, poi, poi, poi, poi, poi, poi, poi, poi, poi, poi, poi, poi, poi, poi, poi, poi, poi, poi, poi] = [Value.slice (some { block := (0 : Nat), off := (0 : Nat) }) n c, poi, poi, Value.int IntKind.i64 (Prod.snd s), Value.int IntKind.i64 (↑(Prod.fst s) : Int), poi, poi, poi, poi, poi, poi, poi, poi, poi, poi, poi, poi, poi, poi, poi, poi, poi, poi, poi, poi] ∧ some (AObj.row (ints l) es more rw true) :: noH = some (AObj.row (ints l) es more rw true) :: noH) ∧ ∀ (s : Nat × Int), Is (Prod.fst s ≤ List.length l ∧ mxG (Prod.snd s) (List.drop (Prod.fst s) l) = mxL l) → br (decide ((↑(Prod.fst s) : Int) < (↑n : Int))) (Is ((0 : Int) ≤ (↑(Prod.fst s) : Int) ∧ (↑(Prod.fst s) : Int) < (↑n : Int)) ∧ Is ((ints l)[(0 : Nat) + Int.toNat (↑(Prod.fst s) : Int) * (1 : Nat)]? = some (Value.int IntKind.i64 (List.getD l ((0 : Nat) + Int.toNat (↑(Prod.fst s) : Int) * (1 : Nat)) (0 : Int)))) ∧ ∃ s', Is (Prod.fst s' ≤ List.length l ∧ mxG (Prod.snd s') (List.drop (Prod.fst s') l) = mxL l) ∧ Is (List.length l - Prod.fst s' < List.length l - Prod.fst s) ∧ [Value.slice (some { block := (0 : Nat), off := (0 : Nat) }) n c, poi, poi, Value.int IntKind.i64 (if List.getD l ((0 : Nat) + Int.toNat (↑(Prod.fst s) : Int) * (1 : Nat)) (0 : Int) > Prod.snd s then List.getD l ((0 : Nat) + Int.toNat (↑(Prod.fst s) : Int) * (1 : Nat)) (0 : Int) else Prod.snd s), Value.int IntKind.i64 (IntKind.wrap IntKind.i64 ((↑(Prod.fst s) : Int) + (1 : Int))), poi, poi, poi, poi, poi, poi, poi, poi, poi, poi, poi, poi, poi, poi, poi, poi, poi, poi, poi, poi] = [Value.slice (some { block := (0 : Nat), off := (0 : Nat) }) n c, poi, poi, Value.int IntKind.i64 (Prod.snd s'), Value.int IntKind.i64 (↑(Prod.fst s') : Int), poi, poi, poi, poi, poi, poi, poi, poi, poi, poi, poi, poi, poi, poi, poi, poi, poi, poi, poi, poi] ∧ some (AObj.row (ints l) es more rw true) :: noH = some (AObj.row (ints l) es more rw true) :: noH) (K (Value.int IntKind.i64 (Prod.snd s)) (some (AObj.row (ints l) es more rw true) :: noH)))) := by kernel_rfl
theorem mxG_drop {l : List Int} {i : Nat} (m : Int) (h : i < l.length) : mxG m (l.drop i) = mxG (if l.getD i 0 > m then l.getD i 0 else m) (l.drop (i + 1)) := by
  rw [List.drop_eq_getElem_cons h]
  simp [mxG, List.getD_eq_getElem?_getD, h]
/- Lines, checked. -/
end
end Qq
end
section
/- Samples, checked. -/
open Go Go.Vm Go.Proofs Sp
namespace Sp
noncomputable section
/-- The integer of a sample. -/
noncomputable def lev (x : Nat) : Int := fInt (fMul x 1098907648)
end
end Sp
namespace Qq
noncomputable section
end
end Qq
namespace Fl
open Ieee Sp
/-- What a sample is. -/
structure Smp (x : Nat) : Prop where
  fin : IsF x
  v : val x * 16 = lev x * (one : Int)
  few : (lev x).natAbs ≤ 16384
  m1 : fMulOk x 1098907648
  m2 : fMulOk 1098907648 x
  i1 : fIntOk (fMul x 1098907648)
end Fl
namespace Qq
noncomputable section
/- The integer of a sample. -/
end
end Qq
end
section
/- Runs, checked: the program. -/
open Go Go.Vm Go.Proofs Sp
namespace Sp
noncomputable section
end
end Sp
namespace Qq
noncomputable section
/- The errors of samples. -/
noncomputable def oneR (l : List Int) : Option AObj := some (.row (ints l) 1 true true true)
/- Holes. -/
end
end Qq
end
section
/- Moments of a run. -/
open Go Go.Vm Go.Proofs Sp
namespace Sp
noncomputable section
end
end Sp
namespace Qq
noncomputable section
/- The reference. -/
/- Copies; short runs. -/
/-- Moments are bounded. -/
structure MoB (m : Int × Int × Int) (i : Nat) : Prop where
  c0 : 0 ≤ m.1
  c1 : m.1 ≤ i
  s0 : -(16384 * (i : Int)) ≤ m.2.1
  s1 : m.2.1 ≤ 16384 * i
  q0 : 0 ≤ m.2.2
  q1 : m.2.2 ≤ 268435456 * i
theorem MoB.zero : MoB (0, 0, 0) 0 := ⟨by simp, by simp, by simp, by simp, by simp, by simp⟩
theorem MoB.more {m : Int × Int × Int} {i : Nat} (h : MoB m i) : MoB m (i + 1) := by
  obtain ⟨a, b, c, d, e, f⟩ := h
  exact ⟨a, by omega, by omega, by omega, e, by omega⟩
end
end Qq
end
section
/- Indices, the worst window: the program, and the reference. -/
open Go Go.Vm Go.Proofs Sp
namespace Sp
noncomputable section
noncomputable def ixV (v : Int) : List Int → Nat → Int
  | [], _ => -1
  | x :: r, i => if x = v then (i : Int) else ixV v r (i + 1)
end
end Sp
namespace Qq
noncomputable section
/- The first index of a value. -/
noncomputable def lpXi (l : List Int) (n c : Nat) (v : Int) : Lp where
  σ := Nat
  E s := slots 19 [(0, .slice (some ⟨0, 0, none⟩) n c), (1, .int .i64 v), (7, .int .i64 (Int.ofNat n)), (8, .int .i64 (Int.ofNat s))]
  Hp _ := [oneR l]
  I s := s ≤ n ∧ ixV v (l.drop s) s = ixV v l 0
  m s := n - s
noncomputable def hsXi (l : List Int) (n c : Nat) (v : Int) : Hs Try.prog where
  op y := if y = 403 then some (hIa Try.prog) else if y = 404 then some (hLd Try.prog (zI l)) else none
  lp _ := some (lpXi l n c v)
  cl _ := keep 19 [0, 1, 7, 8]
  au := au0 Try.prog
theorem xi_t (l : List Int) (n : Nat) (c : Nat) (v : Int) (K : Value → Heap → Prop) :
    (fnP Try.prog c0 (hsXi l n c v) (23 : FuncId) [Value.slice (some { block := (0 : Nat), off := (0 : Nat) }) n c, Value.int IntKind.i64 v] [oneR l] K) =
    ((∃ (s : Nat), Is (s ≤ n ∧ ixV v (List.drop s l) s = ixV v l (0 : Nat)) ∧ [Value.slice (some { block := (0 : Nat), off := (0 : Nat) }) n c, Value.int IntKind.i64 v, poi, poi, poi, poi, poi, Value.int IntKind.i64 (↑n : Int), Value.int IntKind.i64 (0 : Int), poi, poi, poi, poi, poi, poi, poi, poi, poi, poi] = [Value.slice (some { block := (0 : Nat), off := (0 : Nat) }) n c, Value.int IntKind.i64 v, poi, poi, poi, poi, poi, Value.int IntKind.i64 (↑n : Int), Value.int IntKind.i64 (↑s : Int), poi, poi, poi, poi, poi, poi, poi, poi, poi, poi] ∧ some (AObj.row (ints l) (1 : Nat) true true true) :: noH = some (AObj.row (ints l) (1 : Nat) true true true) :: noH) ∧ ∀ (s : Nat), Is (s ≤ n ∧ ixV v (List.drop s l) s = ixV v l (0 : Nat)) → br (decide ((↑s : Int) < (↑n : Int))) (Is ((0 : Int) ≤ (↑s : Int) ∧ (↑s : Int) < (↑n : Int)) ∧ Is ((ints l)[(0 : Nat) + Int.toNat (↑s : Int) * (1 : Nat)]? = some (Value.int IntKind.i64 (List.getD l ((0 : Nat) + Int.toNat (↑s : Int) * (1 : Nat)) (0 : Int)))) ∧ br (v == List.getD l ((0 : Nat) + Int.toNat (↑s : Int) * (1 : Nat)) (0 : Int)) (K (Value.int IntKind.i64 (↑s : Int)) (some (AObj.row (ints l) (1 : Nat) true true true) :: noH)) (∃ (s' : Nat), Is (s' ≤ n ∧ ixV v (List.drop s' l) s' = ixV v l (0 : Nat)) ∧ Is (n - s' < n - s) ∧ [Value.slice (some { block := (0 : Nat), off := (0 : Nat) }) n c, Value.int IntKind.i64 v, poi, poi, poi, poi, poi, Value.int IntKind.i64 (↑n : Int), Value.int IntKind.i64 (IntKind.wrap IntKind.i64 ((↑s : Int) + (1 : Int))), poi, poi, poi, poi, poi, poi, poi, poi, poi, poi] = [Value.slice (some { block := (0 : Nat), off := (0 : Nat) }) n c, Value.int IntKind.i64 v, poi, poi, poi, poi, poi, Value.int IntKind.i64 (↑n : Int), Value.int IntKind.i64 (↑s' : Int), poi, poi, poi, poi, poi, poi, poi, poi, poi, poi] ∧ some (AObj.row (ints l) (1 : Nat) true true true) :: noH = some (AObj.row (ints l) (1 : Nat) true true true) :: noH)) (K (Value.int IntKind.i64 (-1 : Int)) (some (AObj.row (ints l) (1 : Nat) true true true) :: noH))) := by kernel_rfl
noncomputable def orcMaxV (l : List Int) : OrcV
  | [.slice (some ⟨0, 0, none⟩) n _], [some (.row e1 1 true true true)] => some (.int .i64 (mxL l), [some (.row e1 1 true true true)], e1 = ints l ∧ l.length = n ∧ 0 < n ∧ n ≤ 100000)
  | _, _ => none
theorem okMaxV (l : List Int) : OkV Try.prog 22 (orcMaxV l) := by
  intro args H ret H' vc h hv
  unfold orcMaxV at h
  split at h
  · rename_i n c e1
    cases h
    obtain ⟨rfl, rfl, h00, hlt⟩ := hv
    refine fnP_res hm c0_ok (hs := hsMax l l.length c 1 true true) ?_
    rw [max_t]
    refine br_of (fun h => by have := of_decide_eq_true h; omega) (fun _ => ⟨⟨by omega, by omega⟩, ⟨by simpa using ints_at h00⟩, ⟨(1, l.getD 0 0), ⟨by simp only; omega, rfl⟩, by first | trivial | rfl, by first | trivial | rfl⟩, fun s hs => ?_⟩)
    obtain ⟨h1, h2⟩ := hs.out
    refine br_of (fun hc => ?_) (fun hc => ?_)
    · have hc : s.1 < l.length := by simpa using hc
      have st := mxG_drop s.2 hc
      refine ⟨⟨by omega, by omega⟩, ⟨by simpa using ints_at hc⟩, (s.1 + 1, if l.getD s.1 0 > s.2 then l.getD s.1 0 else s.2), ⟨by simp only; omega, by rw [← st, h2]⟩, ⟨by simp only; omega⟩, ?_, by first | trivial | rfl⟩
      simp only [Nat.zero_add, Nat.mul_one, Int.toNat_natCast]
      rw [wrap_eq (by omega) (by omega)]
      rfl
    · have hc : l.length ≤ s.1 := by simpa using hc
      rw [List.drop_eq_nil_of_le hc] at h2
      rw [← h2]
      exact ⟨by first | trivial | rfl, by first | trivial | rfl⟩
  · cases h
theorem zi_drop {l : List Int} {i : Nat} (h : i < l.length) : l.drop i = l.getD i 0 :: l.drop (i + 1) := by
  rw [List.drop_eq_getElem_cons h, List.getD_eq_getElem?_getD, List.getElem?_eq_getElem h]; rfl
set_option maxRecDepth 100000 in
theorem xi_ok {l : List Int} {n c : Nat} {v : Int} (hn : l.length = n) (h9 : n ≤ 100000) :
    SmallRes Try.prog 23 [.slice (some ⟨0, 0, none⟩) n c, .int .i64 v] [oneR l] (.int .i64 (ixV v l 0)) [oneR l] := by
  refine fnP_res hm c0_ok (hs := hsXi l n c v) ?_
  rw [xi_t]
  refine ⟨⟨(0 : Nat), ⟨by omega, by rw [List.drop_zero]⟩, by first | trivial | rfl, by first | trivial | rfl⟩, fun s hs' => br_of (fun hc => ?_) (fun hc => ?_)⟩
  · have hc := lt_of_dec hc
    obtain ⟨i1, i2⟩ := hs'.out
    rw [zi_drop (show s < l.length by omega), ixV] at i2
    simp only [Nat.zero_add, Nat.mul_one, Int.toNat_natCast]
    refine ⟨⟨by omega, by omega⟩, ⟨zint_at (by omega)⟩, br_of (fun hb => ?_) (fun hb => ⟨s + 1, ⟨hc, ?_⟩, ⟨by omega⟩, by rw [up1 hc (by omega)], by first | trivial | rfl⟩)⟩
    · have hb : v = l.getD s 0 := by simpa using hb
      rw [if_pos hb.symm] at i2
      rw [← i2]
      exact ⟨by first | trivial | rfl, by first | trivial | rfl⟩
    · have hb : ¬ v = l.getD s 0 := by simpa using hb
      rw [if_neg (fun e => hb e.symm)] at i2
      exact i2
  · have hc := ge_of_dec hc
    obtain ⟨i1, i2⟩ := hs'.out
    rw [List.drop_eq_nil_of_le (by omega)] at i2
    rw [← i2]
    exact ⟨by first | trivial | rfl, by first | trivial | rfl⟩
noncomputable def orcXi (l : List Int) : OrcV
  | [.slice (some ⟨0, 0, none⟩) n _, .int .i64 v], [some (.row e1 1 true true true)] => some (.int .i64 (ixV v l 0), [some (.row e1 1 true true true)], e1 = ints l ∧ l.length = n ∧ n ≤ 100000)
  | _, _ => none
theorem okXi (l : List Int) : OkV Try.prog 23 (orcXi l) := by
  intro args H ret H' vc h hv
  unfold orcXi at h
  split at h
  · cases h
    obtain ⟨rfl, h1, h2⟩ := hv
    exact xi_ok h1 h2
  · cases h
/- The worst window. -/
/-! ### The worst window -/
end
end Qq
end
section
/- Wear, and the worst one. -/
open Go Go.Vm Go.Proofs Sp
namespace Sp
noncomputable section
/-- The column of the worst wear. -/
noncomputable def atC (L cs : List Int) : Int := cs.getD (ixV (mxL L) L 0).toNat 0
end
end Sp
namespace Qq
noncomputable section
theorem fi2 {a b : Int} : fi [a, b] = 0 ↔ a = 0 ∧ b = 0 := by
  by_cases ha : a = 0
  · by_cases hb : b = 0
    · simp [fi, ha, hb]
    · simp [fi, ha, hb]
  · simp [fi, ha]
theorem wi0 {n lo hi : Int} : wi n lo hi = 0 ↔ lo ≤ n ∧ n ≤ hi := by
  rw [wi]; split <;> omega
theorem wh0 {b : Bool} {e : Int} (he : e ≠ 0) : wh b e = 0 ↔ b = false := by
  cases b
  · exact ⟨fun _ => rfl, fun _ => rfl⟩
  · exact ⟨fun h => absurd h he, fun h => by cases h⟩
theorem sel0 {e d : Int} : sel e d = 0 ↔ e = 0 ∧ d = 0 := by
  rw [sel]; split
  · rename_i h; exact ⟨fun h2 => ⟨h, h2⟩, fun h2 => h2.2⟩
  · rename_i h; exact ⟨fun h2 => absurd h2 h, fun h2 => absurd h2.1 h⟩
theorem errs0 {f : Nat → Int} {n : Nat} : errs f 0 n = 0 ↔ ∀ i, i < n → f i = 0 :=
  ⟨fun h j hj => errs_zero h j (Nat.zero_le _) (by omega), fun h => errs_all fun j _ h2 => h j (by omega)⟩
theorem pf_iff {zs : List Int} {n : Nat} (hl : zs.length = n * 2) : pfE zs n = 0 ↔ PfOk zs n := by
  rw [pfE, sel0, fi2, wh0 (by decide), wh0 (by decide), decide_eq_false_iff_not, decide_eq_false_iff_not, errs0]
  constructor
  · rintro ⟨⟨h1, h2⟩, h3⟩
    have k : ∀ i, i < n → chkP (zs.getD (i * 2) 0) (zs.getD (i * 2 + 1) 0) = 0 ∧ (decide (0 < i) && decide (zs.getD (i * 2) 0 ≤ zs.getD ((i - 1) * 2) 0)) = false := fun i hi => by
      have := h3 i hi
      rw [pfI, fi2, wh0 (by decide)] at this
      exact this
    refine ⟨hl, by omega, by omega, fun i hi => ?_, fun i hi => ?_, fun i hi => ?_⟩
    · have := (k i hi).1; rw [chkP, fi2, wi0, wi0] at this; exact this.1
    · have := (k i hi).1; rw [chkP, fi2, wi0, wi0] at this; exact this.2
    · have := (k (i + 1) hi).2
      rw [decide_eq_true (Nat.succ_pos i), Bool.true_and, decide_eq_false_iff_not, Nat.add_sub_cancel] at this
      omega
  · intro h
    have h1 := h.lo
    have h2 := h.hi
    refine ⟨⟨by omega, by omega⟩, fun i hi => ?_⟩
    rw [pfI, fi2, chkP, fi2, wi0, wi0, wh0 (by decide)]
    refine ⟨⟨h.x i hi, h.y i hi⟩, ?_⟩
    cases i with
    | zero => rfl
    | succ j =>
      have := h.up j hi
      rw [decide_eq_true (Nat.succ_pos j), Bool.true_and, decide_eq_false_iff_not, Nat.add_sub_cancel]
      omega
theorem okZ_isZ {e : List Value} {n : Nat} (h : okZ e n) : isZ e n := ⟨h.1, h.2.len, by have := h.2.hi; omega⟩
theorem okZ_pos {e : List Value} {n : Nat} (h : okZ e n) : 0 < n := by have := h.2.lo; omega
theorem okZ_pf {e : List Value} {n : Nat} (h : okZ e n) : pfE (deI e) n = 0 := (pf_iff h.2.len).2 h.2
noncomputable def orcWx : OrcV
  | [.slice (some ⟨0, 0, none⟩) n _, .slice (some ⟨1, 0, none⟩) k _, .slice (some ⟨2, 0, none⟩) l _], [some (.row e 2 true true true), some (.row g 2 true true true), some (.row cs 1 true true true)] =>
    some (.tuple #[.slice (some ⟨3, 0, none⟩) l 0, .int .i64 0], [some (.row e 2 true true true), some (.row g 2 true true true), some (.row cs 1 true true true), some (.row (ints (wrL (deI e) n (deI g) k (deI cs))) 1 true true true)], weO e n g k cs l)
  | _, _ => none
theorem okWx : OkV Try.prog 11 orcWx := by
  intro args H ret H' vc h hv
  unfold orcWx at h
  split at h
  · cases h
    obtain ⟨h1, h2, h3, h4⟩ := hv
    refine fnP_res hm c0_ok (hs := hsWx) ?_
    show fnP Try.prog c0 hsWx 11 _ [r2c _, r2c _, r1c _] _
    rw [wx_t, okZ_pf h1, okZ_pf h2, h4]
    exact ⟨⟨okZ_isZ h1, okZ_isZ h2⟩, ⟨h3, ⟨okZ_isZ h1, okZ_pos h1⟩, okZ_isZ h2, okZ_pos h2⟩, ⟨h3, h1, h2⟩, by first | trivial | rfl, by first | trivial | rfl⟩
  · cases h
noncomputable def hsWo (zs ys cs : List Int) (n k : Nat) : Hs Try.prog where
  op y := if y = 505 then some (hIa Try.prog) else if y = 506 then some (hLd Try.prog (zI cs)) else none
  au := auCalls [(11, hCa Try.prog 11 orcWx okWx), (22, hCa Try.prog 22 (orcMaxV (wrL zs n ys k cs)) (okMaxV _)), (23, hCa Try.prog 23 (orcXi (wrL zs n ys k cs)) (okXi _))]
theorem wo_t (zs : List Int) (ys : List Int) (cs : List Int) (n : Nat) (c : Nat) (k : Nat) (d : Nat) (l : Nat) (a : Nat) (K : Value → Heap → Prop) :
    (fnP Try.prog c0 (hsWo zs ys cs n k) (9 : FuncId) [Value.slice (some { block := (0 : Nat), off := (0 : Nat) }) n c, Value.slice (some { block := (1 : Nat), off := (0 : Nat) }) k d, Value.slice (some { block := (2 : Nat), off := (0 : Nat) }) l a] [rZ zs true true, rZ ys true true, rC cs] K) =
    (Is (weO (ints zs) n (ints ys) k (ints cs) l) ∧ Is (ints (wrL (deI (ints zs)) n (deI (ints ys)) k (deI (ints cs))) = ints (wrL zs n ys k cs) ∧ List.length (wrL zs n ys k cs) = l ∧ (0 : Nat) < l ∧ l ≤ (100000 : Nat)) ∧ Is (ints (wrL (deI (ints zs)) n (deI (ints ys)) k (deI (ints cs))) = ints (wrL zs n ys k cs) ∧ List.length (wrL zs n ys k cs) = l ∧ l ≤ (100000 : Nat)) ∧ Is ((0 : Int) ≤ ixV (mxL (wrL zs n ys k cs)) (wrL zs n ys k cs) (0 : Nat) ∧ ixV (mxL (wrL zs n ys k cs)) (wrL zs n ys k cs) (0 : Nat) < (↑l : Int)) ∧ Is ((ints cs)[(0 : Nat) + Int.toNat (ixV (mxL (wrL zs n ys k cs)) (wrL zs n ys k cs) (0 : Nat)) * (1 : Nat)]? = some (Value.int IntKind.i64 (List.getD cs ((0 : Nat) + Int.toNat (ixV (mxL (wrL zs n ys k cs)) (wrL zs n ys k cs) (0 : Nat)) * (1 : Nat)) (0 : Int)))) ∧ K (Value.tuple #[Value.int IntKind.i64 (mxL (wrL zs n ys k cs)), Value.int IntKind.i64 (List.getD cs ((0 : Nat) + Int.toNat (ixV (mxL (wrL zs n ys k cs)) (wrL zs n ys k cs) (0 : Nat)) * (1 : Nat)) (0 : Int)), Value.int IntKind.i64 (0 : Int)]) (some (AObj.row (ints zs) (2 : Nat) true true true) :: some (AObj.row (ints ys) (2 : Nat) true true true) :: some (AObj.row (ints cs) (1 : Nat) true true true) :: noH)) := by kernel_rfl
theorem mxG_all : ∀ (l : List Int) (m : Int), (mxG m l = m ∨ mxG m l ∈ l) ∧ m ≤ mxG m l ∧ ∀ x ∈ l, x ≤ mxG m l
  | [], m => by rw [mxG]; exact ⟨.inl rfl, Int.le_refl _, fun x h => by cases h⟩
  | y :: r, m => by
    rw [mxG]
    obtain ⟨h1, h2, h3⟩ := mxG_all r (if y > m then y else m)
    refine ⟨?_, ?_, fun x hx => ?_⟩
    · rcases h1 with h1 | h1
      · rw [h1]; split
        · exact .inr (List.mem_cons_self ..)
        · exact .inl rfl
      · exact .inr (List.mem_cons_of_mem _ h1)
    · refine Int.le_trans ?_ h2
      split <;> omega
    · rcases List.mem_cons.1 hx with rfl | hx
      · refine Int.le_trans ?_ h2
        split <;> omega
      · exact h3 x hx
theorem mxL_mem : ∀ {l : List Int}, 0 < l.length → mxL l ∈ l
  | y :: r, _ => by
    have : mxL (y :: r) = mxG y r := rfl
    rw [this]
    rcases (mxG_all r y).1 with h | h
    · rw [h]; exact List.mem_cons_self ..
    · exact List.mem_cons_of_mem _ h
theorem mxL_ge : ∀ {l : List Int} {x : Int}, x ∈ l → x ≤ mxL l
  | y :: r, x, h => by
    have e : mxL (y :: r) = mxG y r := rfl
    rw [e]
    obtain ⟨_, h2, h3⟩ := mxG_all r y
    rcases List.mem_cons.1 h with rfl | h
    · exact h2
    · exact h3 x h
theorem ixV_spec {v : Int} : ∀ {l : List Int} (i : Nat), v ∈ l → ∃ j, j < l.length ∧ ixV v l i = ((i + j : Nat) : Int) ∧ l.getD j 0 = v ∧ ∀ t, t < j → l.getD t 0 ≠ v
  | x :: r, i, h => by
    rw [ixV]
    split
    · rename_i e
      exact ⟨0, by simp, rfl, e, fun t ht => by omega⟩
    · rename_i e
      have h : v ∈ r := by
        rcases List.mem_cons.1 h with rfl | h
        · exact absurd rfl e
        · exact h
      obtain ⟨j, h1, h2, h3, h4⟩ := ixV_spec (i + 1) h
      refine ⟨j + 1, by simp only [List.length_cons]; omega, by rw [h2]; congr 1; omega, h3, fun t ht => ?_⟩
      cases t with
      | zero => exact e
      | succ t => exact h4 t (by omega)
theorem col2_pos {zs ys : List Int} {n k : Nat} {cs : List Int} {l : Nat} (h : col2 zs n ys k cs l = 0) : 0 < l ∧ l ≤ 64 := by
  rw [col2, sel0, fi2, wh0 (by decide), wh0 (by decide)] at h
  obtain ⟨⟨h1, h2⟩, _⟩ := h
  have h1 : ¬ (l : Int) = 0 := by simpa using h1
  have h2 := of_decide_eq_false h2
  omega
noncomputable def orcWo : OrcV
  | [.slice (some ⟨0, 0, none⟩) n _, .slice (some ⟨1, 0, none⟩) k _, .slice (some ⟨2, 0, none⟩) l _], [some (.row e 2 true true true), some (.row g 2 true true true), some (.row cs 1 true true true)] =>
    some (.tuple #[.int .i64 (mxL (wrL (deI e) n (deI g) k (deI cs))), .int .i64 (atC (wrL (deI e) n (deI g) k (deI cs)) (deI cs)), .int .i64 0], [some (.row e 2 true true true), some (.row g 2 true true true), some (.row cs 1 true true true)], weO e n g k cs l)
  | _, _ => none
theorem okWo : OkV Try.prog 9 orcWo := by
  intro args H ret H' vc h hv
  unfold orcWo at h
  split at h
  · rename_i n c k d l a e g cs
    cases h
    have hv' := hv
    obtain ⟨⟨e1, h1⟩, ⟨e2, h2⟩, ⟨e3, h3, h3'⟩, h4⟩ := hv
    have hp := col2_pos h4
    revert hv' h1 h2 h3 h3' h4
    rw [e1, e2, e3]
    simp only [deI_ints]
    generalize deI e = zs
    generalize deI g = ys
    generalize deI cs = xs
    intro hv' h1 h2 h4 h3 h3'
    refine fnP_res hm c0_ok (hs := hsWo zs ys xs n k) ?_
    show fnP Try.prog c0 (hsWo zs ys xs n k) 9 _ [rZ zs true true, rZ ys true true, rC xs] _
    rw [wo_t]
    simp only [deI_ints]
    have hL : (wrL zs n ys k xs).length = l := by rw [wrL_len, h3]
    obtain ⟨j, j1, j2, _, _⟩ := ixV_spec 0 (mxL_mem (l := wrL zs n ys k xs) (by omega))
    rw [Nat.zero_add] at j2
    rw [atC, j2, Int.toNat_natCast, Nat.zero_add, Nat.mul_one]
    exact ⟨⟨hv'⟩, ⟨by first | trivial | rfl, hL, hp.1, by omega⟩, ⟨by first | trivial | rfl, hL, by omega⟩, ⟨by omega, by omega⟩, ⟨zint_at (by omega)⟩, by first | trivial | rfl, by first | trivial | rfl⟩
  · cases h
end
end Qq
end
section
/- Comparing what is due. -/
open Go Go.Vm Go.Proofs Sp
namespace Sp
noncomputable section
noncomputable def cmI (a b : Int) : Int := if a < b then -1 else if b < a then 1 else 0
end
end Sp
namespace Qq
noncomputable section
noncomputable def orcNan : OrcV
  | [.int .i64 _], [] => some (.bool false, [], True)
  | _, _ => none
noncomputable def orcCmI : OrcV
  | [.int .i64 a, .int .i64 b], [] => some (.int .i64 (cmI a b), [], True)
  | _, _ => none
noncomputable def hsNo : Hs Try.prog where
  au := au0 Try.prog
theorem nan_t (a : Int) (K : Value → Heap → Prop) :
    (fnP Try.prog c0 hsNo (87 : FuncId) [Value.int IntKind.i64 a] [] K) =
    (K (Value.bool (a != a)) noH) := by kernel_rfl
theorem okNan : OkV Try.prog 87 orcNan := by
  intro args H ret H' vc h hv
  unfold orcNan at h
  split at h
  · rename_i a
    cases h
    refine fnP_res hm c0_ok (hs := hsNo) ?_
    rw [nan_t]
    exact ⟨by simp, rfl⟩
  · cases h
noncomputable def hsCm : Hs Try.prog where
  au := auCalls [(87, hCa Try.prog 87 orcNan okNan)]
theorem cm_t (a : Int) (b : Int) (K : Value → Heap → Prop) :
    (fnP Try.prog c0 hsCm (57 : FuncId) [Value.int IntKind.i64 a, Value.int IntKind.i64 b] [] K) =
    (Is True ∧ Is True ∧ br (decide (a < b)) (K (Value.int IntKind.i64 (-1 : Int)) noH) (br (decide (b < a)) (K (Value.int IntKind.i64 (1 : Int)) noH) (K (Value.int IntKind.i64 (0 : Int)) noH))) := by kernel_rfl
theorem okCmI : OkV Try.prog 57 orcCmI := by
  intro args H ret H' vc h hv
  unfold orcCmI at h
  split at h
  · rename_i a b
    cases h
    refine fnP_res hm c0_ok (hs := hsCm) ?_
    rw [cm_t, cmI]
    refine ⟨⟨trivial⟩, ⟨trivial⟩, br_of (fun h => ?_) (fun h => br_of (fun h2 => ?_) (fun h2 => ?_))⟩
    · rw [if_pos (of_decide_eq_true h)]; exact ⟨rfl, rfl⟩
    · rw [if_neg (of_decide_eq_false h), if_pos (of_decide_eq_true h2)]; exact ⟨rfl, rfl⟩
    · rw [if_neg (of_decide_eq_false h), if_neg (of_decide_eq_false h2)]; exact ⟨rfl, rfl⟩
  · cases h
end
end Qq
end
section
/- Moves and their prices: how they are compared. -/
open Go Go.Vm Go.Proofs Sp
namespace Sp
noncomputable section
noncomputable def pv (x y c : Int) : Value := .agg #[.int .i64 x, .int .i64 y, .int .i64 c]
noncomputable def mxa (x : Int) : Int := if x < -x then -x else x
noncomputable def farI (x y : Int) : Int := mxa x + mxa y
noncomputable def or3 (a b c : Int) : Int := if a = 0 then if b = 0 then c else b else a
end
end Sp
namespace Qq
noncomputable section
theorem or3_t (a : Int) (b : Int) (d : Int) (c : Nat) (K : Value → Heap → Prop) :
    (fnP Try.prog c0 hsNo (56 : FuncId) [Value.slice (some { block := (0 : Nat), off := (0 : Nat) }) (3 : Nat) c] [some (AObj.row [Value.int IntKind.i64 a, Value.int IntKind.i64 b, Value.int IntKind.i64 d] (1 : Nat) false true true)] K) =
    (br (a != (0 : Int)) (K (Value.int IntKind.i64 a) (some (AObj.row [Value.int IntKind.i64 a, Value.int IntKind.i64 b, Value.int IntKind.i64 d] (1 : Nat) false true true) :: noH)) (br (b != (0 : Int)) (K (Value.int IntKind.i64 b) (some (AObj.row [Value.int IntKind.i64 a, Value.int IntKind.i64 b, Value.int IntKind.i64 d] (1 : Nat) false true true) :: noH)) (br (d != (0 : Int)) (K (Value.int IntKind.i64 d) (some (AObj.row [Value.int IntKind.i64 a, Value.int IntKind.i64 b, Value.int IntKind.i64 d] (1 : Nat) false true true) :: noH)) (K (Value.int IntKind.i64 (0 : Int)) (some (AObj.row [Value.int IntKind.i64 a, Value.int IntKind.i64 b, Value.int IntKind.i64 d] (1 : Nat) false true true) :: noH))))) := by kernel_rfl
theorem far_t (x : Int) (y : Int) (K : Value → Heap → Prop) :
    (fnP Try.prog c0 hsNo (58 : FuncId) [Value.agg #[Value.int IntKind.i64 x, Value.int IntKind.i64 y]] [] K) =
    (K (Value.int IntKind.i64 (IntKind.wrap IntKind.i64 ((if IntKind.wrap IntKind.i64 ((0 : Int) - x) > x then IntKind.wrap IntKind.i64 ((0 : Int) - x) else x) + if IntKind.wrap IntKind.i64 ((0 : Int) - y) > y then IntKind.wrap IntKind.i64 ((0 : Int) - y) else y))) noH) := by kernel_rfl
noncomputable def hsCp : Hs Try.prog where
  au := auCalls [(57, hCa Try.prog 57 orcCmI okCmI)]
noncomputable def bx3 (x y c : Int) : Option AObj := some (.row [.int .i64 x, .int .i64 y, .int .i64 c] 0 false true true)
theorem sc_t (x : Int) (y : Int) (c : Int) (u : Int) (v : Int) (d : Int) (K : Value → Heap → Prop) :
    (fnP Try.prog c0 hsCp (59 : FuncId) [Value.slice (some { block := (0 : Nat), off := (0 : Nat) }) (2 : Nat) (2 : Nat), Value.slice (some { block := (1 : Nat), off := (0 : Nat) }) (2 : Nat) (2 : Nat)] [bx3 x y c, bx3 u v d] K) =
    (Is True ∧ br (cmI x u != (0 : Int)) (K (Value.int IntKind.i64 (cmI x u)) (some (AObj.row [Value.int IntKind.i64 x, Value.int IntKind.i64 y, Value.int IntKind.i64 c] (0 : Nat) false true true) :: some (AObj.row [Value.int IntKind.i64 u, Value.int IntKind.i64 v, Value.int IntKind.i64 d] (0 : Nat) false true true) :: noH)) (Is True ∧ br (cmI y v != (0 : Int)) (K (Value.int IntKind.i64 (cmI y v)) (some (AObj.row [Value.int IntKind.i64 x, Value.int IntKind.i64 y, Value.int IntKind.i64 c] (0 : Nat) false true true) :: some (AObj.row [Value.int IntKind.i64 u, Value.int IntKind.i64 v, Value.int IntKind.i64 d] (0 : Nat) false true true) :: noH)) (K (Value.int IntKind.i64 (0 : Int)) (some (AObj.row [Value.int IntKind.i64 x, Value.int IntKind.i64 y, Value.int IntKind.i64 c] (0 : Nat) false true true) :: some (AObj.row [Value.int IntKind.i64 u, Value.int IntKind.i64 v, Value.int IntKind.i64 d] (0 : Nat) false true true) :: noH)))) := by kernel_rfl
noncomputable def orcOr3 : OrcV
  | [.slice (some ⟨0, 0, none⟩) 3 _], [some (.row [.int .i64 a, .int .i64 b, .int .i64 d] 1 false true true)] => some (.int .i64 (or3 a b d), [some (.row [.int .i64 a, .int .i64 b, .int .i64 d] 1 false true true)], True)
  | _, _ => none
noncomputable def orcFar : OrcV
  | [.agg ⟨[.int .i64 x, .int .i64 y]⟩], [] => some (.int .i64 (farI x y), [], (-1000 ≤ x ∧ x ≤ 1000) ∧ -1000 ≤ y ∧ y ≤ 1000)
  | _, _ => none
noncomputable def orcSc : OrcV
  | [.slice (some ⟨0, 0, none⟩) 2 2, .slice (some ⟨1, 0, none⟩) 2 2], [some (.row [.int .i64 x, .int .i64 y, .int .i64 c] 0 false true true), some (.row [.int .i64 u, .int .i64 v, .int .i64 d] 0 false true true)] =>
    some (.int .i64 (or3 (cmI x u) (cmI y v) 0), [some (.row [.int .i64 x, .int .i64 y, .int .i64 c] 0 false true true), some (.row [.int .i64 u, .int .i64 v, .int .i64 d] 0 false true true)], True)
  | _, _ => none
theorem okOr3 : OkV Try.prog 56 orcOr3 := by
  intro args H ret H' vc h hv
  unfold orcOr3 at h
  split at h
  · rename_i c a b d
    cases h
    refine fnP_res hm c0_ok (hs := hsNo) ?_
    rw [or3_t, or3]
    refine br_of (fun h => ?_) (fun h => br_of (fun h2 => ?_) (fun h2 => br_of (fun h3 => ?_) (fun h3 => ?_)))
    · have h : a ≠ 0 := by simpa using h
      rw [if_neg h]; exact ⟨rfl, rfl⟩
    · have h : a = 0 := by simpa using h
      have h2 : b ≠ 0 := by simpa using h2
      rw [if_pos h, if_neg h2]; exact ⟨rfl, rfl⟩
    · have h : a = 0 := by simpa using h
      have h2 : b = 0 := by simpa using h2
      rw [if_pos h, if_pos h2]; exact ⟨rfl, rfl⟩
    · have h : a = 0 := by simpa using h
      have h2 : b = 0 := by simpa using h2
      have h3 : d = 0 := by simpa using h3
      rw [if_pos h, if_pos h2, h3]; exact ⟨rfl, rfl⟩
  · cases h
theorem okFar : OkV Try.prog 58 orcFar := by
  intro args H ret H' vc h hv
  unfold orcFar at h
  split at h
  · rename_i x y
    cases h
    obtain ⟨⟨h1, h2⟩, h3, h4⟩ := hv
    refine fnP_res hm c0_ok (hs := hsNo) ?_
    show fnP Try.prog c0 hsNo 58 [.agg #[.int .i64 x, .int .i64 y]] [] _
    rw [far_t]
    have e : ∀ z : Int, -1000 ≤ z → z ≤ 1000 → IntKind.wrap .i64 (0 - z) = -z := fun z a b => (wrap_eq (by omega) (by omega)).trans (by omega)
    have m : ∀ z : Int, -1000 ≤ z → z ≤ 1000 → -1000 ≤ mxa z ∧ mxa z ≤ 1000 := fun z a b => by rw [mxa]; split <;> omega
    rw [e x h1 h2, e y h3 h4]
    have m1 := m x h1 h2
    have m2 := m y h3 h4
    have a1 : (if -x > x then -x else x) = mxa x := rfl
    have a2 : (if -y > y then -y else y) = mxa y := rfl
    rw [a1, a2, wrap_eq (by omega) (by omega)]
    exact ⟨rfl, rfl⟩
  · cases h
theorem okSc : OkV Try.prog 59 orcSc := by
  intro args H ret H' vc h hv
  unfold orcSc at h
  split at h
  · rename_i x y c u v d
    cases h
    refine fnP_res hm c0_ok (hs := hsCp) ?_
    show fnP Try.prog c0 hsCp 59 _ [bx3 x y c, bx3 u v d] _
    rw [sc_t, or3]
    refine ⟨⟨trivial⟩, br_of (fun h => ?_) (fun h => ⟨⟨trivial⟩, br_of (fun h2 => ?_) (fun h2 => ?_)⟩)⟩
    · have h : cmI x u ≠ 0 := by simpa using h
      rw [if_neg h]; exact ⟨rfl, rfl⟩
    · have h : cmI x u = 0 := by simpa using h
      have h2 : cmI y v ≠ 0 := by simpa using h2
      rw [if_pos h, if_neg h2]; exact ⟨rfl, rfl⟩
    · have h : cmI x u = 0 := by simpa using h
      have h2 : cmI y v = 0 := by simpa using h2
      rw [if_pos h, if_pos h2]; exact ⟨rfl, rfl⟩
  · cases h
noncomputable def hsCq : Hs Try.prog where
  au := auCalls [(57, hCa Try.prog 57 orcCmI okCmI), (58, hCa Try.prog 58 orcFar okFar), (59, hCa Try.prog 59 orcSc okSc), (56, hCa Try.prog 56 orcOr3 okOr3)]
theorem cp_t (x : Int) (y : Int) (c : Int) (u : Int) (v : Int) (d : Int) (K : Value → Heap → Prop) :
    (fnP Try.prog c0 hsCq (32 : FuncId) [pv x y c, pv u v d] [] K) =
    (Is True ∧ Is (((-1000 : Int) ≤ x ∧ x ≤ (1000 : Int)) ∧ (-1000 : Int) ≤ y ∧ y ≤ (1000 : Int)) ∧ Is (((-1000 : Int) ≤ u ∧ u ≤ (1000 : Int)) ∧ (-1000 : Int) ≤ v ∧ v ≤ (1000 : Int)) ∧ Is True ∧ Is True ∧ Is True ∧ K (Value.int IntKind.i64 (or3 (cmI c d) (cmI (farI x y) (farI u v)) (or3 (cmI x u) (cmI y v) (0 : Int)))) noH) := by kernel_rfl
noncomputable def cpI (x y c u v d : Int) : Int := or3 (cmI c d) (cmI (farI x y) (farI u v)) (or3 (cmI x u) (cmI y v) 0)
def mvIn (x y : Int) : Prop := (-1000 ≤ x ∧ x ≤ 1000) ∧ -1000 ≤ y ∧ y ≤ 1000
noncomputable def orcCp : OrcV
  | [.agg ⟨[.int .i64 x, .int .i64 y, .int .i64 c]⟩, .agg ⟨[.int .i64 u, .int .i64 v, .int .i64 d]⟩], [] => some (.int .i64 (cpI x y c u v d), [], mvIn x y ∧ mvIn u v)
  | _, _ => none
theorem okCp : OkV Try.prog 32 orcCp := by
  intro args H ret H' vc h hv
  unfold orcCp at h
  split at h
  · rename_i x y c u v d
    cases h
    refine fnP_res hm c0_ok (hs := hsCq) ?_
    show fnP Try.prog c0 hsCq 32 [pv x y c, pv u v d] [] _
    rw [cp_t]
    exact ⟨⟨trivial⟩, ⟨hv.1⟩, ⟨hv.2⟩, ⟨trivial⟩, ⟨trivial⟩, ⟨trivial⟩, rfl, rfl⟩
  · cases h
end
end Qq
end
