/- Parts of the proof: QA, QF, RO, HA, HM, HN, HS, HB, HC, HD, HQ, HO. -/
import Derived.Test.YtellllnlidiljaaZAC
import Derived.Test.YtellllnlidiljaaProg
section
/- Contracts of the small functions of chapter 8: errors, ranges, moments, quotients in lowest terms. -/
open Go Go.Vm Go.Proofs Sp
namespace Qq
noncomputable section

theorem hm : Try.prog.follows .mixedOrders = true := by kernel_rfl
theorem ints_at {l : List Int} {i : Nat} (h : i < l.length) : (ints l)[i]? = some (.int .i64 (l.getD i 0)) := by
  simp [ints, List.getD_eq_getElem?_getD, h]
theorem fi_drop {l : List Int} {i : Nat} (h : i < l.length) : fi (l.drop i) = if l.getD i 0 = 0 then fi (l.drop (i + 1)) else l.getD i 0 := by
  rw [List.drop_eq_getElem_cons h]
  simp [fi, List.getD_eq_getElem?_getD, h]

noncomputable def orcWhen : Orc
  | [.bool b, .int .i64 e], [] => some (.int .i64 (wh b e), [])
  | _, _ => none
noncomputable def orcFirst : Orc
  | [.slice (some ⟨0, 0, none⟩) n _c], [some (.row cells es more rw true)] =>
    match intsOf cells with
    | some l => if n = l.length ∧ n < 1000 then some (.int .i64 (fi l), [some (.row cells es more rw true)]) else none
    | none => none
  | _, _ => none

noncomputable def c0 : CallF := ctx Try.prog []
theorem c0_ok : CallOK Try.prog c0 := ctx_ok hm all_nil
noncomputable def h0 : Hs Try.prog := {au := au0 Try.prog}
theorem when_t (b : Bool) (e : Int) (K : Value → Heap → Prop) :
    (fnP Try.prog c0 h0 (26 : FuncId) [Value.bool b, Value.int IntKind.i64 e] [] K) =
    (br b (K (Value.int IntKind.i64 e) noH) (K (Value.int IntKind.i64 (0 : Int)) noH)) := by kernel_rfl
theorem okWhen : Ok Try.prog 26 orcWhen := by
  intro args H ret H' h
  unfold orcWhen at h
  split at h
  · cases h
    refine fnP_res hm c0_ok (hs := h0) ?_
    rw [when_t]
    exact br_of (fun h => by simp [wh, h]) (fun h => by simp [wh, h])
  · cases h
noncomputable def lpFirst (l : List Int) (n c es : Nat) (more rw : Bool) : Lp where
  σ := Nat
  E i := slots 15 [(5, .slice (some ⟨0, 0, none⟩) n c), (6, .int .i64 (Int.ofNat n)), (7, .int .i64 (Int.ofNat i))]
  Hp _ := [some (.row (ints l) es more rw true)]
  I i := i ≤ l.length ∧ fi (l.drop i) = fi l
  m i := l.length - i
noncomputable def hFirst (l : List Int) (n c es : Nat) (more rw : Bool) : Hs Try.prog where
  op k := if k = 300 then some (hIa Try.prog) else if k = 301 then some (hLd Try.prog fun off => .int .i64 (l.getD off 0)) else none
  lp _ := some (lpFirst l n c es more rw)
  cl _ := keep 15 [5, 6, 7]
theorem first_t (l : List Int) (n : Nat) (c : Nat) (es : Nat) (more : Bool) (rw : Bool) (K : Value → Heap → Prop) :
    (fnP Try.prog c0 (hFirst l n c es more rw) (13 : FuncId) [Value.slice (some { block := (0 : Nat), off := (0 : Nat) }) n c] [some (AObj.row (ints l) es more rw true)] K) =
    ((∃ s, Is (s ≤ List.length l ∧ fi (List.drop s l) = fi l) ∧ [poi, poi, poi, poi, poi, Value.slice (some { block := (0 : Nat), off := (0 : Nat) }) n c, Value.int IntKind.i64 (↑n : Int), Value.int IntKind.i64 (0 : Int), poi, poi, poi, poi, poi, poi, poi] = [poi, poi, poi, poi, poi, Value.slice (some { block := (0 : Nat), off := (0 : Nat) }) n c, Value.int IntKind.i64 (↑n : Int), Value.int IntKind.i64 (↑s : Int), poi, poi, poi, poi, poi, poi, poi] ∧ some (AObj.row (ints l) es more rw true) :: noH = some (AObj.row (ints l) es more rw true) :: noH) ∧ ∀ (s : Nat), Is (s ≤ List.length l ∧ fi (List.drop s l) = fi l) → br (decide ((↑s : Int) < (↑n : Int))) (Is ((0 : Int) ≤ (↑s : Int) ∧ (↑s : Int) < (↑n : Int)) ∧ Is ((ints l)[(0 : Nat) + Int.toNat (↑s : Int) * (1 : Nat)]? = some (Value.int IntKind.i64 (List.getD l ((0 : Nat) + Int.toNat (↑s : Int) * (1 : Nat)) (0 : Int)))) ∧ br (List.getD l ((0 : Nat) + Int.toNat (↑s : Int) * (1 : Nat)) (0 : Int) != (0 : Int)) (K (Value.int IntKind.i64 (List.getD l ((0 : Nat) + Int.toNat (↑s : Int) * (1 : Nat)) (0 : Int))) (some (AObj.row (ints l) es more rw true) :: noH)) (∃ s', Is (s' ≤ List.length l ∧ fi (List.drop s' l) = fi l) ∧ Is (List.length l - s' < List.length l - s) ∧ [poi, poi, poi, poi, poi, Value.slice (some { block := (0 : Nat), off := (0 : Nat) }) n c, Value.int IntKind.i64 (↑n : Int), Value.int IntKind.i64 (IntKind.wrap IntKind.i64 ((↑s : Int) + (1 : Int))), poi, poi, poi, poi, poi, poi, poi] = [poi, poi, poi, poi, poi, Value.slice (some { block := (0 : Nat), off := (0 : Nat) }) n c, Value.int IntKind.i64 (↑n : Int), Value.int IntKind.i64 (↑s' : Int), poi, poi, poi, poi, poi, poi, poi] ∧ some (AObj.row (ints l) es more rw true) :: noH = some (AObj.row (ints l) es more rw true) :: noH)) (K (Value.int IntKind.i64 (0 : Int)) (some (AObj.row (ints l) es more rw true) :: noH))) := by kernel_rfl

theorem okFirst : Ok Try.prog 13 orcFirst := by
  intro args H ret H' h
  unfold orcFirst at h
  split at h
  · rename_i n c cells es more rw
    split at h
    · rename_i l hl
      split at h
      · rename_i hn
        cases h
        have := intsOf_eq hl
        subst this
        obtain ⟨hn, hlt⟩ := hn
        subst hn
        refine fnP_res hm c0_ok (hs := hFirst l l.length c es more rw) ?_
        rw [first_t]
        refine ⟨⟨(0 : Nat), ⟨by simp, by simp⟩, rfl, rfl⟩, fun s hs => ?_⟩
        obtain ⟨h1, h2⟩ := hs.out
        refine br_of (fun hc => ?_) (fun hc => ?_)
        · have hc : s < l.length := by simpa using hc
          refine ⟨⟨by omega, by omega⟩, ⟨by simpa using ints_at hc⟩, br_of (fun hd => ?_) (fun hd => ?_)⟩
          · have := fi_drop hc
            have hd' : l.getD s 0 ≠ 0 := by simpa using hd
            rw [if_neg hd'] at this
            simp [← h2, this]
          · have := fi_drop hc
            have hd' : l.getD s 0 = 0 := by simpa using hd
            rw [if_pos hd'] at this
            refine ⟨s + 1, ⟨hc, by rw [← this, h2]⟩, ⟨by omega⟩, ?_, rfl⟩
            rw [wrap_eq (by omega) (by omega)]
            rfl
        · have hc : l.length ≤ s := by simpa using hc
          have : s = l.length := by omega
          subst this
          simp [← h2, fi]
      · cases h
    · cases h
  · cases h

noncomputable def orcWithin : Orc
  | [.int .i64 n, .int .i64 lo, .int .i64 hi], [] => some (.int .i64 (wi n lo hi), [])
  | _, _ => none
noncomputable def t1 : List (Nat × Orc) := [(26, orcWhen), (13, orcFirst)]
theorem t1_all : ∀ p ∈ t1, Ok Try.prog p.1 p.2 := all_cons okWhen (all_cons okFirst all_nil)
noncomputable def c1 : CallF := ctx Try.prog t1
theorem c1_ok : CallOK Try.prog c1 := ctx_ok hm t1_all
theorem within_t (n : Int) (lo : Int) (hi : Int) (K : Value → Heap → Prop) :
    (fnP Try.prog c1 h0 (14 : FuncId) [Value.int IntKind.i64 n, Value.int IntKind.i64 lo, Value.int IntKind.i64 hi] [] K) =
    (br (decide (n < lo)) (K (Value.int IntKind.i64 (3 : Int)) noH) (K (Value.int IntKind.i64 (wh (decide (hi < n)) (3 : Int))) noH)) := by kernel_rfl
theorem okWithin : Ok Try.prog 14 orcWithin := by
  intro args H ret H' h
  unfold orcWithin at h
  split at h
  · cases h
    refine fnP_res hm c1_ok (hs := h0) ?_
    rw [within_t]
    exact br_of (fun h => by simp [wi, of_decide_eq_true h]) (fun h => by simp [wi, wh, of_decide_eq_false h])
  · cases h
noncomputable def t2 : List (Nat × Orc) := (14, orcWithin) :: t1
theorem t2_all : ∀ p ∈ t2, Ok Try.prog p.1 p.2 := all_cons okWithin t1_all
noncomputable def c2 : CallF := ctx Try.prog t2
theorem c2_ok : CallOK Try.prog c2 := ctx_ok hm t2_all
/-! ### Plain facts -/
/-- Moments that pass. -/
structure MomOK (n a b : Int) : Prop where
  n0 : 0 ≤ n
  n1 : n ≤ 4096
  a0 : -(n * 16384) ≤ a
  a1 : a ≤ n * 16384
  b0 : 0 ≤ b
  b1 : b ≤ n * 268435456
  ab : a * a ≤ n * b
  aa : a * a ≤ 4503599627370496
  nb : n * b ≤ 4503599627370496
  nb0 : 0 ≤ n * b
  aa0 : 0 ≤ a * a

/-! ### The reference -/
end
end Qq
end
section
/- Sections: copies of them. -/
open Go Go.Vm Go.Proofs Sp
namespace Qq
noncomputable section

theorem ints_len (zs : List Int) : (ints zs).length = zs.length := by simp [ints]
theorem ints_take (zs : List Int) (i : Nat) : (ints zs).take i = ints (zs.take i) := by simp [ints, List.map_take]
theorem ints_drop (zs : List Int) (i : Nat) : (ints zs).drop i = ints (zs.drop i) := by simp [ints, List.map_drop]
theorem ints_app (zs ys : List Int) : ints zs ++ ints ys = ints (zs ++ ys) := by simp [ints]
theorem pair_at {zs : List Int} {i : Nat} (h : i + 2 ≤ zs.length) : (zs.drop i).take 2 = [zs.getD i 0, zs.getD (i + 1) 0] := by
  have h1 : i < zs.length := by omega
  have h2 : i + 1 < zs.length := by omega
  rw [List.drop_eq_getElem_cons h1, List.drop_eq_getElem_cons h2]
  simp only [List.take_succ_cons, List.take_zero, List.getD_eq_getElem?_getD, List.getElem?_eq_getElem h1, List.getElem?_eq_getElem h2, Option.getD_some]
theorem ints_pair {zs : List Int} {i : Nat} (h : i + 2 ≤ zs.length) : ((ints zs).drop i).take 2 = [.int .i64 (zs.getD i 0), .int .i64 (zs.getD (i + 1) 0)] := by
  rw [ints_drop, ints_take, pair_at h]; rfl
/-- The program's loops count in 64 bits. -/
theorem up1 {s n : Nat} (h : s < n) (hn : n ≤ 100000) : IntKind.wrap .i64 ((s : Int) + 1) = ((s + 1 : Nat) : Int) := by
  rw [wrap_eq (by omega) (by omega)]; rfl
theorem lt_of_dec {s n : Nat} (h : decide ((s : Int) < (n : Int)) = true) : s < n := by simpa using h
theorem ge_of_dec {s n : Nat} (h : decide ((s : Int) < (n : Int)) = false) : n ≤ s := by simpa using h
end
end Qq
end
section
/- Spans above a limit: the reference; numbers held against each other; the law about windows. -/
open Go Go.Vm Go.Proofs Sp
namespace Qq
noncomputable section
noncomputable def zI (zs : List Int) (off : Nat) : Value := .int .i64 (zs.getD off 0)
theorem zint_at {zs : List Int} {i : Nat} (h : i < zs.length) : (ints zs)[i]? = some (.int .i64 (zs.getD i 0)) := by
  simp [ints, List.getElem?_map, List.getElem?_eq_getElem h, List.getD_eq_getElem?_getD]
noncomputable def oneR (l : List Int) : Option AObj := some (.row (ints l) 1 true true true)
/- Lists of integers that are the same. -/
noncomputable def lpSm (l : List Int) (n c d : Nat) : Lp where
  σ := Nat
  E s := slots 26 [(0, .slice (some ⟨0, 0, none⟩) n c), (1, .slice (some ⟨1, 0, none⟩) n d), (5, .int .i64 (Int.ofNat s))]
  Hp _ := [oneR l, oneR l]
  I s := s ≤ n
  m s := n - s
noncomputable def hsSm (l : List Int) (n c d : Nat) : Hs Try.prog where
  op y := if [602, 606].contains y then some (hIa Try.prog) else if [603, 607].contains y then some (hLd Try.prog (zI l)) else none
  lp _ := some (lpSm l n c d)
  cl _ := keep 26 [0, 1, 5]
  au := au0 Try.prog
theorem sm_t (l : List Int) (n : Nat) (c : Nat) (d : Nat) (K : Value → Heap → Prop) :
    (fnP Try.prog c0 (hsSm l n c d) (24 : FuncId) [Value.slice (some { block := (0 : Nat), off := (0 : Nat) }) n c, Value.slice (some { block := (1 : Nat), off := (0 : Nat) }) n d] [oneR l, oneR l] K) =
    (br ((↑n : Int) != (↑n : Int)) (K (Value.bool false) (some (AObj.row (ints l) (1 : Nat) true true true) :: some (AObj.row (ints l) (1 : Nat) true true true) :: noH)) ((∃ (s : Nat), Is (s ≤ n) ∧ [Value.slice (some { block := (0 : Nat), off := (0 : Nat) }) n c, Value.slice (some { block := (1 : Nat), off := (0 : Nat) }) n d, poi, poi, poi, Value.int IntKind.i64 (0 : Int), poi, poi, poi, poi, poi, poi, poi, poi, poi, poi, poi, poi, poi, poi, poi, poi, poi, poi, poi, poi] = [Value.slice (some { block := (0 : Nat), off := (0 : Nat) }) n c, Value.slice (some { block := (1 : Nat), off := (0 : Nat) }) n d, poi, poi, poi, Value.int IntKind.i64 (↑s : Int), poi, poi, poi, poi, poi, poi, poi, poi, poi, poi, poi, poi, poi, poi, poi, poi, poi, poi, poi, poi] ∧ some (AObj.row (ints l) (1 : Nat) true true true) :: some (AObj.row (ints l) (1 : Nat) true true true) :: noH = some (AObj.row (ints l) (1 : Nat) true true true) :: some (AObj.row (ints l) (1 : Nat) true true true) :: noH) ∧ ∀ (s : Nat), Is (s ≤ n) → br (decide ((↑s : Int) < (↑n : Int))) (Is ((0 : Int) ≤ (↑s : Int) ∧ (↑s : Int) < (↑n : Int)) ∧ Is ((ints l)[(0 : Nat) + Int.toNat (↑s : Int) * (1 : Nat)]? = some (Value.int IntKind.i64 (List.getD l ((0 : Nat) + Int.toNat (↑s : Int) * (1 : Nat)) (0 : Int)))) ∧ Is ((0 : Int) ≤ (↑s : Int) ∧ (↑s : Int) < (↑n : Int)) ∧ Is ((ints l)[(0 : Nat) + Int.toNat (↑s : Int) * (1 : Nat)]? = some (Value.int IntKind.i64 (List.getD l ((0 : Nat) + Int.toNat (↑s : Int) * (1 : Nat)) (0 : Int)))) ∧ br (List.getD l ((0 : Nat) + Int.toNat (↑s : Int) * (1 : Nat)) (0 : Int) != List.getD l ((0 : Nat) + Int.toNat (↑s : Int) * (1 : Nat)) (0 : Int)) (K (Value.bool false) (some (AObj.row (ints l) (1 : Nat) true true true) :: some (AObj.row (ints l) (1 : Nat) true true true) :: noH)) (∃ (s' : Nat), Is (s' ≤ n) ∧ Is (n - s' < n - s) ∧ [Value.slice (some { block := (0 : Nat), off := (0 : Nat) }) n c, Value.slice (some { block := (1 : Nat), off := (0 : Nat) }) n d, poi, poi, poi, Value.int IntKind.i64 (IntKind.wrap IntKind.i64 ((↑s : Int) + (1 : Int))), poi, poi, poi, poi, poi, poi, poi, poi, poi, poi, poi, poi, poi, poi, poi, poi, poi, poi, poi, poi] = [Value.slice (some { block := (0 : Nat), off := (0 : Nat) }) n c, Value.slice (some { block := (1 : Nat), off := (0 : Nat) }) n d, poi, poi, poi, Value.int IntKind.i64 (↑s' : Int), poi, poi, poi, poi, poi, poi, poi, poi, poi, poi, poi, poi, poi, poi, poi, poi, poi, poi, poi, poi] ∧ some (AObj.row (ints l) (1 : Nat) true true true) :: some (AObj.row (ints l) (1 : Nat) true true true) :: noH = some (AObj.row (ints l) (1 : Nat) true true true) :: some (AObj.row (ints l) (1 : Nat) true true true) :: noH)) (K (Value.bool true) (some (AObj.row (ints l) (1 : Nat) true true true) :: some (AObj.row (ints l) (1 : Nat) true true true) :: noH)))) := by kernel_rfl
noncomputable def isSmI (l : List Int) (n m : Nat) (e1 e2 : List Value) : Prop := e1 = ints l ∧ e2 = ints l ∧ n = m ∧ l.length = n ∧ n ≤ 100000
noncomputable def orcSmI (l : List Int) : OrcV
  | [.slice (some ⟨0, 0, none⟩) n _, .slice (some ⟨1, 0, none⟩) m _], [some (.row e1 1 true true true), some (.row e2 1 true true true)] => some (.bool true, [some (.row e1 1 true true true), some (.row e2 1 true true true)], isSmI l n m e1 e2)
  | _, _ => none
set_option maxRecDepth 100000 in
theorem okSmI (l : List Int) : OkV Try.prog 24 (orcSmI l) := by
  intro args H ret H' vc h hv
  unfold orcSmI at h
  split at h
  · rename_i n c m d e1 e2
    cases h
    obtain ⟨rfl, rfl, rfl, hn, h9⟩ := hv
    refine fnP_res hm c0_ok (hs := hsSm l n c d) ?_
    show fnP Try.prog c0 (hsSm l n c d) 24 _ [oneR l, oneR l] _
    rw [sm_t]
    refine br_of (fun h => by simp at h) (fun _ => ⟨⟨(0 : Nat), ⟨Nat.zero_le _⟩, by first | trivial | rfl, by first | trivial | rfl⟩, fun s hs => br_of (fun hc => ?_) (fun hc => ⟨by first | trivial | rfl, by first | trivial | rfl⟩)⟩)
    have hc := lt_of_dec hc
    simp only [Nat.zero_add, Nat.mul_one, Int.toNat_natCast]
    refine ⟨⟨by omega, by omega⟩, ⟨zint_at (by omega)⟩, ⟨by omega, by omega⟩, ⟨zint_at (by omega)⟩, br_of (fun h => by simp at h) (fun _ => ⟨s + 1, ⟨hc⟩, ⟨by omega⟩, by rw [up1 hc (by omega)], by first | trivial | rfl⟩)⟩
  · cases h
end
end Qq
end
section
/- Points that are near; whether one of a group is. -/
open Go Go.Vm Go.Proofs Sp
namespace Sp
noncomputable section
/-- Two points of a list of points are the same. -/
noncomputable def eqAt (z : List Int) (g k : Int) : Bool := decide (z.getD (g.toNat * 2) 0 = z.getD (k.toNat * 2) 0 ∧ z.getD (g.toNat * 2 + 1) 0 = z.getD (k.toNat * 2 + 1) 0)
noncomputable def anyP (z : List Int) (L : List Int) (k : Int) : Bool := L.any fun g => eqAt z g k
/-- Whether what stands there is small. -/
def smallZ (z : List Int) (m : Nat) : Prop := z.length = m * 2 ∧ m ≤ 1000 ∧ ∀ a ∈ z, -1000000 ≤ a ∧ a ≤ 1000000
def inM (m : Nat) (k : Int) : Prop := 0 ≤ k ∧ k < m
noncomputable def deI : List Value → List Int
  | .int .i64 x :: r => x :: deI r
  | _ => []
noncomputable def eqC (e : List Value) (g k : Int) : Bool := eqAt (deI e) g k
noncomputable def anC (e l : List Value) (k : Int) : Bool := anyP (deI e) (deI l) k
def ptIs (e : List Value) (m : Nat) (g k r : Int) : Prop := ∃ z, e = ints z ∧ smallZ z m ∧ inM m g ∧ inM m k ∧ r = 0
def anIs (e l : List Value) (m n : Nat) (k r : Int) : Prop := ∃ z L, e = ints z ∧ l = ints L ∧ L.length = n ∧ smallZ z m ∧ (∀ g ∈ L, inM m g) ∧ inM m k ∧ r = 0 ∧ n ≤ 1000
end
end Sp
namespace Qq
noncomputable section
theorem deI_ints : ∀ zs, deI (ints zs) = zs
  | [] => rfl
  | x :: r => congrArg (x :: ·) (deI_ints r)
noncomputable def hsN0 : Hs Try.prog where
  au := au0 Try.prog
theorem near_t (a : Int) (b : Int) (c : Int) (d : Int) (r : Int) (K : Value → Heap → Prop) :
    (fnP Try.prog c0 hsN0 (33 : FuncId) [Value.agg #[Value.int IntKind.i64 a, Value.int IntKind.i64 b], Value.agg #[Value.int IntKind.i64 c, Value.int IntKind.i64 d], Value.int IntKind.i64 r] [] K) =
    (Is True ∧ br (a == c && (b == d && true)) (K (Value.bool true) noH) (K (Value.bool (decide ((if IntKind.wrap IntKind.i64 (d - b) > if IntKind.wrap IntKind.i64 (b - d) > if IntKind.wrap IntKind.i64 (c - a) > IntKind.wrap IntKind.i64 (a - c) then IntKind.wrap IntKind.i64 (c - a) else IntKind.wrap IntKind.i64 (a - c) then IntKind.wrap IntKind.i64 (b - d) else if IntKind.wrap IntKind.i64 (c - a) > IntKind.wrap IntKind.i64 (a - c) then IntKind.wrap IntKind.i64 (c - a) else IntKind.wrap IntKind.i64 (a - c) then IntKind.wrap IntKind.i64 (d - b) else if IntKind.wrap IntKind.i64 (b - d) > if IntKind.wrap IntKind.i64 (c - a) > IntKind.wrap IntKind.i64 (a - c) then IntKind.wrap IntKind.i64 (c - a) else IntKind.wrap IntKind.i64 (a - c) then IntKind.wrap IntKind.i64 (b - d) else if IntKind.wrap IntKind.i64 (c - a) > IntKind.wrap IntKind.i64 (a - c) then IntKind.wrap IntKind.i64 (c - a) else IntKind.wrap IntKind.i64 (a - c)) ≤ r))) noH)) := by kernel_rfl
/-- A number that is small. -/
def few (a : Int) : Prop := -1000000 ≤ a ∧ a ≤ 1000000
noncomputable def orcNr : OrcV
  | [.agg ⟨[.int .i64 a, .int .i64 b]⟩, .agg ⟨[.int .i64 c, .int .i64 d]⟩, .int .i64 r], [] => some (.bool (decide (a = c ∧ b = d)), [], (few a ∧ few b ∧ few c ∧ few d) ∧ r = 0)
  | _, _ => none
theorem okNr : OkV Try.prog 33 orcNr := by
  intro args H ret H' vc h hv
  unfold orcNr at h
  split at h
  · rename_i a b c d r
    cases h
    obtain ⟨⟨⟨a1, a2⟩, ⟨b1, b2⟩, ⟨c1, c2⟩, d1, d2⟩, rfl⟩ := hv
    refine fnP_res hm c0_ok (hs := hsN0) ?_
    show fnP Try.prog c0 hsN0 33 [.agg #[.int .i64 a, .int .i64 b], .agg #[.int .i64 c, .int .i64 d], .int .i64 0] [] _
    rw [near_t, wrap_eq (x := d - b) (by omega) (by omega), wrap_eq (x := b - d) (by omega) (by omega), wrap_eq (x := c - a) (by omega) (by omega), wrap_eq (x := a - c) (by omega) (by omega)]
    refine ⟨⟨trivial⟩, br_of (fun h => ⟨?_, rfl⟩) (fun h => ⟨?_, rfl⟩)⟩
    · simp only [Bool.and_true, Bool.and_eq_true, beq_iff_eq] at h
      rw [decide_eq_true h]
    · have h : ¬ (a = c ∧ b = d) := by
        intro e
        rw [e.1, e.2] at h
        simp at h
      rw [decide_eq_false h, decide_eq_false]
      intro hle
      apply h
      split at hle <;> split at hle <;> (try split at hle) <;> omega
  · cases h
/-- A point in cells. -/
noncomputable def gPt (cells : List Value) (off : Nat) : Value := .agg #[.int .i64 (iAt cells off), .int .i64 (iAt cells (off + 1))]
noncomputable def hsC1 : Hs Try.prog where
  op y := if [102, 106].contains y then some (hIa Try.prog) else if [103, 107].contains y then some (hLc Try.prog gPt) else none
  au := auCalls [(33, hCa Try.prog 33 orcNr okNr)]
theorem c1_t (e : List Value) (m : Nat) (c : Nat) (s1 : Nat) (s2 : Nat) (s3 : Nat) (f1 : Bool) (f2 : Bool) (f3 : Bool) (g : Int) (k : Int) (r : Int) (K : Value → Heap → Prop) :
    (fnP Try.prog c0 hsC1 (32 : FuncId) [Value.int IntKind.i64 g, Value.pointer (some { block := (0 : Nat), off := (0 : Nat) }), Value.pointer (some { block := (2 : Nat), off := (0 : Nat) }), Value.pointer (some { block := (3 : Nat), off := (0 : Nat) })] [some (AObj.row [Value.slice (some { block := (1 : Nat), off := (0 : Nat) }) m c] s1 false true false), some (AObj.row e (2 : Nat) true true true), some (AObj.row [Value.int IntKind.i64 k] s2 false true true), some (AObj.row [Value.int IntKind.i64 r] s3 false true true)] K) =
    (Is ((0 : Int) ≤ g ∧ g < (↑m : Int)) ∧ Is ((if (0 : Nat) + Int.toNat g * (2 : Nat) + (2 : Nat) ≤ List.length e then some (Value.agg (List.toArray (List.take (2 : Nat) (List.drop ((0 : Nat) + Int.toNat g * (2 : Nat)) e)))) else none) = some (Value.agg #[Value.int IntKind.i64 (iAt e ((0 : Nat) + Int.toNat g * (2 : Nat))), Value.int IntKind.i64 (iAt e ((0 : Nat) + Int.toNat g * (2 : Nat) + (1 : Nat)))])) ∧ Is ((0 : Int) ≤ k ∧ k < (↑m : Int)) ∧ Is ((if (0 : Nat) + Int.toNat k * (2 : Nat) + (2 : Nat) ≤ List.length e then some (Value.agg (List.toArray (List.take (2 : Nat) (List.drop ((0 : Nat) + Int.toNat k * (2 : Nat)) e)))) else none) = some (Value.agg #[Value.int IntKind.i64 (iAt e ((0 : Nat) + Int.toNat k * (2 : Nat))), Value.int IntKind.i64 (iAt e ((0 : Nat) + Int.toNat k * (2 : Nat) + (1 : Nat)))])) ∧ Is ((few (iAt e ((0 : Nat) + Int.toNat g * (2 : Nat))) ∧ few (iAt e ((0 : Nat) + Int.toNat g * (2 : Nat) + (1 : Nat))) ∧ few (iAt e ((0 : Nat) + Int.toNat k * (2 : Nat))) ∧ few (iAt e ((0 : Nat) + Int.toNat k * (2 : Nat) + (1 : Nat)))) ∧ r = (0 : Int)) ∧ K (Value.bool (decide (iAt e ((0 : Nat) + Int.toNat g * (2 : Nat)) = iAt e ((0 : Nat) + Int.toNat k * (2 : Nat)) ∧ iAt e ((0 : Nat) + Int.toNat g * (2 : Nat) + (1 : Nat)) = iAt e ((0 : Nat) + Int.toNat k * (2 : Nat) + (1 : Nat))))) (some (AObj.row [Value.slice (some { block := (1 : Nat), off := (0 : Nat) }) m c] s1 false true false) :: some (AObj.row e (2 : Nat) true true true) :: some (AObj.row [Value.int IntKind.i64 k] s2 false true true) :: some (AObj.row [Value.int IntKind.i64 r] s3 false true true) :: noH)) := by kernel_rfl
end
end Qq
end
section
/- What is made of an echo, of a point: the small functions. -/
open Go Go.Vm Go.Proofs Sp
namespace Qq
noncomputable section
noncomputable def gE3 (cells : List Value) (off : Nat) : Value := .agg #[.int .i64 (iAt cells off), .int .i64 (iAt cells (off + 1)), .int .i64 (iAt cells (off + 2))]
def bxR (q c : Nat) (id : Nat) : Option AObj := some (.row [.slice (some ⟨id, 0, none⟩) q c] 0 false true false)
def dat (e : List Value) (es : Nat) : Option AObj := some (.row e es true true true)
noncomputable def hs30 : Hs Try.prog where
  op y := if y = 105 then some (hIa Try.prog) else if y = 106 then some (hLc Try.prog gI) else none
  au := au0 Try.prog
noncomputable def hs20 : Hs Try.prog where
  op y := if [100, 101, 102].contains y then some (hIa Try.prog) else if [103].contains y then some (hLc Try.prog gE3) else none
  au := au0 Try.prog
noncomputable def hs23 : Hs Try.prog where
  op y := if [100, 101, 102].contains y then some (hIa Try.prog) else if [103].contains y then some (hLc Try.prog gPt) else none
  au := au0 Try.prog
theorem c40_t (x : Int) (K : Value → Heap → Prop) :
    (fnP Try.prog c2 h0 (40 : FuncId) [Value.int IntKind.i64 x] [] K) =
    (K (Value.int IntKind.i64 (wi x (-3 : Int) (3 : Int))) noH) := by kernel_rfl
theorem c28_t (a : Int) (b : Int) (d : Int) (p : List Value) (q : Nat) (c : Nat) (K : Value → Heap → Prop) :
    (fnP Try.prog c2 h0 (28 : FuncId) [Value.agg #[Value.int IntKind.i64 a, Value.int IntKind.i64 b, Value.int IntKind.i64 d], Value.pointer (some { block := (0 : Nat), off := (0 : Nat) })] [bxR q c (1 : Nat), dat p (1 : Nat)] K) =
    (br (decide (a < (0 : Int))) (K (Value.int IntKind.i64 (fi [(10 : Int), wi b (0 : Int) (100000000 : Int), wi d (1 : Int) (1000 : Int)])) (some (AObj.row [Value.slice (some { block := (1 : Nat), off := (0 : Nat) }) q c] (0 : Nat) false true false) :: some (AObj.row p (1 : Nat) true true true) :: noH)) (K (Value.int IntKind.i64 (fi [wh (decide ((↑q : Int) ≤ a)) (10 : Int), wi b (0 : Int) (100000000 : Int), wi d (1 : Int) (1000 : Int)])) (some (AObj.row [Value.slice (some { block := (1 : Nat), off := (0 : Nat) }) q c] (0 : Nat) false true false) :: some (AObj.row p (1 : Nat) true true true) :: noH))) := by kernel_rfl
theorem c30_t (a : Int) (b : Int) (d : Int) (p : List Value) (q : Nat) (c : Nat) (K : Value → Heap → Prop) :
    (fnP Try.prog c0 hs30 (30 : FuncId) [Value.agg #[Value.int IntKind.i64 a, Value.int IntKind.i64 b, Value.int IntKind.i64 d], Value.pointer (some { block := (0 : Nat), off := (0 : Nat) })] [bxR q c (1 : Nat), dat p (1 : Nat)] K) =
    (Is ((0 : Int) ≤ a ∧ a < (↑q : Int)) ∧ Is (p[(0 : Nat) + Int.toNat a * (1 : Nat)]? = some (Value.int IntKind.i64 (iAt p ((0 : Nat) + Int.toNat a * (1 : Nat))))) ∧ K (Value.agg #[Value.int IntKind.i64 (IntKind.wrap IntKind.i64 (b + IntKind.wrap IntKind.i64 (iAt p ((0 : Nat) + Int.toNat a * (1 : Nat)) * d))), Value.int IntKind.i64 d]) (some (AObj.row [Value.slice (some { block := (1 : Nat), off := (0 : Nat) }) q c] (0 : Nat) false true false) :: some (AObj.row p (1 : Nat) true true true) :: noH)) := by kernel_rfl
theorem c49_t (a : Int) (b : Int) (d : Int) (K : Value → Heap → Prop) :
    (fnP Try.prog c0 h0 (49 : FuncId) [Value.agg #[Value.int IntKind.i64 a, Value.int IntKind.i64 b, Value.int IntKind.i64 d]] [] K) =
    (K (Value.int IntKind.i64 a) noH) := by kernel_rfl
theorem c75_t (a : Int) (b : Int) (K : Value → Heap → Prop) :
    (fnP Try.prog c0 h0 (75 : FuncId) [Value.agg #[Value.int IntKind.i64 a, Value.int IntKind.i64 b]] [] K) =
    (K (Value.int IntKind.i64 a) noH) := by kernel_rfl
theorem c76_t (a : Int) (b : Int) (K : Value → Heap → Prop) :
    (fnP Try.prog c0 h0 (76 : FuncId) [Value.agg #[Value.int IntKind.i64 a, Value.int IntKind.i64 b]] [] K) =
    (K (Value.int IntKind.i64 b) noH) := by kernel_rfl
theorem c20_t (g : Int) (p : List Value) (q : Nat) (c : Nat) (K : Value → Heap → Prop) :
    (fnP Try.prog c0 hs20 (20 : FuncId) [Value.int IntKind.i64 g, Value.pointer (some { block := (0 : Nat), off := (0 : Nat) })] [bxR q c (1 : Nat), dat p (3 : Nat)] K) =
    (Is ((0 : Int) ≤ g ∧ g < (↑q : Int)) ∧ Is ((if (0 : Nat) + Int.toNat g * (3 : Nat) + (3 : Nat) ≤ List.length p then some (Value.agg (List.toArray (List.take (3 : Nat) (List.drop ((0 : Nat) + Int.toNat g * (3 : Nat)) p)))) else none) = some (Value.agg #[Value.int IntKind.i64 (iAt p ((0 : Nat) + Int.toNat g * (3 : Nat))), Value.int IntKind.i64 (iAt p ((0 : Nat) + Int.toNat g * (3 : Nat) + (1 : Nat))), Value.int IntKind.i64 (iAt p ((0 : Nat) + Int.toNat g * (3 : Nat) + (2 : Nat)))])) ∧ K (Value.agg #[Value.int IntKind.i64 (iAt p ((0 : Nat) + Int.toNat g * (3 : Nat))), Value.int IntKind.i64 (iAt p ((0 : Nat) + Int.toNat g * (3 : Nat) + (1 : Nat))), Value.int IntKind.i64 (iAt p ((0 : Nat) + Int.toNat g * (3 : Nat) + (2 : Nat)))]) (some (AObj.row [Value.slice (some { block := (1 : Nat), off := (0 : Nat) }) q c] (0 : Nat) false true false) :: some (AObj.row p (3 : Nat) true true true) :: noH)) := by kernel_rfl
theorem c23_t (g : Int) (p : List Value) (q : Nat) (c : Nat) (K : Value → Heap → Prop) :
    (fnP Try.prog c0 hs23 (23 : FuncId) [Value.int IntKind.i64 g, Value.pointer (some { block := (0 : Nat), off := (0 : Nat) })] [bxR q c (1 : Nat), dat p (2 : Nat)] K) =
    (Is ((0 : Int) ≤ g ∧ g < (↑q : Int)) ∧ Is ((if (0 : Nat) + Int.toNat g * (2 : Nat) + (2 : Nat) ≤ List.length p then some (Value.agg (List.toArray (List.take (2 : Nat) (List.drop ((0 : Nat) + Int.toNat g * (2 : Nat)) p)))) else none) = some (Value.agg #[Value.int IntKind.i64 (iAt p ((0 : Nat) + Int.toNat g * (2 : Nat))), Value.int IntKind.i64 (iAt p ((0 : Nat) + Int.toNat g * (2 : Nat) + (1 : Nat)))])) ∧ K (Value.agg #[Value.int IntKind.i64 (iAt p ((0 : Nat) + Int.toNat g * (2 : Nat))), Value.int IntKind.i64 (iAt p ((0 : Nat) + Int.toNat g * (2 : Nat) + (1 : Nat)))]) (some (AObj.row [Value.slice (some { block := (1 : Nat), off := (0 : Nat) }) q c] (0 : Nat) false true false) :: some (AObj.row p (2 : Nat) true true true) :: noH)) := by kernel_rfl
theorem wi_in {x lo hi : Int} (h : lo ≤ x) (h2 : x ≤ hi) : wi x lo hi = 0 := by rw [wi]; exact if_neg (by omega)
theorem wh_no {p : Prop} [Decidable p] {e : Int} (h : ¬ p) : wh (decide p) e = 0 := by rw [decide_eq_false h]; rfl
theorem tn2 {g : Int} (h : 0 ≤ g) : (g * 2).toNat = g.toNat * 2 := by omega
theorem tn21 {g : Int} (h : 0 ≤ g) : (g * 2 + 1).toNat = g.toNat * 2 + 1 := by omega
theorem tn3 {g : Int} (h : 0 ≤ g) : (g * 3).toNat = g.toNat * 3 := by omega
theorem tn31 {g : Int} (h : 0 ≤ g) : (g * 3 + 1).toNat = g.toNat * 3 + 1 := by omega
theorem tn32 {g : Int} (h : 0 ≤ g) : (g * 3 + 2).toNat = g.toNat * 3 + 2 := by omega
theorem prod_few {a d : Int} (h : -3 ≤ a ∧ a ≤ 3) (h1 : 1 ≤ d) (h2 : d ≤ 1000) : -3000 ≤ a * d ∧ a * d ≤ 3000 := by
  obtain ⟨h3, h4⟩ := h
  have : a = -3 ∨ a = -2 ∨ a = -1 ∨ a = 0 ∨ a = 1 ∨ a = 2 ∨ a = 3 := by omega
  rcases this with rfl | rfl | rfl | rfl | rfl | rfl | rfl <;> constructor <;> omega
/-- An echo that may be. -/
def vE (q : Nat) (a b d : Int) : Prop := (0 ≤ a ∧ a < q) ∧ (0 ≤ b ∧ b ≤ 1000000) ∧ 1 ≤ d ∧ d ≤ 1000
def vP (q : Nat) (p : List Value) : Prop := ∃ ps, p = ints ps ∧ ps.length = q ∧ ∀ x ∈ ps, -3 ≤ x ∧ x ≤ 3
def vD (q es : Nat) (p : List Value) : Prop := ∃ zs, p = ints zs ∧ zs.length = q * es
noncomputable def atC (p : List Value) (a : Int) : Int := (deI p).getD a.toNat 0
theorem atC_eq {ps : List Int} {q : Nat} {a : Int} (h : ps.length = q) (h0 : 0 ≤ a) (h1 : a < q) : (ints ps)[0 + a.toNat * 1]? = some (.int .i64 (iAt (ints ps) (0 + a.toNat * 1))) ∧ iAt (ints ps) (0 + a.toNat * 1) = atC (ints ps) a := by
  have e : 0 + a.toNat * 1 = a.toNat := by omega
  rw [e, atC, deI_ints, iAt, zint_at (by omega)]
  exact ⟨rfl, rfl⟩
theorem z_at3 {z : List Int} {p : Nat} (h : p < z.length) : iAt (ints z) p = z.getD p 0 := by
  rw [iAt, zint_at h]
theorem ints_tri {zs : List Int} {i : Nat} (h : i + 3 ≤ zs.length) : ((ints zs).drop i).take 3 = [.int .i64 (zs.getD i 0), .int .i64 (zs.getD (i + 1) 0), .int .i64 (zs.getD (i + 2) 0)] := by
  have h0 := zint_at (zs := zs) (i := i) (by omega)
  have h1 := zint_at (zs := zs) (i := i + 1) (by omega)
  have h2 := zint_at (zs := zs) (i := i + 2) (by omega)
  apply List.ext_getElem?
  intro j
  match j with
  | 0 => rw [List.getElem?_take_of_lt (by omega), List.getElem?_drop]; exact h0
  | 1 => rw [List.getElem?_take_of_lt (by omega), List.getElem?_drop]; exact h1
  | 2 => rw [List.getElem?_take_of_lt (by omega), List.getElem?_drop]; exact h2
  | j + 3 => rw [List.getElem?_eq_none (by rw [List.length_take]; omega)]; rfl
theorem tri_ld {zs : List Int} {q : Nat} {g : Int} (h : zs.length = q * 3) (h0 : 0 ≤ g) (h1 : g < q) : (if 0 + g.toNat * 3 + 3 ≤ (ints zs).length then some (Value.agg (((ints zs).drop (0 + g.toNat * 3)).take 3).toArray) else none) = some (gE3 (ints zs) (0 + g.toNat * 3)) ∧
    gE3 (ints zs) (0 + g.toNat * 3) = .agg #[.int .i64 (zs.getD (g.toNat * 3) 0), .int .i64 (zs.getD (g.toNat * 3 + 1) 0), .int .i64 (zs.getD (g.toNat * 3 + 2) 0)] := by
  have a0 := z_at3 (z := zs) (p := g.toNat * 3) (by omega)
  have a1 := z_at3 (z := zs) (p := g.toNat * 3 + 1) (by omega)
  have a2 := z_at3 (z := zs) (p := g.toNat * 3 + 2) (by omega)
  rw [Nat.zero_add, gE3, a0, a1, a2, ints_len, if_pos (by omega), ints_tri (by omega)]
  exact ⟨rfl, rfl⟩
theorem two_ld {zs : List Int} {q : Nat} {g : Int} (h : zs.length = q * 2) (h0 : 0 ≤ g) (h1 : g < q) : (if 0 + g.toNat * 2 + 2 ≤ (ints zs).length then some (Value.agg (((ints zs).drop (0 + g.toNat * 2)).take 2).toArray) else none) = some (gPt (ints zs) (0 + g.toNat * 2)) ∧
    gPt (ints zs) (0 + g.toNat * 2) = .agg #[.int .i64 (zs.getD (g.toNat * 2) 0), .int .i64 (zs.getD (g.toNat * 2 + 1) 0)] := by
  have a0 := z_at3 (z := zs) (p := g.toNat * 2) (by omega)
  have a1 := z_at3 (z := zs) (p := g.toNat * 2 + 1) (by omega)
  rw [Nat.zero_add, gPt, a0, a1, ints_len, if_pos (by omega), ints_pair (by omega)]
  exact ⟨rfl, rfl⟩
noncomputable def orcK40 : OrcV
  | [.int .i64 x], [] => some (.int .i64 (wi x (-3) 3), [], True)
  | _, _ => none
theorem okK40 : OkV Try.prog 40 orcK40 := by
  intro args H ret H' vc h hv
  unfold orcK40 at h
  split at h
  · cases h
    refine fnP_res hm c2_ok (hs := h0) ?_
    show fnP Try.prog c2 h0 40 _ _ _
    rw [c40_t]
    exact ⟨rfl, rfl⟩
  · cases h
noncomputable def orcK49 : OrcV
  | [.agg ⟨[.int .i64 a, .int .i64 b, .int .i64 d]⟩], [] => some (.int .i64 a, [], True)
  | _, _ => none
theorem okK49 : OkV Try.prog 49 orcK49 := by
  intro args H ret H' vc h hv
  unfold orcK49 at h
  split at h
  · cases h
    refine fnP_res hm c0_ok (hs := h0) ?_
    show fnP Try.prog c0 h0 49 _ _ _
    rw [c49_t]
    exact ⟨rfl, rfl⟩
  · cases h
noncomputable def orcK75 : OrcV
  | [.agg ⟨[.int .i64 a, .int .i64 b]⟩], [] => some (.int .i64 a, [], True)
  | _, _ => none
theorem okK75 : OkV Try.prog 75 orcK75 := by
  intro args H ret H' vc h hv
  unfold orcK75 at h
  split at h
  · cases h
    refine fnP_res hm c0_ok (hs := h0) ?_
    show fnP Try.prog c0 h0 75 _ _ _
    rw [c75_t]
    exact ⟨rfl, rfl⟩
  · cases h
noncomputable def orcK76 : OrcV
  | [.agg ⟨[.int .i64 a, .int .i64 b]⟩], [] => some (.int .i64 b, [], True)
  | _, _ => none
theorem okK76 : OkV Try.prog 76 orcK76 := by
  intro args H ret H' vc h hv
  unfold orcK76 at h
  split at h
  · cases h
    refine fnP_res hm c0_ok (hs := h0) ?_
    show fnP Try.prog c0 h0 76 _ _ _
    rw [c76_t]
    exact ⟨rfl, rfl⟩
  · cases h
noncomputable def orcK28 : OrcV
  | [.agg ⟨[.int .i64 a, .int .i64 b, .int .i64 d]⟩, .pointer (some ⟨0, 0, none⟩)], [some (.row [.slice (some ⟨1, 0, none⟩) q c] 0 false true false), some (.row p 1 true true true)] => some (.int .i64 0, [some (.row [.slice (some ⟨1, 0, none⟩) q c] 0 false true false), some (.row p 1 true true true)], vE q a b d)
  | _, _ => none
theorem okK28 : OkV Try.prog 28 orcK28 := by
  intro args H ret H' vc h hv
  unfold orcK28 at h
  split at h
  · cases h
    obtain ⟨⟨a1, a2⟩, ⟨b1, b2⟩, d1, d2⟩ := hv
    refine fnP_res hm c2_ok (hs := h0) ?_
    show fnP Try.prog c2 h0 28 _ [bxR _ _ 1, dat _ 1] _
    rw [c28_t]
    refine br_of (fun h => ?_) (fun h => ⟨?_, rfl⟩)
    · have := of_decide_eq_true h; omega
    · rw [wh_no (by omega), wi_in (by omega) (by omega), wi_in (by omega) (by omega)]; rfl
  · cases h
noncomputable def orcK30 : OrcV
  | [.agg ⟨[.int .i64 a, .int .i64 b, .int .i64 d]⟩, .pointer (some ⟨0, 0, none⟩)], [some (.row [.slice (some ⟨1, 0, none⟩) q c] 0 false true false), some (.row p 1 true true true)] => some (.agg #[.int .i64 (b + atC p a * d), .int .i64 d], [some (.row [.slice (some ⟨1, 0, none⟩) q c] 0 false true false), some (.row p 1 true true true)], vE q a b d ∧ vP q p)
  | _, _ => none
theorem okK30 : OkV Try.prog 30 orcK30 := by
  intro args H ret H' vc h hv
  unfold orcK30 at h
  split at h
  · rename_i a b d q c p
    cases h
    obtain ⟨⟨⟨a1, a2⟩, ⟨b1, b2⟩, d1, d2⟩, ps, rfl, hps, hx⟩ := hv
    refine fnP_res hm c0_ok (hs := hs30) ?_
    show fnP Try.prog c0 hs30 30 _ [bxR _ _ 1, dat _ 1] _
    rw [c30_t]
    obtain ⟨e1, e2⟩ := atC_eq hps a1 a2
    have hb : -3 ≤ atC (ints ps) a ∧ atC (ints ps) a ≤ 3 := by
      rw [atC, deI_ints, List.getD_eq_getElem?_getD, List.getElem?_eq_getElem (by omega)]
      exact hx _ (List.getElem_mem _)
    have hb2 : -3000 ≤ atC (ints ps) a * d ∧ atC (ints ps) a * d ≤ 3000 := prod_few hb d1 d2
    refine ⟨⟨a1, a2⟩, ⟨e1⟩, ?_, rfl⟩
    rw [e2, wrap_eq (x := atC (ints ps) a * d) (by omega) (by omega), wrap_eq (by omega) (by omega)]
  · cases h
noncomputable def orcK20 : OrcV
  | [.int .i64 g, .pointer (some ⟨0, 0, none⟩)], [some (.row [.slice (some ⟨1, 0, none⟩) q c] 0 false true false), some (.row p 3 true true true)] => some (.agg #[.int .i64 (atC p (g * 3)), .int .i64 (atC p (g * 3 + 1)), .int .i64 (atC p (g * 3 + 2))], [some (.row [.slice (some ⟨1, 0, none⟩) q c] 0 false true false), some (.row p 3 true true true)], vD q 3 p ∧ 0 ≤ g ∧ g < q)
  | _, _ => none
theorem okK20 : OkV Try.prog 20 orcK20 := by
  intro args H ret H' vc h hv
  unfold orcK20 at h
  split at h
  · cases h
    obtain ⟨⟨zs, rfl, hz⟩, g0, g1⟩ := hv
    refine fnP_res hm c0_ok (hs := hs20) ?_
    show fnP Try.prog c0 hs20 20 _ [bxR _ _ 1, dat _ 3] _
    rw [c20_t]
    obtain ⟨e1, e2⟩ := tri_ld hz g0 g1
    refine ⟨⟨g0, g1⟩, ⟨e1⟩, ?_, rfl⟩
    rw [gE3] at e2
    rw [e2, atC, atC, atC, deI_ints, tn3 g0, tn31 g0, tn32 g0]
  · cases h
noncomputable def orcK23 : OrcV
  | [.int .i64 g, .pointer (some ⟨0, 0, none⟩)], [some (.row [.slice (some ⟨1, 0, none⟩) q c] 0 false true false), some (.row p 2 true true true)] => some (.agg #[.int .i64 (atC p (g * 2)), .int .i64 (atC p (g * 2 + 1))], [some (.row [.slice (some ⟨1, 0, none⟩) q c] 0 false true false), some (.row p 2 true true true)], vD q 2 p ∧ 0 ≤ g ∧ g < q)
  | _, _ => none
theorem okK23 : OkV Try.prog 23 orcK23 := by
  intro args H ret H' vc h hv
  unfold orcK23 at h
  split at h
  · cases h
    obtain ⟨⟨zs, rfl, hz⟩, g0, g1⟩ := hv
    refine fnP_res hm c0_ok (hs := hs23) ?_
    show fnP Try.prog c0 hs23 23 _ [bxR _ _ 1, dat _ 2] _
    rw [c23_t]
    obtain ⟨e1, e2⟩ := two_ld hz g0 g1
    refine ⟨⟨g0, g1⟩, ⟨e1⟩, ?_, rfl⟩
    rw [gPt] at e2
    rw [e2, atC, atC, deI_ints, tn2 g0, tn21 g0]
  · cases h
end
end Qq
end
section
/- Lists that are made of lists: echoes, points. -/
open Go Go.Vm Go.Proofs Sp
namespace Sp
noncomputable section
noncomputable def mp (g : Nat → List Int) (i : Nat) : List Int := (List.range i).flatMap g
noncomputable def gP (z _d : List Int) (i : Nat) : List Int := [wi (z.getD i 0) (-3) 3]
noncomputable def gC0 (_z _d : List Int) (_ : Nat) : List Int := [0]
noncomputable def gL (z d : List Int) (i : Nat) : List Int := [z.getD (i * 3 + 1) 0 + d.getD (z.getD (i * 3) 0).toNat 0 * z.getD (i * 3 + 2) 0, z.getD (i * 3 + 2) 0]
noncomputable def gE (z d : List Int) (i : Nat) : List Int := [d.getD ((z.getD i 0).toNat * 3) 0, d.getD ((z.getD i 0).toNat * 3 + 1) 0, d.getD ((z.getD i 0).toNat * 3 + 2) 0]
noncomputable def gQ (z d : List Int) (i : Nat) : List Int := [d.getD ((z.getD i 0).toNat * 2) 0, d.getD ((z.getD i 0).toNat * 2 + 1) 0]
noncomputable def gU (z _d : List Int) (i : Nat) : List Int := [z.getD (i * 3) 0]
noncomputable def gX (z _d : List Int) (i : Nat) : List Int := [z.getD (i * 2) 0]
noncomputable def gY (z _d : List Int) (i : Nat) : List Int := [z.getD (i * 2 + 1) 0]
end
end Sp
namespace Qq
noncomputable section
noncomputable def fmP : Value := .func (.func 40) #[] #[]
noncomputable def lpP (z d : List Int) (n c q b : Nat) : Lp where
  σ := Nat
  E i := slots 22 [(1, fmP), (5, .slice (some ⟨1, 0, none⟩) i 0), (8, .slice (some ⟨0, 0, none⟩) n c), (9, .int .i64 (n : Int)), (10, .int .i64 (i : Int))]
  Hp i := dat (ints z) 1 :: [] ++ [dat (ints (mp (gP z d) i)) 1]
  I i := i ≤ n
  m i := n - i
noncomputable def hsP (z d : List Int) (n c q b : Nat) : Hs Try.prog where
  op y := if y = 400 then some (hIa Try.prog) else if y = 401 then some (hLc Try.prog gI) else if y = 503 then some (hCa Try.prog 40 orcK40 okK40) else if y = 505 then some (hAp Try.prog) else none
  lp y := if y = 3 then some (lpP z d n c q b) else none
  cl _ := keep 22 [1, 5, 8, 9, 10]
  nl _ := [.only (.slot 5 1)]
  sm := true
  au := au0 Try.prog
theorem mP_t (z : List Int) (d : List Int) (n : Nat) (c : Nat) (q : Nat) (b : Nat) (K : Value → Heap → Prop) :
    (fnP Try.prog c0 (hsP z d n c q b) (39 : FuncId) [Value.slice (some { block := (0 : Nat), off := (0 : Nat) }) n c, fmP] [dat (ints z) (1 : Nat)] K) =
    ((∃ (s : Nat), Is (s ≤ n) ∧ (Value.func (Fn.func (40 : Nat)) #[] #[] = Value.func (Fn.func (40 : Nat)) #[] #[] ∧ Value.slice (some { block := (1 : Nat), off := (0 : Nat) }) (0 : Nat) (0 : Nat) = Value.slice (some { block := (1 : Nat), off := (0 : Nat) }) s (0 : Nat) ∧ Value.slice (some { block := (0 : Nat), off := (0 : Nat) }) n c = Value.slice (some { block := (0 : Nat), off := (0 : Nat) }) n c ∧ Value.int IntKind.i64 (↑n : Int) = Value.int IntKind.i64 (↑n : Int) ∧ Value.int IntKind.i64 (0 : Int) = Value.int IntKind.i64 (↑s : Int) ∧ True) ∧ some (AObj.row (ints z) (1 : Nat) true true true) :: some (AObj.row [] (1 : Nat) true true true) :: noH = some (AObj.row (ints z) (1 : Nat) true true true) :: some (AObj.row (ints (mp (Sp.gP z d) s)) (1 : Nat) true true true) :: noH) ∧ ∀ (s : Nat), Is (s ≤ n) → br (decide ((↑s : Int) < (↑n : Int))) (Is ((0 : Int) ≤ (↑s : Int) ∧ (↑s : Int) < (↑n : Int)) ∧ Is ((ints z)[(0 : Nat) + Int.toNat (↑s : Int) * (1 : Nat)]? = some (Value.int IntKind.i64 (iAt (ints z) ((0 : Nat) + Int.toNat (↑s : Int) * (1 : Nat))))) ∧ Is True ∧ Is (List.length (ints (mp (Sp.gP z d) s)) = s * (1 : Nat) ∧ (s + (1 : Nat)) * (8 : Nat) ≤ (140737488355328 : Nat) ∧ s + (1 : Nat) ≤ (9223372036854775807 : Nat)) ∧ ∃ (s' : Nat), Is (s' ≤ n) ∧ Is (n - s' < n - s) ∧ (Value.func (Fn.func (40 : Nat)) #[] #[] = Value.func (Fn.func (40 : Nat)) #[] #[] ∧ Value.slice (some { block := (1 : Nat), off := (0 : Nat) }) (s + (1 : Nat)) (0 : Nat) = Value.slice (some { block := (1 : Nat), off := (0 : Nat) }) s' (0 : Nat) ∧ Value.slice (some { block := (0 : Nat), off := (0 : Nat) }) n c = Value.slice (some { block := (0 : Nat), off := (0 : Nat) }) n c ∧ Value.int IntKind.i64 (↑n : Int) = Value.int IntKind.i64 (↑n : Int) ∧ Value.int IntKind.i64 (IntKind.wrap IntKind.i64 ((↑s : Int) + (1 : Int))) = Value.int IntKind.i64 (↑s' : Int) ∧ True) ∧ some (AObj.row (ints z) (1 : Nat) true true true) :: some (AObj.row (ints (mp (Sp.gP z d) s) ++ [Value.int IntKind.i64 (wi (iAt (ints z) ((0 : Nat) + Int.toNat (↑s : Int) * (1 : Nat))) (-3 : Int) (3 : Int))]) (1 : Nat) true true (List.all [Value.int IntKind.i64 (wi (iAt (ints z) ((0 : Nat) + Int.toNat (↑s : Int) * (1 : Nat))) (-3 : Int) (3 : Int))] atom)) :: noH = some (AObj.row (ints z) (1 : Nat) true true true) :: some (AObj.row (ints (mp (Sp.gP z d) s')) (1 : Nat) true true true) :: noH) (K (Value.slice (some { block := (1 : Nat), off := (0 : Nat) }) s (0 : Nat)) (some (AObj.row (ints z) (1 : Nat) true true true) :: some (AObj.row (ints (mp (Sp.gP z d) s)) (1 : Nat) true true true) :: noH))) := by kernel_rfl
noncomputable def fmC : Value := .func (.func 28) #[] #[.pointer (some ⟨1, 0, none⟩)]
noncomputable def lpCk (z d : List Int) (n c q b : Nat) : Lp where
  σ := Nat
  E i := slots 22 [(1, fmC), (5, .slice (some ⟨3, 0, none⟩) i 0), (8, .slice (some ⟨0, 0, none⟩) n c), (9, .int .i64 (n : Int)), (10, .int .i64 (i : Int))]
  Hp i := dat (ints z) 3 :: [bxR q b 2, dat (ints d) 1] ++ [dat (ints (mp (gC0 z d) i)) 1]
  I i := i ≤ n
  m i := n - i
noncomputable def hsCk (z d : List Int) (n c q b : Nat) : Hs Try.prog where
  op y := if y = 400 then some (hIa Try.prog) else if y = 401 then some (hLc Try.prog gE3) else if y = 503 then some (hCa Try.prog 28 orcK28 okK28) else if y = 505 then some (hAp Try.prog) else none
  lp y := if y = 3 then some (lpCk z d n c q b) else none
  cl _ := keep 22 [1, 5, 8, 9, 10]
  nl _ := [.only (.slot 5 1)]
  sm := true
  au := au0 Try.prog
theorem mC_t (z : List Int) (d : List Int) (n : Nat) (c : Nat) (q : Nat) (b : Nat) (K : Value → Heap → Prop) :
    (fnP Try.prog c0 (hsCk z d n c q b) (27 : FuncId) [Value.slice (some { block := (0 : Nat), off := (0 : Nat) }) n c, fmC] [dat (ints z) (3 : Nat), bxR q b (2 : Nat), dat (ints d) (1 : Nat)] K) =
    ((∃ (s : Nat), Is (s ≤ n) ∧ (Value.func (Fn.func (28 : Nat)) #[] #[Value.pointer (some { block := (1 : Nat), off := (0 : Nat) })] = Value.func (Fn.func (28 : Nat)) #[] #[Value.pointer (some { block := (1 : Nat), off := (0 : Nat) })] ∧ Value.slice (some { block := (3 : Nat), off := (0 : Nat) }) (0 : Nat) (0 : Nat) = Value.slice (some { block := (3 : Nat), off := (0 : Nat) }) s (0 : Nat) ∧ Value.slice (some { block := (0 : Nat), off := (0 : Nat) }) n c = Value.slice (some { block := (0 : Nat), off := (0 : Nat) }) n c ∧ Value.int IntKind.i64 (↑n : Int) = Value.int IntKind.i64 (↑n : Int) ∧ Value.int IntKind.i64 (0 : Int) = Value.int IntKind.i64 (↑s : Int) ∧ True) ∧ some (AObj.row (ints z) (3 : Nat) true true true) :: some (AObj.row [Value.slice (some { block := (2 : Nat), off := (0 : Nat) }) q b] (0 : Nat) false true false) :: some (AObj.row (ints d) (1 : Nat) true true true) :: some (AObj.row [] (1 : Nat) true true true) :: noH = some (AObj.row (ints z) (3 : Nat) true true true) :: some (AObj.row [Value.slice (some { block := (2 : Nat), off := (0 : Nat) }) q b] (0 : Nat) false true false) :: some (AObj.row (ints d) (1 : Nat) true true true) :: some (AObj.row (ints (mp (gC0 z d) s)) (1 : Nat) true true true) :: noH) ∧ ∀ (s : Nat), Is (s ≤ n) → br (decide ((↑s : Int) < (↑n : Int))) (Is ((0 : Int) ≤ (↑s : Int) ∧ (↑s : Int) < (↑n : Int)) ∧ Is ((if (0 : Nat) + Int.toNat (↑s : Int) * (3 : Nat) + (3 : Nat) ≤ List.length (ints z) then some (Value.agg (List.toArray (List.take (3 : Nat) (List.drop ((0 : Nat) + Int.toNat (↑s : Int) * (3 : Nat)) (ints z))))) else none) = some (Value.agg #[Value.int IntKind.i64 (iAt (ints z) ((0 : Nat) + Int.toNat (↑s : Int) * (3 : Nat))), Value.int IntKind.i64 (iAt (ints z) ((0 : Nat) + Int.toNat (↑s : Int) * (3 : Nat) + (1 : Nat))), Value.int IntKind.i64 (iAt (ints z) ((0 : Nat) + Int.toNat (↑s : Int) * (3 : Nat) + (2 : Nat)))])) ∧ Is (vE q (iAt (ints z) ((0 : Nat) + Int.toNat (↑s : Int) * (3 : Nat))) (iAt (ints z) ((0 : Nat) + Int.toNat (↑s : Int) * (3 : Nat) + (1 : Nat))) (iAt (ints z) ((0 : Nat) + Int.toNat (↑s : Int) * (3 : Nat) + (2 : Nat)))) ∧ Is (List.length (ints (mp (gC0 z d) s)) = s * (1 : Nat) ∧ (s + (1 : Nat)) * (8 : Nat) ≤ (140737488355328 : Nat) ∧ s + (1 : Nat) ≤ (9223372036854775807 : Nat)) ∧ ∃ (s' : Nat), Is (s' ≤ n) ∧ Is (n - s' < n - s) ∧ (Value.func (Fn.func (28 : Nat)) #[] #[Value.pointer (some { block := (1 : Nat), off := (0 : Nat) })] = Value.func (Fn.func (28 : Nat)) #[] #[Value.pointer (some { block := (1 : Nat), off := (0 : Nat) })] ∧ Value.slice (some { block := (3 : Nat), off := (0 : Nat) }) (s + (1 : Nat)) (0 : Nat) = Value.slice (some { block := (3 : Nat), off := (0 : Nat) }) s' (0 : Nat) ∧ Value.slice (some { block := (0 : Nat), off := (0 : Nat) }) n c = Value.slice (some { block := (0 : Nat), off := (0 : Nat) }) n c ∧ Value.int IntKind.i64 (↑n : Int) = Value.int IntKind.i64 (↑n : Int) ∧ Value.int IntKind.i64 (IntKind.wrap IntKind.i64 ((↑s : Int) + (1 : Int))) = Value.int IntKind.i64 (↑s' : Int) ∧ True) ∧ some (AObj.row (ints z) (3 : Nat) true true true) :: some (AObj.row [Value.slice (some { block := (2 : Nat), off := (0 : Nat) }) q b] (0 : Nat) false true false) :: some (AObj.row (ints d) (1 : Nat) true true true) :: some (AObj.row (ints (mp (gC0 z d) s) ++ [Value.int IntKind.i64 (0 : Int)]) (1 : Nat) true true (List.all [Value.int IntKind.i64 (0 : Int)] atom)) :: noH = some (AObj.row (ints z) (3 : Nat) true true true) :: some (AObj.row [Value.slice (some { block := (2 : Nat), off := (0 : Nat) }) q b] (0 : Nat) false true false) :: some (AObj.row (ints d) (1 : Nat) true true true) :: some (AObj.row (ints (mp (gC0 z d) s')) (1 : Nat) true true true) :: noH) (K (Value.slice (some { block := (3 : Nat), off := (0 : Nat) }) s (0 : Nat)) (some (AObj.row (ints z) (3 : Nat) true true true) :: some (AObj.row [Value.slice (some { block := (2 : Nat), off := (0 : Nat) }) q b] (0 : Nat) false true false) :: some (AObj.row (ints d) (1 : Nat) true true true) :: some (AObj.row (ints (mp (gC0 z d) s)) (1 : Nat) true true true) :: noH))) := by kernel_rfl
noncomputable def fmL : Value := .func (.func 30) #[] #[.pointer (some ⟨1, 0, none⟩)]
noncomputable def lpL (z d : List Int) (n c q b : Nat) : Lp where
  σ := Nat
  E i := slots 22 [(1, fmL), (5, .slice (some ⟨3, 0, none⟩) i 0), (8, .slice (some ⟨0, 0, none⟩) n c), (9, .int .i64 (n : Int)), (10, .int .i64 (i : Int))]
  Hp i := dat (ints z) 3 :: [bxR q b 2, dat (ints d) 1] ++ [dat (ints (mp (gL z d) i)) 2]
  I i := i ≤ n
  m i := n - i
noncomputable def hsL (z d : List Int) (n c q b : Nat) : Hs Try.prog where
  op y := if y = 400 then some (hIa Try.prog) else if y = 401 then some (hLc Try.prog gE3) else if y = 503 then some (hCa Try.prog 30 orcK30 okK30) else if y = 505 then some (hAp Try.prog) else none
  lp y := if y = 3 then some (lpL z d n c q b) else none
  cl _ := keep 22 [1, 5, 8, 9, 10]
  nl _ := [.only (.slot 5 2)]
  sm := true
  au := au0 Try.prog
theorem mL_t (z : List Int) (d : List Int) (n : Nat) (c : Nat) (q : Nat) (b : Nat) (K : Value → Heap → Prop) :
    (fnP Try.prog c0 (hsL z d n c q b) (29 : FuncId) [Value.slice (some { block := (0 : Nat), off := (0 : Nat) }) n c, fmL] [dat (ints z) (3 : Nat), bxR q b (2 : Nat), dat (ints d) (1 : Nat)] K) =
    ((∃ (s : Nat), Is (s ≤ n) ∧ (Value.func (Fn.func (30 : Nat)) #[] #[Value.pointer (some { block := (1 : Nat), off := (0 : Nat) })] = Value.func (Fn.func (30 : Nat)) #[] #[Value.pointer (some { block := (1 : Nat), off := (0 : Nat) })] ∧ Value.slice (some { block := (3 : Nat), off := (0 : Nat) }) (0 : Nat) (0 : Nat) = Value.slice (some { block := (3 : Nat), off := (0 : Nat) }) s (0 : Nat) ∧ Value.slice (some { block := (0 : Nat), off := (0 : Nat) }) n c = Value.slice (some { block := (0 : Nat), off := (0 : Nat) }) n c ∧ Value.int IntKind.i64 (↑n : Int) = Value.int IntKind.i64 (↑n : Int) ∧ Value.int IntKind.i64 (0 : Int) = Value.int IntKind.i64 (↑s : Int) ∧ True) ∧ some (AObj.row (ints z) (3 : Nat) true true true) :: some (AObj.row [Value.slice (some { block := (2 : Nat), off := (0 : Nat) }) q b] (0 : Nat) false true false) :: some (AObj.row (ints d) (1 : Nat) true true true) :: some (AObj.row [] (2 : Nat) true true true) :: noH = some (AObj.row (ints z) (3 : Nat) true true true) :: some (AObj.row [Value.slice (some { block := (2 : Nat), off := (0 : Nat) }) q b] (0 : Nat) false true false) :: some (AObj.row (ints d) (1 : Nat) true true true) :: some (AObj.row (ints (mp (gL z d) s)) (2 : Nat) true true true) :: noH) ∧ ∀ (s : Nat), Is (s ≤ n) → br (decide ((↑s : Int) < (↑n : Int))) (Is ((0 : Int) ≤ (↑s : Int) ∧ (↑s : Int) < (↑n : Int)) ∧ Is ((if (0 : Nat) + Int.toNat (↑s : Int) * (3 : Nat) + (3 : Nat) ≤ List.length (ints z) then some (Value.agg (List.toArray (List.take (3 : Nat) (List.drop ((0 : Nat) + Int.toNat (↑s : Int) * (3 : Nat)) (ints z))))) else none) = some (Value.agg #[Value.int IntKind.i64 (iAt (ints z) ((0 : Nat) + Int.toNat (↑s : Int) * (3 : Nat))), Value.int IntKind.i64 (iAt (ints z) ((0 : Nat) + Int.toNat (↑s : Int) * (3 : Nat) + (1 : Nat))), Value.int IntKind.i64 (iAt (ints z) ((0 : Nat) + Int.toNat (↑s : Int) * (3 : Nat) + (2 : Nat)))])) ∧ Is (vE q (iAt (ints z) ((0 : Nat) + Int.toNat (↑s : Int) * (3 : Nat))) (iAt (ints z) ((0 : Nat) + Int.toNat (↑s : Int) * (3 : Nat) + (1 : Nat))) (iAt (ints z) ((0 : Nat) + Int.toNat (↑s : Int) * (3 : Nat) + (2 : Nat))) ∧ vP q (ints d)) ∧ Is (List.length (ints (mp (gL z d) s)) = s * (2 : Nat) ∧ (s + (1 : Nat)) * (16 : Nat) ≤ (140737488355328 : Nat) ∧ s + (1 : Nat) ≤ (9223372036854775807 : Nat)) ∧ ∃ (s' : Nat), Is (s' ≤ n) ∧ Is (n - s' < n - s) ∧ (Value.func (Fn.func (30 : Nat)) #[] #[Value.pointer (some { block := (1 : Nat), off := (0 : Nat) })] = Value.func (Fn.func (30 : Nat)) #[] #[Value.pointer (some { block := (1 : Nat), off := (0 : Nat) })] ∧ Value.slice (some { block := (3 : Nat), off := (0 : Nat) }) (s + (1 : Nat)) (0 : Nat) = Value.slice (some { block := (3 : Nat), off := (0 : Nat) }) s' (0 : Nat) ∧ Value.slice (some { block := (0 : Nat), off := (0 : Nat) }) n c = Value.slice (some { block := (0 : Nat), off := (0 : Nat) }) n c ∧ Value.int IntKind.i64 (↑n : Int) = Value.int IntKind.i64 (↑n : Int) ∧ Value.int IntKind.i64 (IntKind.wrap IntKind.i64 ((↑s : Int) + (1 : Int))) = Value.int IntKind.i64 (↑s' : Int) ∧ True) ∧ some (AObj.row (ints z) (3 : Nat) true true true) :: some (AObj.row [Value.slice (some { block := (2 : Nat), off := (0 : Nat) }) q b] (0 : Nat) false true false) :: some (AObj.row (ints d) (1 : Nat) true true true) :: some (AObj.row (ints (mp (gL z d) s) ++ [Value.int IntKind.i64 (iAt (ints z) ((0 : Nat) + Int.toNat (↑s : Int) * (3 : Nat) + (1 : Nat)) + atC (ints d) (iAt (ints z) ((0 : Nat) + Int.toNat (↑s : Int) * (3 : Nat))) * iAt (ints z) ((0 : Nat) + Int.toNat (↑s : Int) * (3 : Nat) + (2 : Nat))), Value.int IntKind.i64 (iAt (ints z) ((0 : Nat) + Int.toNat (↑s : Int) * (3 : Nat) + (2 : Nat)))]) (2 : Nat) true true (List.all [Value.int IntKind.i64 (iAt (ints z) ((0 : Nat) + Int.toNat (↑s : Int) * (3 : Nat) + (1 : Nat)) + atC (ints d) (iAt (ints z) ((0 : Nat) + Int.toNat (↑s : Int) * (3 : Nat))) * iAt (ints z) ((0 : Nat) + Int.toNat (↑s : Int) * (3 : Nat) + (2 : Nat))), Value.int IntKind.i64 (iAt (ints z) ((0 : Nat) + Int.toNat (↑s : Int) * (3 : Nat) + (2 : Nat)))] atom)) :: noH = some (AObj.row (ints z) (3 : Nat) true true true) :: some (AObj.row [Value.slice (some { block := (2 : Nat), off := (0 : Nat) }) q b] (0 : Nat) false true false) :: some (AObj.row (ints d) (1 : Nat) true true true) :: some (AObj.row (ints (mp (gL z d) s')) (2 : Nat) true true true) :: noH) (K (Value.slice (some { block := (3 : Nat), off := (0 : Nat) }) s (0 : Nat)) (some (AObj.row (ints z) (3 : Nat) true true true) :: some (AObj.row [Value.slice (some { block := (2 : Nat), off := (0 : Nat) }) q b] (0 : Nat) false true false) :: some (AObj.row (ints d) (1 : Nat) true true true) :: some (AObj.row (ints (mp (gL z d) s)) (2 : Nat) true true true) :: noH))) := by kernel_rfl
noncomputable def fmE : Value := .func (.func 20) #[] #[.pointer (some ⟨1, 0, none⟩)]
noncomputable def lpEc (z d : List Int) (n c q b : Nat) : Lp where
  σ := Nat
  E i := slots 22 [(1, fmE), (5, .slice (some ⟨3, 0, none⟩) i 0), (8, .slice (some ⟨0, 0, none⟩) n c), (9, .int .i64 (n : Int)), (10, .int .i64 (i : Int))]
  Hp i := dat (ints z) 1 :: [bxR q b 2, dat (ints d) 3] ++ [dat (ints (mp (gE z d) i)) 3]
  I i := i ≤ n
  m i := n - i
noncomputable def hsEc (z d : List Int) (n c q b : Nat) : Hs Try.prog where
  op y := if y = 400 then some (hIa Try.prog) else if y = 401 then some (hLc Try.prog gI) else if y = 503 then some (hCa Try.prog 20 orcK20 okK20) else if y = 505 then some (hAp Try.prog) else none
  lp y := if y = 3 then some (lpEc z d n c q b) else none
  cl _ := keep 22 [1, 5, 8, 9, 10]
  nl _ := [.only (.slot 5 3)]
  sm := true
  au := au0 Try.prog
theorem mE_t (z : List Int) (d : List Int) (n : Nat) (c : Nat) (q : Nat) (b : Nat) (K : Value → Heap → Prop) :
    (fnP Try.prog c0 (hsEc z d n c q b) (19 : FuncId) [Value.slice (some { block := (0 : Nat), off := (0 : Nat) }) n c, fmE] [dat (ints z) (1 : Nat), bxR q b (2 : Nat), dat (ints d) (3 : Nat)] K) =
    ((∃ (s : Nat), Is (s ≤ n) ∧ (Value.func (Fn.func (20 : Nat)) #[] #[Value.pointer (some { block := (1 : Nat), off := (0 : Nat) })] = Value.func (Fn.func (20 : Nat)) #[] #[Value.pointer (some { block := (1 : Nat), off := (0 : Nat) })] ∧ Value.slice (some { block := (3 : Nat), off := (0 : Nat) }) (0 : Nat) (0 : Nat) = Value.slice (some { block := (3 : Nat), off := (0 : Nat) }) s (0 : Nat) ∧ Value.slice (some { block := (0 : Nat), off := (0 : Nat) }) n c = Value.slice (some { block := (0 : Nat), off := (0 : Nat) }) n c ∧ Value.int IntKind.i64 (↑n : Int) = Value.int IntKind.i64 (↑n : Int) ∧ Value.int IntKind.i64 (0 : Int) = Value.int IntKind.i64 (↑s : Int) ∧ True) ∧ some (AObj.row (ints z) (1 : Nat) true true true) :: some (AObj.row [Value.slice (some { block := (2 : Nat), off := (0 : Nat) }) q b] (0 : Nat) false true false) :: some (AObj.row (ints d) (3 : Nat) true true true) :: some (AObj.row [] (3 : Nat) true true true) :: noH = some (AObj.row (ints z) (1 : Nat) true true true) :: some (AObj.row [Value.slice (some { block := (2 : Nat), off := (0 : Nat) }) q b] (0 : Nat) false true false) :: some (AObj.row (ints d) (3 : Nat) true true true) :: some (AObj.row (ints (mp (gE z d) s)) (3 : Nat) true true true) :: noH) ∧ ∀ (s : Nat), Is (s ≤ n) → br (decide ((↑s : Int) < (↑n : Int))) (Is ((0 : Int) ≤ (↑s : Int) ∧ (↑s : Int) < (↑n : Int)) ∧ Is ((ints z)[(0 : Nat) + Int.toNat (↑s : Int) * (1 : Nat)]? = some (Value.int IntKind.i64 (iAt (ints z) ((0 : Nat) + Int.toNat (↑s : Int) * (1 : Nat))))) ∧ Is (vD q (3 : Nat) (ints d) ∧ (0 : Int) ≤ iAt (ints z) ((0 : Nat) + Int.toNat (↑s : Int) * (1 : Nat)) ∧ iAt (ints z) ((0 : Nat) + Int.toNat (↑s : Int) * (1 : Nat)) < (↑q : Int)) ∧ Is (List.length (ints (mp (gE z d) s)) = s * (3 : Nat) ∧ (s + (1 : Nat)) * (24 : Nat) ≤ (140737488355328 : Nat) ∧ s + (1 : Nat) ≤ (9223372036854775807 : Nat)) ∧ ∃ (s' : Nat), Is (s' ≤ n) ∧ Is (n - s' < n - s) ∧ (Value.func (Fn.func (20 : Nat)) #[] #[Value.pointer (some { block := (1 : Nat), off := (0 : Nat) })] = Value.func (Fn.func (20 : Nat)) #[] #[Value.pointer (some { block := (1 : Nat), off := (0 : Nat) })] ∧ Value.slice (some { block := (3 : Nat), off := (0 : Nat) }) (s + (1 : Nat)) (0 : Nat) = Value.slice (some { block := (3 : Nat), off := (0 : Nat) }) s' (0 : Nat) ∧ Value.slice (some { block := (0 : Nat), off := (0 : Nat) }) n c = Value.slice (some { block := (0 : Nat), off := (0 : Nat) }) n c ∧ Value.int IntKind.i64 (↑n : Int) = Value.int IntKind.i64 (↑n : Int) ∧ Value.int IntKind.i64 (IntKind.wrap IntKind.i64 ((↑s : Int) + (1 : Int))) = Value.int IntKind.i64 (↑s' : Int) ∧ True) ∧ some (AObj.row (ints z) (1 : Nat) true true true) :: some (AObj.row [Value.slice (some { block := (2 : Nat), off := (0 : Nat) }) q b] (0 : Nat) false true false) :: some (AObj.row (ints d) (3 : Nat) true true true) :: some (AObj.row (ints (mp (gE z d) s) ++ [Value.int IntKind.i64 (atC (ints d) (iAt (ints z) ((0 : Nat) + Int.toNat (↑s : Int) * (1 : Nat)) * (3 : Int))), Value.int IntKind.i64 (atC (ints d) (iAt (ints z) ((0 : Nat) + Int.toNat (↑s : Int) * (1 : Nat)) * (3 : Int) + (1 : Int))), Value.int IntKind.i64 (atC (ints d) (iAt (ints z) ((0 : Nat) + Int.toNat (↑s : Int) * (1 : Nat)) * (3 : Int) + (2 : Int)))]) (3 : Nat) true true (List.all [Value.int IntKind.i64 (atC (ints d) (iAt (ints z) ((0 : Nat) + Int.toNat (↑s : Int) * (1 : Nat)) * (3 : Int))), Value.int IntKind.i64 (atC (ints d) (iAt (ints z) ((0 : Nat) + Int.toNat (↑s : Int) * (1 : Nat)) * (3 : Int) + (1 : Int))), Value.int IntKind.i64 (atC (ints d) (iAt (ints z) ((0 : Nat) + Int.toNat (↑s : Int) * (1 : Nat)) * (3 : Int) + (2 : Int)))] atom)) :: noH = some (AObj.row (ints z) (1 : Nat) true true true) :: some (AObj.row [Value.slice (some { block := (2 : Nat), off := (0 : Nat) }) q b] (0 : Nat) false true false) :: some (AObj.row (ints d) (3 : Nat) true true true) :: some (AObj.row (ints (mp (gE z d) s')) (3 : Nat) true true true) :: noH) (K (Value.slice (some { block := (3 : Nat), off := (0 : Nat) }) s (0 : Nat)) (some (AObj.row (ints z) (1 : Nat) true true true) :: some (AObj.row [Value.slice (some { block := (2 : Nat), off := (0 : Nat) }) q b] (0 : Nat) false true false) :: some (AObj.row (ints d) (3 : Nat) true true true) :: some (AObj.row (ints (mp (gE z d) s)) (3 : Nat) true true true) :: noH))) := by kernel_rfl
noncomputable def fmQ : Value := .func (.func 23) #[] #[.pointer (some ⟨1, 0, none⟩)]
noncomputable def lpQ (z d : List Int) (n c q b : Nat) : Lp where
  σ := Nat
  E i := slots 22 [(1, fmQ), (5, .slice (some ⟨3, 0, none⟩) i 0), (8, .slice (some ⟨0, 0, none⟩) n c), (9, .int .i64 (n : Int)), (10, .int .i64 (i : Int))]
  Hp i := dat (ints z) 1 :: [bxR q b 2, dat (ints d) 2] ++ [dat (ints (mp (gQ z d) i)) 2]
  I i := i ≤ n
  m i := n - i
noncomputable def hsQ (z d : List Int) (n c q b : Nat) : Hs Try.prog where
  op y := if y = 400 then some (hIa Try.prog) else if y = 401 then some (hLc Try.prog gI) else if y = 503 then some (hCa Try.prog 23 orcK23 okK23) else if y = 505 then some (hAp Try.prog) else none
  lp y := if y = 3 then some (lpQ z d n c q b) else none
  cl _ := keep 22 [1, 5, 8, 9, 10]
  nl _ := [.only (.slot 5 2)]
  sm := true
  au := au0 Try.prog
theorem mQ_t (z : List Int) (d : List Int) (n : Nat) (c : Nat) (q : Nat) (b : Nat) (K : Value → Heap → Prop) :
    (fnP Try.prog c0 (hsQ z d n c q b) (22 : FuncId) [Value.slice (some { block := (0 : Nat), off := (0 : Nat) }) n c, fmQ] [dat (ints z) (1 : Nat), bxR q b (2 : Nat), dat (ints d) (2 : Nat)] K) =
    ((∃ (s : Nat), Is (s ≤ n) ∧ (Value.func (Fn.func (23 : Nat)) #[] #[Value.pointer (some { block := (1 : Nat), off := (0 : Nat) })] = Value.func (Fn.func (23 : Nat)) #[] #[Value.pointer (some { block := (1 : Nat), off := (0 : Nat) })] ∧ Value.slice (some { block := (3 : Nat), off := (0 : Nat) }) (0 : Nat) (0 : Nat) = Value.slice (some { block := (3 : Nat), off := (0 : Nat) }) s (0 : Nat) ∧ Value.slice (some { block := (0 : Nat), off := (0 : Nat) }) n c = Value.slice (some { block := (0 : Nat), off := (0 : Nat) }) n c ∧ Value.int IntKind.i64 (↑n : Int) = Value.int IntKind.i64 (↑n : Int) ∧ Value.int IntKind.i64 (0 : Int) = Value.int IntKind.i64 (↑s : Int) ∧ True) ∧ some (AObj.row (ints z) (1 : Nat) true true true) :: some (AObj.row [Value.slice (some { block := (2 : Nat), off := (0 : Nat) }) q b] (0 : Nat) false true false) :: some (AObj.row (ints d) (2 : Nat) true true true) :: some (AObj.row [] (2 : Nat) true true true) :: noH = some (AObj.row (ints z) (1 : Nat) true true true) :: some (AObj.row [Value.slice (some { block := (2 : Nat), off := (0 : Nat) }) q b] (0 : Nat) false true false) :: some (AObj.row (ints d) (2 : Nat) true true true) :: some (AObj.row (ints (mp (gQ z d) s)) (2 : Nat) true true true) :: noH) ∧ ∀ (s : Nat), Is (s ≤ n) → br (decide ((↑s : Int) < (↑n : Int))) (Is ((0 : Int) ≤ (↑s : Int) ∧ (↑s : Int) < (↑n : Int)) ∧ Is ((ints z)[(0 : Nat) + Int.toNat (↑s : Int) * (1 : Nat)]? = some (Value.int IntKind.i64 (iAt (ints z) ((0 : Nat) + Int.toNat (↑s : Int) * (1 : Nat))))) ∧ Is (vD q (2 : Nat) (ints d) ∧ (0 : Int) ≤ iAt (ints z) ((0 : Nat) + Int.toNat (↑s : Int) * (1 : Nat)) ∧ iAt (ints z) ((0 : Nat) + Int.toNat (↑s : Int) * (1 : Nat)) < (↑q : Int)) ∧ Is (List.length (ints (mp (gQ z d) s)) = s * (2 : Nat) ∧ (s + (1 : Nat)) * (16 : Nat) ≤ (140737488355328 : Nat) ∧ s + (1 : Nat) ≤ (9223372036854775807 : Nat)) ∧ ∃ (s' : Nat), Is (s' ≤ n) ∧ Is (n - s' < n - s) ∧ (Value.func (Fn.func (23 : Nat)) #[] #[Value.pointer (some { block := (1 : Nat), off := (0 : Nat) })] = Value.func (Fn.func (23 : Nat)) #[] #[Value.pointer (some { block := (1 : Nat), off := (0 : Nat) })] ∧ Value.slice (some { block := (3 : Nat), off := (0 : Nat) }) (s + (1 : Nat)) (0 : Nat) = Value.slice (some { block := (3 : Nat), off := (0 : Nat) }) s' (0 : Nat) ∧ Value.slice (some { block := (0 : Nat), off := (0 : Nat) }) n c = Value.slice (some { block := (0 : Nat), off := (0 : Nat) }) n c ∧ Value.int IntKind.i64 (↑n : Int) = Value.int IntKind.i64 (↑n : Int) ∧ Value.int IntKind.i64 (IntKind.wrap IntKind.i64 ((↑s : Int) + (1 : Int))) = Value.int IntKind.i64 (↑s' : Int) ∧ True) ∧ some (AObj.row (ints z) (1 : Nat) true true true) :: some (AObj.row [Value.slice (some { block := (2 : Nat), off := (0 : Nat) }) q b] (0 : Nat) false true false) :: some (AObj.row (ints d) (2 : Nat) true true true) :: some (AObj.row (ints (mp (gQ z d) s) ++ [Value.int IntKind.i64 (atC (ints d) (iAt (ints z) ((0 : Nat) + Int.toNat (↑s : Int) * (1 : Nat)) * (2 : Int))), Value.int IntKind.i64 (atC (ints d) (iAt (ints z) ((0 : Nat) + Int.toNat (↑s : Int) * (1 : Nat)) * (2 : Int) + (1 : Int)))]) (2 : Nat) true true (List.all [Value.int IntKind.i64 (atC (ints d) (iAt (ints z) ((0 : Nat) + Int.toNat (↑s : Int) * (1 : Nat)) * (2 : Int))), Value.int IntKind.i64 (atC (ints d) (iAt (ints z) ((0 : Nat) + Int.toNat (↑s : Int) * (1 : Nat)) * (2 : Int) + (1 : Int)))] atom)) :: noH = some (AObj.row (ints z) (1 : Nat) true true true) :: some (AObj.row [Value.slice (some { block := (2 : Nat), off := (0 : Nat) }) q b] (0 : Nat) false true false) :: some (AObj.row (ints d) (2 : Nat) true true true) :: some (AObj.row (ints (mp (gQ z d) s')) (2 : Nat) true true true) :: noH) (K (Value.slice (some { block := (3 : Nat), off := (0 : Nat) }) s (0 : Nat)) (some (AObj.row (ints z) (1 : Nat) true true true) :: some (AObj.row [Value.slice (some { block := (2 : Nat), off := (0 : Nat) }) q b] (0 : Nat) false true false) :: some (AObj.row (ints d) (2 : Nat) true true true) :: some (AObj.row (ints (mp (gQ z d) s)) (2 : Nat) true true true) :: noH))) := by kernel_rfl
noncomputable def fmU : Value := .func (.func 49) #[] #[]
noncomputable def lpU (z d : List Int) (n c q b : Nat) : Lp where
  σ := Nat
  E i := slots 22 [(1, fmU), (5, .slice (some ⟨1, 0, none⟩) i 0), (8, .slice (some ⟨0, 0, none⟩) n c), (9, .int .i64 (n : Int)), (10, .int .i64 (i : Int))]
  Hp i := dat (ints z) 3 :: [] ++ [dat (ints (mp (gU z d) i)) 1]
  I i := i ≤ n
  m i := n - i
noncomputable def hsU (z d : List Int) (n c q b : Nat) : Hs Try.prog where
  op y := if y = 400 then some (hIa Try.prog) else if y = 401 then some (hLc Try.prog gE3) else if y = 503 then some (hCa Try.prog 49 orcK49 okK49) else if y = 505 then some (hAp Try.prog) else none
  lp y := if y = 3 then some (lpU z d n c q b) else none
  cl _ := keep 22 [1, 5, 8, 9, 10]
  nl _ := [.only (.slot 5 1)]
  sm := true
  au := au0 Try.prog
theorem mU_t (z : List Int) (d : List Int) (n : Nat) (c : Nat) (q : Nat) (b : Nat) (K : Value → Heap → Prop) :
    (fnP Try.prog c0 (hsU z d n c q b) (48 : FuncId) [Value.slice (some { block := (0 : Nat), off := (0 : Nat) }) n c, fmU] [dat (ints z) (3 : Nat)] K) =
    ((∃ (s : Nat), Is (s ≤ n) ∧ (Value.func (Fn.func (49 : Nat)) #[] #[] = Value.func (Fn.func (49 : Nat)) #[] #[] ∧ Value.slice (some { block := (1 : Nat), off := (0 : Nat) }) (0 : Nat) (0 : Nat) = Value.slice (some { block := (1 : Nat), off := (0 : Nat) }) s (0 : Nat) ∧ Value.slice (some { block := (0 : Nat), off := (0 : Nat) }) n c = Value.slice (some { block := (0 : Nat), off := (0 : Nat) }) n c ∧ Value.int IntKind.i64 (↑n : Int) = Value.int IntKind.i64 (↑n : Int) ∧ Value.int IntKind.i64 (0 : Int) = Value.int IntKind.i64 (↑s : Int) ∧ True) ∧ some (AObj.row (ints z) (3 : Nat) true true true) :: some (AObj.row [] (1 : Nat) true true true) :: noH = some (AObj.row (ints z) (3 : Nat) true true true) :: some (AObj.row (ints (mp (gU z d) s)) (1 : Nat) true true true) :: noH) ∧ ∀ (s : Nat), Is (s ≤ n) → br (decide ((↑s : Int) < (↑n : Int))) (Is ((0 : Int) ≤ (↑s : Int) ∧ (↑s : Int) < (↑n : Int)) ∧ Is ((if (0 : Nat) + Int.toNat (↑s : Int) * (3 : Nat) + (3 : Nat) ≤ List.length (ints z) then some (Value.agg (List.toArray (List.take (3 : Nat) (List.drop ((0 : Nat) + Int.toNat (↑s : Int) * (3 : Nat)) (ints z))))) else none) = some (Value.agg #[Value.int IntKind.i64 (iAt (ints z) ((0 : Nat) + Int.toNat (↑s : Int) * (3 : Nat))), Value.int IntKind.i64 (iAt (ints z) ((0 : Nat) + Int.toNat (↑s : Int) * (3 : Nat) + (1 : Nat))), Value.int IntKind.i64 (iAt (ints z) ((0 : Nat) + Int.toNat (↑s : Int) * (3 : Nat) + (2 : Nat)))])) ∧ Is True ∧ Is (List.length (ints (mp (gU z d) s)) = s * (1 : Nat) ∧ (s + (1 : Nat)) * (8 : Nat) ≤ (140737488355328 : Nat) ∧ s + (1 : Nat) ≤ (9223372036854775807 : Nat)) ∧ ∃ (s' : Nat), Is (s' ≤ n) ∧ Is (n - s' < n - s) ∧ (Value.func (Fn.func (49 : Nat)) #[] #[] = Value.func (Fn.func (49 : Nat)) #[] #[] ∧ Value.slice (some { block := (1 : Nat), off := (0 : Nat) }) (s + (1 : Nat)) (0 : Nat) = Value.slice (some { block := (1 : Nat), off := (0 : Nat) }) s' (0 : Nat) ∧ Value.slice (some { block := (0 : Nat), off := (0 : Nat) }) n c = Value.slice (some { block := (0 : Nat), off := (0 : Nat) }) n c ∧ Value.int IntKind.i64 (↑n : Int) = Value.int IntKind.i64 (↑n : Int) ∧ Value.int IntKind.i64 (IntKind.wrap IntKind.i64 ((↑s : Int) + (1 : Int))) = Value.int IntKind.i64 (↑s' : Int) ∧ True) ∧ some (AObj.row (ints z) (3 : Nat) true true true) :: some (AObj.row (ints (mp (gU z d) s) ++ [Value.int IntKind.i64 (iAt (ints z) ((0 : Nat) + Int.toNat (↑s : Int) * (3 : Nat)))]) (1 : Nat) true true (List.all [Value.int IntKind.i64 (iAt (ints z) ((0 : Nat) + Int.toNat (↑s : Int) * (3 : Nat)))] atom)) :: noH = some (AObj.row (ints z) (3 : Nat) true true true) :: some (AObj.row (ints (mp (gU z d) s')) (1 : Nat) true true true) :: noH) (K (Value.slice (some { block := (1 : Nat), off := (0 : Nat) }) s (0 : Nat)) (some (AObj.row (ints z) (3 : Nat) true true true) :: some (AObj.row (ints (mp (gU z d) s)) (1 : Nat) true true true) :: noH))) := by kernel_rfl
noncomputable def fmX : Value := .func (.func 75) #[] #[]
noncomputable def lpX (z d : List Int) (n c q b : Nat) : Lp where
  σ := Nat
  E i := slots 22 [(1, fmX), (5, .slice (some ⟨1, 0, none⟩) i 0), (8, .slice (some ⟨0, 0, none⟩) n c), (9, .int .i64 (n : Int)), (10, .int .i64 (i : Int))]
  Hp i := dat (ints z) 2 :: [] ++ [dat (ints (mp (gX z d) i)) 1]
  I i := i ≤ n
  m i := n - i
noncomputable def hsX (z d : List Int) (n c q b : Nat) : Hs Try.prog where
  op y := if y = 400 then some (hIa Try.prog) else if y = 401 then some (hLc Try.prog gPt) else if y = 503 then some (hCa Try.prog 75 orcK75 okK75) else if y = 505 then some (hAp Try.prog) else none
  lp y := if y = 3 then some (lpX z d n c q b) else none
  cl _ := keep 22 [1, 5, 8, 9, 10]
  nl _ := [.only (.slot 5 1)]
  sm := true
  au := au0 Try.prog
theorem mX_t (z : List Int) (d : List Int) (n : Nat) (c : Nat) (q : Nat) (b : Nat) (K : Value → Heap → Prop) :
    (fnP Try.prog c0 (hsX z d n c q b) (74 : FuncId) [Value.slice (some { block := (0 : Nat), off := (0 : Nat) }) n c, fmX] [dat (ints z) (2 : Nat)] K) =
    ((∃ (s : Nat), Is (s ≤ n) ∧ (Value.func (Fn.func (75 : Nat)) #[] #[] = Value.func (Fn.func (75 : Nat)) #[] #[] ∧ Value.slice (some { block := (1 : Nat), off := (0 : Nat) }) (0 : Nat) (0 : Nat) = Value.slice (some { block := (1 : Nat), off := (0 : Nat) }) s (0 : Nat) ∧ Value.slice (some { block := (0 : Nat), off := (0 : Nat) }) n c = Value.slice (some { block := (0 : Nat), off := (0 : Nat) }) n c ∧ Value.int IntKind.i64 (↑n : Int) = Value.int IntKind.i64 (↑n : Int) ∧ Value.int IntKind.i64 (0 : Int) = Value.int IntKind.i64 (↑s : Int) ∧ True) ∧ some (AObj.row (ints z) (2 : Nat) true true true) :: some (AObj.row [] (1 : Nat) true true true) :: noH = some (AObj.row (ints z) (2 : Nat) true true true) :: some (AObj.row (ints (mp (gX z d) s)) (1 : Nat) true true true) :: noH) ∧ ∀ (s : Nat), Is (s ≤ n) → br (decide ((↑s : Int) < (↑n : Int))) (Is ((0 : Int) ≤ (↑s : Int) ∧ (↑s : Int) < (↑n : Int)) ∧ Is ((if (0 : Nat) + Int.toNat (↑s : Int) * (2 : Nat) + (2 : Nat) ≤ List.length (ints z) then some (Value.agg (List.toArray (List.take (2 : Nat) (List.drop ((0 : Nat) + Int.toNat (↑s : Int) * (2 : Nat)) (ints z))))) else none) = some (Value.agg #[Value.int IntKind.i64 (iAt (ints z) ((0 : Nat) + Int.toNat (↑s : Int) * (2 : Nat))), Value.int IntKind.i64 (iAt (ints z) ((0 : Nat) + Int.toNat (↑s : Int) * (2 : Nat) + (1 : Nat)))])) ∧ Is True ∧ Is (List.length (ints (mp (gX z d) s)) = s * (1 : Nat) ∧ (s + (1 : Nat)) * (8 : Nat) ≤ (140737488355328 : Nat) ∧ s + (1 : Nat) ≤ (9223372036854775807 : Nat)) ∧ ∃ (s' : Nat), Is (s' ≤ n) ∧ Is (n - s' < n - s) ∧ (Value.func (Fn.func (75 : Nat)) #[] #[] = Value.func (Fn.func (75 : Nat)) #[] #[] ∧ Value.slice (some { block := (1 : Nat), off := (0 : Nat) }) (s + (1 : Nat)) (0 : Nat) = Value.slice (some { block := (1 : Nat), off := (0 : Nat) }) s' (0 : Nat) ∧ Value.slice (some { block := (0 : Nat), off := (0 : Nat) }) n c = Value.slice (some { block := (0 : Nat), off := (0 : Nat) }) n c ∧ Value.int IntKind.i64 (↑n : Int) = Value.int IntKind.i64 (↑n : Int) ∧ Value.int IntKind.i64 (IntKind.wrap IntKind.i64 ((↑s : Int) + (1 : Int))) = Value.int IntKind.i64 (↑s' : Int) ∧ True) ∧ some (AObj.row (ints z) (2 : Nat) true true true) :: some (AObj.row (ints (mp (gX z d) s) ++ [Value.int IntKind.i64 (iAt (ints z) ((0 : Nat) + Int.toNat (↑s : Int) * (2 : Nat)))]) (1 : Nat) true true (List.all [Value.int IntKind.i64 (iAt (ints z) ((0 : Nat) + Int.toNat (↑s : Int) * (2 : Nat)))] atom)) :: noH = some (AObj.row (ints z) (2 : Nat) true true true) :: some (AObj.row (ints (mp (gX z d) s')) (1 : Nat) true true true) :: noH) (K (Value.slice (some { block := (1 : Nat), off := (0 : Nat) }) s (0 : Nat)) (some (AObj.row (ints z) (2 : Nat) true true true) :: some (AObj.row (ints (mp (gX z d) s)) (1 : Nat) true true true) :: noH))) := by kernel_rfl
noncomputable def fmY : Value := .func (.func 76) #[] #[]
noncomputable def lpY (z d : List Int) (n c q b : Nat) : Lp where
  σ := Nat
  E i := slots 22 [(1, fmY), (5, .slice (some ⟨1, 0, none⟩) i 0), (8, .slice (some ⟨0, 0, none⟩) n c), (9, .int .i64 (n : Int)), (10, .int .i64 (i : Int))]
  Hp i := dat (ints z) 2 :: [] ++ [dat (ints (mp (gY z d) i)) 1]
  I i := i ≤ n
  m i := n - i
noncomputable def hsY (z d : List Int) (n c q b : Nat) : Hs Try.prog where
  op y := if y = 400 then some (hIa Try.prog) else if y = 401 then some (hLc Try.prog gPt) else if y = 503 then some (hCa Try.prog 76 orcK76 okK76) else if y = 505 then some (hAp Try.prog) else none
  lp y := if y = 3 then some (lpY z d n c q b) else none
  cl _ := keep 22 [1, 5, 8, 9, 10]
  nl _ := [.only (.slot 5 1)]
  sm := true
  au := au0 Try.prog
theorem mY_t (z : List Int) (d : List Int) (n : Nat) (c : Nat) (q : Nat) (b : Nat) (K : Value → Heap → Prop) :
    (fnP Try.prog c0 (hsY z d n c q b) (74 : FuncId) [Value.slice (some { block := (0 : Nat), off := (0 : Nat) }) n c, fmY] [dat (ints z) (2 : Nat)] K) =
    ((∃ (s : Nat), Is (s ≤ n) ∧ (Value.func (Fn.func (76 : Nat)) #[] #[] = Value.func (Fn.func (76 : Nat)) #[] #[] ∧ Value.slice (some { block := (1 : Nat), off := (0 : Nat) }) (0 : Nat) (0 : Nat) = Value.slice (some { block := (1 : Nat), off := (0 : Nat) }) s (0 : Nat) ∧ Value.slice (some { block := (0 : Nat), off := (0 : Nat) }) n c = Value.slice (some { block := (0 : Nat), off := (0 : Nat) }) n c ∧ Value.int IntKind.i64 (↑n : Int) = Value.int IntKind.i64 (↑n : Int) ∧ Value.int IntKind.i64 (0 : Int) = Value.int IntKind.i64 (↑s : Int) ∧ True) ∧ some (AObj.row (ints z) (2 : Nat) true true true) :: some (AObj.row [] (1 : Nat) true true true) :: noH = some (AObj.row (ints z) (2 : Nat) true true true) :: some (AObj.row (ints (mp (gY z d) s)) (1 : Nat) true true true) :: noH) ∧ ∀ (s : Nat), Is (s ≤ n) → br (decide ((↑s : Int) < (↑n : Int))) (Is ((0 : Int) ≤ (↑s : Int) ∧ (↑s : Int) < (↑n : Int)) ∧ Is ((if (0 : Nat) + Int.toNat (↑s : Int) * (2 : Nat) + (2 : Nat) ≤ List.length (ints z) then some (Value.agg (List.toArray (List.take (2 : Nat) (List.drop ((0 : Nat) + Int.toNat (↑s : Int) * (2 : Nat)) (ints z))))) else none) = some (Value.agg #[Value.int IntKind.i64 (iAt (ints z) ((0 : Nat) + Int.toNat (↑s : Int) * (2 : Nat))), Value.int IntKind.i64 (iAt (ints z) ((0 : Nat) + Int.toNat (↑s : Int) * (2 : Nat) + (1 : Nat)))])) ∧ Is True ∧ Is (List.length (ints (mp (gY z d) s)) = s * (1 : Nat) ∧ (s + (1 : Nat)) * (8 : Nat) ≤ (140737488355328 : Nat) ∧ s + (1 : Nat) ≤ (9223372036854775807 : Nat)) ∧ ∃ (s' : Nat), Is (s' ≤ n) ∧ Is (n - s' < n - s) ∧ (Value.func (Fn.func (76 : Nat)) #[] #[] = Value.func (Fn.func (76 : Nat)) #[] #[] ∧ Value.slice (some { block := (1 : Nat), off := (0 : Nat) }) (s + (1 : Nat)) (0 : Nat) = Value.slice (some { block := (1 : Nat), off := (0 : Nat) }) s' (0 : Nat) ∧ Value.slice (some { block := (0 : Nat), off := (0 : Nat) }) n c = Value.slice (some { block := (0 : Nat), off := (0 : Nat) }) n c ∧ Value.int IntKind.i64 (↑n : Int) = Value.int IntKind.i64 (↑n : Int) ∧ Value.int IntKind.i64 (IntKind.wrap IntKind.i64 ((↑s : Int) + (1 : Int))) = Value.int IntKind.i64 (↑s' : Int) ∧ True) ∧ some (AObj.row (ints z) (2 : Nat) true true true) :: some (AObj.row (ints (mp (gY z d) s) ++ [Value.int IntKind.i64 (iAt (ints z) ((0 : Nat) + Int.toNat (↑s : Int) * (2 : Nat) + (1 : Nat)))]) (1 : Nat) true true (List.all [Value.int IntKind.i64 (iAt (ints z) ((0 : Nat) + Int.toNat (↑s : Int) * (2 : Nat) + (1 : Nat)))] atom)) :: noH = some (AObj.row (ints z) (2 : Nat) true true true) :: some (AObj.row (ints (mp (gY z d) s')) (1 : Nat) true true true) :: noH) (K (Value.slice (some { block := (1 : Nat), off := (0 : Nat) }) s (0 : Nat)) (some (AObj.row (ints z) (2 : Nat) true true true) :: some (AObj.row (ints (mp (gY z d) s)) (1 : Nat) true true true) :: noH))) := by kernel_rfl
theorem mp_succ (g : Nat → List Int) (i : Nat) : mp g (i + 1) = mp g i ++ g i := by
  rw [mp, List.range_succ, List.flatMap_append, List.flatMap_singleton]; rfl
theorem mp_len {g : Nat → List Int} {w : Nat} (h : ∀ i, (g i).length = w) : ∀ n, (mp g n).length = n * w
  | 0 => by rw [Nat.zero_mul]; rfl
  | n + 1 => by rw [mp_succ, List.length_append, mp_len h n, h, Nat.add_mul, Nat.one_mul]
theorem atC_ints (d : List Int) (a : Int) : atC (ints d) a = d.getD a.toNat 0 := by rw [atC, deI_ints]
theorem mP_ok {z d : List Int} {n c q b : Nat} (hz : z.length = n * 1) (hn : n ≤ 100) :
    SmallRes Try.prog 39 [.slice (some ⟨0, 0, none⟩) n c, fmP] (dat (ints z) 1 :: []) (.slice (some ⟨1, 0, none⟩) n 0) (dat (ints z) 1 :: [] ++ [dat (ints (mp (gP z d) n)) 1]) := by
  refine fnP_res hm c0_ok (hs := hsP z d n c q b) ?_
  show fnP Try.prog c0 (hsP z d n c q b) 39 _ _ _
  rw [mP_t]
  refine ⟨⟨0, ⟨Nat.zero_le _⟩, ⟨rfl, rfl, rfl, rfl, rfl, trivial⟩, rfl⟩, fun i hi => br_of (fun hc => ?_) (fun hc => ?_)⟩
  · have hc := lt_of_dec hc
    have hL : (ints (mp (gP z d) i)).length = i * 1 := by rw [ints_len]; exact mp_len (g := gP z d) (fun _ => rfl) i
    have a0 : iAt (ints z) (0 + (i : Int).toNat * 1) = z.getD i 0 := by
      rw [Int.toNat_natCast, Nat.zero_add, Nat.mul_one]; exact z_at3 (by omega)
    have l1 : (ints z)[0 + (i : Int).toNat * 1]? = some (.int .i64 (z.getD i 0)) := by
      rw [Int.toNat_natCast, Nat.zero_add, Nat.mul_one]; exact zint_at (by omega)
    simp only [a0, l1]
    refine ⟨⟨by omega, by omega⟩, ⟨by trivial⟩, ⟨by trivial⟩, ⟨hL, by omega, by omega⟩, i + 1, ⟨by omega⟩, ⟨by omega⟩, ⟨by first | trivial | rfl, by first | trivial | rfl, by first | trivial | rfl, by first | trivial | rfl, by rw [up1 hc (by omega)], trivial⟩, ?_⟩
    rw [mp_succ, ← ints_app]; rfl
  · have hc := ge_of_dec hc
    have : n = i := by have := hi.out; omega
    subst this
    exact ⟨rfl, rfl⟩
theorem mC_ok {z d : List Int} {n c q b : Nat} (hz : z.length = n * 3) (hn : n ≤ 100) (hv : ∀ i, i < n → vE q (z.getD (i * 3) 0) (z.getD (i * 3 + 1) 0) (z.getD (i * 3 + 2) 0)) :
    SmallRes Try.prog 27 [.slice (some ⟨0, 0, none⟩) n c, fmC] (dat (ints z) 3 :: [bxR q b 2, dat (ints d) 1]) (.slice (some ⟨3, 0, none⟩) n 0) (dat (ints z) 3 :: [bxR q b 2, dat (ints d) 1] ++ [dat (ints (mp (gC0 z d) n)) 1]) := by
  refine fnP_res hm c0_ok (hs := hsCk z d n c q b) ?_
  show fnP Try.prog c0 (hsCk z d n c q b) 27 _ _ _
  rw [mC_t]
  refine ⟨⟨0, ⟨Nat.zero_le _⟩, ⟨rfl, rfl, rfl, rfl, rfl, trivial⟩, rfl⟩, fun i hi => br_of (fun hc => ?_) (fun hc => ?_)⟩
  · have hc := lt_of_dec hc
    have hL : (ints (mp (gC0 z d) i)).length = i * 1 := by rw [ints_len]; exact mp_len (g := gC0 z d) (fun _ => rfl) i
    have a0 : iAt (ints z) (0 + (i : Int).toNat * 3) = z.getD (i * 3) 0 := by
      rw [Int.toNat_natCast, Nat.zero_add]; exact z_at3 (by omega)
    have a1 : iAt (ints z) (0 + (i : Int).toNat * 3 + 1) = z.getD (i * 3 + 1) 0 := by
      rw [Int.toNat_natCast, Nat.zero_add]; exact z_at3 (by omega)
    have a2 : iAt (ints z) (0 + (i : Int).toNat * 3 + 2) = z.getD (i * 3 + 2) 0 := by
      rw [Int.toNat_natCast, Nat.zero_add]; exact z_at3 (by omega)
    have l1 := (tri_ld hz (g := (i : Int)) (by omega) (by omega)).1
    rw [gE3, a0, a1, a2] at l1
    have hvi := hv i hc
    simp only [a0, a1, a2, l1]
    refine ⟨⟨by omega, by omega⟩, ⟨by trivial⟩, ⟨hvi⟩, ⟨hL, by omega, by omega⟩, i + 1, ⟨by omega⟩, ⟨by omega⟩, ⟨by first | trivial | rfl, by first | trivial | rfl, by first | trivial | rfl, by first | trivial | rfl, by rw [up1 hc (by omega)], trivial⟩, ?_⟩
    rw [mp_succ, ← ints_app]; rfl
  · have hc := ge_of_dec hc
    have : n = i := by have := hi.out; omega
    subst this
    exact ⟨rfl, rfl⟩
theorem mL_ok {z d : List Int} {n c q b : Nat} (hz : z.length = n * 3) (hn : n ≤ 100) (hv : ∀ i, i < n → vE q (z.getD (i * 3) 0) (z.getD (i * 3 + 1) 0) (z.getD (i * 3 + 2) 0) ∧ vP q (ints d)) :
    SmallRes Try.prog 29 [.slice (some ⟨0, 0, none⟩) n c, fmL] (dat (ints z) 3 :: [bxR q b 2, dat (ints d) 1]) (.slice (some ⟨3, 0, none⟩) n 0) (dat (ints z) 3 :: [bxR q b 2, dat (ints d) 1] ++ [dat (ints (mp (gL z d) n)) 2]) := by
  refine fnP_res hm c0_ok (hs := hsL z d n c q b) ?_
  show fnP Try.prog c0 (hsL z d n c q b) 29 _ _ _
  rw [mL_t]
  refine ⟨⟨0, ⟨Nat.zero_le _⟩, ⟨rfl, rfl, rfl, rfl, rfl, trivial⟩, rfl⟩, fun i hi => br_of (fun hc => ?_) (fun hc => ?_)⟩
  · have hc := lt_of_dec hc
    have hL : (ints (mp (gL z d) i)).length = i * 2 := by rw [ints_len]; exact mp_len (g := gL z d) (fun _ => rfl) i
    have a0 : iAt (ints z) (0 + (i : Int).toNat * 3) = z.getD (i * 3) 0 := by
      rw [Int.toNat_natCast, Nat.zero_add]; exact z_at3 (by omega)
    have a1 : iAt (ints z) (0 + (i : Int).toNat * 3 + 1) = z.getD (i * 3 + 1) 0 := by
      rw [Int.toNat_natCast, Nat.zero_add]; exact z_at3 (by omega)
    have a2 : iAt (ints z) (0 + (i : Int).toNat * 3 + 2) = z.getD (i * 3 + 2) 0 := by
      rw [Int.toNat_natCast, Nat.zero_add]; exact z_at3 (by omega)
    have l1 := (tri_ld hz (g := (i : Int)) (by omega) (by omega)).1
    rw [gE3, a0, a1, a2] at l1
    have hvi := hv i hc
    simp only [a0, a1, a2, atC_ints, l1]
    refine ⟨⟨by omega, by omega⟩, ⟨by trivial⟩, ⟨hvi⟩, ⟨hL, by omega, by omega⟩, i + 1, ⟨by omega⟩, ⟨by omega⟩, ⟨by first | trivial | rfl, by first | trivial | rfl, by first | trivial | rfl, by first | trivial | rfl, by rw [up1 hc (by omega)], trivial⟩, ?_⟩
    rw [mp_succ, ← ints_app]; rfl
  · have hc := ge_of_dec hc
    have : n = i := by have := hi.out; omega
    subst this
    exact ⟨rfl, rfl⟩
theorem mE_ok {z d : List Int} {n c q b : Nat} (hz : z.length = n * 1) (hn : n ≤ 100) (hv : ∀ i, i < n → vD q 3 (ints d) ∧ 0 ≤ z.getD i 0 ∧ z.getD i 0 < q) :
    SmallRes Try.prog 19 [.slice (some ⟨0, 0, none⟩) n c, fmE] (dat (ints z) 1 :: [bxR q b 2, dat (ints d) 3]) (.slice (some ⟨3, 0, none⟩) n 0) (dat (ints z) 1 :: [bxR q b 2, dat (ints d) 3] ++ [dat (ints (mp (gE z d) n)) 3]) := by
  refine fnP_res hm c0_ok (hs := hsEc z d n c q b) ?_
  show fnP Try.prog c0 (hsEc z d n c q b) 19 _ _ _
  rw [mE_t]
  refine ⟨⟨0, ⟨Nat.zero_le _⟩, ⟨rfl, rfl, rfl, rfl, rfl, trivial⟩, rfl⟩, fun i hi => br_of (fun hc => ?_) (fun hc => ?_)⟩
  · have hc := lt_of_dec hc
    have hL : (ints (mp (gE z d) i)).length = i * 3 := by rw [ints_len]; exact mp_len (g := gE z d) (fun _ => rfl) i
    have a0 : iAt (ints z) (0 + (i : Int).toNat * 1) = z.getD i 0 := by
      rw [Int.toNat_natCast, Nat.zero_add, Nat.mul_one]; exact z_at3 (by omega)
    have l1 : (ints z)[0 + (i : Int).toNat * 1]? = some (.int .i64 (z.getD i 0)) := by
      rw [Int.toNat_natCast, Nat.zero_add, Nat.mul_one]; exact zint_at (by omega)
    have hvi := hv i hc
    simp only [a0, atC_ints, tn3 hvi.2.1, tn31 hvi.2.1, tn32 hvi.2.1, l1]
    refine ⟨⟨by omega, by omega⟩, ⟨by trivial⟩, ⟨hvi⟩, ⟨hL, by omega, by omega⟩, i + 1, ⟨by omega⟩, ⟨by omega⟩, ⟨by first | trivial | rfl, by first | trivial | rfl, by first | trivial | rfl, by first | trivial | rfl, by rw [up1 hc (by omega)], trivial⟩, ?_⟩
    rw [mp_succ, ← ints_app]; rfl
  · have hc := ge_of_dec hc
    have : n = i := by have := hi.out; omega
    subst this
    exact ⟨rfl, rfl⟩
theorem mQ_ok {z d : List Int} {n c q b : Nat} (hz : z.length = n * 1) (hn : n ≤ 100) (hv : ∀ i, i < n → vD q 2 (ints d) ∧ 0 ≤ z.getD i 0 ∧ z.getD i 0 < q) :
    SmallRes Try.prog 22 [.slice (some ⟨0, 0, none⟩) n c, fmQ] (dat (ints z) 1 :: [bxR q b 2, dat (ints d) 2]) (.slice (some ⟨3, 0, none⟩) n 0) (dat (ints z) 1 :: [bxR q b 2, dat (ints d) 2] ++ [dat (ints (mp (gQ z d) n)) 2]) := by
  refine fnP_res hm c0_ok (hs := hsQ z d n c q b) ?_
  show fnP Try.prog c0 (hsQ z d n c q b) 22 _ _ _
  rw [mQ_t]
  refine ⟨⟨0, ⟨Nat.zero_le _⟩, ⟨rfl, rfl, rfl, rfl, rfl, trivial⟩, rfl⟩, fun i hi => br_of (fun hc => ?_) (fun hc => ?_)⟩
  · have hc := lt_of_dec hc
    have hL : (ints (mp (gQ z d) i)).length = i * 2 := by rw [ints_len]; exact mp_len (g := gQ z d) (fun _ => rfl) i
    have a0 : iAt (ints z) (0 + (i : Int).toNat * 1) = z.getD i 0 := by
      rw [Int.toNat_natCast, Nat.zero_add, Nat.mul_one]; exact z_at3 (by omega)
    have l1 : (ints z)[0 + (i : Int).toNat * 1]? = some (.int .i64 (z.getD i 0)) := by
      rw [Int.toNat_natCast, Nat.zero_add, Nat.mul_one]; exact zint_at (by omega)
    have hvi := hv i hc
    simp only [a0, atC_ints, tn2 hvi.2.1, tn21 hvi.2.1, l1]
    refine ⟨⟨by omega, by omega⟩, ⟨by trivial⟩, ⟨hvi⟩, ⟨hL, by omega, by omega⟩, i + 1, ⟨by omega⟩, ⟨by omega⟩, ⟨by first | trivial | rfl, by first | trivial | rfl, by first | trivial | rfl, by first | trivial | rfl, by rw [up1 hc (by omega)], trivial⟩, ?_⟩
    rw [mp_succ, ← ints_app]; rfl
  · have hc := ge_of_dec hc
    have : n = i := by have := hi.out; omega
    subst this
    exact ⟨rfl, rfl⟩
theorem mU_ok {z d : List Int} {n c q b : Nat} (hz : z.length = n * 3) (hn : n ≤ 100) :
    SmallRes Try.prog 48 [.slice (some ⟨0, 0, none⟩) n c, fmU] (dat (ints z) 3 :: []) (.slice (some ⟨1, 0, none⟩) n 0) (dat (ints z) 3 :: [] ++ [dat (ints (mp (gU z d) n)) 1]) := by
  refine fnP_res hm c0_ok (hs := hsU z d n c q b) ?_
  show fnP Try.prog c0 (hsU z d n c q b) 48 _ _ _
  rw [mU_t]
  refine ⟨⟨0, ⟨Nat.zero_le _⟩, ⟨rfl, rfl, rfl, rfl, rfl, trivial⟩, rfl⟩, fun i hi => br_of (fun hc => ?_) (fun hc => ?_)⟩
  · have hc := lt_of_dec hc
    have hL : (ints (mp (gU z d) i)).length = i * 1 := by rw [ints_len]; exact mp_len (g := gU z d) (fun _ => rfl) i
    have a0 : iAt (ints z) (0 + (i : Int).toNat * 3) = z.getD (i * 3) 0 := by
      rw [Int.toNat_natCast, Nat.zero_add]; exact z_at3 (by omega)
    have a1 : iAt (ints z) (0 + (i : Int).toNat * 3 + 1) = z.getD (i * 3 + 1) 0 := by
      rw [Int.toNat_natCast, Nat.zero_add]; exact z_at3 (by omega)
    have a2 : iAt (ints z) (0 + (i : Int).toNat * 3 + 2) = z.getD (i * 3 + 2) 0 := by
      rw [Int.toNat_natCast, Nat.zero_add]; exact z_at3 (by omega)
    have l1 := (tri_ld hz (g := (i : Int)) (by omega) (by omega)).1
    rw [gE3, a0, a1, a2] at l1
    simp only [a0, a1, a2, l1]
    refine ⟨⟨by omega, by omega⟩, ⟨by trivial⟩, ⟨by trivial⟩, ⟨hL, by omega, by omega⟩, i + 1, ⟨by omega⟩, ⟨by omega⟩, ⟨by first | trivial | rfl, by first | trivial | rfl, by first | trivial | rfl, by first | trivial | rfl, by rw [up1 hc (by omega)], trivial⟩, ?_⟩
    rw [mp_succ, ← ints_app]; rfl
  · have hc := ge_of_dec hc
    have : n = i := by have := hi.out; omega
    subst this
    exact ⟨rfl, rfl⟩
theorem mX_ok {z d : List Int} {n c q b : Nat} (hz : z.length = n * 2) (hn : n ≤ 100) :
    SmallRes Try.prog 74 [.slice (some ⟨0, 0, none⟩) n c, fmX] (dat (ints z) 2 :: []) (.slice (some ⟨1, 0, none⟩) n 0) (dat (ints z) 2 :: [] ++ [dat (ints (mp (gX z d) n)) 1]) := by
  refine fnP_res hm c0_ok (hs := hsX z d n c q b) ?_
  show fnP Try.prog c0 (hsX z d n c q b) 74 _ _ _
  rw [mX_t]
  refine ⟨⟨0, ⟨Nat.zero_le _⟩, ⟨rfl, rfl, rfl, rfl, rfl, trivial⟩, rfl⟩, fun i hi => br_of (fun hc => ?_) (fun hc => ?_)⟩
  · have hc := lt_of_dec hc
    have hL : (ints (mp (gX z d) i)).length = i * 1 := by rw [ints_len]; exact mp_len (g := gX z d) (fun _ => rfl) i
    have a0 : iAt (ints z) (0 + (i : Int).toNat * 2) = z.getD (i * 2) 0 := by
      rw [Int.toNat_natCast, Nat.zero_add]; exact z_at3 (by omega)
    have a1 : iAt (ints z) (0 + (i : Int).toNat * 2 + 1) = z.getD (i * 2 + 1) 0 := by
      rw [Int.toNat_natCast, Nat.zero_add]; exact z_at3 (by omega)
    have l1 := (two_ld hz (g := (i : Int)) (by omega) (by omega)).1
    rw [gPt, a0, a1] at l1
    simp only [a0, a1, l1]
    refine ⟨⟨by omega, by omega⟩, ⟨by trivial⟩, ⟨by trivial⟩, ⟨hL, by omega, by omega⟩, i + 1, ⟨by omega⟩, ⟨by omega⟩, ⟨by first | trivial | rfl, by first | trivial | rfl, by first | trivial | rfl, by first | trivial | rfl, by rw [up1 hc (by omega)], trivial⟩, ?_⟩
    rw [mp_succ, ← ints_app]; rfl
  · have hc := ge_of_dec hc
    have : n = i := by have := hi.out; omega
    subst this
    exact ⟨rfl, rfl⟩
theorem mY_ok {z d : List Int} {n c q b : Nat} (hz : z.length = n * 2) (hn : n ≤ 100) :
    SmallRes Try.prog 74 [.slice (some ⟨0, 0, none⟩) n c, fmY] (dat (ints z) 2 :: []) (.slice (some ⟨1, 0, none⟩) n 0) (dat (ints z) 2 :: [] ++ [dat (ints (mp (gY z d) n)) 1]) := by
  refine fnP_res hm c0_ok (hs := hsY z d n c q b) ?_
  show fnP Try.prog c0 (hsY z d n c q b) 74 _ _ _
  rw [mY_t]
  refine ⟨⟨0, ⟨Nat.zero_le _⟩, ⟨rfl, rfl, rfl, rfl, rfl, trivial⟩, rfl⟩, fun i hi => br_of (fun hc => ?_) (fun hc => ?_)⟩
  · have hc := lt_of_dec hc
    have hL : (ints (mp (gY z d) i)).length = i * 1 := by rw [ints_len]; exact mp_len (g := gY z d) (fun _ => rfl) i
    have a0 : iAt (ints z) (0 + (i : Int).toNat * 2) = z.getD (i * 2) 0 := by
      rw [Int.toNat_natCast, Nat.zero_add]; exact z_at3 (by omega)
    have a1 : iAt (ints z) (0 + (i : Int).toNat * 2 + 1) = z.getD (i * 2 + 1) 0 := by
      rw [Int.toNat_natCast, Nat.zero_add]; exact z_at3 (by omega)
    have l1 := (two_ld hz (g := (i : Int)) (by omega) (by omega)).1
    rw [gPt, a0, a1] at l1
    simp only [a0, a1, l1]
    refine ⟨⟨by omega, by omega⟩, ⟨by trivial⟩, ⟨by trivial⟩, ⟨hL, by omega, by omega⟩, i + 1, ⟨by omega⟩, ⟨by omega⟩, ⟨by first | trivial | rfl, by first | trivial | rfl, by first | trivial | rfl, by first | trivial | rfl, by rw [up1 hc (by omega)], trivial⟩, ?_⟩
    rw [mp_succ, ← ints_app]; rfl
  · have hc := ge_of_dec hc
    have : n = i := by have := hi.out; omega
    subst this
    exact ⟨rfl, rfl⟩
end
end Qq
end
section
/- Numbers in an interval; the extent of numbers that are all the same: the trees. -/
open Go Go.Vm Go.Proofs Sp
namespace Sp
open Qq
noncomputable section
noncomputable def outI (lo hi x : Int) : Bool := decide (x < lo) || decide (hi < x)
noncomputable def ixO (lo hi : Int) : List Int → Nat → Int
  | [], _ => -1
  | g :: r, i => if outI lo hi g = true then (i : Int) else ixO lo hi r (i + 1)
noncomputable def ixOC (lo hi : Int) (e : List Value) : Int := ixO lo hi (deI e) 0
noncomputable def allIC (lo hi : Int) (e : List Value) : Bool := !(deI e).any (outI lo hi)
noncomputable def hdC (e : List Value) : Int := (deI e).getD 0 0
def sameC (e : List Value) (n : Nat) : Prop := ∃ v, e = ints (List.replicate n v) ∧ 1 ≤ n ∧ n ≤ 100 ∧ few v
def numC (e : List Value) (n : Nat) : Prop := ∃ L, e = ints L ∧ L.length = n ∧ n ≤ 100
end
end Sp
namespace Qq
noncomputable section
noncomputable def hsO : Hs Try.prog where
  au := au0 Try.prog
def bxI (lo hi : Int) : Option AObj := some (.row [.int .i64 lo, .int .i64 hi] 0 false true true)
theorem c60_t (x : Int) (lo : Int) (hi : Int) (K : Value → Heap → Prop) :
    (fnP Try.prog c0 hsO (60 : FuncId) [Value.int IntKind.i64 x, Value.pointer (some { block := (0 : Nat), off := (0 : Nat) })] [bxI lo hi] K) =
    (br (decide (x < lo)) (K (Value.bool true) (some (AObj.row [Value.int IntKind.i64 lo, Value.int IntKind.i64 hi] (0 : Nat) false true true) :: noH)) (K (Value.bool (decide (hi < x))) (some (AObj.row [Value.int IntKind.i64 lo, Value.int IntKind.i64 hi] (0 : Nat) false true true) :: noH))) := by kernel_rfl
noncomputable def orcK60 : OrcV
  | [.int .i64 x, .pointer (some ⟨0, 0, none⟩)], [some (.row [.int .i64 lo, .int .i64 hi] 0 false true true)] => some (.bool (outI lo hi x), [some (.row [.int .i64 lo, .int .i64 hi] 0 false true true)], True)
  | _, _ => none
theorem okK60 : OkV Try.prog 60 orcK60 := by
  intro args H ret H' vc h hv
  unfold orcK60 at h
  split at h
  · cases h
    refine fnP_res hm c0_ok (hs := hsO) ?_
    show fnP Try.prog c0 hsO 60 _ [bxI _ _] _
    rw [c60_t, outI]
    refine br_of (fun h => ?_) (fun h => ?_)
    · rw [h]; exact ⟨rfl, rfl⟩
    · rw [h]; exact ⟨rfl, rfl⟩
  · cases h
noncomputable def f60 : Value := .func (.func 60) #[] #[.pointer (some ⟨1, 0, none⟩)]
noncomputable def lpO6 (e : List Value) (m : Bool) (n d : Nat) (lo hi : Int) : Lp where
  σ := Nat
  E j := slots 19 [(0, .slice (some ⟨0, 0, none⟩) n d), (1, f60), (7, .int .i64 (n : Int)), (8, .int .i64 (j : Int))]
  Hp _ := [some (.row e 1 m true true), bxI lo hi]
  I j := j ≤ n ∧ ixO lo hi ((deI e).drop j) j = ixOC lo hi e
  m j := n - j
noncomputable def hsO6 (e : List Value) (m : Bool) (n d : Nat) (lo hi : Int) : Hs Try.prog where
  op y := if y = 403 then some (hIa Try.prog) else if y = 404 then some (hLc Try.prog gI) else if y = 405 then some (hCa Try.prog 60 orcK60 okK60) else none
  lp y := if y = 2 then some (lpO6 e m n d lo hi) else none
  cl _ := keep 19 [0, 1, 7, 8]
  sm := true
  au := au0 Try.prog
theorem o6_t (e : List Value) (m : Bool) (n : Nat) (d : Nat) (lo : Int) (hi : Int) (K : Value → Heap → Prop) :
    (fnP Try.prog c0 (hsO6 e m n d lo hi) (41 : FuncId) [Value.slice (some { block := (0 : Nat), off := (0 : Nat) }) n d, f60] [some (AObj.row e (1 : Nat) m true true), bxI lo hi] K) =
    ((∃ (s : Nat), Is (s ≤ n ∧ ixO lo hi (List.drop s (deI e)) s = ixOC lo hi e) ∧ (Value.slice (some { block := (0 : Nat), off := (0 : Nat) }) n d = Value.slice (some { block := (0 : Nat), off := (0 : Nat) }) n d ∧ Value.func (Fn.func (60 : Nat)) #[] #[Value.pointer (some { block := (1 : Nat), off := (0 : Nat) })] = Value.func (Fn.func (60 : Nat)) #[] #[Value.pointer (some { block := (1 : Nat), off := (0 : Nat) })] ∧ Value.int IntKind.i64 (↑n : Int) = Value.int IntKind.i64 (↑n : Int) ∧ Value.int IntKind.i64 (0 : Int) = Value.int IntKind.i64 (↑s : Int) ∧ True) ∧ some (AObj.row e (1 : Nat) m true true) :: some (AObj.row [Value.int IntKind.i64 lo, Value.int IntKind.i64 hi] (0 : Nat) false true true) :: noH = some (AObj.row e (1 : Nat) m true true) :: some (AObj.row [Value.int IntKind.i64 lo, Value.int IntKind.i64 hi] (0 : Nat) false true true) :: noH) ∧ ∀ (s : Nat), Is (s ≤ n ∧ ixO lo hi (List.drop s (deI e)) s = ixOC lo hi e) → br (decide ((↑s : Int) < (↑n : Int))) (Is ((0 : Int) ≤ (↑s : Int) ∧ (↑s : Int) < (↑n : Int)) ∧ Is (e[(0 : Nat) + Int.toNat (↑s : Int) * (1 : Nat)]? = some (Value.int IntKind.i64 (iAt e ((0 : Nat) + Int.toNat (↑s : Int) * (1 : Nat))))) ∧ Is True ∧ br (outI lo hi (iAt e ((0 : Nat) + Int.toNat (↑s : Int) * (1 : Nat)))) (K (Value.int IntKind.i64 (↑s : Int)) (some (AObj.row e (1 : Nat) m true true) :: some (AObj.row [Value.int IntKind.i64 lo, Value.int IntKind.i64 hi] (0 : Nat) false true true) :: noH)) (∃ (s' : Nat), Is (s' ≤ n ∧ ixO lo hi (List.drop s' (deI e)) s' = ixOC lo hi e) ∧ Is (n - s' < n - s) ∧ (Value.slice (some { block := (0 : Nat), off := (0 : Nat) }) n d = Value.slice (some { block := (0 : Nat), off := (0 : Nat) }) n d ∧ Value.func (Fn.func (60 : Nat)) #[] #[Value.pointer (some { block := (1 : Nat), off := (0 : Nat) })] = Value.func (Fn.func (60 : Nat)) #[] #[Value.pointer (some { block := (1 : Nat), off := (0 : Nat) })] ∧ Value.int IntKind.i64 (↑n : Int) = Value.int IntKind.i64 (↑n : Int) ∧ Value.int IntKind.i64 (IntKind.wrap IntKind.i64 ((↑s : Int) + (1 : Int))) = Value.int IntKind.i64 (↑s' : Int) ∧ True) ∧ some (AObj.row e (1 : Nat) m true true) :: some (AObj.row [Value.int IntKind.i64 lo, Value.int IntKind.i64 hi] (0 : Nat) false true true) :: noH = some (AObj.row e (1 : Nat) m true true) :: some (AObj.row [Value.int IntKind.i64 lo, Value.int IntKind.i64 hi] (0 : Nat) false true true) :: noH)) (K (Value.int IntKind.i64 (-1 : Int)) (some (AObj.row e (1 : Nat) m true true) :: some (AObj.row [Value.int IntKind.i64 lo, Value.int IntKind.i64 hi] (0 : Nat) false true true) :: noH))) := by kernel_rfl
noncomputable def lpMx (e : List Value) (n d : Nat) : Lp where
  σ := Nat
  E k := slots 25 [(0, .slice (some ⟨0, 0, none⟩) n d), (3, .int .i64 (hdC e)), (4, .int .i64 (k : Int))]
  Hp _ := [some (.row e 1 true true true)]
  I k := 1 ≤ k ∧ k ≤ n
  m k := n - k
noncomputable def hsMx (e : List Value) (n d : Nat) : Hs Try.prog where
  op y := if y = 102 then some (hKn Try.prog false) else if [301, 703].contains y then some (hIa Try.prog) else if [302, 704].contains y then some (hLc Try.prog gI) else none
  lp y := if y = 5 then some (lpMx e n d) else none
  cl _ := keep 25 [0, 3, 4]
  sm := true
  au := au0 Try.prog
theorem mx_t (e : List Value) (n : Nat) (d : Nat) (K : Value → Heap → Prop) :
    (fnP Try.prog c0 (hsMx e n d) (72 : FuncId) [Value.slice (some { block := (0 : Nat), off := (0 : Nat) }) n d] [some (AObj.row e (1 : Nat) true true true)] K) =
    (Is (decide ((↑n : Int) < (1 : Int)) = false) ∧ Is ((0 : Int) ≤ (0 : Int) ∧ (0 : Int) < (↑n : Int)) ∧ Is (e[(0 : Nat)]? = some (Value.int IntKind.i64 (iAt e (0 : Nat)))) ∧ (∃ (s : Nat), Is ((1 : Nat) ≤ s ∧ s ≤ n) ∧ (Value.slice (some { block := (0 : Nat), off := (0 : Nat) }) n d = Value.slice (some { block := (0 : Nat), off := (0 : Nat) }) n d ∧ Value.int IntKind.i64 (iAt e (0 : Nat)) = Value.int IntKind.i64 (hdC e) ∧ Value.int IntKind.i64 (1 : Int) = Value.int IntKind.i64 (↑s : Int) ∧ True) ∧ some (AObj.row e (1 : Nat) true true true) :: noH = some (AObj.row e (1 : Nat) true true true) :: noH) ∧ ∀ (s : Nat), Is ((1 : Nat) ≤ s ∧ s ≤ n) → br (decide ((↑s : Int) < (↑n : Int))) (Is ((0 : Int) ≤ (↑s : Int) ∧ (↑s : Int) < (↑n : Int)) ∧ Is (e[(0 : Nat) + Int.toNat (↑s : Int) * (1 : Nat)]? = some (Value.int IntKind.i64 (iAt e ((0 : Nat) + Int.toNat (↑s : Int) * (1 : Nat))))) ∧ ∃ (s' : Nat), Is ((1 : Nat) ≤ s' ∧ s' ≤ n) ∧ Is (n - s' < n - s) ∧ (Value.slice (some { block := (0 : Nat), off := (0 : Nat) }) n d = Value.slice (some { block := (0 : Nat), off := (0 : Nat) }) n d ∧ Value.int IntKind.i64 (if iAt e ((0 : Nat) + Int.toNat (↑s : Int) * (1 : Nat)) > hdC e then iAt e ((0 : Nat) + Int.toNat (↑s : Int) * (1 : Nat)) else hdC e) = Value.int IntKind.i64 (hdC e) ∧ Value.int IntKind.i64 (IntKind.wrap IntKind.i64 ((↑s : Int) + (1 : Int))) = Value.int IntKind.i64 (↑s' : Int) ∧ True) ∧ some (AObj.row e (1 : Nat) true true true) :: noH = some (AObj.row e (1 : Nat) true true true) :: noH) (K (Value.int IntKind.i64 (hdC e)) (some (AObj.row e (1 : Nat) true true true) :: noH))) := by kernel_rfl
theorem mn_t (e : List Value) (n : Nat) (d : Nat) (K : Value → Heap → Prop) :
    (fnP Try.prog c0 (hsMx e n d) (73 : FuncId) [Value.slice (some { block := (0 : Nat), off := (0 : Nat) }) n d] [some (AObj.row e (1 : Nat) true true true)] K) =
    (Is (decide ((↑n : Int) < (1 : Int)) = false) ∧ Is ((0 : Int) ≤ (0 : Int) ∧ (0 : Int) < (↑n : Int)) ∧ Is (e[(0 : Nat)]? = some (Value.int IntKind.i64 (iAt e (0 : Nat)))) ∧ (∃ (s : Nat), Is ((1 : Nat) ≤ s ∧ s ≤ n) ∧ (Value.slice (some { block := (0 : Nat), off := (0 : Nat) }) n d = Value.slice (some { block := (0 : Nat), off := (0 : Nat) }) n d ∧ Value.int IntKind.i64 (iAt e (0 : Nat)) = Value.int IntKind.i64 (hdC e) ∧ Value.int IntKind.i64 (1 : Int) = Value.int IntKind.i64 (↑s : Int) ∧ True) ∧ some (AObj.row e (1 : Nat) true true true) :: noH = some (AObj.row e (1 : Nat) true true true) :: noH) ∧ ∀ (s : Nat), Is ((1 : Nat) ≤ s ∧ s ≤ n) → br (decide ((↑s : Int) < (↑n : Int))) (Is ((0 : Int) ≤ (↑s : Int) ∧ (↑s : Int) < (↑n : Int)) ∧ Is (e[(0 : Nat) + Int.toNat (↑s : Int) * (1 : Nat)]? = some (Value.int IntKind.i64 (iAt e ((0 : Nat) + Int.toNat (↑s : Int) * (1 : Nat))))) ∧ ∃ (s' : Nat), Is ((1 : Nat) ≤ s' ∧ s' ≤ n) ∧ Is (n - s' < n - s) ∧ (Value.slice (some { block := (0 : Nat), off := (0 : Nat) }) n d = Value.slice (some { block := (0 : Nat), off := (0 : Nat) }) n d ∧ Value.int IntKind.i64 (if iAt e ((0 : Nat) + Int.toNat (↑s : Int) * (1 : Nat)) < hdC e then iAt e ((0 : Nat) + Int.toNat (↑s : Int) * (1 : Nat)) else hdC e) = Value.int IntKind.i64 (hdC e) ∧ Value.int IntKind.i64 (IntKind.wrap IntKind.i64 ((↑s : Int) + (1 : Int))) = Value.int IntKind.i64 (↑s' : Int) ∧ True) ∧ some (AObj.row e (1 : Nat) true true true) :: noH = some (AObj.row e (1 : Nat) true true true) :: noH) (K (Value.int IntKind.i64 (hdC e)) (some (AObj.row e (1 : Nat) true true true) :: noH))) := by kernel_rfl
theorem ixO_any {lo hi : Int} : ∀ (L : List Int) (i : Nat), decide (0 ≤ ixO lo hi L i) = L.any (outI lo hi)
  | [], i => rfl
  | g :: r, i => by
    rw [ixO, List.any_cons]
    cases h : outI lo hi g
    · rw [if_neg (by decide), Bool.false_or]; exact ixO_any r (i + 1)
    · rw [if_pos rfl, Bool.true_or]; exact decide_eq_true (by omega)
noncomputable def orcO6 : OrcV
  | [.slice (some ⟨0, 0, none⟩) n _, .func (.func 60) ⟨[]⟩ ⟨[.pointer (some ⟨1, 0, none⟩)]⟩], [some (.row e 1 m true true), some (.row [.int .i64 lo, .int .i64 hi] 0 false true true)] =>
    some (.int .i64 (ixOC lo hi e), [some (.row e 1 m true true), some (.row [.int .i64 lo, .int .i64 hi] 0 false true true)], numC e n)
  | _, _ => none
theorem okO6 : OkV Try.prog 41 orcO6 := by
  intro args H ret H' vc h hv
  unfold orcO6 at h
  split at h
  · rename_i n d e m lo hi
    cases h
    obtain ⟨L, rfl, hL, h9⟩ := hv
    refine fnP_res hm c0_ok (hs := hsO6 (ints L) m n d lo hi) ?_
    show fnP Try.prog c0 (hsO6 (ints L) m n d lo hi) 41 [_, f60] [_, bxI _ _] _
    rw [o6_t, ixOC, deI_ints]
    refine ⟨⟨(0 : Nat), ⟨Nat.zero_le _, by rw [List.drop_zero]⟩, ⟨rfl, rfl, rfl, rfl, trivial⟩, rfl⟩, fun j hj => br_of (fun hc => ?_) (fun hc => ?_)⟩
    · have hc := lt_of_dec hc
      obtain ⟨_, hj2⟩ := hj.out
      have hjl : j < L.length := by omega
      have e1 : (0 + (j : Int).toNat * 1) = j := by omega
      have e2 : iAt (ints L) j = L.getD j 0 := z_at3 hjl
      have hd : L.drop j = L.getD j 0 :: L.drop (j + 1) := by
        rw [List.drop_eq_getElem_cons hjl, List.getD_eq_getElem?_getD, List.getElem?_eq_getElem hjl]; rfl
      rw [hd, ixO] at hj2
      rw [e1, e2]
      refine ⟨⟨by omega, by omega⟩, ⟨zint_at hjl⟩, ⟨trivial⟩, br_of (fun hq => ?_) (fun hq => ?_)⟩
      · rw [if_pos hq] at hj2
        exact ⟨by rw [hj2], rfl⟩
      · rw [if_neg (by rw [hq]; decide)] at hj2
        exact ⟨j + 1, ⟨by omega, hj2⟩, ⟨by omega⟩, ⟨rfl, rfl, rfl, by rw [up1 hc (by omega)], trivial⟩, rfl⟩
    · have hc := ge_of_dec hc
      obtain ⟨hj1, hj2⟩ := hj.out
      rw [List.drop_eq_nil_of_le (by omega), ixO] at hj2
      exact ⟨by rw [← hj2], rfl⟩
  · cases h
noncomputable def hsCn : Hs Try.prog where
  au := auCalls [(41, hCa Try.prog 41 orcO6 okO6)]
theorem cn_t (e : List Value) (m : Bool) (n : Nat) (d : Nat) (lo : Int) (hi : Int) (K : Value → Heap → Prop) :
    (fnP Try.prog c0 hsCn (31 : FuncId) [Value.slice (some { block := (0 : Nat), off := (0 : Nat) }) n d, f60] [some (AObj.row e (1 : Nat) m true true), bxI lo hi] K) =
    (Is (numC e n) ∧ K (Value.bool (decide ((0 : Int) ≤ ixOC lo hi e))) (some (AObj.row e (1 : Nat) m true true) :: some (AObj.row [Value.int IntKind.i64 lo, Value.int IntKind.i64 hi] (0 : Nat) false true true) :: noH)) := by kernel_rfl
noncomputable def orcCn : OrcV
  | [.slice (some ⟨0, 0, none⟩) n _, .func (.func 60) ⟨[]⟩ ⟨[.pointer (some ⟨1, 0, none⟩)]⟩], [some (.row e 1 m true true), some (.row [.int .i64 lo, .int .i64 hi] 0 false true true)] =>
    some (.bool (!allIC lo hi e), [some (.row e 1 m true true), some (.row [.int .i64 lo, .int .i64 hi] 0 false true true)], numC e n)
  | _, _ => none
theorem okCn : OkV Try.prog 31 orcCn := by
  intro args H ret H' vc h hv
  unfold orcCn at h
  split at h
  · cases h
    refine fnP_res hm c0_ok (hs := hsCn) ?_
    show fnP Try.prog c0 hsCn 31 [_, f60] [_, bxI _ _] _
    rw [cn_t]
    refine ⟨⟨hv⟩, ?_, rfl⟩
    rw [ixOC, ixO_any, allIC, Bool.not_not]
  · cases h
noncomputable def hsHa : Hs Try.prog where
  au := auCalls [(31, hCa Try.prog 31 orcCn okCn)]
theorem ha_t (e : List Value) (n : Nat) (d : Nat) (lo : Int) (hi : Int) (K : Value → Heap → Prop) :
    (fnP Try.prog c0 hsHa (38 : FuncId) [Value.agg #[Value.int IntKind.i64 lo, Value.int IntKind.i64 hi], Value.slice (some { block := (0 : Nat), off := (0 : Nat) }) n d] [some (AObj.row e (1 : Nat) true true true)] K) =
    (Is (numC e n) ∧ K (Value.bool !!allIC lo hi e) (some (AObj.row e (1 : Nat) true true true) :: noH)) := by kernel_rfl
theorem hb_t (e : List Value) (n : Nat) (d : Nat) (lo : Int) (hi : Int) (K : Value → Heap → Prop) :
    (fnP Try.prog c0 hsHa (38 : FuncId) [Value.agg #[Value.int IntKind.i64 lo, Value.int IntKind.i64 hi], Value.slice (some { block := (0 : Nat), off := (0 : Nat) }) n d] [some (AObj.row e (1 : Nat) false true true)] K) =
    (Is (numC e n) ∧ K (Value.bool !!allIC lo hi e) (some (AObj.row e (1 : Nat) false true true) :: noH)) := by kernel_rfl
noncomputable def orcHa : OrcV
  | [.agg ⟨[.int .i64 lo, .int .i64 hi]⟩, .slice (some ⟨0, 0, none⟩) n _], [some (.row e 1 m true true)] => some (.bool (allIC lo hi e), [some (.row e 1 m true true)], numC e n)
  | _, _ => none
theorem okHa : OkV Try.prog 38 orcHa := by
  intro args H ret H' vc h hv
  unfold orcHa at h
  split at h
  · rename_i lo hi n d e m
    cases h
    refine fnP_res hm c0_ok (hs := hsHa) ?_
    cases m
    · show fnP Try.prog c0 hsHa 38 [.agg #[.int .i64 lo, .int .i64 hi], _] _ _
      rw [hb_t]
      exact ⟨⟨hv⟩, by rw [Bool.not_not], rfl⟩
    · show fnP Try.prog c0 hsHa 38 [.agg #[.int .i64 lo, .int .i64 hi], _] _ _
      rw [ha_t]
      exact ⟨⟨hv⟩, by rw [Bool.not_not], rfl⟩
  · cases h
noncomputable def orcMx : OrcV
  | [.slice (some ⟨0, 0, none⟩) n _], [some (.row e 1 true true true)] => some (.int .i64 (hdC e), [some (.row e 1 true true true)], sameC e n)
  | _, _ => none
theorem okMx : OkV Try.prog 72 orcMx := by
  intro args H ret H' vc h hv
  unfold orcMx at h
  split at h
  · rename_i n d e
    cases h
    obtain ⟨v, rfl, h1, h2, h3⟩ := hv
    have hl : (List.replicate n v).length = n := List.length_replicate
    have hg : ∀ p, p < n → (List.replicate n v).getD p 0 = v := fun p hp => by
      rw [List.getD_eq_getElem?_getD, List.getElem?_replicate, if_pos hp]; rfl
    have hh : hdC (ints (List.replicate n v)) = v := by rw [hdC, deI_ints, hg 0 (by omega)]
    have ha : ∀ p, p < n → iAt (ints (List.replicate n v)) p = v ∧ (ints (List.replicate n v))[p]? = some (.int .i64 v) := fun p hp => by
      have e := zint_at (zs := List.replicate n v) (i := p) (by omega)
      rw [hg p hp] at e
      exact ⟨by rw [iAt, e], e⟩
    refine fnP_res hm c0_ok (hs := hsMx (ints (List.replicate n v)) n d) ?_
    show fnP Try.prog c0 (hsMx (ints (List.replicate n v)) n d) 72 _ _ _
    rw [mx_t, hh, (ha 0 (by omega)).1, (ha 0 (by omega)).2]
    refine ⟨⟨decide_eq_false (by omega)⟩, ⟨by omega, by omega⟩, ⟨rfl⟩, ⟨1, ⟨Nat.le_refl _, h1⟩, ⟨rfl, rfl, rfl, trivial⟩, rfl⟩, fun k hk => br_of (fun hc => ?_) (fun hc => ⟨rfl, rfl⟩)⟩
    have hc := lt_of_dec hc
    obtain ⟨k1, k2⟩ := hk.out
    have e0 : 0 + (k : Int).toNat * 1 = k := by omega
    rw [e0, (ha k hc).1, (ha k hc).2]
    refine ⟨⟨by omega, by omega⟩, ⟨rfl⟩, k + 1, ⟨by omega, by omega⟩, ⟨by omega⟩, ⟨rfl, ?_, by rw [up1 hc (by omega)], trivial⟩, rfl⟩
    split <;> rfl
  · cases h
noncomputable def orcMn : OrcV
  | [.slice (some ⟨0, 0, none⟩) n _], [some (.row e 1 true true true)] => some (.int .i64 (hdC e), [some (.row e 1 true true true)], sameC e n)
  | _, _ => none
theorem okMn : OkV Try.prog 73 orcMn := by
  intro args H ret H' vc h hv
  unfold orcMn at h
  split at h
  · rename_i n d e
    cases h
    obtain ⟨v, rfl, h1, h2, h3⟩ := hv
    have hl : (List.replicate n v).length = n := List.length_replicate
    have hg : ∀ p, p < n → (List.replicate n v).getD p 0 = v := fun p hp => by
      rw [List.getD_eq_getElem?_getD, List.getElem?_replicate, if_pos hp]; rfl
    have hh : hdC (ints (List.replicate n v)) = v := by rw [hdC, deI_ints, hg 0 (by omega)]
    have ha : ∀ p, p < n → iAt (ints (List.replicate n v)) p = v ∧ (ints (List.replicate n v))[p]? = some (.int .i64 v) := fun p hp => by
      have e := zint_at (zs := List.replicate n v) (i := p) (by omega)
      rw [hg p hp] at e
      exact ⟨by rw [iAt, e], e⟩
    refine fnP_res hm c0_ok (hs := hsMx (ints (List.replicate n v)) n d) ?_
    show fnP Try.prog c0 (hsMx (ints (List.replicate n v)) n d) 73 _ _ _
    rw [mn_t, hh, (ha 0 (by omega)).1, (ha 0 (by omega)).2]
    refine ⟨⟨decide_eq_false (by omega)⟩, ⟨by omega, by omega⟩, ⟨rfl⟩, ⟨1, ⟨Nat.le_refl _, h1⟩, ⟨rfl, rfl, rfl, trivial⟩, rfl⟩, fun k hk => br_of (fun hc => ?_) (fun hc => ⟨rfl, rfl⟩)⟩
    have hc := lt_of_dec hc
    obtain ⟨k1, k2⟩ := hk.out
    have e0 : 0 + (k : Int).toNat * 1 = k := by omega
    rw [e0, (ha k hc).1, (ha k hc).2]
    refine ⟨⟨by omega, by omega⟩, ⟨rfl⟩, k + 1, ⟨by omega, by omega⟩, ⟨by omega⟩, ⟨rfl, ?_, by rw [up1 hc (by omega)], trivial⟩, rfl⟩
    split <;> rfl
  · cases h
noncomputable def hsEx : Hs Try.prog where
  au := auCalls [(72, hCa Try.prog 72 orcMx okMx), (73, hCa Try.prog 73 orcMn okMn)]
theorem ex_t (e : List Value) (n : Nat) (d : Nat) (K : Value → Heap → Prop) :
    (fnP Try.prog c0 hsEx (53 : FuncId) [Value.slice (some { block := (0 : Nat), off := (0 : Nat) }) n d] [some (AObj.row e (1 : Nat) true true true)] K) =
    (Is (sameC e n) ∧ Is (sameC e n) ∧ K (Value.int IntKind.i64 (IntKind.wrap IntKind.i64 (hdC e - hdC e))) (some (AObj.row e (1 : Nat) true true true) :: noH)) := by kernel_rfl
noncomputable def orcEx : OrcV
  | [.slice (some ⟨0, 0, none⟩) n _], [some (.row e 1 true true true)] => some (.int .i64 0, [some (.row e 1 true true true)], sameC e n)
  | _, _ => none
theorem okEx : OkV Try.prog 53 orcEx := by
  intro args H ret H' vc h hv
  unfold orcEx at h
  split at h
  · cases h
    refine fnP_res hm c0_ok (hs := hsEx) ?_
    show fnP Try.prog c0 hsEx 53 _ _ _
    rw [ex_t]
    refine ⟨⟨hv⟩, ⟨hv⟩, ?_, rfl⟩
    rw [Int.sub_self]; rfl
  · cases h
end
end Qq
end
section
/- Whether one of a group of points is near a point. -/
open Go Go.Vm Go.Proofs Sp
namespace Sp
noncomputable section
noncomputable def ixF (z : List Int) (k : Int) : List Int → Nat → Int
  | [], _ => -1
  | g :: r, i => if eqAt z g k = true then (i : Int) else ixF z k r (i + 1)
noncomputable def ixC (e l : List Value) (k : Int) : Int := ixF (deI e) k (deI l) 0
end
end Sp
namespace Qq
noncomputable section
theorem z_at {z : List Int} {p : Nat} (h : p < z.length) : iAt (ints z) p = z.getD p 0 := by
  rw [iAt, zint_at h]
theorem pt_ld {z : List Int} {m : Nat} {k : Int} (h : smallZ z m) (hk : inM m k) : (if 0 + k.toNat * 2 + 2 ≤ (ints z).length then some (Value.agg (((ints z).drop (0 + k.toNat * 2)).take 2).toArray) else none) = some (.agg #[.int .i64 (iAt (ints z) (0 + k.toNat * 2)), .int .i64 (iAt (ints z) (0 + k.toNat * 2 + 1))]) ∧
    iAt (ints z) (0 + k.toNat * 2) = z.getD (k.toNat * 2) 0 ∧ iAt (ints z) (0 + k.toNat * 2 + 1) = z.getD (k.toNat * 2 + 1) 0 ∧ few (z.getD (k.toNat * 2) 0) ∧ few (z.getD (k.toNat * 2 + 1) 0) := by
  obtain ⟨h1, h2, h3⟩ := h
  obtain ⟨k1, k2⟩ := hk
  have a1 := z_at (z := z) (p := k.toNat * 2) (by omega)
  have a2 := z_at (z := z) (p := k.toNat * 2 + 1) (by omega)
  have get : ∀ p, p < z.length → few (z.getD p 0) := fun p hp => by
    rw [List.getD_eq_getElem?_getD, List.getElem?_eq_getElem hp]
    exact h3 _ (List.getElem_mem hp)
  rw [Nat.zero_add, a1, a2, ints_len, if_pos (by omega), ints_pair (by omega)]
  exact ⟨rfl, rfl, rfl, get _ (by omega), get _ (by omega)⟩
noncomputable def orcC1 : OrcV
  | [.int .i64 g, .pointer (some ⟨0, 0, none⟩), .pointer (some ⟨2, 0, none⟩), .pointer (some ⟨3, 0, none⟩)], [some (.row [.slice (some ⟨1, 0, none⟩) m c] s1 false true false), some (.row e 2 true true true), some (.row [.int .i64 k] s2 false true true), some (.row [.int .i64 r] s3 false true true)] =>
    some (.bool (eqC e g k), [some (.row [.slice (some ⟨1, 0, none⟩) m c] s1 false true false), some (.row e 2 true true true), some (.row [.int .i64 k] s2 false true true), some (.row [.int .i64 r] s3 false true true)], ptIs e m g k r)
  | _, _ => none
theorem okC1 : OkV Try.prog 32 orcC1 := by
  intro args H ret H' vc h hv
  unfold orcC1 at h
  split at h
  · cases h
    obtain ⟨z, rfl, hz, hg, hk, rfl⟩ := hv
    refine fnP_res hm c0_ok (hs := hsC1) ?_
    show fnP Try.prog c0 hsC1 32 _ _ _
    rw [c1_t _ _ _ _ _ _ false false false, eqC, deI_ints, eqAt]
    obtain ⟨a1, a2, a3, a4, a5⟩ := pt_ld hz hg
    obtain ⟨b1, b2, b3, b4, b5⟩ := pt_ld hz hk
    refine ⟨⟨hg⟩, ⟨a1⟩, ⟨hk⟩, ⟨b1⟩, ⟨by rw [a2, a3, b2, b3]; exact ⟨⟨a4, a5, b4, b5⟩, rfl⟩⟩, by rw [a2, a3, b2, b3], rfl⟩
  · cases h
noncomputable def fC1 : Value := .func (.func 32) #[] #[.pointer (some ⟨1, 0, none⟩), .pointer (some ⟨3, 0, none⟩), .pointer (some ⟨4, 0, none⟩)]
def hpC (e l : List Value) (m c s1 s2 s3 : Nat) (k r : Int) : Heap := [some (.row l 1 true true true), some (.row [.slice (some ⟨2, 0, none⟩) m c] s1 false true false), some (.row e 2 true true true), some (.row [.int .i64 k] s2 false true true), some (.row [.int .i64 r] s3 false true true)]
noncomputable def lpIx (e l : List Value) (m c s1 s2 s3 n d : Nat) (k r : Int) : Lp where
  σ := Nat
  E j := slots 19 [(0, .slice (some ⟨0, 0, none⟩) n d), (1, fC1), (7, .int .i64 (n : Int)), (8, .int .i64 (j : Int))]
  Hp _ := hpC e l m c s1 s2 s3 k r
  I j := j ≤ n ∧ ixF (deI e) k ((deI l).drop j) j = ixC e l k
  m j := n - j
noncomputable def hsIx (e l : List Value) (m c s1 s2 s3 n d : Nat) (k r : Int) : Hs Try.prog where
  op y := if y = 403 then some (hIa Try.prog) else if y = 404 then some (hLc Try.prog gI) else if y = 405 then some (hCa Try.prog 32 orcC1 okC1) else none
  lp y := if y = 2 then some (lpIx e l m c s1 s2 s3 n d k r) else none
  cl _ := keep 19 [0, 1, 7, 8]
  sm := true
  au := au0 Try.prog
theorem ix_t (e : List Value) (l : List Value) (m : Nat) (c : Nat) (s1 : Nat) (s2 : Nat) (s3 : Nat) (n : Nat) (d : Nat) (k : Int) (r : Int) (K : Value → Heap → Prop) :
    (fnP Try.prog c0 (hsIx e l m c s1 s2 s3 n d k r) (41 : FuncId) [Value.slice (some { block := (0 : Nat), off := (0 : Nat) }) n d, fC1] (hpC e l m c s1 s2 s3 k r) K) =
    ((∃ (s : Nat), Is (s ≤ n ∧ ixF (deI e) k (List.drop s (deI l)) s = ixC e l k) ∧ (Value.slice (some { block := (0 : Nat), off := (0 : Nat) }) n d = Value.slice (some { block := (0 : Nat), off := (0 : Nat) }) n d ∧ Value.func (Fn.func (32 : Nat)) #[] #[Value.pointer (some { block := (1 : Nat), off := (0 : Nat) }), Value.pointer (some { block := (3 : Nat), off := (0 : Nat) }), Value.pointer (some { block := (4 : Nat), off := (0 : Nat) })] = Value.func (Fn.func (32 : Nat)) #[] #[Value.pointer (some { block := (1 : Nat), off := (0 : Nat) }), Value.pointer (some { block := (3 : Nat), off := (0 : Nat) }), Value.pointer (some { block := (4 : Nat), off := (0 : Nat) })] ∧ Value.int IntKind.i64 (↑n : Int) = Value.int IntKind.i64 (↑n : Int) ∧ Value.int IntKind.i64 (0 : Int) = Value.int IntKind.i64 (↑s : Int) ∧ True) ∧ some (AObj.row l (1 : Nat) true true true) :: some (AObj.row [Value.slice (some { block := (2 : Nat), off := (0 : Nat) }) m c] s1 false true false) :: some (AObj.row e (2 : Nat) true true true) :: some (AObj.row [Value.int IntKind.i64 k] s2 false true true) :: some (AObj.row [Value.int IntKind.i64 r] s3 false true true) :: noH = some (AObj.row l (1 : Nat) true true true) :: some (AObj.row [Value.slice (some { block := (2 : Nat), off := (0 : Nat) }) m c] s1 false true false) :: some (AObj.row e (2 : Nat) true true true) :: some (AObj.row [Value.int IntKind.i64 k] s2 false true true) :: some (AObj.row [Value.int IntKind.i64 r] s3 false true true) :: noH) ∧ ∀ (s : Nat), Is (s ≤ n ∧ ixF (deI e) k (List.drop s (deI l)) s = ixC e l k) → br (decide ((↑s : Int) < (↑n : Int))) (Is ((0 : Int) ≤ (↑s : Int) ∧ (↑s : Int) < (↑n : Int)) ∧ Is (l[(0 : Nat) + Int.toNat (↑s : Int) * (1 : Nat)]? = some (Value.int IntKind.i64 (iAt l ((0 : Nat) + Int.toNat (↑s : Int) * (1 : Nat))))) ∧ Is (ptIs e m (iAt l ((0 : Nat) + Int.toNat (↑s : Int) * (1 : Nat))) k r) ∧ br (eqC e (iAt l ((0 : Nat) + Int.toNat (↑s : Int) * (1 : Nat))) k) (K (Value.int IntKind.i64 (↑s : Int)) (some (AObj.row l (1 : Nat) true true true) :: some (AObj.row [Value.slice (some { block := (2 : Nat), off := (0 : Nat) }) m c] s1 false true false) :: some (AObj.row e (2 : Nat) true true true) :: some (AObj.row [Value.int IntKind.i64 k] s2 false true true) :: some (AObj.row [Value.int IntKind.i64 r] s3 false true true) :: noH)) (∃ (s' : Nat), Is (s' ≤ n ∧ ixF (deI e) k (List.drop s' (deI l)) s' = ixC e l k) ∧ Is (n - s' < n - s) ∧ (Value.slice (some { block := (0 : Nat), off := (0 : Nat) }) n d = Value.slice (some { block := (0 : Nat), off := (0 : Nat) }) n d ∧ Value.func (Fn.func (32 : Nat)) #[] #[Value.pointer (some { block := (1 : Nat), off := (0 : Nat) }), Value.pointer (some { block := (3 : Nat), off := (0 : Nat) }), Value.pointer (some { block := (4 : Nat), off := (0 : Nat) })] = Value.func (Fn.func (32 : Nat)) #[] #[Value.pointer (some { block := (1 : Nat), off := (0 : Nat) }), Value.pointer (some { block := (3 : Nat), off := (0 : Nat) }), Value.pointer (some { block := (4 : Nat), off := (0 : Nat) })] ∧ Value.int IntKind.i64 (↑n : Int) = Value.int IntKind.i64 (↑n : Int) ∧ Value.int IntKind.i64 (IntKind.wrap IntKind.i64 ((↑s : Int) + (1 : Int))) = Value.int IntKind.i64 (↑s' : Int) ∧ True) ∧ some (AObj.row l (1 : Nat) true true true) :: some (AObj.row [Value.slice (some { block := (2 : Nat), off := (0 : Nat) }) m c] s1 false true false) :: some (AObj.row e (2 : Nat) true true true) :: some (AObj.row [Value.int IntKind.i64 k] s2 false true true) :: some (AObj.row [Value.int IntKind.i64 r] s3 false true true) :: noH = some (AObj.row l (1 : Nat) true true true) :: some (AObj.row [Value.slice (some { block := (2 : Nat), off := (0 : Nat) }) m c] s1 false true false) :: some (AObj.row e (2 : Nat) true true true) :: some (AObj.row [Value.int IntKind.i64 k] s2 false true true) :: some (AObj.row [Value.int IntKind.i64 r] s3 false true true) :: noH)) (K (Value.int IntKind.i64 (-1 : Int)) (some (AObj.row l (1 : Nat) true true true) :: some (AObj.row [Value.slice (some { block := (2 : Nat), off := (0 : Nat) }) m c] s1 false true false) :: some (AObj.row e (2 : Nat) true true true) :: some (AObj.row [Value.int IntKind.i64 k] s2 false true true) :: some (AObj.row [Value.int IntKind.i64 r] s3 false true true) :: noH))) := by kernel_rfl
theorem ixF_any {z : List Int} {k : Int} : ∀ (L : List Int) (i : Nat), decide (0 ≤ ixF z k L i) = anyP z L k
  | [], i => rfl
  | g :: r, i => by
    rw [ixF, anyP, List.any_cons]
    cases h : eqAt z g k
    · rw [if_neg (by decide), Bool.false_or]; exact ixF_any r (i + 1)
    · rw [if_pos rfl, Bool.true_or]; exact decide_eq_true (by omega)
theorem ix_ok {z L : List Int} {m c s1 s2 s3 n d : Nat} {k : Int} (hL : L.length = n) (hz : smallZ z m) (hg : ∀ g ∈ L, inM m g) (hk : inM m k) (h9 : n ≤ 1000) :
    SmallRes Try.prog 41 [.slice (some ⟨0, 0, none⟩) n d, fC1] (hpC (ints z) (ints L) m c s1 s2 s3 k 0) (.int .i64 (ixF z k L 0)) (hpC (ints z) (ints L) m c s1 s2 s3 k 0) := by
  refine fnP_res hm c0_ok (hs := hsIx (ints z) (ints L) m c s1 s2 s3 n d k 0) ?_
  show fnP Try.prog c0 (hsIx (ints z) (ints L) m c s1 s2 s3 n d k 0) 41 _ _ _
  rw [ix_t, ixC, deI_ints, deI_ints]
  refine ⟨⟨(0 : Nat), ⟨Nat.zero_le _, by rw [List.drop_zero]⟩, ⟨rfl, rfl, rfl, rfl, trivial⟩, rfl⟩, fun j hj => br_of (fun hc => ?_) (fun hc => ?_)⟩
  · have hc := lt_of_dec hc
    obtain ⟨_, hj2⟩ := hj.out
    have hjl : j < L.length := by omega
    have e1 : (0 + (j : Int).toNat * 1) = j := by rw [Int.toNat_natCast]; omega
    have e2 : iAt (ints L) j = L.getD j 0 := z_at hjl
    have hmem : L.getD j 0 ∈ L := by
      rw [List.getD_eq_getElem?_getD, List.getElem?_eq_getElem hjl]; exact List.getElem_mem _
    have hd : L.drop j = L.getD j 0 :: L.drop (j + 1) := by
      rw [List.drop_eq_getElem_cons hjl, List.getD_eq_getElem?_getD, List.getElem?_eq_getElem hjl]; rfl
    rw [hd, ixF] at hj2
    simp only [e1, e2]
    refine ⟨⟨by omega, by omega⟩, ⟨zint_at hjl⟩, ⟨z, rfl, hz, hg _ hmem, hk, rfl⟩, br_of (fun hq => ?_) (fun hq => ?_)⟩
    · rw [eqC, deI_ints] at hq
      rw [if_pos hq] at hj2
      exact ⟨by rw [hj2], rfl⟩
    · rw [eqC, deI_ints] at hq
      rw [if_neg (by rw [hq]; decide)] at hj2
      exact ⟨j + 1, ⟨by omega, hj2⟩, ⟨by omega⟩, ⟨by first | trivial | rfl, by first | trivial | rfl, by first | trivial | rfl, by rw [up1 hc (by omega)], trivial⟩, by first | trivial | rfl⟩
  · have hc := ge_of_dec hc
    obtain ⟨hj1, hj2⟩ := hj.out
    rw [List.drop_eq_nil_of_le (by omega), ixF] at hj2
    exact ⟨by rw [← hj2], rfl⟩
noncomputable def orcIx : OrcV
  | [.slice (some ⟨0, 0, none⟩) n _, .func (.func 32) ⟨[]⟩ ⟨[.pointer (some ⟨1, 0, none⟩), .pointer (some ⟨3, 0, none⟩), .pointer (some ⟨4, 0, none⟩)]⟩], [some (.row l 1 true true true), some (.row [.slice (some ⟨2, 0, none⟩) m c] s1 false true false), some (.row e 2 true true true), some (.row [.int .i64 k] s2 false true true), some (.row [.int .i64 r] s3 false true true)] =>
    some (.int .i64 (ixC e l k), hpC e l m c s1 s2 s3 k r, anIs e l m n k r)
  | _, _ => none
theorem okIx : OkV Try.prog 41 orcIx := by
  intro args H ret H' vc h hv
  unfold orcIx at h
  split at h
  · cases h
    obtain ⟨z, L, rfl, rfl, hL, hz, hg, hk, rfl, h9⟩ := hv
    rw [ixC, deI_ints, deI_ints]
    exact ix_ok hL hz hg hk h9
  · cases h
noncomputable def hsCf : Hs Try.prog where
  au := auCalls [(41, hCa Try.prog 41 orcIx okIx)]
theorem cf_t (e : List Value) (l : List Value) (m : Nat) (c : Nat) (s1 : Nat) (s2 : Nat) (s3 : Nat) (n : Nat) (d : Nat) (k : Int) (r : Int) (K : Value → Heap → Prop) :
    (fnP Try.prog c0 hsCf (31 : FuncId) [Value.slice (some { block := (0 : Nat), off := (0 : Nat) }) n d, fC1] (hpC e l m c s1 s2 s3 k r) K) =
    (Is (anIs e l m n k r) ∧ K (Value.bool (decide ((0 : Int) ≤ ixC e l k))) (some (AObj.row l (1 : Nat) true true true) :: some (AObj.row [Value.slice (some { block := (2 : Nat), off := (0 : Nat) }) m c] s1 false true false) :: some (AObj.row e (2 : Nat) true true true) :: some (AObj.row [Value.int IntKind.i64 k] s2 false true true) :: some (AObj.row [Value.int IntKind.i64 r] s3 false true true) :: noH)) := by kernel_rfl
noncomputable def orcCf : OrcV
  | [.slice (some ⟨0, 0, none⟩) n _, .func (.func 32) ⟨[]⟩ ⟨[.pointer (some ⟨1, 0, none⟩), .pointer (some ⟨3, 0, none⟩), .pointer (some ⟨4, 0, none⟩)]⟩], [some (.row l 1 true true true), some (.row [.slice (some ⟨2, 0, none⟩) m c] s1 false true false), some (.row e 2 true true true), some (.row [.int .i64 k] s2 false true true), some (.row [.int .i64 r] s3 false true true)] =>
    some (.bool (anC e l k), hpC e l m c s1 s2 s3 k r, anIs e l m n k r)
  | _, _ => none
theorem okCf : OkV Try.prog 31 orcCf := by
  intro args H ret H' vc h hv
  unfold orcCf at h
  split at h
  · cases h
    refine fnP_res hm c0_ok (hs := hsCf) ?_
    show fnP Try.prog c0 hsCf 31 [_, fC1] (hpC _ _ _ _ _ _ _ _ _) _
    rw [cf_t]
    refine ⟨⟨hv⟩, ?_, rfl⟩
    rw [ixC, ixF_any]; rfl
  · cases h
end
end Qq
end
section
/- The sort of a few numbers. -/
open Go Go.Vm Go.Proofs Sp
namespace Sp
noncomputable section
/-- Where i stands among the first k of r: behind all that are not due later. -/
def ipos (d : Nat → Int) (r : List Nat) (i : Nat) : Nat → Nat
  | 0 => 0
  | k + 1 => if d i < d (r.getD k 0) then ipos d r i k else k + 1
noncomputable def insD (r : List Nat) (i k : Nat) : List Nat := r.take k ++ i :: r.drop k
/-- The first n, in order. -/
noncomputable def rk (d : Nat → Int) : Nat → List Nat
  | 0 => []
  | n + 1 => insD (rk d n) n (ipos d (rk d n) n n)
/-- The rest, from i on. -/
def rst (n i : Nat) : List Nat := List.range' i (n - i)
/-- The numbers that stand at these places. -/
noncomputable def vals (d : Nat → Int) (r : List Nat) : List Int := r.map d
noncomputable def atL (L : List Int) (j : Nat) : Int := L.getD j 0
noncomputable def srt (L : List Int) : List Int := vals (atL L) (rk (atL L) L.length)
end
end Sp
namespace Qq
noncomputable section
noncomputable def orcNan : OrcV
  | [.int .i64 _], [] => some (.bool false, [], True)
  | _, _ => none
theorem nan_t (a : Int) (K : Value → Heap → Prop) :
    (fnP Try.prog c0 hsN0 (82 : FuncId) [Value.int IntKind.i64 a] [] K) =
    (K (Value.bool (a != a)) noH) := by kernel_rfl
theorem okNan : OkV Try.prog 82 orcNan := by
  intro args H ret H' vc h hv
  unfold orcNan at h
  split at h
  · rename_i a
    cases h
    refine fnP_res hm c0_ok (hs := hsN0) ?_
    rw [nan_t]
    exact ⟨by simp, rfl⟩
  · cases h
noncomputable def hsLs : Hs Try.prog where
  au := auCalls [(82, hCa Try.prog 82 orcNan okNan)]
theorem ls_t (a : Int) (b : Int) (K : Value → Heap → Prop) :
    (fnP Try.prog c0 hsLs (67 : FuncId) [Value.int IntKind.i64 a, Value.int IntKind.i64 b] [] K) =
    (Is True ∧ K (Value.bool (decide (a < b))) noH) := by kernel_rfl
noncomputable def orcLs : OrcV
  | [.int .i64 a, .int .i64 b], [] => some (.bool (decide (a < b)), [], True)
  | _, _ => none
theorem okLs : OkV Try.prog 67 orcLs := by
  intro args H ret H' vc h hv
  unfold orcLs at h
  split at h
  · rename_i a b
    cases h
    refine fnP_res hm c0_ok (hs := hsLs) ?_
    rw [ls_t]
    exact ⟨⟨trivial⟩, rfl, rfl⟩
  · cases h
theorem rk_len (d : Nat → Int) : ∀ n, (rk d n).length = n
  | 0 => rfl
  | n + 1 => by
    have := rk_len d n
    rw [rk, insD, List.length_append, List.length_cons, List.length_take, List.length_drop]; omega
theorem split_at {L : List Nat} {p : Nat} (h : p < L.length) : ∃ A B, L = A ++ L.getD p 0 :: B ∧ A.length = p := by
  refine ⟨L.take p, L.drop (p + 1), ?_, by rw [List.length_take]; omega⟩
  have : L.getD p 0 = L[p] := by rw [List.getD_eq_getElem?_getD, List.getElem?_eq_getElem h]; rfl
  rw [this]
  conv => lhs; rw [← List.take_append_drop p L]
  rw [List.drop_eq_getElem_cons h]
/-- The list in the midst of a round. -/
theorem ins_facts {r t : List Nat} {i j : Nat} (hr : r.length = i) (hj : j + 1 ≤ i) : (insD r i (j + 1) ++ t).getD (j + 1) 0 = i ∧ (insD r i (j + 1) ++ t).getD j 0 = r.getD j 0 ∧ ((insD r i (j + 1) ++ t).set (j + 1) (r.getD j 0)).set j i = insD r i j ++ t := by
  obtain ⟨A, B, e, hA⟩ := split_at (L := r) (p := j) (by omega)
  generalize r.getD j 0 = m at *
  have e1 : insD r i (j + 1) = A ++ m :: i :: B := by
    rw [insD, e, List.take_append, List.drop_append, List.take_of_length_le (by omega), List.drop_eq_nil_of_le (by omega), show j + 1 - A.length = 1 by omega]
    simp
  have e2 : insD r i j = A ++ i :: m :: B := by
    rw [insD, e, List.take_append, List.drop_append, List.take_of_length_le (by omega), List.drop_eq_nil_of_le (by omega), show j - A.length = 0 by omega]
    simp
  rw [e1, e2]
  subst hA
  refine ⟨?_, ?_, ?_⟩
  · rw [List.getD_eq_getElem?_getD, List.append_assoc, List.getElem?_append_right (by omega), show A.length + 1 - A.length = 1 by omega]; rfl
  · rw [List.getD_eq_getElem?_getD, List.append_assoc, List.getElem?_append_right (by omega), show A.length - A.length = 0 by omega]; rfl
  · rw [List.append_assoc, List.set_append_right _ _ (by omega), show A.length + 1 - A.length = 1 by omega, List.set_append_right _ _ (by omega), show A.length - A.length = 0 by omega, List.append_assoc]; rfl

noncomputable def rowI (L : List Int) : Option AObj := some (.row (ints L) 1 true true true)
noncomputable def lpSo (d : Nat → Int) (n c : Nat) : Lp where
  σ := Nat
  E i := slots 49 [(0, .slice (some ⟨0, 0, none⟩) n c), (1, .int .i64 0), (2, .int .i64 (n : Int)), (6, .int .i64 (i : Int))]
  Hp i := [rowI (vals d (rk d i ++ rst n i))]
  I i := 1 ≤ i ∧ (i ≤ n ∨ i = 1)
  m i := n - i
noncomputable def lpSi (d : Nat → Int) (n c : Nat) (i : Nat) : Lp where
  σ := Nat
  E j := slots 49 [(0, .slice (some ⟨0, 0, none⟩) n c), (1, .int .i64 0), (2, .int .i64 (n : Int)), (6, .int .i64 (i : Int)), (7, .int .i64 (j : Int))]
  Hp j := [rowI (vals d (insD (rk d i) i j ++ rst n (i + 1)))]
  I j := (1 ≤ i ∧ i < n) ∧ j ≤ i ∧ ipos d (rk d i) i j = ipos d (rk d i) i i
  m j := j
noncomputable def hsSo (d : Nat → Int) (n c : Nat) : Hs Try.prog where
  op y := if [406, 411, 608, 612, 614, 616].contains y then some (hIa Try.prog) else if [407, 412, 609, 613].contains y then some (hLc Try.prog gI) else if [615, 617].contains y then some (hSp Try.prog) else if y = 413 then some (hCa Try.prog 67 orcLs okLs) else none
  lp y := if y = 1 then some (lpSo d n c) else none
  lq y := if y = 4 then some ⟨Nat, lpSi d n c⟩ else none
  cl y := if y = 4 then keep 49 [0, 1, 2, 6, 7] else keep 49 [0, 1, 2, 6]
  sm := true
  au := au0 Try.prog
theorem so_t (d : Nat → Int) (n : Nat) (c : Nat) (r0 : List Nat) (K : Value → Heap → Prop) :
    (fnP Try.prog c0 (hsSo d n c) (61 : FuncId) [Value.slice (some { block := (0 : Nat), off := (0 : Nat) }) n c, Value.int IntKind.i64 (0 : Int), Value.int IntKind.i64 (↑n : Int)] [rowI (vals d r0)] K) =
    ((∃ (s : Nat), Is ((1 : Nat) ≤ s ∧ (s ≤ n ∨ s = (1 : Nat))) ∧ (Value.slice (some { block := (0 : Nat), off := (0 : Nat) }) n c = Value.slice (some { block := (0 : Nat), off := (0 : Nat) }) n c ∧ Value.int IntKind.i64 (0 : Int) = Value.int IntKind.i64 (0 : Int) ∧ Value.int IntKind.i64 (↑n : Int) = Value.int IntKind.i64 (↑n : Int) ∧ Value.int IntKind.i64 (1 : Int) = Value.int IntKind.i64 (↑s : Int) ∧ True) ∧ some (AObj.row (ints (vals d r0)) (1 : Nat) true true true) :: noH = some (AObj.row (ints (vals d (rk d s ++ rst n s))) (1 : Nat) true true true) :: noH) ∧ ∀ (s : Nat), Is ((1 : Nat) ≤ s ∧ (s ≤ n ∨ s = (1 : Nat))) → br (decide ((↑s : Int) < (↑n : Int))) (∃ (p : Nat), (∃ (s_1 : Nat), Is (((1 : Nat) ≤ p ∧ p < n) ∧ s_1 ≤ p ∧ ipos d (rk d p) p s_1 = ipos d (rk d p) p p) ∧ (Value.slice (some { block := (0 : Nat), off := (0 : Nat) }) n c = Value.slice (some { block := (0 : Nat), off := (0 : Nat) }) n c ∧ Value.int IntKind.i64 (0 : Int) = Value.int IntKind.i64 (0 : Int) ∧ Value.int IntKind.i64 (↑n : Int) = Value.int IntKind.i64 (↑n : Int) ∧ Value.int IntKind.i64 (↑s : Int) = Value.int IntKind.i64 (↑p : Int) ∧ Value.int IntKind.i64 (↑s : Int) = Value.int IntKind.i64 (↑s_1 : Int) ∧ True) ∧ some (AObj.row (ints (vals d (rk d s ++ rst n s))) (1 : Nat) true true true) :: noH = some (AObj.row (ints (vals d (insD (rk d p) p s_1 ++ rst n (p + (1 : Nat))))) (1 : Nat) true true true) :: noH) ∧ ∀ (s_1 : Nat), Is (((1 : Nat) ≤ p ∧ p < n) ∧ s_1 ≤ p ∧ ipos d (rk d p) p s_1 = ipos d (rk d p) p p) → br (decide ((0 : Int) < (↑s_1 : Int))) (Is ((0 : Int) ≤ (↑s_1 : Int) ∧ (↑s_1 : Int) < (↑n : Int)) ∧ Is ((ints (vals d (insD (rk d p) p s_1 ++ rst n (p + (1 : Nat)))))[(0 : Nat) + Int.toNat (↑s_1 : Int) * (1 : Nat)]? = some (Value.int IntKind.i64 (iAt (ints (vals d (insD (rk d p) p s_1 ++ rst n (p + (1 : Nat))))) ((0 : Nat) + Int.toNat (↑s_1 : Int) * (1 : Nat))))) ∧ Is ((0 : Int) ≤ IntKind.wrap IntKind.i64 ((↑s_1 : Int) - (1 : Int)) ∧ IntKind.wrap IntKind.i64 ((↑s_1 : Int) - (1 : Int)) < (↑n : Int)) ∧ Is ((ints (vals d (insD (rk d p) p s_1 ++ rst n (p + (1 : Nat)))))[(0 : Nat) + Int.toNat (IntKind.wrap IntKind.i64 ((↑s_1 : Int) - (1 : Int))) * (1 : Nat)]? = some (Value.int IntKind.i64 (iAt (ints (vals d (insD (rk d p) p s_1 ++ rst n (p + (1 : Nat))))) ((0 : Nat) + Int.toNat (IntKind.wrap IntKind.i64 ((↑s_1 : Int) - (1 : Int))) * (1 : Nat))))) ∧ Is True ∧ br (decide (iAt (ints (vals d (insD (rk d p) p s_1 ++ rst n (p + (1 : Nat))))) ((0 : Nat) + Int.toNat (↑s_1 : Int) * (1 : Nat)) < iAt (ints (vals d (insD (rk d p) p s_1 ++ rst n (p + (1 : Nat))))) ((0 : Nat) + Int.toNat (IntKind.wrap IntKind.i64 ((↑s_1 : Int) - (1 : Int))) * (1 : Nat)))) (Is ((0 : Int) ≤ IntKind.wrap IntKind.i64 ((↑s_1 : Int) - (1 : Int)) ∧ IntKind.wrap IntKind.i64 ((↑s_1 : Int) - (1 : Int)) < (↑n : Int)) ∧ Is ((ints (vals d (insD (rk d p) p s_1 ++ rst n (p + (1 : Nat)))))[(0 : Nat) + Int.toNat (IntKind.wrap IntKind.i64 ((↑s_1 : Int) - (1 : Int))) * (1 : Nat)]? = some (Value.int IntKind.i64 (iAt (ints (vals d (insD (rk d p) p s_1 ++ rst n (p + (1 : Nat))))) ((0 : Nat) + Int.toNat (IntKind.wrap IntKind.i64 ((↑s_1 : Int) - (1 : Int))) * (1 : Nat))))) ∧ Is ((0 : Int) ≤ (↑s_1 : Int) ∧ (↑s_1 : Int) < (↑n : Int)) ∧ Is ((ints (vals d (insD (rk d p) p s_1 ++ rst n (p + (1 : Nat)))))[(0 : Nat) + Int.toNat (↑s_1 : Int) * (1 : Nat)]? = some (Value.int IntKind.i64 (iAt (ints (vals d (insD (rk d p) p s_1 ++ rst n (p + (1 : Nat))))) ((0 : Nat) + Int.toNat (↑s_1 : Int) * (1 : Nat))))) ∧ Is ((0 : Int) ≤ (↑s_1 : Int) ∧ (↑s_1 : Int) < (↑n : Int)) ∧ Is ((0 : Nat) + Int.toNat (↑s_1 : Int) * (1 : Nat) + (1 : Nat) ≤ List.length (ints (vals d (insD (rk d p) p s_1 ++ rst n (p + (1 : Nat)))))) ∧ Is ((0 : Int) ≤ IntKind.wrap IntKind.i64 ((↑s_1 : Int) - (1 : Int)) ∧ IntKind.wrap IntKind.i64 ((↑s_1 : Int) - (1 : Int)) < (↑n : Int)) ∧ Is ((0 : Nat) + Int.toNat (IntKind.wrap IntKind.i64 ((↑s_1 : Int) - (1 : Int))) * (1 : Nat) + (1 : Nat) ≤ List.length (putL (ints (vals d (insD (rk d p) p s_1 ++ rst n (p + (1 : Nat))))) ((0 : Nat) + Int.toNat (↑s_1 : Int) * (1 : Nat)) [Value.int IntKind.i64 (iAt (ints (vals d (insD (rk d p) p s_1 ++ rst n (p + (1 : Nat))))) ((0 : Nat) + Int.toNat (IntKind.wrap IntKind.i64 ((↑s_1 : Int) - (1 : Int))) * (1 : Nat)))])) ∧ ∃ (s' : Nat), Is (((1 : Nat) ≤ p ∧ p < n) ∧ s' ≤ p ∧ ipos d (rk d p) p s' = ipos d (rk d p) p p) ∧ Is (s' < s_1) ∧ (Value.slice (some { block := (0 : Nat), off := (0 : Nat) }) n c = Value.slice (some { block := (0 : Nat), off := (0 : Nat) }) n c ∧ Value.int IntKind.i64 (0 : Int) = Value.int IntKind.i64 (0 : Int) ∧ Value.int IntKind.i64 (↑n : Int) = Value.int IntKind.i64 (↑n : Int) ∧ Value.int IntKind.i64 (↑p : Int) = Value.int IntKind.i64 (↑p : Int) ∧ Value.int IntKind.i64 (IntKind.wrap IntKind.i64 ((↑s_1 : Int) - (1 : Int))) = Value.int IntKind.i64 (↑s' : Int) ∧ True) ∧ some (AObj.row (putL (putL (ints (vals d (insD (rk d p) p s_1 ++ rst n (p + (1 : Nat))))) ((0 : Nat) + Int.toNat (↑s_1 : Int) * (1 : Nat)) [Value.int IntKind.i64 (iAt (ints (vals d (insD (rk d p) p s_1 ++ rst n (p + (1 : Nat))))) ((0 : Nat) + Int.toNat (IntKind.wrap IntKind.i64 ((↑s_1 : Int) - (1 : Int))) * (1 : Nat)))]) ((0 : Nat) + Int.toNat (IntKind.wrap IntKind.i64 ((↑s_1 : Int) - (1 : Int))) * (1 : Nat)) [Value.int IntKind.i64 (iAt (ints (vals d (insD (rk d p) p s_1 ++ rst n (p + (1 : Nat))))) ((0 : Nat) + Int.toNat (↑s_1 : Int) * (1 : Nat)))]) (1 : Nat) true true (true && List.all [Value.int IntKind.i64 (iAt (ints (vals d (insD (rk d p) p s_1 ++ rst n (p + (1 : Nat))))) ((0 : Nat) + Int.toNat (IntKind.wrap IntKind.i64 ((↑s_1 : Int) - (1 : Int))) * (1 : Nat)))] atom && List.all [Value.int IntKind.i64 (iAt (ints (vals d (insD (rk d p) p s_1 ++ rst n (p + (1 : Nat))))) ((0 : Nat) + Int.toNat (↑s_1 : Int) * (1 : Nat)))] atom)) :: noH = some (AObj.row (ints (vals d (insD (rk d p) p s' ++ rst n (p + (1 : Nat))))) (1 : Nat) true true true) :: noH) (∃ (s' : Nat), Is ((1 : Nat) ≤ s' ∧ (s' ≤ n ∨ s' = (1 : Nat))) ∧ Is (n - s' < n - s) ∧ (Value.slice (some { block := (0 : Nat), off := (0 : Nat) }) n c = Value.slice (some { block := (0 : Nat), off := (0 : Nat) }) n c ∧ Value.int IntKind.i64 (0 : Int) = Value.int IntKind.i64 (0 : Int) ∧ Value.int IntKind.i64 (↑n : Int) = Value.int IntKind.i64 (↑n : Int) ∧ Value.int IntKind.i64 (IntKind.wrap IntKind.i64 ((↑p : Int) + (1 : Int))) = Value.int IntKind.i64 (↑s' : Int) ∧ True) ∧ some (AObj.row (ints (vals d (insD (rk d p) p s_1 ++ rst n (p + (1 : Nat))))) (1 : Nat) true true true) :: noH = some (AObj.row (ints (vals d (rk d s' ++ rst n s'))) (1 : Nat) true true true) :: noH)) (∃ (s' : Nat), Is ((1 : Nat) ≤ s' ∧ (s' ≤ n ∨ s' = (1 : Nat))) ∧ Is (n - s' < n - s) ∧ (Value.slice (some { block := (0 : Nat), off := (0 : Nat) }) n c = Value.slice (some { block := (0 : Nat), off := (0 : Nat) }) n c ∧ Value.int IntKind.i64 (0 : Int) = Value.int IntKind.i64 (0 : Int) ∧ Value.int IntKind.i64 (↑n : Int) = Value.int IntKind.i64 (↑n : Int) ∧ Value.int IntKind.i64 (IntKind.wrap IntKind.i64 ((↑p : Int) + (1 : Int))) = Value.int IntKind.i64 (↑s' : Int) ∧ True) ∧ some (AObj.row (ints (vals d (insD (rk d p) p s_1 ++ rst n (p + (1 : Nat))))) (1 : Nat) true true true) :: noH = some (AObj.row (ints (vals d (rk d s' ++ rst n s'))) (1 : Nat) true true true) :: noH)) (K undef (some (AObj.row (ints (vals d (rk d s ++ rst n s))) (1 : Nat) true true true) :: noH))) := by kernel_rfl
theorem vals_len (d : Nat → Int) (R : List Nat) : (vals d R).length = R.length := List.length_map ..
theorem v_get {d : Nat → Int} {R : List Nat} {p : Nat} (h : p < R.length) : (ints (vals d R))[0 + p * 1]? = some (.int .i64 (d (R.getD p 0))) := by
  rw [show 0 + p * 1 = p by omega, ints, vals, List.getElem?_map, List.getElem?_map, List.getElem?_eq_getElem h, List.getD_eq_getElem?_getD, List.getElem?_eq_getElem h]; rfl
theorem v_at {d : Nat → Int} {R : List Nat} {p : Nat} (h : p < R.length) : iAt (ints (vals d R)) (0 + p * 1) = d (R.getD p 0) := by
  rw [iAt, v_get h]
theorem ints_put {L : List Int} {p : Nat} {v : Int} (h : p < L.length) : putL (ints L) (0 + p * 1) [.int .i64 v] = ints (L.set p v) := by
  have e : L = L.take p ++ L[p] :: L.drop (p + 1) := by
    conv => lhs; rw [← List.take_append_drop p L]
    rw [List.drop_eq_getElem_cons h]
  have hl : (L.take p).length = p := by rw [List.length_take]; omega
  have e2 : L.set p v = L.take p ++ v :: L.drop (p + 1) := by
    conv => lhs; rw [e]
    rw [List.set_append_right _ _ (by omega), hl, Nat.sub_self]; rfl
  have hl2 : (ints (L.take p)).length = p := by rw [ints_len, hl]
  have e3 : ints L = ints (L.take p) ++ .int .i64 L[p] :: ints (L.drop (p + 1)) := by
    conv => lhs; rw [e]
    rw [← ints_app]; rfl
  rw [e2, ← ints_app, e3, putL, splice, List.take_append_of_le_length (by omega), List.take_of_length_le (by omega)]
  congr 1
  rw [show (0 + p * 1 + [Value.int .i64 v].length) = (ints (L.take p)).length + 1 by rw [hl2]; simp, List.drop_append, List.drop_eq_nil_of_le (by omega)]
  simp
  rfl
theorem v_put {d : Nat → Int} {R : List Nat} {p m : Nat} (h : p < R.length) : putL (ints (vals d R)) (0 + p * 1) [.int .i64 (d m)] = ints (vals d (R.set p m)) := by
  rw [ints_put (by rw [vals_len]; exact h), vals, vals, List.map_set]
theorem so_ok {d : Nat → Int} {n c : Nat} (h1 : 1 ≤ n) (h9 : n ≤ 1000) : SmallRes Try.prog 61 [.slice (some ⟨0, 0, none⟩) n c, .int .i64 0, .int .i64 (n : Int)] [rowI (vals d (List.range n))] undef [rowI (vals d (rk d n))] := by
  refine fnP_res hm c0_ok (hs := hsSo d n c) ?_
  show fnP Try.prog c0 (hsSo d n c) 61 _ _ _
  rw [so_t]
  have hlen : ∀ i j, j ≤ i → i < n → (insD (rk d i) i j ++ rst n (i + 1)).length = n := fun i j hj hi => by
    have := rk_len d i
    rw [insD, List.length_append, List.length_append, List.length_cons, List.length_take, List.length_drop, rst, List.length_range']; omega
  have hst : List.range n = rk d 1 ++ rst n 1 := by
    rw [rst]
    show List.range n = [0] ++ List.range' 1 (n - 1)
    rw [List.range_eq_range', show n = n - 1 + 1 by omega, List.range'_succ]; rfl
  refine ⟨⟨1, ⟨by omega, .inr rfl⟩, ⟨rfl, rfl, rfl, rfl, trivial⟩, by rw [← hst]⟩, fun i hi => br_of (fun hc => ?_) (fun hc => ?_)⟩
  · have hc := lt_of_dec hc
    have hi1 := hi.out.1
    refine ⟨i, ⟨i, ⟨⟨hi1, hc⟩, Nat.le_refl _, rfl⟩, ⟨rfl, rfl, rfl, rfl, rfl, trivial⟩, ?_⟩, fun j hj => br_of (fun hd => ?_) (fun hd => ?_)⟩
    · have hl := rk_len d i
      have e1 : insD (rk d i) i i = rk d i ++ [i] := by rw [insD, List.take_of_length_le (by omega), List.drop_eq_nil_of_le (by omega)]
      have e2 : rst n i = i :: rst n (i + 1) := by rw [rst, rst, show n - i = n - (i + 1) + 1 by omega, List.range'_succ]
      rw [e1, e2, List.append_assoc]; rfl
    · obtain ⟨_, hj1, hj2⟩ := hj.out
      have hd := of_decide_eq_true hd
      obtain ⟨k, rfl⟩ : ∃ k, j = k + 1 := ⟨j - 1, by omega⟩
      have w : IntKind.wrap .i64 (((k + 1 : Nat) : Int) - 1) = (k : Int) := (wrap_eq (by omega) (by omega)).trans (by omega)
      have hL := hlen i (k + 1) hj1 hc
      obtain ⟨f1, f2, f3⟩ := ins_facts (r := rk d i) (t := rst n (i + 1)) (rk_len d i) hj1
      have a1 := v_at (d := d) (R := insD (rk d i) i (k + 1) ++ rst n (i + 1)) (p := k + 1) (by omega)
      have b1 := v_at (d := d) (R := insD (rk d i) i (k + 1) ++ rst n (i + 1)) (p := k) (by omega)
      have l1 := v_get (d := d) (R := insD (rk d i) i (k + 1) ++ rst n (i + 1)) (p := k + 1) (by omega)
      have l2 := v_get (d := d) (R := insD (rk d i) i (k + 1) ++ rst n (i + 1)) (p := k) (by omega)
      rw [f1] at a1 l1
      rw [f2] at b1 l2
      have p1 := v_put (d := d) (R := insD (rk d i) i (k + 1) ++ rst n (i + 1)) (p := k + 1) (m := (rk d i).getD k 0) (by omega)
      have p2 := v_put (d := d) (R := (insD (rk d i) i (k + 1) ++ rst n (i + 1)).set (k + 1) ((rk d i).getD k 0)) (p := k) (m := i) (by rw [List.length_set]; omega)
      rw [f3] at p2
      have q1 : (ints (vals d (insD (rk d i) i (k + 1) ++ rst n (i + 1)))).length = n := by rw [ints_len, vals_len]; exact hL
      have q2 : (ints (vals d ((insD (rk d i) i (k + 1) ++ rst n (i + 1)).set (k + 1) ((rk d i).getD k 0)))).length = n := by rw [ints_len, vals_len, List.length_set]; exact hL
      simp only [w, Int.toNat_natCast, a1, b1, l1, l2, p1, p2, q1, q2]
      refine ⟨⟨by omega, by omega⟩, ⟨by trivial⟩, ⟨by omega, by omega⟩, ⟨by trivial⟩, ⟨by trivial⟩, br_of (fun hq => ?_) (fun hq => ?_)⟩
      · have hq := of_decide_eq_true hq
        refine ⟨⟨by omega, by omega⟩, ⟨by trivial⟩, ⟨by omega, by omega⟩, ⟨by trivial⟩, ⟨by omega, by omega⟩, ⟨by omega⟩, ⟨by omega, by omega⟩, ⟨by omega⟩, k, ⟨⟨hi1, hc⟩, by omega, ?_⟩, ⟨by omega⟩, ⟨by first | trivial | rfl, by first | trivial | rfl, by first | trivial | rfl, by first | trivial | rfl, by first | trivial | rfl, trivial⟩, by first | trivial | rfl⟩
        rw [← hj2, ipos, if_pos hq]
      · have hq := of_decide_eq_false hq
        have e : ipos d (rk d i) i i = k + 1 := by rw [← hj2, ipos, if_neg hq]
        refine ⟨i + 1, ⟨by omega, .inl hc⟩, ⟨by omega⟩, ⟨by first | trivial | rfl, by first | trivial | rfl, by first | trivial | rfl, by rw [up1 hc (by omega)], trivial⟩, ?_⟩
        rw [rk, e]
    · obtain ⟨_, hj1, hj2⟩ := hj.out
      have hd := of_decide_eq_false hd
      have : j = 0 := by omega
      subst this
      have e : ipos d (rk d i) i i = 0 := by rw [← hj2, ipos]
      refine ⟨i + 1, ⟨by omega, .inl hc⟩, ⟨by omega⟩, ⟨by first | trivial | rfl, by first | trivial | rfl, by first | trivial | rfl, by rw [up1 hc (by omega)], trivial⟩, ?_⟩
      rw [rk, e]
  · have hc := ge_of_dec hc
    have : n = i := by
      have := hi.out.2; omega
    subst this
    refine ⟨rfl, ?_⟩
    rw [rst, Nat.sub_self]
    show [rowI (vals d (rk d n ++ []))] = _
    rw [List.append_nil]
theorem vals_atL (L : List Int) : vals (atL L) (List.range L.length) = L := by
  apply List.ext_getElem
  · rw [vals_len, List.length_range]
  · intro j h1 h2
    simp only [vals, List.getElem_map, List.getElem_range, atL, List.getD_eq_getElem?_getD, List.getElem?_eq_getElem h2]; rfl
noncomputable def srC (e : List Value) : List Value := ints (srt (deI e))
def srIs (n : Nat) (e : List Value) : Prop := ∃ L, e = ints L ∧ L.length = n ∧ 1 ≤ n ∧ n ≤ 12
noncomputable def orcIs : OrcV
  | [.slice (some ⟨0, 0, none⟩) n _, .int .i64 lo, .int .i64 hi], [some (.row e 1 true true true)] => some (undef, [some (.row (srC e) 1 true true true)], srIs n e ∧ lo = 0 ∧ hi = n)
  | _, _ => none
theorem okIs : OkV Try.prog 61 orcIs := by
  intro args H ret H' vc h hv
  unfold orcIs at h
  split at h
  · rename_i n c lo hi e
    cases h
    obtain ⟨⟨L, rfl, hL, h1, h2⟩, rfl, rfl⟩ := hv
    have h := so_ok (d := atL L) (n := n) (c := c) h1 (by omega)
    rw [srC, deI_ints, srt, hL]
    have e := vals_atL L
    rw [hL] at e
    rw [e] at h
    exact h
  · cases h
end
end Qq
end
section
/- slices.Sort of a few numbers. -/
open Go Go.Vm Go.Proofs Sp
namespace Sp
noncomputable section
noncomputable def blI (x : Int) : Int := if x ≤ 1 then x else if x ≤ 3 then 2 else if x ≤ 7 then 3 else 4
end
end Sp
namespace Qq
noncomputable section
theorem bl_at (K : Value → Heap → Prop) : ∀ x, x < 13 → fnP Try.prog c0 hsN0 43 [.int .u64 ((x : Nat) : Int)] [] K = K (.int .i64 (blI (x : Int))) []
  | 0, _ => by kernel_rfl
  | 1, _ => by kernel_rfl
  | 2, _ => by kernel_rfl
  | 3, _ => by kernel_rfl
  | 4, _ => by kernel_rfl
  | 5, _ => by kernel_rfl
  | 6, _ => by kernel_rfl
  | 7, _ => by kernel_rfl
  | 8, _ => by kernel_rfl
  | 9, _ => by kernel_rfl
  | 10, _ => by kernel_rfl
  | 11, _ => by kernel_rfl
  | 12, _ => by kernel_rfl
  | n + 13, h => by omega
noncomputable def orcBl : OrcV
  | [.int .u64 x], [] => some (.int .i64 (blI x), [], 0 ≤ x ∧ x ≤ 12)
  | _, _ => none
theorem okBl : OkV Try.prog 43 orcBl := by
  intro args H ret H' vc h hv
  unfold orcBl at h
  split at h
  · rename_i x
    cases h
    obtain ⟨h1, h2⟩ := hv
    obtain ⟨n, rfl⟩ : ∃ n : Nat, x = (n : Int) := ⟨x.toNat, by omega⟩
    refine fnP_res hm c0_ok (hs := hsN0) ?_
    show fnP Try.prog c0 hsN0 43 _ _ _
    rw [bl_at _ n (by omega)]
    exact ⟨rfl, rfl⟩
  · cases h
noncomputable def hsPq : Hs Try.prog where
  op y := if y = 301 then some (hKn Try.prog true) else if y = 403 then some (hCa Try.prog 61 orcIs okIs) else none
  au := au0 Try.prog
theorem pq_t (e : List Value) (n : Nat) (c : Nat) (x : Int) (K : Value → Heap → Prop) :
    (fnP Try.prog c0 hsPq (42 : FuncId) [Value.slice (some { block := (0 : Nat), off := (0 : Nat) }) n c, Value.int IntKind.i64 (0 : Int), Value.int IntKind.i64 (↑n : Int), Value.int IntKind.i64 x] [some (AObj.row e (1 : Nat) true true true)] K) =
    (Is (decide (IntKind.wrap IntKind.i64 ((↑n : Int) - (0 : Int)) ≤ (12 : Int)) = true) ∧ Is (srIs n e ∧ (0 : Int) = (0 : Int) ∧ (↑n : Int) = (↑n : Int)) ∧ K undef (some (AObj.row (srC e) (1 : Nat) true true true) :: noH)) := by kernel_rfl
noncomputable def orcPq : OrcV
  | [.slice (some ⟨0, 0, none⟩) n _, .int .i64 lo, .int .i64 hi, .int .i64 _], [some (.row e 1 true true true)] => some (undef, [some (.row (srC e) 1 true true true)], srIs n e ∧ lo = 0 ∧ hi = n)
  | _, _ => none
theorem okPq : OkV Try.prog 42 orcPq := by
  intro args H ret H' vc h hv
  unfold orcPq at h
  split at h
  · rename_i n c lo hi x e
    cases h
    obtain ⟨h1, rfl, rfl⟩ := hv
    refine fnP_res hm c0_ok (hs := hsPq) ?_
    show fnP Try.prog c0 hsPq 42 _ _ _
    rw [pq_t]
    have h4 := h1
    obtain ⟨L, _, _, h2, h3⟩ := h1
    exact ⟨⟨by rw [wrap_eq (by omega) (by omega)]; exact decide_eq_true (by omega)⟩, ⟨h4, rfl, rfl⟩, rfl, rfl⟩
  · cases h
noncomputable def hsSt : Hs Try.prog where
  au := auCalls [(43, hCa Try.prog 43 orcBl okBl), (42, hCa Try.prog 42 orcPq okPq)]
theorem st_t (e : List Value) (n : Nat) (c : Nat) (K : Value → Heap → Prop) :
    (fnP Try.prog c0 hsSt (34 : FuncId) [Value.slice (some { block := (0 : Nat), off := (0 : Nat) }) n c] [some (AObj.row e (1 : Nat) true true true)] K) =
    (Is ((0 : Int) ≤ IntKind.wrap IntKind.u64 (↑n : Int) ∧ IntKind.wrap IntKind.u64 (↑n : Int) ≤ (12 : Int)) ∧ Is (srIs n e ∧ (0 : Int) = (0 : Int) ∧ (↑n : Int) = (↑n : Int)) ∧ K undef (some (AObj.row (srC e) (1 : Nat) true true true) :: noH)) := by kernel_rfl
noncomputable def orcSt : OrcV
  | [.slice (some ⟨0, 0, none⟩) n _], [some (.row e 1 true true true)] => some (undef, [some (.row (srC e) 1 true true true)], srIs n e)
  | _, _ => none
theorem wrap_u {x : Int} (h0 : 0 ≤ x) (h1 : x ≤ 1000) : IntKind.wrap .u64 x = x := by
  have h : IntKind.wrap .u64 x = if (false && decide (x % 18446744073709551616 ≥ 9223372036854775808)) = true then x % 18446744073709551616 - 18446744073709551616 else x % 18446744073709551616 := rfl
  rw [h, Bool.false_and, if_neg (by decide)]
  omega
theorem okSt : OkV Try.prog 34 orcSt := by
  intro args H ret H' vc h hv
  unfold orcSt at h
  split at h
  · rename_i n c e
    cases h
    refine fnP_res hm c0_ok (hs := hsSt) ?_
    show fnP Try.prog c0 hsSt 34 _ _ _
    rw [st_t]
    have h4 := hv
    obtain ⟨L, _, _, h2, h3⟩ := hv
    rw [wrap_u (by omega) (by omega)]
    exact ⟨⟨by omega, by omega⟩, ⟨h4, rfl, rfl⟩, rfl, rfl⟩
  · cases h
/-- What is in order stays so. -/
def isUp : List Int → Prop
  | a :: b :: r => a ≤ b ∧ isUp (b :: r)
  | _ => True
theorem up_at : ∀ {L : List Int}, isUp L → ∀ (i j : Nat), i ≤ j → j < L.length → L.getD i 0 ≤ L.getD j 0
  | [], _, i, j, _, h => by simp at h
  | [a], _, i, j, hij, h => by
    have : i = j := by simp at h; omega
    subst this; exact Int.le_refl _
  | a :: b :: r, hu, 0, 0, _, _ => Int.le_refl _
  | a :: b :: r, hu, 0, j + 1, _, h => by
    have := up_at hu.2 0 j (Nat.zero_le _) (by simpa using h)
    exact Int.le_trans hu.1 this
  | a :: b :: r, hu, i + 1, 0, hij, _ => by omega
  | a :: b :: r, hu, i + 1, j + 1, hij, h => up_at hu.2 i j (by omega) (by simpa using h)
theorem rk_up {L : List Int} (hu : isUp L) : ∀ n, n ≤ L.length → rk (atL L) n = List.range n
  | 0, _ => rfl
  | n + 1, h => by
    have ih := rk_up hu n (by omega)
    have hp : ∀ k, k ≤ n → ipos (atL L) (List.range n) n k = k := fun k hk => by
      cases k with
      | zero => rfl
      | succ k =>
        have e : (List.range n).getD k 0 = k := by rw [List.getD_eq_getElem?_getD, List.getElem?_range (by omega)]; rfl
        rw [ipos, e, if_neg]
        have := up_at hu k n (by omega) (by omega)
        show ¬ L.getD n 0 < L.getD k 0
        omega
    rw [rk, ih, hp n (Nat.le_refl _), insD, List.take_of_length_le (by rw [List.length_range]; omega), List.drop_eq_nil_of_le (by rw [List.length_range]; omega), List.range_succ]
theorem srt_up {L : List Int} (hu : isUp L) : srt L = L := by
  rw [srt, rk_up hu _ (Nat.le_refl _)]
  exact vals_atL L
end
end Qq
end
section
/- slices.Compact: the tree. -/
open Go Go.Vm Go.Proofs Sp
namespace Sp
noncomputable section
/-- Of the first j those that differ from the one before. -/
noncomputable def cp (L : List Int) : Nat → List Int
  | 0 => []
  | j + 1 => if j = 0 ∨ L.getD j 0 ≠ L.getD (j - 1) 0 then cp L j ++ [L.getD j 0] else cp L j
noncomputable def cpN (L : List Int) (j : Nat) : Nat := (cp L j).length
/-- What stands in the list meanwhile. -/
noncomputable def cpR (L : List Int) (j : Nat) : List Int := cp L j ++ L.drop (cpN L j)
end
end Sp
namespace Qq
noncomputable section
noncomputable def lpCa (L : List Int) (n c : Nat) : Lp where
  σ := Nat
  E k := slots 61 [(0, .slice (some ⟨0, 0, none⟩) n c), (3, .int .i64 (k : Int))]
  Hp _ := [rowI L]
  I k := 1 ≤ k ∧ k ≤ n ∧ cp L k = L.take k
  m k := n - k
noncomputable def lpCb (L : List Int) (n c k : Nat) : Lp where
  σ := Nat
  E q := slots 61 [(0, .slice (some ⟨0, 0, none⟩) n c), (3, .int .i64 (cpN L (k + q) : Int)), (4, .slice (some ⟨0, k, none⟩) (n - k) big), (5, .int .i64 (q : Int))]
  Hp q := [rowI (cpR L (k + q))]
  I q := (1 ≤ k ∧ k < n) ∧ 1 ≤ q ∧ k + q ≤ n ∧ cpN L (k + q) < k + q
  m q := n - q
noncomputable def hsCm (L : List Int) (n c : Nat) : Hs Try.prog where
  op y := if [602, 607, 1102, 1107, 1204, 1206].contains y then some (hIa Try.prog) else if [603, 608, 1103, 1108, 1205].contains y then some (hLc Try.prog gI) else if [702, 1402, 1502].contains y then some (hSl Try.prog) else if y = 1207 then some (hSp Try.prog) else if y = 1403 then some (hCr Try.prog) else if [201, 1601].contains y then some (hVw Try.prog) else none
  lp y := if y = 4 then some (lpCa L n c) else none
  lq y := if y = 9 then some ⟨Nat, lpCb L n c⟩ else none
  cl y := if y = 4 then keep 61 [0, 3] else keep 61 [0, 3, 4, 5]
  sm := true
  au := au0 Try.prog
theorem cm_t (L : List Int) (n : Nat) (c : Nat) (K : Value → Heap → Prop) :
    (fnP Try.prog c0 (hsCm L n c) (50 : FuncId) [Value.slice (some { block := (0 : Nat), off := (0 : Nat) }) n c] [rowI L] K) =
    (br (decide ((↑n : Int) < (2 : Int))) (Is True ∧ K (Value.slice (some { block := (0 : Nat), off := (0 : Nat) }) n (18446744073709551616 : Nat)) (some (AObj.row (ints L) (1 : Nat) true true true) :: noH)) ((∃ (s : Nat), Is ((1 : Nat) ≤ s ∧ s ≤ n ∧ cp L s = List.take s L) ∧ (Value.slice (some { block := (0 : Nat), off := (0 : Nat) }) n c = Value.slice (some { block := (0 : Nat), off := (0 : Nat) }) n c ∧ Value.int IntKind.i64 (1 : Int) = Value.int IntKind.i64 (↑s : Int) ∧ True) ∧ some (AObj.row (ints L) (1 : Nat) true true true) :: noH = some (AObj.row (ints L) (1 : Nat) true true true) :: noH) ∧ ∀ (s : Nat), Is ((1 : Nat) ≤ s ∧ s ≤ n ∧ cp L s = List.take s L) → br (decide ((↑s : Int) < (↑n : Int))) (Is ((0 : Int) ≤ (↑s : Int) ∧ (↑s : Int) < (↑n : Int)) ∧ Is ((ints L)[(0 : Nat) + Int.toNat (↑s : Int) * (1 : Nat)]? = some (Value.int IntKind.i64 (iAt (ints L) ((0 : Nat) + Int.toNat (↑s : Int) * (1 : Nat))))) ∧ Is ((0 : Int) ≤ IntKind.wrap IntKind.i64 ((↑s : Int) - (1 : Int)) ∧ IntKind.wrap IntKind.i64 ((↑s : Int) - (1 : Int)) < (↑n : Int)) ∧ Is ((ints L)[(0 : Nat) + Int.toNat (IntKind.wrap IntKind.i64 ((↑s : Int) - (1 : Int))) * (1 : Nat)]? = some (Value.int IntKind.i64 (iAt (ints L) ((0 : Nat) + Int.toNat (IntKind.wrap IntKind.i64 ((↑s : Int) - (1 : Int))) * (1 : Nat))))) ∧ br (iAt (ints L) ((0 : Nat) + Int.toNat (↑s : Int) * (1 : Nat)) == iAt (ints L) ((0 : Nat) + Int.toNat (IntKind.wrap IntKind.i64 ((↑s : Int) - (1 : Int))) * (1 : Nat))) (Is ((0 : Int) ≤ (↑s : Int) ∧ (↑s : Int) ≤ (↑n : Int) ∧ (↑n : Int) ≤ (↑n : Int)) ∧ ∃ (p : Nat), (∃ (s_1 : Nat), Is (((1 : Nat) ≤ p ∧ p < n) ∧ (1 : Nat) ≤ s_1 ∧ p + s_1 ≤ n ∧ cpN L (p + s_1) < p + s_1) ∧ (Value.slice (some { block := (0 : Nat), off := (0 : Nat) }) n c = Value.slice (some { block := (0 : Nat), off := (0 : Nat) }) n c ∧ Value.int IntKind.i64 (↑s : Int) = Value.int IntKind.i64 (↑(cpN L (p + s_1)) : Int) ∧ Value.slice (some { block := (0 : Nat), off := (0 : Nat) + Int.toNat (↑s : Int) * (1 : Nat) }) (Int.toNat (↑n : Int) - Int.toNat (↑s : Int)) (18446744073709551616 : Nat) = Value.slice (some { block := (0 : Nat), off := p }) (n - p) (18446744073709551616 : Nat) ∧ Value.int IntKind.i64 (1 : Int) = Value.int IntKind.i64 (↑s_1 : Int) ∧ True) ∧ some (AObj.row (ints L) (1 : Nat) true true true) :: noH = some (AObj.row (ints (cpR L (p + s_1))) (1 : Nat) true true true) :: noH) ∧ ∀ (s : Nat), Is (((1 : Nat) ≤ p ∧ p < n) ∧ (1 : Nat) ≤ s ∧ p + s ≤ n ∧ cpN L (p + s) < p + s) → br (decide ((↑s : Int) < (↑(n - p) : Int))) (Is ((0 : Int) ≤ (↑s : Int) ∧ (↑s : Int) < (↑(n - p) : Int)) ∧ Is ((ints (cpR L (p + s)))[p + Int.toNat (↑s : Int) * (1 : Nat)]? = some (Value.int IntKind.i64 (iAt (ints (cpR L (p + s))) (p + Int.toNat (↑s : Int) * (1 : Nat))))) ∧ Is ((0 : Int) ≤ IntKind.wrap IntKind.i64 ((↑s : Int) - (1 : Int)) ∧ IntKind.wrap IntKind.i64 ((↑s : Int) - (1 : Int)) < (↑(n - p) : Int)) ∧ Is ((ints (cpR L (p + s)))[p + Int.toNat (IntKind.wrap IntKind.i64 ((↑s : Int) - (1 : Int))) * (1 : Nat)]? = some (Value.int IntKind.i64 (iAt (ints (cpR L (p + s))) (p + Int.toNat (IntKind.wrap IntKind.i64 ((↑s : Int) - (1 : Int))) * (1 : Nat))))) ∧ br (iAt (ints (cpR L (p + s))) (p + Int.toNat (↑s : Int) * (1 : Nat)) != iAt (ints (cpR L (p + s))) (p + Int.toNat (IntKind.wrap IntKind.i64 ((↑s : Int) - (1 : Int))) * (1 : Nat))) (Is ((0 : Int) ≤ (↑s : Int) ∧ (↑s : Int) < (↑(n - p) : Int)) ∧ Is ((ints (cpR L (p + s)))[p + Int.toNat (↑s : Int) * (1 : Nat)]? = some (Value.int IntKind.i64 (iAt (ints (cpR L (p + s))) (p + Int.toNat (↑s : Int) * (1 : Nat))))) ∧ Is ((0 : Int) ≤ (↑(cpN L (p + s)) : Int) ∧ (↑(cpN L (p + s)) : Int) < (↑n : Int)) ∧ Is ((0 : Nat) + Int.toNat (↑(cpN L (p + s)) : Int) * (1 : Nat) + (1 : Nat) ≤ List.length (ints (cpR L (p + s)))) ∧ ∃ (s' : Nat), Is (((1 : Nat) ≤ p ∧ p < n) ∧ (1 : Nat) ≤ s' ∧ p + s' ≤ n ∧ cpN L (p + s') < p + s') ∧ Is (n - s' < n - s) ∧ (Value.slice (some { block := (0 : Nat), off := (0 : Nat) }) n c = Value.slice (some { block := (0 : Nat), off := (0 : Nat) }) n c ∧ Value.int IntKind.i64 (IntKind.wrap IntKind.i64 ((↑(cpN L (p + s)) : Int) + (1 : Int))) = Value.int IntKind.i64 (↑(cpN L (p + s')) : Int) ∧ Value.slice (some { block := (0 : Nat), off := p }) (n - p) (18446744073709551616 : Nat) = Value.slice (some { block := (0 : Nat), off := p }) (n - p) (18446744073709551616 : Nat) ∧ Value.int IntKind.i64 (IntKind.wrap IntKind.i64 ((↑s : Int) + (1 : Int))) = Value.int IntKind.i64 (↑s' : Int) ∧ True) ∧ some (AObj.row (putL (ints (cpR L (p + s))) ((0 : Nat) + Int.toNat (↑(cpN L (p + s)) : Int) * (1 : Nat)) [Value.int IntKind.i64 (iAt (ints (cpR L (p + s))) (p + Int.toNat (↑s : Int) * (1 : Nat)))]) (1 : Nat) true true (true && List.all [Value.int IntKind.i64 (iAt (ints (cpR L (p + s))) (p + Int.toNat (↑s : Int) * (1 : Nat)))] atom)) :: noH = some (AObj.row (ints (cpR L (p + s'))) (1 : Nat) true true true) :: noH) (∃ (s' : Nat), Is (((1 : Nat) ≤ p ∧ p < n) ∧ (1 : Nat) ≤ s' ∧ p + s' ≤ n ∧ cpN L (p + s') < p + s') ∧ Is (n - s' < n - s) ∧ (Value.slice (some { block := (0 : Nat), off := (0 : Nat) }) n c = Value.slice (some { block := (0 : Nat), off := (0 : Nat) }) n c ∧ Value.int IntKind.i64 (↑(cpN L (p + s)) : Int) = Value.int IntKind.i64 (↑(cpN L (p + s')) : Int) ∧ Value.slice (some { block := (0 : Nat), off := p }) (n - p) (18446744073709551616 : Nat) = Value.slice (some { block := (0 : Nat), off := p }) (n - p) (18446744073709551616 : Nat) ∧ Value.int IntKind.i64 (IntKind.wrap IntKind.i64 ((↑s : Int) + (1 : Int))) = Value.int IntKind.i64 (↑s' : Int) ∧ True) ∧ some (AObj.row (ints (cpR L (p + s))) (1 : Nat) true true true) :: noH = some (AObj.row (ints (cpR L (p + s'))) (1 : Nat) true true true) :: noH)) (Is ((0 : Int) ≤ (↑(cpN L (p + s)) : Int) ∧ (↑(cpN L (p + s)) : Int) ≤ (↑n : Int) ∧ (↑n : Int) ≤ (↑n : Int)) ∧ Is ((0 : Nat) < Int.toNat (↑n : Int) - Int.toNat (↑(cpN L (p + s)) : Int) ∧ (0 : Nat) + Int.toNat (↑(cpN L (p + s)) : Int) * (1 : Nat) + (Int.toNat (↑n : Int) - Int.toNat (↑(cpN L (p + s)) : Int)) ≤ List.length (ints (cpR L (p + s)))) ∧ Is ((0 : Int) ≤ (0 : Int) ∧ (0 : Int) ≤ (↑(cpN L (p + s)) : Int) ∧ (↑(cpN L (p + s)) : Int) ≤ (↑n : Int)) ∧ K (Value.slice (some { block := (0 : Nat), off := (0 : Nat) }) (Int.toNat (↑(cpN L (p + s)) : Int) - (0 : Nat)) (18446744073709551616 : Nat)) (some (AObj.row (putL (ints (cpR L (p + s))) ((0 : Nat) + Int.toNat (↑(cpN L (p + s)) : Int) * (1 : Nat)) (List.replicate (Int.toNat (↑n : Int) - Int.toNat (↑(cpN L (p + s)) : Int)) (Value.int IntKind.i64 (0 : Int)))) (1 : Nat) true true true) :: noH))) (∃ (s' : Nat), Is ((1 : Nat) ≤ s' ∧ s' ≤ n ∧ cp L s' = List.take s' L) ∧ Is (n - s' < n - s) ∧ (Value.slice (some { block := (0 : Nat), off := (0 : Nat) }) n c = Value.slice (some { block := (0 : Nat), off := (0 : Nat) }) n c ∧ Value.int IntKind.i64 (IntKind.wrap IntKind.i64 ((↑s : Int) + (1 : Int))) = Value.int IntKind.i64 (↑s' : Int) ∧ True) ∧ some (AObj.row (ints L) (1 : Nat) true true true) :: noH = some (AObj.row (ints L) (1 : Nat) true true true) :: noH)) (Is True ∧ K (Value.slice (some { block := (0 : Nat), off := (0 : Nat) }) n (18446744073709551616 : Nat)) (some (AObj.row (ints L) (1 : Nat) true true true) :: noH)))) := by kernel_rfl
noncomputable def cpF (L : List Int) (n : Nat) : List Int := cp L n ++ List.replicate (n - cpN L n) 0
theorem cp_new {L : List Int} {j : Nat} (h : j = 0 ∨ L.getD j 0 ≠ L.getD (j - 1) 0) : cp L (j + 1) = cp L j ++ [L.getD j 0] := by rw [cp, if_pos h]
theorem cp_old {L : List Int} {j : Nat} (h0 : j ≠ 0) (h : L.getD j 0 = L.getD (j - 1) 0) : cp L (j + 1) = cp L j := by
  rw [cp, if_neg]
  rintro (h1 | h1)
  · exact h0 h1
  · exact h1 h
theorem cpN_new {L : List Int} {j : Nat} (h : j = 0 ∨ L.getD j 0 ≠ L.getD (j - 1) 0) : cpN L (j + 1) = cpN L j + 1 := by
  rw [cpN, cp_new h, List.length_append]; rfl
theorem cpN_le (L : List Int) : ∀ j, cpN L j ≤ j
  | 0 => Nat.le_refl _
  | j + 1 => by
    have := cpN_le L j
    by_cases h : j = 0 ∨ L.getD j 0 ≠ L.getD (j - 1) 0
    · rw [cpN_new h]; omega
    · rw [cpN, cp, if_neg h]; rw [cpN] at this; omega
theorem cpR_len {L : List Int} {j : Nat} (h : j ≤ L.length) : (cpR L j).length = L.length := by
  have := cpN_le L j
  rw [cpR, List.length_append, List.length_drop]
  show cpN L j + _ = _
  omega
theorem cpR_at {L : List Int} {j p : Nat} (h : cpN L j ≤ p) : (cpR L j).getD p 0 = L.getD p 0 := by
  have e : (cp L j).length = cpN L j := rfl
  rw [List.getD_eq_getElem?_getD, cpR, List.getElem?_append_right (by omega), List.getElem?_drop, e, show cpN L j + (p - cpN L j) = p by omega, ← List.getD_eq_getElem?_getD]
theorem get_at {z : List Int} {p : Nat} (h : p < z.length) : (ints z)[p]? = some (.int .i64 (z.getD p 0)) := zint_at h
theorem cpR_set {L : List Int} {j : Nat} (hj : j < L.length) (hn : cpN L j < L.length) (h : j = 0 ∨ L.getD j 0 ≠ L.getD (j - 1) 0) : (cpR L j).set (cpN L j) (L.getD j 0) = cpR L (j + 1) := by
  have e : (cp L j).length = cpN L j := rfl
  rw [cpR, cpR, cpN_new h, cp_new h, List.set_append_right _ _ (by omega), e, Nat.sub_self, List.drop_eq_getElem_cons hn, List.append_assoc]; rfl
theorem clear_eq {L : List Int} {n : Nat} (hn : L.length = n) : putL (ints (cpR L n)) (0 + cpN L n * 1) (List.replicate (n - cpN L n) (.int .i64 0)) = ints (cpF L n) := by
  have hle := cpN_le L n
  have e : (ints (cp L n)).length = cpN L n := by rw [ints_len]; rfl
  have e2 : (ints (L.drop (cpN L n))).length = n - cpN L n := by rw [ints_len, List.length_drop, hn]
  rw [cpR, cpF, ← ints_app, ← ints_app, putL, splice, List.take_append_of_le_length (by omega), List.take_of_length_le (by omega)]
  have e3 : ints (List.replicate (n - cpN L n) 0) = List.replicate (n - cpN L n) (.int .i64 0) := by rw [ints, List.map_replicate]
  rw [e3]
  congr 1
  rw [List.drop_eq_nil_of_le (by rw [List.length_append, List.length_replicate]; omega), List.append_nil]
theorem cm_ok {L : List Int} {n c : Nat} (hn : L.length = n) (h9 : n ≤ 1000) : SmallRes Try.prog 50 [.slice (some ⟨0, 0, none⟩) n c] [rowI L] (.slice (some ⟨0, 0, none⟩) (cpN L n) big) [rowI (cpF L n)] := by
  refine fnP_res hm c0_ok (hs := hsCm L n c) ?_
  show fnP Try.prog c0 (hsCm L n c) 50 _ _ _
  rw [cm_t]
  have fin : cp L n = L.take n → cpN L n = n ∧ cpF L n = L := fun h => by
    have h1 : cp L n = L := by rw [h, List.take_of_length_le (by omega)]
    have h2 : cpN L n = n := by rw [cpN, h1, hn]
    exact ⟨h2, by rw [cpF, h1, h2, Nat.sub_self, List.replicate_zero, List.append_nil]⟩
  refine br_of (fun h => ?_) (fun h => ?_)
  · have h := of_decide_eq_true h
    have : cp L n = L.take n := by
      have : n = 0 ∨ n = 1 := by omega
      rcases this with rfl | rfl
      · rfl
      · rw [cp_new (.inl rfl), List.take_one]
        match L, hn with
        | [a], _ => rfl
    obtain ⟨e1, e2⟩ := fin this
    rw [e1, e2]
    exact ⟨⟨trivial⟩, rfl, rfl⟩
  · have h := of_decide_eq_false h
    refine ⟨⟨1, ⟨Nat.le_refl _, by omega, ?_⟩, ⟨rfl, rfl, trivial⟩, rfl⟩, fun s hs => br_of (fun hc => ?_) (fun hc => ?_)⟩
    · rw [cp_new (.inl rfl)]
      match L, hn with
      | a :: r, _ => rfl
      | [], hn => simp at hn; omega
    · have hc := lt_of_dec hc
      obtain ⟨h1, h2, h3⟩ := hs.out
      have w : IntKind.wrap .i64 ((s : Int) - 1) = ((s - 1 : Nat) : Int) := (wrap_eq (by omega) (by omega)).trans (by omega)
      have z1 : 0 + (s : Int).toNat * 1 = s := by omega
      have z2 : 0 + ((s - 1 : Nat) : Int).toNat * 1 = s - 1 := by omega
      have g1 := get_at (z := L) (p := s) (by omega)
      have g2 := get_at (z := L) (p := s - 1) (by omega)
      have i1 : iAt (ints L) s = L.getD s 0 := by rw [iAt, g1]
      have i2 : iAt (ints L) (s - 1) = L.getD (s - 1) 0 := by rw [iAt, g2]
      simp only [w, z1, z2, i1, i2, g1, g2]
      refine ⟨⟨by omega, by omega⟩, ⟨by trivial⟩, ⟨by omega, by omega⟩, ⟨by trivial⟩, br_of (fun hq => ?_) (fun hq => ?_)⟩
      · have hq : L.getD s 0 = L.getD (s - 1) 0 := by simpa using hq
        have e1 : cp L (s + 1) = L.take s := by rw [cp_old (by omega) hq, h3]
        have e2 : cpN L (s + 1) = s := by rw [cpN, e1, List.length_take]; omega
        refine ⟨⟨by omega, by omega, by omega⟩, s, ⟨1, ⟨⟨h1, hc⟩, Nat.le_refl _, by omega, by omega⟩, ⟨by first | trivial | rfl, by rw [e2], by rw [Int.toNat_natCast, Int.toNat_natCast], by first | trivial | rfl, trivial⟩, ?_⟩, fun q hq => ?_⟩
        · rw [cpR, e2, e1, List.take_append_drop]
        · obtain ⟨_, q1, q2, q3⟩ := hq.out
          refine br_of (fun hd => ?_) (fun hd => ?_)
          · have hd := lt_of_dec hd
            have w2 : IntKind.wrap .i64 ((q : Int) - 1) = ((q - 1 : Nat) : Int) := (wrap_eq (by omega) (by omega)).trans (by omega)
            have y1 : s + (q : Int).toNat * 1 = s + q := by omega
            have y2 : s + ((q - 1 : Nat) : Int).toNat * 1 = s + q - 1 := by omega
            have y3 : 0 + ((cpN L (s + q) : Nat) : Int).toNat * 1 = 0 + cpN L (s + q) * 1 := by omega
            have hlen := cpR_len (L := L) (j := s + q) (by omega)
            have g1 := get_at (z := cpR L (s + q)) (p := s + q) (by omega)
            have g2 := get_at (z := cpR L (s + q)) (p := s + q - 1) (by omega)
            have i1 : iAt (ints (cpR L (s + q))) (s + q) = L.getD (s + q) 0 := by rw [iAt, g1]; exact cpR_at (by omega)
            have i2 : iAt (ints (cpR L (s + q))) (s + q - 1) = L.getD (s + q - 1) 0 := by rw [iAt, g2]; exact cpR_at (by omega)
            rw [cpR_at (by omega)] at g1 g2
            have hl2 : (ints (cpR L (s + q))).length = n := by rw [ints_len, hlen, hn]
            simp only [w2, y1, y2, y3, i1, i2, g1, g2, hl2]
            refine ⟨⟨by omega, by omega⟩, ⟨by trivial⟩, ⟨by omega, by omega⟩, ⟨by trivial⟩, br_of (fun he => ?_) (fun he => ?_)⟩
            · have he : L.getD (s + q) 0 ≠ L.getD (s + q - 1) 0 := by simpa using he
              have e3 := cpN_new (L := L) (j := s + q) (.inr he)
              refine ⟨⟨by omega, by omega⟩, ⟨by trivial⟩, ⟨by omega, by omega⟩, ⟨by omega⟩, q + 1, ⟨⟨h1, hc⟩, by omega, by omega, by rw [← Nat.add_assoc, e3]; omega⟩, ⟨by omega⟩, ⟨by first | trivial | rfl, by rw [← Nat.add_assoc, e3, up1 (n := 1001) (by omega) (by omega)], by first | trivial | rfl, by rw [up1 (n := 1001) (by omega) (by omega)], trivial⟩, ?_⟩
              rw [ints_put (by omega), cpR_set (by omega) (by omega) (.inr he), Nat.add_assoc]; rfl
            · have he : L.getD (s + q) 0 = L.getD (s + q - 1) 0 := by simpa using he
              have e3 := cp_old (L := L) (j := s + q) (by omega) he
              have e4 : cpN L (s + (q + 1)) = cpN L (s + q) := by rw [← Nat.add_assoc, cpN, e3]; rfl
              have e5 : cpR L (s + (q + 1)) = cpR L (s + q) := by rw [cpR, e4, ← Nat.add_assoc, e3]; rfl
              refine ⟨q + 1, ⟨⟨h1, hc⟩, by omega, by omega, by omega⟩, ⟨by omega⟩, ⟨by first | trivial | rfl, by rw [e4], by first | trivial | rfl, by rw [up1 (n := 1001) (by omega) (by omega)], trivial⟩, by rw [e5]⟩
          · have hd := ge_of_dec hd
            have hsq : s + q = n := by omega
            rw [hsq] at q3 ⊢
            have hl2 : (ints (cpR L n)).length = n := by rw [ints_len, cpR_len (by omega), hn]
            have y3 : 0 + ((cpN L n : Nat) : Int).toNat * 1 = 0 + cpN L n * 1 := by omega
            rw [y3, hl2, Int.toNat_natCast, Int.toNat_natCast, clear_eq hn]
            exact ⟨⟨by omega, by omega, by omega⟩, ⟨by omega, by omega⟩, ⟨by omega, by omega, by omega⟩, rfl, rfl⟩
      · have hq : L.getD s 0 ≠ L.getD (s - 1) 0 := by simpa using hq
        refine ⟨s + 1, ⟨by omega, by omega, ?_⟩, ⟨by omega⟩, ⟨by first | trivial | rfl, by rw [up1 (n := 1001) (by omega) (by omega)], trivial⟩, by first | trivial | rfl⟩
        rw [cp_new (.inr hq), h3, List.take_succ_eq_append_getElem (by omega), List.getD_eq_getElem?_getD, List.getElem?_eq_getElem (by omega)]; rfl
    · have hc := ge_of_dec hc
      obtain ⟨h1, h2, h3⟩ := hs.out
      have : s = n := by omega
      subst this
      obtain ⟨e1, e2⟩ := fin h3
      rw [e1, e2]
      exact ⟨⟨trivial⟩, rfl, rfl⟩
end
end Qq
end
section
/- Probes and echoes, checked and placed. -/
open Go Go.Vm Go.Proofs Sp
namespace Sp
open Qq
noncomputable section
def isL (e : List Value) (n a : Nat) : Prop := ∃ z, e = ints z ∧ z.length = n * a ∧ n ≤ 100
def eIs (e : List Value) (n q : Nat) : Prop := ∃ z, e = ints z ∧ z.length = n * 3 ∧ n ≤ 64 ∧ ∀ i, i < n → vE q (z.getD (i * 3) 0) (z.getD (i * 3 + 1) 0) (z.getD (i * 3 + 2) 0)
noncomputable def zeP (e : List Value) (n : Nat) : List Value := ints (mp (gP (deI e) []) n)
noncomputable def zeC (n : Nat) : List Value := ints (mp (gC0 [] []) n)
noncomputable def plC (e d : List Value) (n : Nat) : List Value := ints (mp (gL (deI e) (deI d)) n)
noncomputable def fiC (e : List Value) : Int := fi (deI e)
end
end Sp
namespace Qq
noncomputable section
theorem intsOf_ints : ∀ L : List Int, intsOf (ints L) = some L
  | [] => rfl
  | a :: L => by
    show intsOf (.int .i64 a :: ints L) = _
    rw [intsOf, intsOf_ints L]; rfl
def isL1 (e : List Value) (n : Nat) : Prop := ∃ L, e = ints L ∧ L.length = n ∧ n < 1000
noncomputable def orcFz : OrcV
  | [.slice (some ⟨0, 0, none⟩) n _], [some (.row e s m w true)] => some (.int .i64 (fiC e), [some (.row e s m w true)], isL1 e n)
  | _, _ => none
theorem okFz : OkV Try.prog 13 orcFz := by
  intro args H ret H' vc h hv
  unfold orcFz at h
  split at h
  · cases h
    obtain ⟨L, rfl, h1, h2⟩ := hv
    refine okFirst _ _ _ _ ?_
    unfold orcFirst
    simp only [intsOf_ints]
    rw [if_pos ⟨h1.symm, h2⟩, fiC, deI_ints]
  · cases h
noncomputable def orcMP : OrcV
  | [.slice (some ⟨0, 0, none⟩) n _, .func (.func 40) ⟨[]⟩ ⟨[]⟩], [some (.row e 1 true true true)] => some (.slice (some ⟨1, 0, none⟩) n 0, [some (.row e 1 true true true), some (.row (zeP e n) 1 true true true)], isL e n 1)
  | _, _ => none
theorem okMP : OkV Try.prog 39 orcMP := by
  intro args H ret H' vc h hv
  unfold orcMP at h
  split at h
  · cases h
    obtain ⟨z, rfl, h1, h2⟩ := hv
    rw [zeP, deI_ints]
    exact mP_ok (d := []) (q := 0) (b := 0) h1 h2
  · cases h
noncomputable def orcMC : OrcV
  | [.slice (some ⟨0, 0, none⟩) n _, .func (.func 28) ⟨[]⟩ ⟨[.pointer (some ⟨1, 0, none⟩)]⟩], [some (.row e 3 true true true), some (.row [.slice (some ⟨2, 0, none⟩) q b] 0 false true false), some (.row d 1 true true true)] =>
    some (.slice (some ⟨3, 0, none⟩) n 0, [some (.row e 3 true true true), some (.row [.slice (some ⟨2, 0, none⟩) q b] 0 false true false), some (.row d 1 true true true), some (.row (zeC n) 1 true true true)], eIs e n q ∧ vP q d)
  | _, _ => none
theorem okMC : OkV Try.prog 27 orcMC := by
  intro args H ret H' vc h hv
  unfold orcMC at h
  split at h
  · cases h
    obtain ⟨⟨z, rfl, h1, h2, h3⟩, ps, rfl, _⟩ := hv
    exact mC_ok (d := ps) h1 (by omega) h3
  · cases h
noncomputable def orcML : OrcV
  | [.slice (some ⟨0, 0, none⟩) n _, .func (.func 30) ⟨[]⟩ ⟨[.pointer (some ⟨1, 0, none⟩)]⟩], [some (.row e 3 true true true), some (.row [.slice (some ⟨2, 0, none⟩) q b] 0 false true false), some (.row d 1 true true true)] =>
    some (.slice (some ⟨3, 0, none⟩) n 0, [some (.row e 3 true true true), some (.row [.slice (some ⟨2, 0, none⟩) q b] 0 false true false), some (.row d 1 true true true), some (.row (plC e d n) 2 true true true)], eIs e n q ∧ vP q d)
  | _, _ => none
theorem okML : OkV Try.prog 29 orcML := by
  intro args H ret H' vc h hv
  unfold orcML at h
  split at h
  · cases h
    obtain ⟨⟨z, rfl, h1, h2, h3⟩, ps, rfl, h4⟩ := hv
    rw [plC, deI_ints, deI_ints]
    exact mL_ok (d := ps) h1 (by omega) fun i hi => ⟨h3 i hi, ps, rfl, h4⟩
  · cases h
noncomputable def hsCP : Hs Try.prog where
  au := auCalls [(13, hCa Try.prog 13 orcFz okFz), (39, hCa Try.prog 39 orcMP okMP)]
theorem cp_t (e : List Value) (n : Nat) (c : Nat) (K : Value → Heap → Prop) :
    (fnP Try.prog c1 hsCP (25 : FuncId) [Value.slice (some { block := (0 : Nat), off := (0 : Nat) }) n c] [dat e (1 : Nat)] K) =
    (Is (isL1 [Value.int IntKind.i64 (wh ((↑n : Int) == (0 : Int)) (12 : Int)), Value.int IntKind.i64 (wh (decide ((5 : Int) < (↑n : Int))) (5 : Int))] (2 : Nat)) ∧ br (fiC [Value.int IntKind.i64 (wh ((↑n : Int) == (0 : Int)) (12 : Int)), Value.int IntKind.i64 (wh (decide ((5 : Int) < (↑n : Int))) (5 : Int))] != (0 : Int)) (K (Value.int IntKind.i64 (fiC [Value.int IntKind.i64 (wh ((↑n : Int) == (0 : Int)) (12 : Int)), Value.int IntKind.i64 (wh (decide ((5 : Int) < (↑n : Int))) (5 : Int))])) (some (AObj.row e (1 : Nat) true true true) :: noH)) (Is (isL e n (1 : Nat)) ∧ Is (isL1 (zeP e n) n) ∧ K (Value.int IntKind.i64 (fiC (zeP e n))) (some (AObj.row e (1 : Nat) true true true) :: noH))) := by kernel_rfl
noncomputable def hsPl : Hs Try.prog where
  au := auCalls [(29, hCa Try.prog 29 orcML okML)]
theorem pl_t (e : List Value) (d : List Value) (n : Nat) (c : Nat) (q : Nat) (b : Nat) (K : Value → Heap → Prop) :
    (fnP Try.prog c0 hsPl (12 : FuncId) [Value.slice (some { block := (0 : Nat), off := (0 : Nat) }) q b, Value.slice (some { block := (1 : Nat), off := (0 : Nat) }) n c] [dat d (1 : Nat), dat e (3 : Nat)] K) =
    (Is (eIs e n q ∧ vP q d) ∧ K (Value.slice (some { block := (2 : Nat), off := (0 : Nat) }) n (0 : Nat)) (some (AObj.row d (1 : Nat) true true true) :: some (AObj.row e (3 : Nat) true true true) :: some (AObj.row (plC e d n) (2 : Nat) true true true) :: noH)) := by kernel_rfl
theorem isL1_two {a b : Int} : isL1 [.int .i64 a, .int .i64 b] 2 := ⟨[a, b], rfl, rfl, by decide⟩
theorem isL1_three {a b c : Int} : isL1 [.int .i64 a, .int .i64 b, .int .i64 c] 3 := ⟨[a, b, c], rfl, rfl, by decide⟩
theorem fi_all : ∀ {L : List Int}, (∀ a ∈ L, a = 0) → fi L = 0
  | [], _ => rfl
  | a :: L, h => by rw [fi, if_pos (h a (List.mem_cons_self ..))]; exact fi_all fun b hb => h b (List.mem_cons_of_mem _ hb)
theorem mp_all {g : Nat → List Int} {P : Int → Prop} : ∀ {n : Nat}, (∀ i, i < n → ∀ a ∈ g i, P a) → ∀ a ∈ mp g n, P a
  | 0, _, a, h => by cases h
  | n + 1, hg, a, h => by
    rw [mp_succ, List.mem_append] at h
    rcases h with h | h
    · exact mp_all (fun i hi => hg i (by omega)) a h
    · exact hg n (by omega) a h
theorem zeP_fi {ps : List Int} (h : ∀ x ∈ ps, -3 ≤ x ∧ x ≤ 3) : fiC (zeP (ints ps) ps.length) = 0 := by
  rw [fiC, zeP, deI_ints, deI_ints]
  refine fi_all (mp_all fun i hi a ha => ?_)
  rw [Sp.gP, List.mem_singleton] at ha
  have hx := h (ps.getD i 0) (by rw [List.getD_eq_getElem?_getD, List.getElem?_eq_getElem hi]; exact List.getElem_mem _)
  rw [ha, wi_in hx.1 hx.2]
theorem zeC_fi (n : Nat) : fiC (zeC n) = 0 := by
  rw [fiC, zeC, deI_ints]
  refine fi_all (mp_all fun i _ a ha => ?_)
  rw [gC0, List.mem_singleton] at ha; exact ha
theorem fi_two {n : Nat} (h1 : 1 ≤ n) (h2 : n ≤ 5) : fiC [.int .i64 (wh ((n : Int) == 0) 12), .int .i64 (wh (decide ((5 : Int) < (n : Int))) 5)] = 0 := by
  have e : ((n : Int) == 0) = false := by
    cases h : ((n : Int) == 0)
    · rfl
    · have := eq_of_beq h; omega
  rw [e, decide_eq_false (show ¬ (5 : Int) < n by omega)]; rfl
def pIs (d : List Value) (q : Nat) : Prop := vP q d ∧ 1 ≤ q ∧ q ≤ 5
noncomputable def orcCP : OrcV
  | [.slice (some ⟨0, 0, none⟩) n _], [some (.row e 1 true true true)] => some (.int .i64 0, [some (.row e 1 true true true)], pIs e n)
  | _, _ => none
theorem okCP : OkV Try.prog 25 orcCP := by
  intro args H ret H' vc h hv
  unfold orcCP at h
  split at h
  · cases h
    obtain ⟨⟨ps, rfl, rfl, hx⟩, h1, h2⟩ := hv
    refine fnP_res hm c1_ok (hs := hsCP) ?_
    show fnP Try.prog c1 hsCP 25 _ [dat _ 1] _
    rw [cp_t, fi_two h1 h2, zeP_fi hx]
    refine ⟨⟨isL1_two⟩, br_of (fun h => by cases h) (fun _ => ⟨⟨ps, rfl, by omega, by omega⟩, ⟨_, rfl, ?_, by omega⟩, rfl, rfl⟩)⟩
    rw [mp_len (w := 1) (fun _ => rfl), Nat.mul_one]
  · cases h
noncomputable def hsCe : Hs Try.prog where
  au := auCalls [(25, hCa Try.prog 25 orcCP okCP), (13, hCa Try.prog 13 orcFz okFz), (27, hCa Try.prog 27 orcMC okMC)]
theorem ce_t (e : List Value) (d : List Value) (n : Nat) (c : Nat) (q : Nat) (b : Nat) (K : Value → Heap → Prop) :
    (fnP Try.prog c1 hsCe (11 : FuncId) [Value.slice (some { block := (0 : Nat), off := (0 : Nat) }) q b, Value.slice (some { block := (1 : Nat), off := (0 : Nat) }) n c] [dat d (1 : Nat), dat e (3 : Nat)] K) =
    (Is (pIs d q) ∧ Is (isL1 [Value.int IntKind.i64 (0 : Int), Value.int IntKind.i64 (wh (decide ((64 : Int) < (↑n : Int))) (5 : Int))] (2 : Nat)) ∧ br (fiC [Value.int IntKind.i64 (0 : Int), Value.int IntKind.i64 (wh (decide ((64 : Int) < (↑n : Int))) (5 : Int))] != (0 : Int)) (K (Value.int IntKind.i64 (fiC [Value.int IntKind.i64 (0 : Int), Value.int IntKind.i64 (wh (decide ((64 : Int) < (↑n : Int))) (5 : Int))])) (some (AObj.row d (1 : Nat) true true true) :: some (AObj.row e (3 : Nat) true true true) :: noH)) (Is (eIs e n q ∧ vP q d) ∧ Is (isL1 (zeC n) n) ∧ K (Value.int IntKind.i64 (fiC (zeC n))) (some (AObj.row d (1 : Nat) true true true) :: some (AObj.row e (3 : Nat) true true true) :: noH))) := by kernel_rfl
noncomputable def orcCe : OrcV
  | [.slice (some ⟨0, 0, none⟩) q _, .slice (some ⟨1, 0, none⟩) n _], [some (.row d 1 true true true), some (.row e 3 true true true)] => some (.int .i64 0, [some (.row d 1 true true true), some (.row e 3 true true true)], eIs e n q ∧ pIs d q)
  | _, _ => none
theorem fi_n {n : Nat} (h2 : n ≤ 64) : fiC [.int .i64 0, .int .i64 (wh (decide ((64 : Int) < (n : Int))) 5)] = 0 := by
  rw [decide_eq_false (show ¬ (64 : Int) < n by omega)]; rfl
theorem okCe : OkV Try.prog 11 orcCe := by
  intro args H ret H' vc h hv
  unfold orcCe at h
  split at h
  · cases h
    obtain ⟨he, hp⟩ := hv
    have hn : _ ≤ 64 := he.choose_spec.2.2.1
    refine fnP_res hm c1_ok (hs := hsCe) ?_
    show fnP Try.prog c1 hsCe 11 _ [dat _ 1, dat _ 3] _
    rw [ce_t, fi_n hn, zeC_fi]
    refine ⟨⟨hp⟩, ⟨isL1_two⟩, br_of (fun h => by cases h) (fun _ => ⟨⟨he, hp.1⟩, ⟨_, rfl, ?_, by omega⟩, rfl, rfl⟩)⟩
    rw [mp_len (w := 1) (fun _ => rfl), Nat.mul_one]
  · cases h
noncomputable def orcPl : OrcV
  | [.slice (some ⟨0, 0, none⟩) q _, .slice (some ⟨1, 0, none⟩) n _], [some (.row d 1 true true true), some (.row e 3 true true true)] => some (.slice (some ⟨2, 0, none⟩) n 0, [some (.row d 1 true true true), some (.row e 3 true true true), some (.row (plC e d n) 2 true true true)], eIs e n q ∧ vP q d)
  | _, _ => none
theorem okPl : OkV Try.prog 12 orcPl := by
  intro args H ret H' vc h hv
  unfold orcPl at h
  split at h
  · cases h
    refine fnP_res hm c0_ok (hs := hsPl) ?_
    show fnP Try.prog c0 hsPl 12 _ [dat _ 1, dat _ 3] _
    rw [pl_t]
    exact ⟨⟨hv⟩, rfl, rfl⟩
  · cases h
noncomputable def hsPd : Hs Try.prog where
  au := auCalls [(11, hCa Try.prog 11 orcCe okCe), (12, hCa Try.prog 12 orcPl okPl)]
theorem pd_t (e : List Value) (d : List Value) (n : Nat) (c : Nat) (q : Nat) (b : Nat) (K : Value → Heap → Prop) :
    (fnP Try.prog c0 hsPd (5 : FuncId) [Value.slice (some { block := (0 : Nat), off := (0 : Nat) }) q b, Value.slice (some { block := (1 : Nat), off := (0 : Nat) }) n c] [dat d (1 : Nat), dat e (3 : Nat)] K) =
    (Is (eIs e n q ∧ pIs d q) ∧ Is (eIs e n q ∧ vP q d) ∧ K (Value.tuple #[Value.slice (some { block := (2 : Nat), off := (0 : Nat) }) n (0 : Nat), Value.int IntKind.i64 (0 : Int)]) (some (AObj.row d (1 : Nat) true true true) :: some (AObj.row e (3 : Nat) true true true) :: some (AObj.row (plC e d n) (2 : Nat) true true true) :: noH)) := by kernel_rfl
noncomputable def orcPd : OrcV
  | [.slice (some ⟨0, 0, none⟩) q _, .slice (some ⟨1, 0, none⟩) n _], [some (.row d 1 true true true), some (.row e 3 true true true)] => some (.tuple #[.slice (some ⟨2, 0, none⟩) n 0, .int .i64 0], [some (.row d 1 true true true), some (.row e 3 true true true), some (.row (plC e d n) 2 true true true)], eIs e n q ∧ pIs d q)
  | _, _ => none
theorem okPd : OkV Try.prog 5 orcPd := by
  intro args H ret H' vc h hv
  unfold orcPd at h
  split at h
  · cases h
    refine fnP_res hm c0_ok (hs := hsPd) ?_
    show fnP Try.prog c0 hsPd 5 _ [dat _ 1, dat _ 3] _
    rw [pd_t]
    exact ⟨⟨hv⟩, ⟨hv.1, hv.2.1⟩, rfl, rfl⟩
  · cases h
end
end Qq
end
