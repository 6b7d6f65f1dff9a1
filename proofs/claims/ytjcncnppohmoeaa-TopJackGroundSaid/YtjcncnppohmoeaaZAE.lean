/- Parts of the proof: KU, KW, KX, KY, KZ, LA, LB, KB. -/
import Derived.Test.YtjcncnppohmoeaaZAD
import Derived.Test.YtjcncnppohmoeaaZAC
import Derived.Sort.AssemblyPlain
section
/- Profiles, moved. -/
open Go Go.Vm Go.Proofs Sp
namespace Sp
noncomputable section
/-- The first points moved. -/
noncomputable def mvS (a b : Int) : Nat → List Int → List Int
  | s + 1, x :: y :: r => (x + a) :: (y + b) :: mvS a b s r
  | _, l => l
noncomputable def cmE (a b : Int) : Int := fi [wi a (-100) 100, wi b (-100) 100]
noncomputable def sqS : List Int → Int
  | [] => 0
  | x :: r => x * x + sqS r
/-- Is a move permitted; and its cost. -/
noncomputable def ctB (ys : List Int) (k : Nat) (cs : List Int) (l : Nat) (x y : Int) : Bool := pfE (mvS x y k ys) k == 0 && col1 (mvS x y k ys) k cs l == 0
noncomputable def ctN (zs : List Int) (n : Nat) (ys : List Int) (k : Nat) (cs : List Int) (l : Nat) (x y : Int) : Int := if ctB ys k cs l x y then sqS (wrL zs n (mvS x y k ys) k cs) else 0
noncomputable def zeC (l : Nat) : List Value := ints (List.replicate (l * 2) 0)
end
end Sp
namespace Qq
noncomputable section
noncomputable def bx2 (a b : Int) : Option AObj := some (.row [.int .i64 a, .int .i64 b] 0 false true true)
noncomputable def lpMv (zs : List Int) (a b : Int) (n : Nat) : Lp where
  σ := Nat
  E s := slots 40 [(3, .pointer (some ⟨1, 0, none⟩)), (5, .slice (some ⟨2, 0, none⟩) n 0), (14, .int .i64 (Int.ofNat n)), (15, .int .i64 (Int.ofNat s))]
  Hp s := [rZ zs true true, bx2 a b, rZ (mvS a b s zs) true true]
  I s := s ≤ n
  m s := n - s
noncomputable def hsMv (zs : List Int) (a b : Int) (n : Nat) : Hs Try.prog where
  op y := if y = 102 then some (hMk Try.prog zeC) else if y = 202 then some (hCp Try.prog) else if [602, 608, 702, 708].contains y then some (hIa Try.prog) else if [604, 704].contains y then some (hLd Try.prog (zI zs)) else if [610, 710].contains y then some (hSp Try.prog) else none
  lp _ := some (lpMv zs a b n)
  cl _ := keep 40 [3, 5, 14, 15]
  sm := true
  au := au0 Try.prog
theorem mv_t (zs : List Int) (a : Int) (b : Int) (n : Nat) (c : Nat) (K : Value → Heap → Prop) :
    (fnP Try.prog c0 (hsMv zs a b n) (35 : FuncId) [Value.slice (some { block := (0 : Nat), off := (0 : Nat) }) n c, Value.agg #[Value.int IntKind.i64 a, Value.int IntKind.i64 b]] [rZ zs true true] K) =
    (Is ((↑n : Int) = (↑n : Int) ∧ (0 : Int) ≤ (↑n : Int) ∧ (↑n : Int) ≤ (9223372036854775807 : Int) ∧ (16 : Int) * (↑n : Int) ≤ (281474976710656 : Int) ∧ zeroCells (Value.agg #[Value.int IntKind.i64 (0 : Int), Value.int IntKind.i64 (0 : Int)]) (Int.toNat (↑n : Int) * (2 : Nat)) (zeC (Int.toNat (↑n : Int)))) ∧ Is (n = Int.toNat (↑n : Int) ∧ List.length (zeC (Int.toNat (↑n : Int))) = Int.toNat (↑n : Int) * (2 : Nat) ∧ List.length (ints zs) = Int.toNat (↑n : Int) * (2 : Nat) ∧ atoms (ints zs)) ∧ (∃ (s : Nat), Is (s ≤ n) ∧ (Value.pointer (some { block := (1 : Nat), off := (0 : Nat) }) = Value.pointer (some { block := (1 : Nat), off := (0 : Nat) }) ∧ Value.slice (some { block := (2 : Nat), off := (0 : Nat) }) (Int.toNat (↑n : Int)) (0 : Nat) = Value.slice (some { block := (2 : Nat), off := (0 : Nat) }) n (0 : Nat) ∧ Value.int IntKind.i64 (↑(Int.toNat (↑n : Int)) : Int) = Value.int IntKind.i64 (↑n : Int) ∧ Value.int IntKind.i64 (0 : Int) = Value.int IntKind.i64 (↑s : Int) ∧ True) ∧ some (AObj.row (ints zs) (2 : Nat) true true true) :: some (AObj.row [Value.int IntKind.i64 a, Value.int IntKind.i64 b] (0 : Nat) false true (List.all [Value.int IntKind.i64 a, Value.int IntKind.i64 b] atom)) :: some (AObj.row (ints zs) (2 : Nat) true true true) :: noH = some (AObj.row (ints zs) (2 : Nat) true true true) :: some (AObj.row [Value.int IntKind.i64 a, Value.int IntKind.i64 b] (0 : Nat) false true true) :: some (AObj.row (ints (mvS a b s zs)) (2 : Nat) true true true) :: noH) ∧ ∀ (s : Nat), Is (s ≤ n) → br (decide ((↑s : Int) < (↑n : Int))) (Is ((0 : Int) ≤ (↑s : Int) ∧ (↑s : Int) < (↑n : Int)) ∧ Is ((ints (mvS a b s zs))[(0 : Nat) + Int.toNat (↑s : Int) * (2 : Nat) + (0 : Nat)]? = some (Value.int IntKind.i64 (List.getD zs ((0 : Nat) + Int.toNat (↑s : Int) * (2 : Nat) + (0 : Nat)) (0 : Int)))) ∧ Is ((0 : Int) ≤ (↑s : Int) ∧ (↑s : Int) < (↑n : Int)) ∧ Is ((0 : Nat) + Int.toNat (↑s : Int) * (2 : Nat) + (0 : Nat) + List.length [Value.int IntKind.i64 (IntKind.wrap IntKind.i64 (List.getD zs ((0 : Nat) + Int.toNat (↑s : Int) * (2 : Nat) + (0 : Nat)) (0 : Int) + a))] ≤ List.length (ints (mvS a b s zs))) ∧ Is ((0 : Int) ≤ (↑s : Int) ∧ (↑s : Int) < (↑n : Int)) ∧ Is ((putL (ints (mvS a b s zs)) ((0 : Nat) + Int.toNat (↑s : Int) * (2 : Nat) + (0 : Nat)) [Value.int IntKind.i64 (IntKind.wrap IntKind.i64 (List.getD zs ((0 : Nat) + Int.toNat (↑s : Int) * (2 : Nat) + (0 : Nat)) (0 : Int) + a))])[(0 : Nat) + Int.toNat (↑s : Int) * (2 : Nat) + (1 : Nat)]? = some (Value.int IntKind.i64 (List.getD zs ((0 : Nat) + Int.toNat (↑s : Int) * (2 : Nat) + (1 : Nat)) (0 : Int)))) ∧ Is ((0 : Int) ≤ (↑s : Int) ∧ (↑s : Int) < (↑n : Int)) ∧ Is ((0 : Nat) + Int.toNat (↑s : Int) * (2 : Nat) + (1 : Nat) + List.length [Value.int IntKind.i64 (IntKind.wrap IntKind.i64 (List.getD zs ((0 : Nat) + Int.toNat (↑s : Int) * (2 : Nat) + (1 : Nat)) (0 : Int) + b))] ≤ List.length (putL (ints (mvS a b s zs)) ((0 : Nat) + Int.toNat (↑s : Int) * (2 : Nat) + (0 : Nat)) [Value.int IntKind.i64 (IntKind.wrap IntKind.i64 (List.getD zs ((0 : Nat) + Int.toNat (↑s : Int) * (2 : Nat) + (0 : Nat)) (0 : Int) + a))])) ∧ ∃ (s' : Nat), Is (s' ≤ n) ∧ Is (n - s' < n - s) ∧ (Value.pointer (some { block := (1 : Nat), off := (0 : Nat) }) = Value.pointer (some { block := (1 : Nat), off := (0 : Nat) }) ∧ Value.slice (some { block := (2 : Nat), off := (0 : Nat) }) n (0 : Nat) = Value.slice (some { block := (2 : Nat), off := (0 : Nat) }) n (0 : Nat) ∧ Value.int IntKind.i64 (↑n : Int) = Value.int IntKind.i64 (↑n : Int) ∧ Value.int IntKind.i64 (IntKind.wrap IntKind.i64 ((↑s : Int) + (1 : Int))) = Value.int IntKind.i64 (↑s' : Int) ∧ True) ∧ some (AObj.row (ints zs) (2 : Nat) true true true) :: some (AObj.row [Value.int IntKind.i64 a, Value.int IntKind.i64 b] (0 : Nat) false true true) :: some (AObj.row (putL (putL (ints (mvS a b s zs)) ((0 : Nat) + Int.toNat (↑s : Int) * (2 : Nat) + (0 : Nat)) [Value.int IntKind.i64 (IntKind.wrap IntKind.i64 (List.getD zs ((0 : Nat) + Int.toNat (↑s : Int) * (2 : Nat) + (0 : Nat)) (0 : Int) + a))]) ((0 : Nat) + Int.toNat (↑s : Int) * (2 : Nat) + (1 : Nat)) [Value.int IntKind.i64 (IntKind.wrap IntKind.i64 (List.getD zs ((0 : Nat) + Int.toNat (↑s : Int) * (2 : Nat) + (1 : Nat)) (0 : Int) + b))]) (2 : Nat) true true (true && List.all [Value.int IntKind.i64 (IntKind.wrap IntKind.i64 (List.getD zs ((0 : Nat) + Int.toNat (↑s : Int) * (2 : Nat) + (0 : Nat)) (0 : Int) + a))] atom && List.all [Value.int IntKind.i64 (IntKind.wrap IntKind.i64 (List.getD zs ((0 : Nat) + Int.toNat (↑s : Int) * (2 : Nat) + (1 : Nat)) (0 : Int) + b))] atom)) :: noH = some (AObj.row (ints zs) (2 : Nat) true true true) :: some (AObj.row [Value.int IntKind.i64 a, Value.int IntKind.i64 b] (0 : Nat) false true true) :: some (AObj.row (ints (mvS a b s' zs)) (2 : Nat) true true true) :: noH) (K (Value.slice (some { block := (1 : Nat), off := (0 : Nat) }) n (0 : Nat)) (some (AObj.row (ints zs) (2 : Nat) true true true) :: some (AObj.row (ints (mvS a b s zs)) (2 : Nat) true true true) :: noH))) := by kernel_rfl
theorem mvS_len {a b : Int} : ∀ (s : Nat) (zs : List Int), (mvS a b s zs).length = zs.length
  | 0, zs => by rw [mvS]; intro _ _ _ _ h; cases h
  | s + 1, [] => by rw [mvS]; intro _ _ _ _ _ h; cases h
  | s + 1, [x] => by rw [mvS]; intro _ _ _ _ _ h; cases h
  | s + 1, x :: y :: r => by rw [mvS, List.length_cons, List.length_cons, mvS_len s r]; rfl
theorem mvS_zero {a b : Int} {zs : List Int} : mvS a b 0 zs = zs := by rw [mvS]; intro _ _ _ _ h; cases h
theorem getD_cons2 {x y : Int} {r : List Int} {i : Nat} : (x :: y :: r).getD (i + 2) 0 = r.getD i 0 := rfl
theorem mvS_rest {a b : Int} : ∀ {s : Nat} {zs : List Int} {i : Nat}, s * 2 ≤ i → (mvS a b s zs).getD i 0 = zs.getD i 0
  | 0, zs, i, _ => by rw [mvS_zero]
  | s + 1, [], i, _ => by rw [mvS]; intro _ _ _ _ _ h; cases h
  | s + 1, [x], i, _ => by rw [mvS]; intro _ _ _ _ _ h; cases h
  | s + 1, x :: y :: r, i, h => by
    obtain ⟨j, rfl⟩ : ∃ j, i = j + 2 := ⟨i - 2, by omega⟩
    rw [mvS, getD_cons2, getD_cons2]
    exact mvS_rest (by omega)
theorem mvS_step {a b : Int} : ∀ {s : Nat} {zs : List Int}, s * 2 + 2 ≤ zs.length → mvS a b (s + 1) zs = ((mvS a b s zs).set (s * 2) (zs.getD (s * 2) 0 + a)).set (s * 2 + 1) (zs.getD (s * 2 + 1) 0 + b)
  | 0, [], h => by simp at h
  | 0, [x], h => by simp at h
  | 0, x :: y :: r, _ => by rw [mvS, mvS_zero, mvS_zero]; rfl
  | s + 1, [], h => by simp at h
  | s + 1, [x], h => by simp at h
  | s + 1, x :: y :: r, h => by
    have h2 : s * 2 + 2 ≤ r.length := by simp only [List.length_cons] at h; omega
    have ih := mvS_step (a := a) (b := b) h2
    have e : mvS a b (s + 1) (x :: y :: r) = (x + a) :: (y + b) :: mvS a b s r := by rw [mvS]
    rw [mvS, ih, e, show (s + 1) * 2 = s * 2 + 2 by omega, show s * 2 + 2 + 1 = s * 2 + 1 + 2 by omega, getD_cons2, getD_cons2]
    rfl
theorem ints_put {M : List Int} {i : Nat} {v : Int} (h : i < M.length) : putL (ints M) i [.int .i64 v] = ints (M.set i v) := by
  have e : M.set i v = M.take i ++ v :: M.drop (i + 1) := by rw [List.set_eq_take_append_cons_drop, if_pos h]
  rw [putL, splice, ints_take, List.length_singleton, ints_drop, e, ← ints_app]
  rfl
theorem set_next {M : List Int} {i : Nat} {v : Int} : (M.set i v).getD (i + 1) 0 = M.getD (i + 1) 0 := by
  rw [List.getD_eq_getElem?_getD, List.getD_eq_getElem?_getD, List.getElem?_set_ne (by omega)]
theorem ze_at (i : Nat) : (#[Value.int .i64 0, Value.int .i64 0] : Array Value)[i % 2]! = Value.int .i64 0 := by
  rcases (by omega : i % 2 = 0 ∨ i % 2 = 1) with h | h <;> rw [h] <;> rfl
theorem ze_ok (n : Nat) : zeroCells (.agg #[.int .i64 0, .int .i64 0]) (n * 2) (zeC n) := by
  have hc : (Value.agg #[Value.int .i64 0, Value.int .i64 0]).cells = #[Value.int .i64 0, Value.int .i64 0] := by rfl
  rw [zeroCells, zeC, hc, zrow, Array.toList_map, Array.toList_range, ints, List.map_replicate]
  refine List.eq_replicate_iff.2 ⟨by rw [List.length_map, List.length_range], fun v hv => ?_⟩
  obtain ⟨i, _, rfl⟩ := List.mem_map.1 hv
  exact ze_at i
theorem zeC_len (n : Nat) : (zeC n).length = n * 2 := by rw [zeC, ints_len, List.length_replicate]
theorem at_ints (zs : List Int) : atoms (ints zs) := fun v hv => by
  rw [ints] at hv
  obtain ⟨x, _, rfl⟩ := List.mem_map.1 hv
  rfl
set_option maxRecDepth 100000 in
theorem mv_ok {zs : List Int} {a b : Int} {n c : Nat} (hp : PfOk zs n) (hm : mvIn a b) :
    SmallRes Try.prog 35 [.slice (some ⟨0, 0, none⟩) n c, .agg #[.int .i64 a, .int .i64 b]] [rZ zs true true] (.slice (some ⟨1, 0, none⟩) n 0) [rZ zs true true, rZ (mvS a b n zs) true true] := by
  have hl := hp.len
  have h24 := hp.hi
  obtain ⟨⟨a1, a2⟩, b1, b2⟩ := hm
  refine fnP_res Qq.hm c0_ok (hs := hsMv zs a b n) ?_
  rw [mv_t]
  simp only [Int.toNat_natCast, Nat.zero_add, Nat.add_zero]
  refine ⟨⟨by first | trivial | rfl, by omega, by omega, by omega, ze_ok n⟩, ⟨by first | trivial | rfl, zeC_len n, by rw [ints_len, hl], at_ints zs⟩, ⟨(0 : Nat), ⟨by omega⟩, ⟨by first | trivial | rfl, by first | trivial | rfl, by first | trivial | rfl, by first | trivial | rfl, trivial⟩, by rw [mvS_zero]; first | trivial | rfl⟩, fun s hs => br_of (fun h => ?_) (fun h => ?_)⟩
  · have h := lt_of_dec h
    have hM : (mvS a b s zs).length = n * 2 := by rw [mvS_len, hl]
    have i1 : s * 2 < (mvS a b s zs).length := by omega
    have i2 : s * 2 + 1 < ((mvS a b s zs).set (s * 2) (zs.getD (s * 2) 0 + a)).length := by rw [List.length_set]; omega
    have x1 := hp.x s h
    have y1 := hp.y s h
    have g1 : (mvS a b s zs).getD (s * 2) 0 = zs.getD (s * 2) 0 := mvS_rest (Nat.le_refl _)
    have g2 : ((mvS a b s zs).set (s * 2) (zs.getD (s * 2) 0 + a)).getD (s * 2 + 1) 0 = zs.getD (s * 2 + 1) 0 := by rw [set_next, mvS_rest (by omega)]
    have k1 := zint_at i1
    have k2 := zint_at i2
    rw [g1] at k1
    rw [g2] at k2
    rw [wrap_eq (x := zs.getD (s * 2) 0 + a) (by omega) (by omega), wrap_eq (x := zs.getD (s * 2 + 1) 0 + b) (by omega) (by omega), ints_put i1, up1 h (by omega)]
    refine ⟨⟨by omega, by omega⟩, ⟨k1⟩, ⟨by omega, by omega⟩, ⟨by rw [ints_len, List.length_singleton]; omega⟩, ⟨by omega, by omega⟩, ⟨k2⟩, ⟨by omega, by omega⟩, ⟨by rw [ints_len, List.length_singleton]; omega⟩, s + 1, ⟨h⟩, ⟨by omega⟩,
      ⟨by first | trivial | rfl, by first | trivial | rfl, by first | trivial | rfl, by first | trivial | rfl, trivial⟩, ?_⟩
    rw [ints_put i2, ← mvS_step (by omega)]; rfl
  · have h := ge_of_dec h
    have : s = n := by have := hs.out; omega
    subst this
    exact ⟨by first | trivial | rfl, by first | trivial | rfl⟩
noncomputable def orcMv : OrcV
  | [.slice (some ⟨0, 0, none⟩) n _, .agg ⟨[.int .i64 a, .int .i64 b]⟩], [some (.row e 2 true true true)] =>
    some (.slice (some ⟨1, 0, none⟩) n 0, [some (.row e 2 true true true), some (.row (ints (mvS a b n (deI e))) 2 true true true)], okZ e n ∧ mvIn a b)
  | _, _ => none
theorem okMv : OkV Try.prog 35 orcMv := by
  intro args H ret H' vc h hv
  unfold orcMv at h
  split at h
  · cases h
    obtain ⟨⟨e1, h1⟩, h2⟩ := hv
    rw [e1]
    simp only [deI_ints]
    exact mv_ok h1 h2
  · cases h
noncomputable def hsCmv : Hs Try.prog where
  au := au0 Try.prog
theorem cmv_t (a : Int) (b : Int) (K : Value → Heap → Prop) :
    (fnP Try.prog c2 hsCmv (34 : FuncId) [Value.agg #[Value.int IntKind.i64 a, Value.int IntKind.i64 b]] [] K) =
    (Is True ∧ br (a == (0 : Int) && (b == (0 : Int) && true)) (K (Value.int IntKind.i64 (0 : Int)) noH) (K (Value.int IntKind.i64 (fi [wi a (-100 : Int) (100 : Int), wi b (-100 : Int) (100 : Int)])) noH)) := by kernel_rfl
noncomputable def orcCmv : OrcV
  | [.agg ⟨[.int .i64 a, .int .i64 b]⟩], [] => some (.int .i64 (cmE a b), [], True)
  | _, _ => none
noncomputable def hsCt0 : Hs Try.prog where
  au := auCalls [(24, hCa Try.prog 24 orcBo okBo), (25, hCa Try.prog 25 orcCol okCol)]
theorem ck_t (e : List Value) (g : List Value) (cs : List Value) (n : Nat) (c : Nat) (k : Nat) (d : Nat) (l : Nat) (a : Nat) (K : Value → Heap → Prop) :
    (fnP Try.prog c0 hsCt0 (28 : FuncId) [Value.slice (some { block := (0 : Nat), off := (0 : Nat) }) n c, Value.slice (some { block := (1 : Nat), off := (0 : Nat) }) k d, Value.slice (some { block := (2 : Nat), off := (0 : Nat) }) l a] [r2c e, r2c g, r1c cs] K) =
    (Is (isZ e n ∧ isZ g k) ∧ br (fi [pfE (deI e) n, pfE (deI g) k] != (0 : Int)) (K (Value.int IntKind.i64 (fi [pfE (deI e) n, pfE (deI g) k])) (some (AObj.row e (2 : Nat) true true true) :: some (AObj.row g (2 : Nat) true true true) :: some (AObj.row cs (1 : Nat) true true true) :: noH)) (Is (isC cs l ∧ isZ e n ∧ (0 : Nat) < n) ∧ K (Value.int IntKind.i64 (col1 (deI e) n (deI cs) l)) (some (AObj.row e (2 : Nat) true true true) :: some (AObj.row g (2 : Nat) true true true) :: some (AObj.row cs (1 : Nat) true true true) :: noH))) := by kernel_rfl
noncomputable def lpCt (zs ys cs : List Int) (n c k d l a : Nat) (x y : Int) : Lp where
  σ := Nat
  E s := slots 43 [(11, .int .i64 (sqS ((wrL zs n (mvS x y k ys) k cs).take s))), (30, .slice (some ⟨3, 0, none⟩) l 0), (31, .int .i64 (Int.ofNat l)), (32, .int .i64 (Int.ofNat s))]
  Hp _ := [rZ ys true true, rZ zs true true, rC cs, rC (wrL zs n (mvS x y k ys) k cs)]
  I s := s ≤ l
  m s := l - s
noncomputable def hsCt (zs ys cs : List Int) (n c k d l a : Nat) (x y : Int) : Hs Try.prog where
  op q := if q = 700 then some (hIa Try.prog) else if q = 701 then some (hLd Try.prog (zI (wrL zs n (mvS x y k ys) k cs))) else none
  lp _ := some (lpCt zs ys cs n c k d l a x y)
  cl _ := keep 43 [11, 30, 31, 32]
  sm := true
  au := auCalls [(33, hCa Try.prog 33 orcPf okPf), (35, hCa Try.prog 35 orcMv okMv), (25, hCa Try.prog 25 orcCol okCol), (26, hCa Try.prog 26 orcWe okWe)]
theorem ct_t (zs : List Int) (ys : List Int) (cs : List Int) (n : Nat) (c : Nat) (k : Nat) (d : Nat) (l : Nat) (a : Nat) (x : Int) (y : Int) (K : Value → Heap → Prop) :
    (fnP Try.prog c0 (hsCt zs ys cs n c k d l a x y) (30 : FuncId) [Value.slice (some { block := (0 : Nat), off := (0 : Nat) }) k d, Value.slice (some { block := (1 : Nat), off := (0 : Nat) }) n c, Value.slice (some { block := (2 : Nat), off := (0 : Nat) }) l a, Value.agg #[Value.int IntKind.i64 x, Value.int IntKind.i64 y]] [rZ ys true true, rZ zs true true, rC cs] K) =
    (Is (okZ (ints ys) k ∧ mvIn x y) ∧ Is (isZ (ints (mvS x y k (deI (ints ys)))) k) ∧ br (pfE (deI (ints (mvS x y k (deI (ints ys))))) k != (0 : Int)) (K (Value.tuple #[Value.int IntKind.i64 (0 : Int), Value.bool false]) (some (AObj.row (ints ys) (2 : Nat) true true true) :: some (AObj.row (ints zs) (2 : Nat) true true true) :: some (AObj.row (ints cs) (1 : Nat) true true true) :: noH)) (Is (isC (ints cs) l ∧ isZ (ints (mvS x y k (deI (ints ys)))) k ∧ (0 : Nat) < k) ∧ br (col1 (deI (ints (mvS x y k (deI (ints ys))))) k (deI (ints cs)) l != (0 : Int)) (K (Value.tuple #[Value.int IntKind.i64 (0 : Int), Value.bool false]) (some (AObj.row (ints ys) (2 : Nat) true true true) :: some (AObj.row (ints zs) (2 : Nat) true true true) :: some (AObj.row (ints cs) (1 : Nat) true true true) :: noH)) (Is (isC (ints cs) l ∧ okZ (ints zs) n ∧ okZ (ints (mvS x y k (deI (ints ys)))) k) ∧ (∃ (s : Nat), Is (s ≤ l) ∧ (Value.int IntKind.i64 (0 : Int) = Value.int IntKind.i64 (sqS (List.take s (wrL zs n (mvS x y k ys) k cs))) ∧ Value.slice (some { block := (3 : Nat), off := (0 : Nat) }) l (0 : Nat) = Value.slice (some { block := (3 : Nat), off := (0 : Nat) }) l (0 : Nat) ∧ Value.int IntKind.i64 (↑l : Int) = Value.int IntKind.i64 (↑l : Int) ∧ Value.int IntKind.i64 (0 : Int) = Value.int IntKind.i64 (↑s : Int) ∧ True) ∧ some (AObj.row (ints ys) (2 : Nat) true true true) :: some (AObj.row (ints zs) (2 : Nat) true true true) :: some (AObj.row (ints cs) (1 : Nat) true true true) :: some (AObj.row (ints (wrL (deI (ints zs)) n (deI (ints (mvS x y k (deI (ints ys))))) k (deI (ints cs)))) (1 : Nat) true true true) :: noH = some (AObj.row (ints ys) (2 : Nat) true true true) :: some (AObj.row (ints zs) (2 : Nat) true true true) :: some (AObj.row (ints cs) (1 : Nat) true true true) :: some (AObj.row (ints (wrL zs n (mvS x y k ys) k cs)) (1 : Nat) true true true) :: noH) ∧ ∀ (s : Nat), Is (s ≤ l) → br (decide ((↑s : Int) < (↑l : Int))) (Is ((0 : Int) ≤ (↑s : Int) ∧ (↑s : Int) < (↑l : Int)) ∧ Is ((ints (wrL zs n (mvS x y k ys) k cs))[(0 : Nat) + Int.toNat (↑s : Int) * (1 : Nat)]? = some (Value.int IntKind.i64 (List.getD (wrL zs n (mvS x y k ys) k cs) ((0 : Nat) + Int.toNat (↑s : Int) * (1 : Nat)) (0 : Int)))) ∧ ∃ (s' : Nat), Is (s' ≤ l) ∧ Is (l - s' < l - s) ∧ (Value.int IntKind.i64 (IntKind.wrap IntKind.i64 (sqS (List.take s (wrL zs n (mvS x y k ys) k cs)) + IntKind.wrap IntKind.i64 (List.getD (wrL zs n (mvS x y k ys) k cs) ((0 : Nat) + Int.toNat (↑s : Int) * (1 : Nat)) (0 : Int) * List.getD (wrL zs n (mvS x y k ys) k cs) ((0 : Nat) + Int.toNat (↑s : Int) * (1 : Nat)) (0 : Int)))) = Value.int IntKind.i64 (sqS (List.take s' (wrL zs n (mvS x y k ys) k cs))) ∧ Value.slice (some { block := (3 : Nat), off := (0 : Nat) }) l (0 : Nat) = Value.slice (some { block := (3 : Nat), off := (0 : Nat) }) l (0 : Nat) ∧ Value.int IntKind.i64 (↑l : Int) = Value.int IntKind.i64 (↑l : Int) ∧ Value.int IntKind.i64 (IntKind.wrap IntKind.i64 ((↑s : Int) + (1 : Int))) = Value.int IntKind.i64 (↑s' : Int) ∧ True) ∧ some (AObj.row (ints ys) (2 : Nat) true true true) :: some (AObj.row (ints zs) (2 : Nat) true true true) :: some (AObj.row (ints cs) (1 : Nat) true true true) :: some (AObj.row (ints (wrL zs n (mvS x y k ys) k cs)) (1 : Nat) true true true) :: noH = some (AObj.row (ints ys) (2 : Nat) true true true) :: some (AObj.row (ints zs) (2 : Nat) true true true) :: some (AObj.row (ints cs) (1 : Nat) true true true) :: some (AObj.row (ints (wrL zs n (mvS x y k ys) k cs)) (1 : Nat) true true true) :: noH) (K (Value.tuple #[Value.int IntKind.i64 (sqS (List.take s (wrL zs n (mvS x y k ys) k cs))), Value.bool true]) (some (AObj.row (ints ys) (2 : Nat) true true true) :: some (AObj.row (ints zs) (2 : Nat) true true true) :: some (AObj.row (ints cs) (1 : Nat) true true true) :: noH))))) := by kernel_rfl
theorem okCmv : OkV Try.prog 34 orcCmv := by
  intro args H ret H' vc h hv
  unfold orcCmv at h
  split at h
  · rename_i a b
    cases h
    refine fnP_res hm c2_ok (hs := hsCmv) ?_
    show fnP Try.prog c2 hsCmv 34 [.agg #[.int .i64 a, .int .i64 b]] [] _
    rw [cmv_t, cmE]
    refine ⟨⟨trivial⟩, br_of (fun h => ?_) (fun h => ⟨rfl, rfl⟩)⟩
    simp only [Bool.and_true, Bool.and_eq_true, beq_iff_eq] at h
    rw [h.1, h.2]
    exact ⟨rfl, rfl⟩
  · cases h
/-- Two profiles and columns of the first one, all of which pass. -/
def _root_.Sp.ftO (e : List Value) (n : Nat) (g : List Value) (k : Nat) (cs : List Value) (l : Nat) : Prop := okZ e n ∧ okZ g k ∧ isC cs l ∧ col1 (deI e) n (deI cs) l = 0
noncomputable def orcCk : OrcV
  | [.slice (some ⟨0, 0, none⟩) n _, .slice (some ⟨1, 0, none⟩) k _, .slice (some ⟨2, 0, none⟩) l _], [some (.row e 2 true true true), some (.row g 2 true true true), some (.row cs 1 true true true)] =>
    some (.int .i64 0, [some (.row e 2 true true true), some (.row g 2 true true true), some (.row cs 1 true true true)], ftO e n g k cs l)
  | _, _ => none
theorem okCk : OkV Try.prog 28 orcCk := by
  intro args H ret H' vc h hv
  unfold orcCk at h
  split at h
  · cases h
    obtain ⟨h1, h2, h3, h4⟩ := hv
    refine fnP_res hm c0_ok (hs := hsCt0) ?_
    show fnP Try.prog c0 hsCt0 28 _ [r2c _, r2c _, r1c _] _
    rw [ck_t, okZ_pf h1, okZ_pf h2, h4]
    exact ⟨⟨okZ_isZ h1, okZ_isZ h2⟩, ⟨h3, okZ_isZ h1, okZ_pos h1⟩, by first | trivial | rfl, by first | trivial | rfl⟩
  · cases h
theorem sqS_app : ∀ (l : List Int) (x : Int), sqS (l ++ [x]) = sqS l + x * x
  | [], x => by show x * x + 0 = 0 + x * x; omega
  | y :: r, x => by
    show y * y + sqS (r ++ [x]) = y * y + sqS r + x * x
    rw [sqS_app r x]; omega
theorem sq_bd {x M : Int} (h1 : -M ≤ x) (h2 : x ≤ M) : 0 ≤ x * x ∧ x * x ≤ M * M := by
  have a1 : 0 ≤ x * x := by
    rcases Int.le_total 0 x with h | h
    · exact Int.mul_nonneg h h
    · have := Int.mul_nonneg_of_nonpos_of_nonpos h h; exact this
  refine ⟨a1, ?_⟩
  have k : 0 ≤ (M - x) * (M + x) := Int.mul_nonneg (by omega) (by omega)
  have e : (M - x) * (M + x) = M * M - x * x := by grind
  omega
theorem sqS_bd {M : Int} : ∀ {l : List Int}, (∀ x ∈ l, -M ≤ x ∧ x ≤ M) → 0 ≤ sqS l ∧ sqS l ≤ l.length * (M * M)
  | [], _ => by show (0 : Int) ≤ 0 ∧ (0 : Int) ≤ ((0 : Nat) : Int) * (M * M); omega
  | y :: r, h => by
    have h1 := h y (List.mem_cons_self ..)
    have h2 := sqS_bd fun x hx => h x (List.mem_cons_of_mem _ hx)
    have h3 := sq_bd h1.1 h1.2
    have e : ((y :: r).length : Int) * (M * M) = (r.length : Int) * (M * M) + M * M := by
      rw [List.length_cons]; push_cast; rw [Int.add_mul, Int.one_mul]
    rw [e]
    show 0 ≤ y * y + sqS r ∧ y * y + sqS r ≤ _
    omega
theorem wrL_bd {zs ys : List Int} {n k : Nat} (h1 : PfOk zs n) (h2 : PfOk ys k) (cs : List Int) : ∀ x ∈ wrL zs n ys k cs, -20000 ≤ x ∧ x ≤ 20000 := fun x hx => by
  rw [wrL] at hx
  obtain ⟨c, _, rfl⟩ := List.mem_map.1 hx
  have b1 := htP_bd h1 c
  have b2 := htP_bd h2 c
  omega
theorem getD_mem {l : List Int} {i : Nat} (h : i < l.length) : l.getD i 0 ∈ l := by
  rw [List.getD_eq_getElem?_getD, List.getElem?_eq_getElem h]; exact List.getElem_mem _
theorem take_snoc {l : List Int} {i : Nat} (h : i < l.length) : l.take (i + 1) = l.take i ++ [l.getD i 0] := by
  rw [List.take_add_one, List.getElem?_eq_getElem h, List.getD_eq_getElem?_getD, List.getElem?_eq_getElem h]; rfl
theorem col1_le {zs : List Int} {n : Nat} {cs : List Int} {l : Nat} (h : col1 zs n cs l = 0) : 0 < l ∧ l ≤ 64 := by
  rw [col1, sel0, fi2, wh0 (by decide), wh0 (by decide)] at h
  obtain ⟨⟨h1, h2⟩, _⟩ := h
  have h1 : ¬ (l : Int) = 0 := by simpa using h1
  have h2 := of_decide_eq_false h2
  omega
set_option maxRecDepth 100000 in
theorem ct_ok {zs ys cs : List Int} {n c k d l a : Nat} {x y : Int} (hz : PfOk zs n) (hy : PfOk ys k) (hl : cs.length = l) (h9 : l ≤ 1000) (hm2 : mvIn x y) :
    SmallRes Try.prog 30 [.slice (some ⟨0, 0, none⟩) k d, .slice (some ⟨1, 0, none⟩) n c, .slice (some ⟨2, 0, none⟩) l a, .agg #[.int .i64 x, .int .i64 y]] [rZ ys true true, rZ zs true true, rC cs]
      (.tuple #[.int .i64 (ctN zs n ys k cs l x y), .bool (ctB ys k cs l x y)]) [rZ ys true true, rZ zs true true, rC cs] := by
  refine fnP_res Qq.hm c0_ok (hs := hsCt zs ys cs n c k d l a x y) ?_
  rw [ct_t]
  simp only [deI_ints]
  have z1 : okZ (ints zs) n := by rw [okZ, deI_ints]; exact ⟨rfl, hz⟩
  have z2 : okZ (ints ys) k := by rw [okZ, deI_ints]; exact ⟨rfl, hy⟩
  have hlen : (mvS x y k ys).length = k * 2 := by rw [mvS_len, hy.len]
  have hk := hy.hi
  have hk0 := hy.lo
  have z3 : isZ (ints (mvS x y k ys)) k := isZ_of hlen (by omega)
  have hC : isC (ints cs) l := by rw [isC, deI_ints]; exact ⟨rfl, hl, h9⟩
  refine ⟨⟨z2, hm2⟩, ⟨z3⟩, br_of (fun h => ?_) (fun h => ⟨⟨hC, z3, by omega⟩, br_of (fun h2 => ?_) (fun h2 => ?_)⟩)⟩
  · have hb : ctB ys k cs l x y = false := by
      rw [ctB, Bool.and_eq_false_iff]; left; rw [bne, Bool.not_eq_true'] at h; exact h
    rw [ctN, hb]; exact ⟨rfl, rfl⟩
  · have hb : ctB ys k cs l x y = false := by
      rw [ctB, Bool.and_eq_false_iff]; right; rw [bne, Bool.not_eq_true'] at h2; exact h2
    rw [ctN, hb]; exact ⟨rfl, rfl⟩
  · rw [bne, Bool.not_eq_false'] at h h2
    have hb : ctB ys k cs l x y = true := by rw [ctB, h, h2]; rfl
    have p1 : pfE (mvS x y k ys) k = 0 := by simpa using h
    have p2 : col1 (mvS x y k ys) k cs l = 0 := by simpa using h2
    have hp := (pf_iff hlen).1 p1
    have h64 := col1_le p2
    have z4 : okZ (ints (mvS x y k ys)) k := by rw [okZ, deI_ints]; exact ⟨rfl, hp⟩
    have hL : (wrL zs n (mvS x y k ys) k cs).length = l := by rw [wrL_len, hl]
    have hbd := wrL_bd hz hp cs
    rw [ctN, hb, if_pos rfl]
    revert hL hbd
    generalize wrL zs n (mvS x y k ys) k cs = L
    intro hL hbd
    refine ⟨⟨hC, z1, z4⟩, ⟨(0 : Nat), ⟨by omega⟩, ⟨by rw [List.take_zero]; rfl, by first | trivial | rfl, by first | trivial | rfl, by first | trivial | rfl, trivial⟩, by first | trivial | rfl⟩, fun s hs => br_of (fun h => ?_) (fun h => ?_)⟩
    · have h := lt_of_dec h
      simp only [Nat.zero_add, Nat.mul_one, Int.toNat_natCast, up1 h (by omega)]
      have b1 := hbd _ (getD_mem (show s < L.length by omega))
      have b2 := sq_bd b1.1 b1.2
      have b3 := sqS_bd (M := 20000) (l := L.take s) fun x hx => hbd x (List.mem_of_mem_take hx)
      rw [List.length_take, show min s L.length = s by omega] at b3
      have b4 : (s : Int) ≤ 64 := by omega
      have b5 : (s : Int) * (20000 * 20000) ≤ 64 * (20000 * 20000) := Int.mul_le_mul_of_nonneg_right b4 (by decide)
      refine ⟨⟨by omega, by omega⟩, ⟨zint_at (by omega)⟩, s + 1, ⟨h⟩, ⟨by omega⟩, ⟨?_, by first | trivial | rfl, by first | trivial | rfl, by first | trivial | rfl, trivial⟩, by first | trivial | rfl⟩
      rw [wrap_eq (x := L.getD s 0 * L.getD s 0) (by omega) (by omega), wrap_eq (by omega) (by omega), take_snoc (by omega), sqS_app]
    · have h := ge_of_dec h
      have : s = L.length := by have := hs.out; omega
      rw [this, List.take_length]
      exact ⟨rfl, rfl⟩
noncomputable def orcCt : OrcV
  | [.slice (some ⟨0, 0, none⟩) k _, .slice (some ⟨1, 0, none⟩) n _, .slice (some ⟨2, 0, none⟩) l _, .agg ⟨[.int .i64 x, .int .i64 y]⟩], [some (.row g 2 true true true), some (.row e 2 true true true), some (.row cs 1 true true true)] =>
    some (.tuple #[.int .i64 (ctN (deI e) n (deI g) k (deI cs) l x y), .bool (ctB (deI g) k (deI cs) l x y)], [some (.row g 2 true true true), some (.row e 2 true true true), some (.row cs 1 true true true)], (okZ e n ∧ okZ g k) ∧ isC cs l ∧ mvIn x y)
  | _, _ => none
theorem okCt : OkV Try.prog 30 orcCt := by
  intro args H ret H' vc h hv
  unfold orcCt at h
  split at h
  · cases h
    obtain ⟨⟨⟨e1, h1⟩, e2, h2⟩, ⟨e3, h3, h4⟩, h5⟩ := hv
    rw [e1, e2, e3]
    simp only [deI_ints]
    exact ct_ok h1 h2 h3 h4 h5
  · cases h
noncomputable def hsMo : Hs Try.prog where
  au := auCalls [(33, hCa Try.prog 33 orcPf okPf), (34, hCa Try.prog 34 orcCmv okCmv), (35, hCa Try.prog 35 orcMv okMv)]
theorem mo_t (e : List Value) (n : Nat) (c : Nat) (x : Int) (y : Int) (K : Value → Heap → Prop) :
    (fnP Try.prog c1 hsMo (14 : FuncId) [Value.slice (some { block := (0 : Nat), off := (0 : Nat) }) n c, Value.agg #[Value.int IntKind.i64 x, Value.int IntKind.i64 y]] [r2c e] K) =
    (Is (isZ e n) ∧ Is True ∧ br (fi [pfE (deI e) n, cmE x y] != (0 : Int)) (K (Value.tuple #[Value.slice none (0 : Nat) (0 : Nat), Value.int IntKind.i64 (fi [pfE (deI e) n, cmE x y])]) (some (AObj.row e (2 : Nat) true true true) :: noH)) (Is (okZ e n ∧ mvIn x y) ∧ Is (isZ (ints (mvS x y n (deI e))) n) ∧ br (pfE (deI (ints (mvS x y n (deI e)))) n != (0 : Int)) (K (Value.tuple #[Value.slice none (0 : Nat) (0 : Nat), Value.int IntKind.i64 (4 : Int)]) (some (AObj.row e (2 : Nat) true true true) :: noH)) (K (Value.tuple #[Value.slice (some { block := (1 : Nat), off := (0 : Nat) }) n (0 : Nat), Value.int IntKind.i64 (0 : Int)]) (some (AObj.row e (2 : Nat) true true true) :: some (AObj.row (ints (mvS x y n (deI e))) (2 : Nat) true true true) :: noH)))) := by kernel_rfl
end
end Qq
end
section
/- Offices, checked. -/
open Go Go.Vm Go.Proofs Sp
namespace Qq
noncomputable section
theorem when_tP (b : Bool) (e : Int) (K : Value → Heap → Prop) :
    (fnP Try.prog c0 h0 (45 : FuncId) [Value.bool b, Value.int IntKind.i64 e] [] K) =
    (br b (K (Value.int IntKind.i64 e) noH) (K (Value.int IntKind.i64 (0 : Int)) noH)) := by kernel_rfl
theorem okWhenP : Ok Try.prog 45 orcWhen := by
  intro args H ret H' h
  unfold orcWhen at h
  split at h
  · cases h
    refine fnP_res hm c0_ok (hs := h0) ?_
    rw [when_tP]
    exact br_of (fun h => by simp [wh, h]) (fun h => by simp [wh, h])
  · cases h
theorem first_tP (l : List Int) (n : Nat) (c : Nat) (es : Nat) (more : Bool) (rw : Bool) (K : Value → Heap → Prop) :
    (fnP Try.prog c0 (hFirst l n c es more rw) (41 : FuncId) [Value.slice (some { block := (0 : Nat), off := (0 : Nat) }) n c] [some (AObj.row (ints l) es more rw true)] K) =
    ((∃ s, Is (s ≤ List.length l ∧ fi (List.drop s l) = fi l) ∧ [poi, poi, poi, poi, poi, Value.slice (some { block := (0 : Nat), off := (0 : Nat) }) n c, Value.int IntKind.i64 (↑n : Int), Value.int IntKind.i64 (0 : Int), poi, poi, poi, poi, poi, poi, poi] = [poi, poi, poi, poi, poi, Value.slice (some { block := (0 : Nat), off := (0 : Nat) }) n c, Value.int IntKind.i64 (↑n : Int), Value.int IntKind.i64 (↑s : Int), poi, poi, poi, poi, poi, poi, poi] ∧ some (AObj.row (ints l) es more rw true) :: noH = some (AObj.row (ints l) es more rw true) :: noH) ∧ ∀ (s : Nat), Is (s ≤ List.length l ∧ fi (List.drop s l) = fi l) → br (decide ((↑s : Int) < (↑n : Int))) (Is ((0 : Int) ≤ (↑s : Int) ∧ (↑s : Int) < (↑n : Int)) ∧ Is ((ints l)[(0 : Nat) + Int.toNat (↑s : Int) * (1 : Nat)]? = some (Value.int IntKind.i64 (List.getD l ((0 : Nat) + Int.toNat (↑s : Int) * (1 : Nat)) (0 : Int)))) ∧ br (List.getD l ((0 : Nat) + Int.toNat (↑s : Int) * (1 : Nat)) (0 : Int) != (0 : Int)) (K (Value.int IntKind.i64 (List.getD l ((0 : Nat) + Int.toNat (↑s : Int) * (1 : Nat)) (0 : Int))) (some (AObj.row (ints l) es more rw true) :: noH)) (∃ s', Is (s' ≤ List.length l ∧ fi (List.drop s' l) = fi l) ∧ Is (List.length l - s' < List.length l - s) ∧ [poi, poi, poi, poi, poi, Value.slice (some { block := (0 : Nat), off := (0 : Nat) }) n c, Value.int IntKind.i64 (↑n : Int), Value.int IntKind.i64 (IntKind.wrap IntKind.i64 ((↑s : Int) + (1 : Int))), poi, poi, poi, poi, poi, poi, poi] = [poi, poi, poi, poi, poi, Value.slice (some { block := (0 : Nat), off := (0 : Nat) }) n c, Value.int IntKind.i64 (↑n : Int), Value.int IntKind.i64 (↑s' : Int), poi, poi, poi, poi, poi, poi, poi] ∧ some (AObj.row (ints l) es more rw true) :: noH = some (AObj.row (ints l) es more rw true) :: noH)) (K (Value.int IntKind.i64 (0 : Int)) (some (AObj.row (ints l) es more rw true) :: noH))) := by kernel_rfl

theorem okFirstP : Ok Try.prog 41 orcFirst := by
  intro args H ret H' h
  unfold orcFirst at h
  split at h
  · rename_i n c cells es more rw
    split at h
    · rename_i l hl
      split at h
      · rename_i hn
        cases h
        have := intsOf_eq hl
        subst this
        obtain ⟨hn, hlt⟩ := hn
        subst hn
        refine fnP_res hm c0_ok (hs := hFirst l l.length c es more rw) ?_
        rw [first_tP]
        refine ⟨⟨(0 : Nat), ⟨by simp, by simp⟩, rfl, rfl⟩, fun s hs => ?_⟩
        obtain ⟨h1, h2⟩ := hs.out
        refine br_of (fun hc => ?_) (fun hc => ?_)
        · have hc : s < l.length := by simpa using hc
          refine ⟨⟨by omega, by omega⟩, ⟨by simpa using ints_at hc⟩, br_of (fun hd => ?_) (fun hd => ?_)⟩
          · have := fi_drop hc
            have hd' : l.getD s 0 ≠ 0 := by simpa using hd
            rw [if_neg hd'] at this
            simp [← h2, this]
          · have := fi_drop hc
            have hd' : l.getD s 0 = 0 := by simpa using hd
            rw [if_pos hd'] at this
            refine ⟨s + 1, ⟨hc, by rw [← this, h2]⟩, ⟨by omega⟩, ?_, rfl⟩
            rw [wrap_eq (by omega) (by omega)]
            rfl
        · have hc : l.length ≤ s := by simpa using hc
          have : s = l.length := by omega
          subst this
          simp [← h2, fi]
      · cases h
    · cases h
  · cases h

noncomputable def u1 : List (Nat × Orc) := [(45, orcWhen), (41, orcFirst)]
theorem u1_all : ∀ p ∈ u1, Ok Try.prog p.1 p.2 := all_cons okWhenP (all_cons okFirstP all_nil)
noncomputable def cu1 : CallF := ctx Try.prog u1
theorem cu1_ok : CallOK Try.prog cu1 := ctx_ok hm u1_all
theorem within_tP (n : Int) (lo : Int) (hi : Int) (K : Value → Heap → Prop) :
    (fnP Try.prog cu1 h0 (70 : FuncId) [Value.int IntKind.i64 n, Value.int IntKind.i64 lo, Value.int IntKind.i64 hi] [] K) =
    (br (decide (n < lo)) (K (Value.int IntKind.i64 (3 : Int)) noH) (K (Value.int IntKind.i64 (wh (decide (hi < n)) (3 : Int))) noH)) := by kernel_rfl
theorem okWithinP : Ok Try.prog 70 orcWithin := by
  intro args H ret H' h
  unfold orcWithin at h
  split at h
  · cases h
    refine fnP_res hm cu1_ok (hs := h0) ?_
    rw [within_tP]
    exact br_of (fun h => by simp [wi, of_decide_eq_true h]) (fun h => by simp [wi, wh, of_decide_eq_false h])
  · cases h
noncomputable def u2 : List (Nat × Orc) := (70, orcWithin) :: u1
theorem u2_all : ∀ p ∈ u2, Ok Try.prog p.1 p.2 := all_cons okWithinP u1_all
noncomputable def cu2 : CallF := ctx Try.prog u2
theorem cu2_ok : CallOK Try.prog cu2 := ctx_ok hm u2_all
/-- Two sections that differ in their values, and a shift. -/
noncomputable def secC (v w : Int) : List Value := [.string ⟨#[97]⟩, .int .i64 5, .int .i64 1, .int .i64 0, .int .i64 v, .string ⟨#[98]⟩, .int .i64 5, .int .i64 1, .int .i64 0, .int .i64 w]
noncomputable def shfC : List Value := [.int .i64 3, .int .i64 1, .int .i64 0, .int .i64 1]
noncomputable def offA (i j a b : Nat) : Value := .agg #[.slice (some ⟨i, 0, none⟩) 2 a, .slice (some ⟨j, 0, none⟩) 1 b]
noncomputable def hsOf : Hs Try.prog where
  cl q := if q = 6 then keep 87 [1, 4, 28, 29, 30] else keep 87 [1, 56, 57, 58]
  au := au0 Try.prog
theorem of_t (v : Int) (w : Int) (a : Nat) (b : Nat) (K : Value → Heap → Prop) :
    (fnP Try.prog cu2 hsOf (36 : FuncId) [offA (0 : Nat) (1 : Nat) a b] [some (AObj.row (secC v w) (5 : Nat) true false true), some (AObj.row shfC (4 : Nat) false false true)] K) =
    (br (fi [(0 : Int), (0 : Int), fi [(0 : Int), (0 : Int), (0 : Int), wi v (0 : Int) (1000000 : Int)]] != (0 : Int)) (K (Value.int IntKind.i64 (fi [(0 : Int), (0 : Int), fi [(0 : Int), (0 : Int), (0 : Int), wi v (0 : Int) (1000000 : Int)]])) (some (AObj.row [Value.string { data := #[(97 : UInt8)] }, Value.int IntKind.i64 (5 : Int), Value.int IntKind.i64 (1 : Int), Value.int IntKind.i64 (0 : Int), Value.int IntKind.i64 v, Value.string { data := #[(98 : UInt8)] }, Value.int IntKind.i64 (5 : Int), Value.int IntKind.i64 (1 : Int), Value.int IntKind.i64 (0 : Int), Value.int IntKind.i64 w] (5 : Nat) true false true) :: some (AObj.row [Value.int IntKind.i64 (3 : Int), Value.int IntKind.i64 (1 : Int), Value.int IntKind.i64 (0 : Int), Value.int IntKind.i64 (1 : Int)] (4 : Nat) false false true) :: noH)) (br (fi [(0 : Int), (0 : Int), fi [(0 : Int), (0 : Int), (0 : Int), wi w (0 : Int) (1000000 : Int)]] != (0 : Int)) (K (Value.int IntKind.i64 (fi [(0 : Int), (0 : Int), fi [(0 : Int), (0 : Int), (0 : Int), wi w (0 : Int) (1000000 : Int)]])) (some (AObj.row [Value.string { data := #[(97 : UInt8)] }, Value.int IntKind.i64 (5 : Int), Value.int IntKind.i64 (1 : Int), Value.int IntKind.i64 (0 : Int), Value.int IntKind.i64 v, Value.string { data := #[(98 : UInt8)] }, Value.int IntKind.i64 (5 : Int), Value.int IntKind.i64 (1 : Int), Value.int IntKind.i64 (0 : Int), Value.int IntKind.i64 w] (5 : Nat) true false true) :: some (AObj.row [Value.int IntKind.i64 (3 : Int), Value.int IntKind.i64 (1 : Int), Value.int IntKind.i64 (0 : Int), Value.int IntKind.i64 (1 : Int)] (4 : Nat) false false true) :: noH)) (K (Value.int IntKind.i64 (0 : Int)) (some (AObj.row [Value.string { data := #[(97 : UInt8)] }, Value.int IntKind.i64 (5 : Int), Value.int IntKind.i64 (1 : Int), Value.int IntKind.i64 (0 : Int), Value.int IntKind.i64 v, Value.string { data := #[(98 : UInt8)] }, Value.int IntKind.i64 (5 : Int), Value.int IntKind.i64 (1 : Int), Value.int IntKind.i64 (0 : Int), Value.int IntKind.i64 w] (5 : Nat) true false true) :: some (AObj.row [Value.int IntKind.i64 (3 : Int), Value.int IntKind.i64 (1 : Int), Value.int IntKind.i64 (0 : Int), Value.int IntKind.i64 (1 : Int)] (4 : Nat) false false true) :: noH)))) := by kernel_rfl
/-- An office of two sections and a shift. -/
def _root_.Sp.offOk (e g : List Value) : Prop := ∃ v w : Int, e = secC v w ∧ g = shfC ∧ (0 ≤ v ∧ v ≤ 1000000) ∧ 0 ≤ w ∧ w ≤ 1000000
noncomputable def orcOf : OrcV
  | [.agg ⟨[.slice (some ⟨0, 0, none⟩) 2 _, .slice (some ⟨1, 0, none⟩) 1 _]⟩], [some (.row e 5 true false true), some (.row g 4 false false true)] =>
    some (.int .i64 0, [some (.row e 5 true false true), some (.row g 4 false false true)], offOk e g)
  | _, _ => none
theorem fi_v {v : Int} (h : 0 ≤ v ∧ v ≤ 1000000) : fi [0, 0, fi [0, 0, 0, wi v 0 1000000]] = 0 := by
  have : wi v 0 1000000 = 0 := by rw [wi, if_neg (by omega)]
  rw [this]; rfl
theorem okOf : OkV Try.prog 36 orcOf := by
  intro args H ret H' vc h hv
  unfold orcOf at h
  split at h
  · cases h
    obtain ⟨v, w, rfl, rfl, h1, h2⟩ := hv
    refine fnP_res hm cu2_ok (hs := hsOf) ?_
    show fnP Try.prog cu2 hsOf 36 [offA 0 1 _ _] _ _
    rw [of_t, fi_v h1, fi_v h2]
    exact ⟨rfl, rfl⟩
  · cases h
end
end Qq
end
section
/- Repeated lists. -/
open Go Go.Vm Go.Proofs Sp
namespace Sp
noncomputable section
noncomputable def rpC (n : Int) : List Value := List.replicate n.toNat (.int .i64 (-1))
end
end Sp
namespace Qq
noncomputable section
noncomputable def hsM64 : Hs Try.prog where
  op y := if [101, 201, 301, 401, 604, 701, 801, 1006].contains y then some (hBs Try.prog) else none
  au := au0 Try.prog
noncomputable def orcM64 : OrcV
  | [.int .u64 1, .int .u64 b], [] => some (.tuple #[.int .u64 0, .int .u64 b], [], 1 ≤ b ∧ b ≤ 3)
  | _, _ => none
theorem m64_1 (K : Value → Heap → Prop) : fnP Try.prog c0 hsM64 99 [.int .u64 1, .int .u64 1] [] K = (Is True ∧ Is ((0 : Int) ≤ 32) ∧ Is True ∧ Is ((0 : Int) ≤ 32) ∧ Is ((0 : Int) ≤ 32) ∧ Is True ∧ Is ((0 : Int) ≤ 32) ∧ Is ((0 : Int) ≤ 32) ∧ K (.tuple #[.int .u64 0, .int .u64 1]) noH) := by kernel_rfl
theorem m64_2 (K : Value → Heap → Prop) : fnP Try.prog c0 hsM64 99 [.int .u64 1, .int .u64 2] [] K = (Is True ∧ Is ((0 : Int) ≤ 32) ∧ Is True ∧ Is ((0 : Int) ≤ 32) ∧ Is ((0 : Int) ≤ 32) ∧ Is True ∧ Is ((0 : Int) ≤ 32) ∧ Is ((0 : Int) ≤ 32) ∧ K (.tuple #[.int .u64 0, .int .u64 2]) noH) := by kernel_rfl
theorem m64_3 (K : Value → Heap → Prop) : fnP Try.prog c0 hsM64 99 [.int .u64 1, .int .u64 3] [] K = (Is True ∧ Is ((0 : Int) ≤ 32) ∧ Is True ∧ Is ((0 : Int) ≤ 32) ∧ Is ((0 : Int) ≤ 32) ∧ Is True ∧ Is ((0 : Int) ≤ 32) ∧ Is ((0 : Int) ≤ 32) ∧ K (.tuple #[.int .u64 0, .int .u64 3]) noH) := by kernel_rfl
theorem okM64 : OkV Try.prog 99 orcM64 := by
  intro args H ret H' vc h hv
  unfold orcM64 at h
  split at h
  · rename_i b
    cases h
    rcases (by omega : b = 1 ∨ b = 2 ∨ b = 3) with rfl | rfl | rfl
    · refine fnP_res hm c0_ok (hs := hsM64) ?_
      rw [m64_1]
      exact ⟨⟨trivial⟩, ⟨by decide⟩, ⟨trivial⟩, ⟨by decide⟩, ⟨by decide⟩, ⟨trivial⟩, ⟨by decide⟩, ⟨by decide⟩, rfl, rfl⟩
    · refine fnP_res hm c0_ok (hs := hsM64) ?_
      rw [m64_2]
      exact ⟨⟨trivial⟩, ⟨by decide⟩, ⟨trivial⟩, ⟨by decide⟩, ⟨by decide⟩, ⟨trivial⟩, ⟨by decide⟩, ⟨by decide⟩, rfl, rfl⟩
    · refine fnP_res hm c0_ok (hs := hsM64) ?_
      rw [m64_3]
      exact ⟨⟨trivial⟩, ⟨by decide⟩, ⟨trivial⟩, ⟨by decide⟩, ⟨by decide⟩, ⟨trivial⟩, ⟨by decide⟩, ⟨by decide⟩, rfl, rfl⟩
  · cases h
noncomputable def hsMul : Hs Try.prog where
  au := auCalls [(99, hCa Try.prog 99 orcM64 okM64)]
theorem mul_t (b : Int) (K : Value → Heap → Prop) :
    (fnP Try.prog c0 hsMul (90 : FuncId) [Value.int IntKind.u64 (1 : Int), Value.int IntKind.u64 b] [] K) =
    (Is ((1 : Int) ≤ b ∧ b ≤ (3 : Int)) ∧ K (Value.tuple #[Value.int IntKind.u64 (0 : Int), Value.int IntKind.u64 b]) noH) := by kernel_rfl
theorem okMul : OkV Try.prog 90 orcM64 := by
  intro args H ret H' vc h hv
  unfold orcM64 at h
  split at h
  · cases h
    refine fnP_res hm c0_ok (hs := hsMul) ?_
    rw [mul_t]
    exact ⟨⟨hv⟩, rfl, rfl⟩
  · cases h
noncomputable def hsRp : Hs Try.prog where
  cl _ := keep 48 [7, 8]
  au := auCalls [(90, hCa Try.prog 90 orcM64 okMul)]
theorem rp1_t (c : Nat) (K : Value → Heap → Prop) :
    (fnP Try.prog c0 hsRp (65 : FuncId) [Value.slice (some { block := (0 : Nat), off := (0 : Nat) }) (1 : Nat) c, Value.int IntKind.i64 (1 : Int)] [some (AObj.row [Value.int IntKind.i64 (-1 : Int)] (1 : Nat) false true true)] K) =
    (Is ((1 : Int) ≤ (1 : Int) ∧ (1 : Int) ≤ (3 : Int)) ∧ K (Value.slice (some { block := (1 : Nat), off := (0 : Nat) }) (1 : Nat) (1 : Nat)) (some (AObj.row [Value.int IntKind.i64 (-1 : Int)] (1 : Nat) false true true) :: some (AObj.row [Value.int IntKind.i64 (-1 : Int)] (1 : Nat) false true true) :: noH)) := by kernel_rfl
theorem rp2_t (c : Nat) (K : Value → Heap → Prop) :
    (fnP Try.prog c0 hsRp (65 : FuncId) [Value.slice (some { block := (0 : Nat), off := (0 : Nat) }) (1 : Nat) c, Value.int IntKind.i64 (2 : Int)] [some (AObj.row [Value.int IntKind.i64 (-1 : Int)] (1 : Nat) false true true)] K) =
    (Is ((1 : Int) ≤ (2 : Int) ∧ (2 : Int) ≤ (3 : Int)) ∧ K (Value.slice (some { block := (1 : Nat), off := (0 : Nat) }) (2 : Nat) (2 : Nat)) (some (AObj.row [Value.int IntKind.i64 (-1 : Int)] (1 : Nat) false true true) :: some (AObj.row [Value.int IntKind.i64 (-1 : Int), Value.int IntKind.i64 (-1 : Int)] (1 : Nat) false true (true && List.all [Value.int IntKind.i64 (-1 : Int)] atom)) :: noH)) := by kernel_rfl
theorem rp3_t (c : Nat) (K : Value → Heap → Prop) :
    (fnP Try.prog c0 hsRp (65 : FuncId) [Value.slice (some { block := (0 : Nat), off := (0 : Nat) }) (1 : Nat) c, Value.int IntKind.i64 (3 : Int)] [some (AObj.row [Value.int IntKind.i64 (-1 : Int)] (1 : Nat) false true true)] K) =
    (Is ((1 : Int) ≤ (3 : Int) ∧ (3 : Int) ≤ (3 : Int)) ∧ K (Value.slice (some { block := (1 : Nat), off := (0 : Nat) }) (3 : Nat) (3 : Nat)) (some (AObj.row [Value.int IntKind.i64 (-1 : Int)] (1 : Nat) false true true) :: some (AObj.row [Value.int IntKind.i64 (-1 : Int), Value.int IntKind.i64 (-1 : Int), Value.int IntKind.i64 (-1 : Int)] (1 : Nat) false true (true && List.all [Value.int IntKind.i64 (-1 : Int)] atom && List.all [Value.int IntKind.i64 (-1 : Int)] atom)) :: noH)) := by kernel_rfl
noncomputable def orcRp : OrcV
  | [.slice (some ⟨0, 0, none⟩) 1 _, .int .i64 n], [some (.row [.int .i64 q] 1 false true true)] =>
    some (.slice (some ⟨1, 0, none⟩) n.toNat n.toNat, [some (.row [.int .i64 q] 1 false true true), some (.row (rpC n) 1 false true true)], q = -1 ∧ 1 ≤ n ∧ n ≤ 3)
  | _, _ => none
theorem okRp : OkV Try.prog 65 orcRp := by
  intro args H ret H' vc h hv
  unfold orcRp at h
  split at h
  · rename_i c n q
    cases h
    obtain ⟨rfl, h1, h2⟩ := hv
    rcases (by omega : n = 1 ∨ n = 2 ∨ n = 3) with rfl | rfl | rfl
    · refine fnP_res hm c0_ok (hs := hsRp) ?_
      rw [rp1_t]
      exact ⟨⟨by decide, by decide⟩, rfl, rfl⟩
    · refine fnP_res hm c0_ok (hs := hsRp) ?_
      rw [rp2_t]
      exact ⟨⟨by decide, by decide⟩, rfl, rfl⟩
    · refine fnP_res hm c0_ok (hs := hsRp) ?_
      rw [rp3_t]
      exact ⟨⟨by decide, by decide⟩, rfl, rfl⟩
  · cases h
end
end Qq
end
section
/- The choices of two sections, or one, and a shift. -/
open Go Go.Vm Go.Proofs Sp
namespace Sp
noncomputable section
noncomputable def p20 (s : Nat) : Int := ((s / 2 : Nat) : Int) - 1
noncomputable def p21 (s : Nat) : Int := ((s % 2 : Nat) : Int) - 1
noncomputable def p10 (s : Nat) : Int := (s : Int) - 1
end
end Sp
namespace Qq
noncomputable section
noncomputable def pl2 (s : Nat) : List Value := [.int .i64 (p20 s), .int .i64 (p21 s)]
noncomputable def pl1 (s : Nat) : List Value := [.int .i64 (p10 s)]
noncomputable def hcI (n : Int) (k a m b : Nat) (e g : List Value) (m1 m2 : Bool) : Heap := [some (.row [.int .i64 n] 0 false false true), some (.row [.slice (some ⟨2, 0, none⟩) k a, .slice (some ⟨3, 0, none⟩) m b] 0 false false false), some (.row e 5 m1 false true), some (.row g 4 m2 false true)]
noncomputable def ly2 (a b : Nat) (e g : List Value) (l : Nat) : Ly where
  σ := Nat
  E _ := slots 41 [(0, .func (.yield l) #[] #[]), (1, .pointer (some ⟨0, 0, none⟩)), (2, .pointer (some ⟨1, 0, none⟩)), (4, .slice (some ⟨4, 0, none⟩) 2 2)]
  Hp s := hcI 2 2 a 1 b e g true false ++ [some (.row (pl2 s) 1 false true true)]
  I s := s < 4
  m s := 4 - s
  gi s := s
noncomputable def hs2 (a b : Nat) (e g : List Value) (l : Nat) : Ys Try.prog where
  ys := [1]
  ly _ := some (ly2 a b e g l)
  cl q := if q = 1 then keep 41 [0, 1, 2, 4] else keep 41 [0, 1, 2, 4, 5]
  au := auCalls [(65, hCa Try.prog 65 orcRp okRp)]
noncomputable def cpL : List Value := [.pointer (some ⟨0, 0, none⟩), .pointer (some ⟨1, 0, none⟩)]
theorem it2_t (a : Nat) (b : Nat) (e : List Value) (g : List Value) :
    (iterL Try.prog c0 (hs2 a b e g) (hcI (2 : Int) (2 : Nat) a (1 : Nat) b e g true false) (4 : Nat) (2 : Nat) pl2 (64 : FuncId) cpL) =
    (∀ (l : Nat), Is ((-1 : Int) = (-1 : Int) ∧ (1 : Int) ≤ (2 : Int) ∧ (2 : Int) ≤ (3 : Int)) ∧ (((0 : Nat) = (0 : Nat) ∧ false = false) ∧ ∃ (s : Nat), Is (s < (4 : Nat)) ∧ Is ((0 : Nat) = s) ∧ [Value.func (Fn.yield l) #[] #[], Value.pointer (some { block := (0 : Nat), off := (0 : Nat) }), Value.pointer (some { block := (1 : Nat), off := (0 : Nat) }), poi, Value.slice (some { block := (4 : Nat), off := (0 : Nat) }) (2 : Nat) (2 : Nat), poi, poi, poi, poi, poi, poi, poi, poi, poi, poi, poi, poi, poi, poi, poi, poi, poi, poi, poi, poi, poi, poi, poi, poi, poi, poi, poi, poi, poi, poi, poi, poi, poi, poi, poi, poi] = [Value.func (Fn.yield l) #[] #[], Value.pointer (some { block := (0 : Nat), off := (0 : Nat) }), Value.pointer (some { block := (1 : Nat), off := (0 : Nat) }), poi, Value.slice (some { block := (4 : Nat), off := (0 : Nat) }) (2 : Nat) (2 : Nat), poi, poi, poi, poi, poi, poi, poi, poi, poi, poi, poi, poi, poi, poi, poi, poi, poi, poi, poi, poi, poi, poi, poi, poi, poi, poi, poi, poi, poi, poi, poi, poi, poi, poi, poi, poi] ∧ some (AObj.row [Value.int IntKind.i64 (2 : Int)] (0 : Nat) false false true) :: some (AObj.row [Value.slice (some { block := (2 : Nat), off := (0 : Nat) }) (2 : Nat) a, Value.slice (some { block := (3 : Nat), off := (0 : Nat) }) (1 : Nat) b] (0 : Nat) false false false) :: some (AObj.row e (5 : Nat) true false true) :: some (AObj.row g (4 : Nat) false false true) :: some (AObj.row [Value.int IntKind.i64 (-1 : Int), Value.int IntKind.i64 (-1 : Int)] (1 : Nat) false true true) :: noH = some (AObj.row [Value.int IntKind.i64 (2 : Int)] (0 : Nat) false false true) :: some (AObj.row [Value.slice (some { block := (2 : Nat), off := (0 : Nat) }) (2 : Nat) a, Value.slice (some { block := (3 : Nat), off := (0 : Nat) }) (1 : Nat) b] (0 : Nat) false false false) :: some (AObj.row e (5 : Nat) true false true) :: some (AObj.row g (4 : Nat) false false true) :: some (AObj.row [Value.int IntKind.i64 (p20 s), Value.int IntKind.i64 (p21 s)] (1 : Nat) false true true) :: noH) ∧ ∀ (s : Nat), Is (s < (4 : Nat)) → Is (s < (4 : Nat)) ∧ l = l ∧ (4 : Nat) = List.length (some (AObj.row [Value.int IntKind.i64 (2 : Int)] (0 : Nat) false false true) :: some (AObj.row [Value.slice (some { block := (2 : Nat), off := (0 : Nat) }) (2 : Nat) a, Value.slice (some { block := (3 : Nat), off := (0 : Nat) }) (1 : Nat) b] (0 : Nat) false false false) :: some (AObj.row e (5 : Nat) true false true) :: some (AObj.row g (4 : Nat) false false true) :: noH) ∧ (2 : Nat) = (2 : Nat) ∧ [Value.int IntKind.i64 (p20 s), Value.int IntKind.i64 (p21 s)] = [Value.int IntKind.i64 (p20 s), Value.int IntKind.i64 (p21 s)] ∧ Is ((0 : Nat) < (2 : Nat) ∧ (0 : Nat) < List.length [Value.int IntKind.i64 (p20 s), Value.int IntKind.i64 (p21 s)]) ∧ br (p21 s == (0 : Int)) (br (p20 s == (0 : Int)) (Is (s + (1 : Nat) = (4 : Nat) ∧ (0 : Nat) < (4 : Nat))) (false = false ∧ ∃ (s' : Nat), Is (s' < (4 : Nat)) ∧ Is ((4 : Nat) - s' < (4 : Nat) - s) ∧ Is (s + (1 : Nat) = s') ∧ [Value.func (Fn.yield l) #[] #[], Value.pointer (some { block := (0 : Nat), off := (0 : Nat) }), Value.pointer (some { block := (1 : Nat), off := (0 : Nat) }), poi, Value.slice (some { block := (4 : Nat), off := (0 : Nat) }) (2 : Nat) (2 : Nat), poi, poi, poi, poi, poi, poi, poi, poi, poi, poi, poi, poi, poi, poi, poi, poi, poi, poi, poi, poi, poi, poi, poi, poi, poi, poi, poi, poi, poi, poi, poi, poi, poi, poi, poi, poi] = [Value.func (Fn.yield l) #[] #[], Value.pointer (some { block := (0 : Nat), off := (0 : Nat) }), Value.pointer (some { block := (1 : Nat), off := (0 : Nat) }), poi, Value.slice (some { block := (4 : Nat), off := (0 : Nat) }) (2 : Nat) (2 : Nat), poi, poi, poi, poi, poi, poi, poi, poi, poi, poi, poi, poi, poi, poi, poi, poi, poi, poi, poi, poi, poi, poi, poi, poi, poi, poi, poi, poi, poi, poi, poi, poi, poi, poi, poi, poi] ∧ some (AObj.row [Value.int IntKind.i64 (2 : Int)] (0 : Nat) false false true) :: some (AObj.row [Value.slice (some { block := (2 : Nat), off := (0 : Nat) }) (2 : Nat) a, Value.slice (some { block := (3 : Nat), off := (0 : Nat) }) (1 : Nat) b] (0 : Nat) false false false) :: some (AObj.row e (5 : Nat) true false true) :: some (AObj.row g (4 : Nat) false false true) :: some (AObj.row [Value.int IntKind.i64 (IntKind.wrap IntKind.i64 (p20 s + (1 : Int))), Value.int IntKind.i64 (-1 : Int)] (1 : Nat) false true (true && List.all [Value.int IntKind.i64 (-1 : Int)] atom && List.all [Value.int IntKind.i64 (IntKind.wrap IntKind.i64 (p20 s + (1 : Int)))] atom)) :: noH = some (AObj.row [Value.int IntKind.i64 (2 : Int)] (0 : Nat) false false true) :: some (AObj.row [Value.slice (some { block := (2 : Nat), off := (0 : Nat) }) (2 : Nat) a, Value.slice (some { block := (3 : Nat), off := (0 : Nat) }) (1 : Nat) b] (0 : Nat) false false false) :: some (AObj.row e (5 : Nat) true false true) :: some (AObj.row g (4 : Nat) false false true) :: some (AObj.row [Value.int IntKind.i64 (p20 s'), Value.int IntKind.i64 (p21 s')] (1 : Nat) false true true) :: noH)) (false = false ∧ ∃ (s' : Nat), Is (s' < (4 : Nat)) ∧ Is ((4 : Nat) - s' < (4 : Nat) - s) ∧ Is (s + (1 : Nat) = s') ∧ [Value.func (Fn.yield l) #[] #[], Value.pointer (some { block := (0 : Nat), off := (0 : Nat) }), Value.pointer (some { block := (1 : Nat), off := (0 : Nat) }), poi, Value.slice (some { block := (4 : Nat), off := (0 : Nat) }) (2 : Nat) (2 : Nat), poi, poi, poi, poi, poi, poi, poi, poi, poi, poi, poi, poi, poi, poi, poi, poi, poi, poi, poi, poi, poi, poi, poi, poi, poi, poi, poi, poi, poi, poi, poi, poi, poi, poi, poi, poi] = [Value.func (Fn.yield l) #[] #[], Value.pointer (some { block := (0 : Nat), off := (0 : Nat) }), Value.pointer (some { block := (1 : Nat), off := (0 : Nat) }), poi, Value.slice (some { block := (4 : Nat), off := (0 : Nat) }) (2 : Nat) (2 : Nat), poi, poi, poi, poi, poi, poi, poi, poi, poi, poi, poi, poi, poi, poi, poi, poi, poi, poi, poi, poi, poi, poi, poi, poi, poi, poi, poi, poi, poi, poi, poi, poi, poi, poi, poi, poi] ∧ some (AObj.row [Value.int IntKind.i64 (2 : Int)] (0 : Nat) false false true) :: some (AObj.row [Value.slice (some { block := (2 : Nat), off := (0 : Nat) }) (2 : Nat) a, Value.slice (some { block := (3 : Nat), off := (0 : Nat) }) (1 : Nat) b] (0 : Nat) false false false) :: some (AObj.row e (5 : Nat) true false true) :: some (AObj.row g (4 : Nat) false false true) :: some (AObj.row [Value.int IntKind.i64 (p20 s), Value.int IntKind.i64 (IntKind.wrap IntKind.i64 (p21 s + (1 : Int)))] (1 : Nat) false true (true && List.all [Value.int IntKind.i64 (IntKind.wrap IntKind.i64 (p21 s + (1 : Int)))] atom)) :: noH = some (AObj.row [Value.int IntKind.i64 (2 : Int)] (0 : Nat) false false true) :: some (AObj.row [Value.slice (some { block := (2 : Nat), off := (0 : Nat) }) (2 : Nat) a, Value.slice (some { block := (3 : Nat), off := (0 : Nat) }) (1 : Nat) b] (0 : Nat) false false false) :: some (AObj.row e (5 : Nat) true false true) :: some (AObj.row g (4 : Nat) false false true) :: some (AObj.row [Value.int IntKind.i64 (p20 s'), Value.int IntKind.i64 (p21 s')] (1 : Nat) false true true) :: noH) ∧ Is True) := by kernel_rfl
noncomputable def ly1 (a b : Nat) (e g : List Value) (l : Nat) : Ly where
  σ := Nat
  E _ := slots 41 [(0, .func (.yield l) #[] #[]), (1, .pointer (some ⟨0, 0, none⟩)), (2, .pointer (some ⟨1, 0, none⟩)), (4, .slice (some ⟨4, 0, none⟩) 1 1)]
  Hp s := hcI 1 1 a 1 b e g false false ++ [some (.row (pl1 s) 1 false true true)]
  I s := s < 2
  m s := 2 - s
  gi s := s
noncomputable def hs1 (a b : Nat) (e g : List Value) (l : Nat) : Ys Try.prog where
  ys := [1]
  ly _ := some (ly1 a b e g l)
  cl q := if q = 1 then keep 41 [0, 1, 2, 4] else keep 41 [0, 1, 2, 4, 5]
  au := auCalls [(65, hCa Try.prog 65 orcRp okRp)]
theorem it1_t (a : Nat) (b : Nat) (e : List Value) (g : List Value) :
    (iterL Try.prog c0 (hs1 a b e g) (hcI (1 : Int) (1 : Nat) a (1 : Nat) b e g false false) (2 : Nat) (1 : Nat) pl1 (64 : FuncId) cpL) =
    (∀ (l : Nat), Is ((-1 : Int) = (-1 : Int) ∧ (1 : Int) ≤ (1 : Int) ∧ (1 : Int) ≤ (3 : Int)) ∧ (((0 : Nat) = (0 : Nat) ∧ false = false) ∧ ∃ (s : Nat), Is (s < (2 : Nat)) ∧ Is ((0 : Nat) = s) ∧ [Value.func (Fn.yield l) #[] #[], Value.pointer (some { block := (0 : Nat), off := (0 : Nat) }), Value.pointer (some { block := (1 : Nat), off := (0 : Nat) }), poi, Value.slice (some { block := (4 : Nat), off := (0 : Nat) }) (1 : Nat) (1 : Nat), poi, poi, poi, poi, poi, poi, poi, poi, poi, poi, poi, poi, poi, poi, poi, poi, poi, poi, poi, poi, poi, poi, poi, poi, poi, poi, poi, poi, poi, poi, poi, poi, poi, poi, poi, poi] = [Value.func (Fn.yield l) #[] #[], Value.pointer (some { block := (0 : Nat), off := (0 : Nat) }), Value.pointer (some { block := (1 : Nat), off := (0 : Nat) }), poi, Value.slice (some { block := (4 : Nat), off := (0 : Nat) }) (1 : Nat) (1 : Nat), poi, poi, poi, poi, poi, poi, poi, poi, poi, poi, poi, poi, poi, poi, poi, poi, poi, poi, poi, poi, poi, poi, poi, poi, poi, poi, poi, poi, poi, poi, poi, poi, poi, poi, poi, poi] ∧ some (AObj.row [Value.int IntKind.i64 (1 : Int)] (0 : Nat) false false true) :: some (AObj.row [Value.slice (some { block := (2 : Nat), off := (0 : Nat) }) (1 : Nat) a, Value.slice (some { block := (3 : Nat), off := (0 : Nat) }) (1 : Nat) b] (0 : Nat) false false false) :: some (AObj.row e (5 : Nat) false false true) :: some (AObj.row g (4 : Nat) false false true) :: some (AObj.row [Value.int IntKind.i64 (-1 : Int)] (1 : Nat) false true true) :: noH = some (AObj.row [Value.int IntKind.i64 (1 : Int)] (0 : Nat) false false true) :: some (AObj.row [Value.slice (some { block := (2 : Nat), off := (0 : Nat) }) (1 : Nat) a, Value.slice (some { block := (3 : Nat), off := (0 : Nat) }) (1 : Nat) b] (0 : Nat) false false false) :: some (AObj.row e (5 : Nat) false false true) :: some (AObj.row g (4 : Nat) false false true) :: some (AObj.row [Value.int IntKind.i64 (p10 s)] (1 : Nat) false true true) :: noH) ∧ ∀ (s : Nat), Is (s < (2 : Nat)) → Is (s < (2 : Nat)) ∧ l = l ∧ (4 : Nat) = List.length (some (AObj.row [Value.int IntKind.i64 (1 : Int)] (0 : Nat) false false true) :: some (AObj.row [Value.slice (some { block := (2 : Nat), off := (0 : Nat) }) (1 : Nat) a, Value.slice (some { block := (3 : Nat), off := (0 : Nat) }) (1 : Nat) b] (0 : Nat) false false false) :: some (AObj.row e (5 : Nat) false false true) :: some (AObj.row g (4 : Nat) false false true) :: noH) ∧ (1 : Nat) = (1 : Nat) ∧ [Value.int IntKind.i64 (p10 s)] = [Value.int IntKind.i64 (p10 s)] ∧ Is ((0 : Nat) < (1 : Nat) ∧ (0 : Nat) < List.length [Value.int IntKind.i64 (p10 s)]) ∧ br (p10 s == (0 : Int)) (Is (s + (1 : Nat) = (2 : Nat) ∧ (0 : Nat) < (2 : Nat))) (false = false ∧ ∃ (s' : Nat), Is (s' < (2 : Nat)) ∧ Is ((2 : Nat) - s' < (2 : Nat) - s) ∧ Is (s + (1 : Nat) = s') ∧ [Value.func (Fn.yield l) #[] #[], Value.pointer (some { block := (0 : Nat), off := (0 : Nat) }), Value.pointer (some { block := (1 : Nat), off := (0 : Nat) }), poi, Value.slice (some { block := (4 : Nat), off := (0 : Nat) }) (1 : Nat) (1 : Nat), poi, poi, poi, poi, poi, poi, poi, poi, poi, poi, poi, poi, poi, poi, poi, poi, poi, poi, poi, poi, poi, poi, poi, poi, poi, poi, poi, poi, poi, poi, poi, poi, poi, poi, poi, poi] = [Value.func (Fn.yield l) #[] #[], Value.pointer (some { block := (0 : Nat), off := (0 : Nat) }), Value.pointer (some { block := (1 : Nat), off := (0 : Nat) }), poi, Value.slice (some { block := (4 : Nat), off := (0 : Nat) }) (1 : Nat) (1 : Nat), poi, poi, poi, poi, poi, poi, poi, poi, poi, poi, poi, poi, poi, poi, poi, poi, poi, poi, poi, poi, poi, poi, poi, poi, poi, poi, poi, poi, poi, poi, poi, poi, poi, poi, poi, poi] ∧ some (AObj.row [Value.int IntKind.i64 (1 : Int)] (0 : Nat) false false true) :: some (AObj.row [Value.slice (some { block := (2 : Nat), off := (0 : Nat) }) (1 : Nat) a, Value.slice (some { block := (3 : Nat), off := (0 : Nat) }) (1 : Nat) b] (0 : Nat) false false false) :: some (AObj.row e (5 : Nat) false false true) :: some (AObj.row g (4 : Nat) false false true) :: some (AObj.row [Value.int IntKind.i64 (IntKind.wrap IntKind.i64 (p10 s + (1 : Int)))] (1 : Nat) false true (true && List.all [Value.int IntKind.i64 (IntKind.wrap IntKind.i64 (p10 s + (1 : Int)))] atom)) :: noH = some (AObj.row [Value.int IntKind.i64 (1 : Int)] (0 : Nat) false false true) :: some (AObj.row [Value.slice (some { block := (2 : Nat), off := (0 : Nat) }) (1 : Nat) a, Value.slice (some { block := (3 : Nat), off := (0 : Nat) }) (1 : Nat) b] (0 : Nat) false false false) :: some (AObj.row e (5 : Nat) false false true) :: some (AObj.row g (4 : Nat) false false true) :: some (AObj.row [Value.int IntKind.i64 (p10 s')] (1 : Nat) false true true) :: noH) ∧ Is True) := by kernel_rfl
theorem it2_ok (a b : Nat) (e g : List Value) : Le.IterLent Try.prog 64 cpL (hcI 2 2 a 1 b e g true false) 4 2 pl2 := by
  refine iterL_ok hm c0_ok (hs := hs2 a b e g) ?_
  rw [it2_t]
  refine fun l => ⟨⟨by decide, by decide, by decide⟩, ⟨⟨rfl, rfl⟩, (0 : Nat), ⟨by omega⟩, ⟨rfl⟩, by first | trivial | rfl, rfl⟩, fun s hs => ⟨hs, by first | trivial | rfl, rfl, by first | trivial | rfl, by first | trivial | rfl, ⟨by decide, by simp⟩, br_of (fun h => br_of (fun h2 => ?_) (fun h2 => ?_)) (fun h => ?_), ⟨trivial⟩⟩⟩
  · have hs := hs.out
    rw [p20, p21] at *
    have h : ((s % 2 : Nat) : Int) - 1 = 0 := by simpa using h
    have h2 : ((s / 2 : Nat) : Int) - 1 = 0 := by simpa using h2
    exact ⟨by omega, by omega⟩
  · have hs := hs.out
    have h : ((s % 2 : Nat) : Int) - 1 = 0 := by simpa [p21] using h
    have h2 : ¬ ((s / 2 : Nat) : Int) - 1 = 0 := by simpa [p20] using h2
    refine ⟨by first | trivial | rfl, s + 1, ⟨by omega⟩, ⟨by omega⟩, ⟨rfl⟩, by first | trivial | rfl, ?_⟩
    have e1 : IntKind.wrap .i64 (p20 s + 1) = p20 (s + 1) := by rw [p20, p20, wrap_eq (by omega) (by omega)]; omega
    have e2 : p21 (s + 1) = -1 := by rw [p21]; omega
    rw [e1, e2]; rfl
  · have hs := hs.out
    have h : ¬ ((s % 2 : Nat) : Int) - 1 = 0 := by simpa [p21] using h
    refine ⟨by first | trivial | rfl, s + 1, ⟨by omega⟩, ⟨by omega⟩, ⟨rfl⟩, by first | trivial | rfl, ?_⟩
    have e1 : IntKind.wrap .i64 (p21 s + 1) = p21 (s + 1) := by rw [p21, p21, wrap_eq (by omega) (by omega)]; omega
    have e2 : p20 (s + 1) = p20 s := by rw [p20, p20]; omega
    rw [e1, e2]; rfl
theorem it1_ok (a b : Nat) (e g : List Value) : Le.IterLent Try.prog 64 cpL (hcI 1 1 a 1 b e g false false) 2 1 pl1 := by
  refine iterL_ok hm c0_ok (hs := hs1 a b e g) ?_
  rw [it1_t]
  refine fun l => ⟨⟨by decide, by decide, by decide⟩, ⟨⟨rfl, rfl⟩, (0 : Nat), ⟨by omega⟩, ⟨rfl⟩, by first | trivial | rfl, rfl⟩, fun s hs => ⟨hs, by first | trivial | rfl, rfl, by first | trivial | rfl, by first | trivial | rfl, ⟨by decide, by simp⟩, br_of (fun h => ?_) (fun h => ?_), ⟨trivial⟩⟩⟩
  · have hs := hs.out
    have h : (s : Int) - 1 = 0 := by simpa [p10] using h
    exact ⟨by omega, by omega⟩
  · have hs := hs.out
    have h : ¬ (s : Int) - 1 = 0 := by simpa [p10] using h
    refine ⟨by first | trivial | rfl, s + 1, ⟨by omega⟩, ⟨by omega⟩, ⟨rfl⟩, by first | trivial | rfl, ?_⟩
    have e1 : IntKind.wrap .i64 (p10 s + 1) = p10 (s + 1) := by rw [p10, p10, wrap_eq (by omega) (by omega)]; omega
    rw [e1]; rfl
noncomputable def plC2 : Nat → List Value
  | 0 => [.int .i64 (-1), .int .i64 (-1)]
  | 1 => [.int .i64 (-1), .int .i64 0]
  | 2 => [.int .i64 0, .int .i64 (-1)]
  | 3 => [.int .i64 0, .int .i64 0]
  | s => pl2 s
noncomputable def plC1 : Nat → List Value
  | 0 => [.int .i64 (-1)]
  | 1 => [.int .i64 0]
  | s => pl1 s
theorem plC2_eq : plC2 = pl2 := by
  funext s
  match s with
  | 0 => rfl
  | 1 => rfl
  | 2 => rfl
  | 3 => rfl
  | s + 4 => rfl
theorem plC1_eq : plC1 = pl1 := by
  funext s
  match s with
  | 0 => rfl
  | 1 => rfl
  | s + 2 => rfl
noncomputable def itC2 : ItL Try.prog where
  gf := 64
  fn cap H := match cap, H with
    | [.pointer (some ⟨0, 0, none⟩), .pointer (some ⟨1, 0, none⟩)], [some (.row [.int .i64 n] 0 false false true), some (.row [.slice (some ⟨2, 0, none⟩) 2 _, .slice (some ⟨3, 0, none⟩) 1 _] 0 false false false), some (.row _ 5 true false true), some (.row _ 4 false false true)] => some (4, 2, plC2, n = 2)
    | _, _ => none
  ok := by
    intro cap H N len pl vc h hv
    split at h
    · cases h
      cases hv
      rw [plC2_eq]
      exact it2_ok _ _ _ _
    · cases h
noncomputable def itC1 : ItL Try.prog where
  gf := 64
  fn cap H := match cap, H with
    | [.pointer (some ⟨0, 0, none⟩), .pointer (some ⟨1, 0, none⟩)], [some (.row [.int .i64 n] 0 false false true), some (.row [.slice (some ⟨2, 0, none⟩) 1 _, .slice (some ⟨3, 0, none⟩) 1 _] 0 false false false), some (.row _ 5 false false true), some (.row _ 4 false false true)] => some (2, 1, plC1, n = 1)
    | _, _ => none
  ok := by
    intro cap H N len pl vc h hv
    split at h
    · cases h
      cases hv
      rw [plC1_eq]
      exact it1_ok _ _ _ _
    · cases h
end
end Qq
end
section
/- The best plan of two sections and a shift. -/
open Go Go.Vm Go.Proofs Sp
namespace Sp
noncomputable section
noncomputable def btr (a b c d : Int) : Bool := decide (c < a) || (a == c && decide (b < d))
/-- The best plan's value, cost, and shifts. -/
noncomputable def plV (v w : Int) : Int := if w < v then v else if 0 < w then w else 0
noncomputable def plK (v w : Int) : Int := if w < v then 1 else if 0 < w then 1 else 0
noncomputable def plA (v w : Int) : Int := if w < v then 0 else -1
noncomputable def plB (v w : Int) : Int := if w < v then -1 else if 0 < w then 0 else -1
end
end Sp
namespace Qq
noncomputable section
theorem bt_t (a : Int) (b : Int) (c : Int) (d : Int) (K : Value → Heap → Prop) :
    (fnP Try.prog c0 h0 (39 : FuncId) [Value.agg #[Value.int IntKind.i64 a, Value.int IntKind.i64 b], Value.agg #[Value.int IntKind.i64 c, Value.int IntKind.i64 d]] [] K) =
    (br (decide (c < a)) (K (Value.bool true) noH) (br (a == c) (K (Value.bool (decide (b < d))) noH) (K (Value.bool false) noH))) := by kernel_rfl
noncomputable def orcBt : OrcV
  | [.agg ⟨[.int .i64 a, .int .i64 b]⟩, .agg ⟨[.int .i64 c, .int .i64 d]⟩], [] => some (.bool (btr a b c d), [], True)
  | _, _ => none
theorem okBt : OkV Try.prog 39 orcBt := by
  intro args H ret H' vc h hv
  unfold orcBt at h
  split at h
  · rename_i a b c d
    cases h
    refine fnP_res hm c0_ok (hs := h0) ?_
    show fnP Try.prog c0 h0 39 [.agg #[.int .i64 a, .int .i64 b], .agg #[.int .i64 c, .int .i64 d]] [] _
    rw [bt_t, btr]
    refine br_of (fun h => ?_) (fun h => br_of (fun h2 => ?_) (fun h2 => ?_))
    · rw [h]; exact ⟨by first | trivial | rfl, by first | trivial | rfl⟩
    · rw [h, h2]; exact ⟨by first | trivial | rfl, by first | trivial | rfl⟩
    · rw [h, h2]; exact ⟨by first | trivial | rfl, by first | trivial | rfl⟩
  · cases h
noncomputable def hpP (v w : Int) (a b : Nat) (V C p q : Int) (seen : Bool) : Heap := [some (.row (secC v w) 5 true false true), some (.row shfC 4 false false true), some (.row [.slice (some ⟨0, 0, none⟩) 2 a, .slice (some ⟨1, 0, none⟩) 1 b] 0 false true false), some (.row [.int .i64 0, .int .i64 0] 0 false true true),
  some (.row [.int .i64 V, .int .i64 C, .slice (some ⟨5, 0, none⟩) 2 2] 0 false true false), some (.row [.int .i64 p, .int .i64 q] 1 false true true), some (.row [.bool seen] 0 false true true), some (.row [.int .i64 2] 0 false false true), some (.row [.slice (some ⟨0, 0, none⟩) 2 a, .slice (some ⟨1, 0, none⟩) 1 b] 0 false false false)]
noncomputable def hpR (v w : Int) (a b : Nat) : Nat → Heap
  | 0 => hpP v w a b 0 0 0 0 false
  | 1 => hpP v w a b 0 0 (-1) (-1) true
  | 2 => hpP v w a b (plV 0 w) (plK 0 w) (plA 0 w) (plB 0 w) true
  | _ => hpP v w a b (plV v w) (plK v w) (plA v w) (plB v w) true
noncomputable def rlP (v w : Int) (a b : Nat) : Rl Try.prog where
  it := itC2
  k := 9
  E := slots 59 [(1, .pointer (some ⟨2, 0, none⟩)), (3, .pointer (some ⟨3, 0, none⟩)), (6, .pointer (some ⟨4, 0, none⟩)), (7, .pointer (some ⟨6, 0, none⟩)), (25, .func (.func 64) #[] #[.pointer (some ⟨7, 0, none⟩), .pointer (some ⟨8, 0, none⟩)])]
  Hp := hpR v w a b
  conc := true
noncomputable def hsP (v w : Int) (a b : Nat) : Hs Try.prog where
  rl y := if y = 8 then some (rlP v w a b) else none
  cl _ := keep 59 [1, 3, 6, 7, 25]
  sm := true
  au := auCalls [(36, hCa Try.prog 36 orcOf okOf), (39, hCa Try.prog 39 orcBt okBt)]
theorem pn_t (v : Int) (w : Int) (a : Nat) (b : Nat) (K : Value → Heap → Prop) :
    (fnP Try.prog c0 (hsP v w a b) (15 : FuncId) [offA (0 : Nat) (1 : Nat) a b] [some (AObj.row (secC v w) (5 : Nat) true false true), some (AObj.row shfC (4 : Nat) false false true)] K) =
    (Is (offOk [Value.string { data := #[(97 : UInt8)] }, Value.int IntKind.i64 (5 : Int), Value.int IntKind.i64 (1 : Int), Value.int IntKind.i64 (0 : Int), Value.int IntKind.i64 v, Value.string { data := #[(98 : UInt8)] }, Value.int IntKind.i64 (5 : Int), Value.int IntKind.i64 (1 : Int), Value.int IntKind.i64 (0 : Int), Value.int IntKind.i64 w] [Value.int IntKind.i64 (3 : Int), Value.int IntKind.i64 (1 : Int), Value.int IntKind.i64 (0 : Int), Value.int IntKind.i64 (1 : Int)]) ∧ [poi, Value.pointer (some { block := (2 : Nat), off := (0 : Nat) }), poi, Value.pointer (some { block := (3 : Nat), off := (0 : Nat) }), poi, poi, Value.pointer (some { block := (4 : Nat), off := (0 : Nat) }), Value.pointer (some { block := (6 : Nat), off := (0 : Nat) }), poi, poi, poi, poi, poi, poi, poi, poi, poi, poi, poi, poi, poi, poi, poi, poi, poi, Value.func (Fn.func (64 : Nat)) #[] #[Value.pointer (some { block := (7 : Nat), off := (0 : Nat) }), Value.pointer (some { block := (8 : Nat), off := (0 : Nat) })], poi, poi, poi, poi, poi, poi, poi, poi, poi, poi, poi, poi, poi, poi, poi, poi, poi, poi, poi, poi, poi, poi, poi, poi, poi, poi, poi, poi, poi, poi, poi, poi, poi] = [poi, Value.pointer (some { block := (2 : Nat), off := (0 : Nat) }), poi, Value.pointer (some { block := (3 : Nat), off := (0 : Nat) }), poi, poi, Value.pointer (some { block := (4 : Nat), off := (0 : Nat) }), Value.pointer (some { block := (6 : Nat), off := (0 : Nat) }), poi, poi, poi, poi, poi, poi, poi, poi, poi, poi, poi, poi, poi, poi, poi, poi, poi, Value.func (Fn.func (64 : Nat)) #[] #[Value.pointer (some { block := (7 : Nat), off := (0 : Nat) }), Value.pointer (some { block := (8 : Nat), off := (0 : Nat) })], poi, poi, poi, poi, poi, poi, poi, poi, poi, poi, poi, poi, poi, poi, poi, poi, poi, poi, poi, poi, poi, poi, poi, poi, poi, poi, poi, poi, poi, poi, poi, poi, poi] ∧ some (AObj.row [Value.string { data := #[(97 : UInt8)] }, Value.int IntKind.i64 (5 : Int), Value.int IntKind.i64 (1 : Int), Value.int IntKind.i64 (0 : Int), Value.int IntKind.i64 v, Value.string { data := #[(98 : UInt8)] }, Value.int IntKind.i64 (5 : Int), Value.int IntKind.i64 (1 : Int), Value.int IntKind.i64 (0 : Int), Value.int IntKind.i64 w] (5 : Nat) true false true) :: some (AObj.row [Value.int IntKind.i64 (3 : Int), Value.int IntKind.i64 (1 : Int), Value.int IntKind.i64 (0 : Int), Value.int IntKind.i64 (1 : Int)] (4 : Nat) false false true) :: some (AObj.row [Value.slice (some { block := (0 : Nat), off := (0 : Nat) }) (2 : Nat) a, Value.slice (some { block := (1 : Nat), off := (0 : Nat) }) (1 : Nat) b] (0 : Nat) false true (List.all [Value.slice (some { block := (0 : Nat), off := (0 : Nat) }) (2 : Nat) a, Value.slice (some { block := (1 : Nat), off := (0 : Nat) }) (1 : Nat) b] atom)) :: some (AObj.row [Value.int IntKind.i64 (0 : Int), Value.int IntKind.i64 (0 : Int)] (0 : Nat) false true true) :: some (AObj.row [Value.int IntKind.i64 (0 : Int), Value.int IntKind.i64 (0 : Int), Value.slice (some { block := (5 : Nat), off := (0 : Nat) }) (2 : Nat) (2 : Nat)] (0 : Nat) false true (true && List.all [Value.int IntKind.i64 (0 : Int), Value.int IntKind.i64 (0 : Int), Value.slice (some { block := List.length (some (AObj.row [Value.string { data := #[(97 : UInt8)] }, Value.int IntKind.i64 (5 : Int), Value.int IntKind.i64 (1 : Int), Value.int IntKind.i64 (0 : Int), Value.int IntKind.i64 v, Value.string { data := #[(98 : UInt8)] }, Value.int IntKind.i64 (5 : Int), Value.int IntKind.i64 (1 : Int), Value.int IntKind.i64 (0 : Int), Value.int IntKind.i64 w] (5 : Nat) true false true) :: some (AObj.row [Value.int IntKind.i64 (3 : Int), Value.int IntKind.i64 (1 : Int), Value.int IntKind.i64 (0 : Int), Value.int IntKind.i64 (1 : Int)] (4 : Nat) false false true) :: some (AObj.row [Value.slice (some { block := (0 : Nat), off := (0 : Nat) }) (2 : Nat) a, Value.slice (some { block := (1 : Nat), off := (0 : Nat) }) (1 : Nat) b] (0 : Nat) false true (List.all [Value.slice (some { block := (0 : Nat), off := (0 : Nat) }) (2 : Nat) a, Value.slice (some { block := (1 : Nat), off := (0 : Nat) }) (1 : Nat) b] atom)) :: some (AObj.row [Value.int IntKind.i64 (0 : Int), Value.int IntKind.i64 (0 : Int)] (0 : Nat) false true true) :: noH), off := (0 : Nat) }) (2 : Nat) (2 : Nat)] atom)) :: some (AObj.row [Value.int IntKind.i64 (0 : Int), Value.int IntKind.i64 (0 : Int)] (1 : Nat) false true true) :: some (AObj.row [Value.bool false] (0 : Nat) false true (true && List.all [Value.bool false] atom)) :: some (AObj.row [Value.int IntKind.i64 (2 : Int)] (0 : Nat) false false (List.all [Value.int IntKind.i64 (2 : Int)] atom)) :: some (AObj.row [Value.slice (some { block := (0 : Nat), off := (0 : Nat) }) (2 : Nat) a, Value.slice (some { block := (1 : Nat), off := (0 : Nat) }) (1 : Nat) b] (0 : Nat) false false (List.all [Value.slice (some { block := (0 : Nat), off := (0 : Nat) }) (2 : Nat) a, Value.slice (some { block := (1 : Nat), off := (0 : Nat) }) (1 : Nat) b] atom)) :: noH = some (AObj.row [Value.string { data := #[(97 : UInt8)] }, Value.int IntKind.i64 (5 : Int), Value.int IntKind.i64 (1 : Int), Value.int IntKind.i64 (0 : Int), Value.int IntKind.i64 v, Value.string { data := #[(98 : UInt8)] }, Value.int IntKind.i64 (5 : Int), Value.int IntKind.i64 (1 : Int), Value.int IntKind.i64 (0 : Int), Value.int IntKind.i64 w] (5 : Nat) true false true) :: some (AObj.row [Value.int IntKind.i64 (3 : Int), Value.int IntKind.i64 (1 : Int), Value.int IntKind.i64 (0 : Int), Value.int IntKind.i64 (1 : Int)] (4 : Nat) false false true) :: some (AObj.row [Value.slice (some { block := (0 : Nat), off := (0 : Nat) }) (2 : Nat) a, Value.slice (some { block := (1 : Nat), off := (0 : Nat) }) (1 : Nat) b] (0 : Nat) false true false) :: some (AObj.row [Value.int IntKind.i64 (0 : Int), Value.int IntKind.i64 (0 : Int)] (0 : Nat) false true true) :: some (AObj.row [Value.int IntKind.i64 (0 : Int), Value.int IntKind.i64 (0 : Int), Value.slice (some { block := (5 : Nat), off := (0 : Nat) }) (2 : Nat) (2 : Nat)] (0 : Nat) false true false) :: some (AObj.row [Value.int IntKind.i64 (0 : Int), Value.int IntKind.i64 (0 : Int)] (1 : Nat) false true true) :: some (AObj.row [Value.bool false] (0 : Nat) false true true) :: some (AObj.row [Value.int IntKind.i64 (2 : Int)] (0 : Nat) false false true) :: some (AObj.row [Value.slice (some { block := (0 : Nat), off := (0 : Nat) }) (2 : Nat) a, Value.slice (some { block := (1 : Nat), off := (0 : Nat) }) (1 : Nat) b] (0 : Nat) false false false) :: noH ∧ [poi, Value.pointer (some { block := (2 : Nat), off := (0 : Nat) }), poi, Value.pointer (some { block := (3 : Nat), off := (0 : Nat) }), poi, poi, Value.pointer (some { block := (4 : Nat), off := (0 : Nat) }), Value.pointer (some { block := (6 : Nat), off := (0 : Nat) }), poi, poi, poi, poi, poi, poi, poi, poi, poi, poi, poi, poi, poi, poi, poi, poi, poi, Value.func (Fn.func (64 : Nat)) #[] #[Value.pointer (some { block := (7 : Nat), off := (0 : Nat) }), Value.pointer (some { block := (8 : Nat), off := (0 : Nat) })], poi, poi, poi, poi, poi, poi, poi, poi, poi, poi, poi, poi, poi, poi, poi, poi, poi, poi, poi, poi, poi, poi, poi, poi, poi, poi, poi, poi, poi, poi, poi, poi, poi] = [poi, Value.pointer (some { block := (2 : Nat), off := (0 : Nat) }), poi, Value.pointer (some { block := (3 : Nat), off := (0 : Nat) }), poi, poi, Value.pointer (some { block := (4 : Nat), off := (0 : Nat) }), Value.pointer (some { block := (6 : Nat), off := (0 : Nat) }), poi, poi, poi, poi, poi, poi, poi, poi, poi, poi, poi, poi, poi, poi, poi, poi, poi, Value.func (Fn.func (64 : Nat)) #[] #[Value.pointer (some { block := (7 : Nat), off := (0 : Nat) }), Value.pointer (some { block := (8 : Nat), off := (0 : Nat) })], poi, poi, poi, poi, poi, poi, poi, poi, poi, poi, poi, poi, poi, poi, poi, poi, poi, poi, poi, poi, poi, poi, poi, poi, poi, poi, poi, poi, poi, poi, poi, poi, poi] ∧ Is ((2 : Int) = (2 : Int)) ∧ Is True ∧ ((((True ∧ (Is True → (Nat.blt (0 : Nat) (9 : Nat) = true ∧ some (AObj.row [Value.string { data := #[(97 : UInt8)] }, Value.int IntKind.i64 (5 : Int), Value.int IntKind.i64 (1 : Int), Value.int IntKind.i64 (0 : Int), Value.int IntKind.i64 v, Value.string { data := #[(98 : UInt8)] }, Value.int IntKind.i64 (5 : Int), Value.int IntKind.i64 (1 : Int), Value.int IntKind.i64 (0 : Int), Value.int IntKind.i64 w] (5 : Nat) true false true) = some (AObj.row [Value.string { data := #[(97 : UInt8)] }, Value.int IntKind.i64 (5 : Int), Value.int IntKind.i64 (1 : Int), Value.int IntKind.i64 (0 : Int), Value.int IntKind.i64 v, Value.string { data := #[(98 : UInt8)] }, Value.int IntKind.i64 (5 : Int), Value.int IntKind.i64 (1 : Int), Value.int IntKind.i64 (0 : Int), Value.int IntKind.i64 w] (5 : Nat) true false true) ∧ Nat.blt (1 : Nat) (9 : Nat) = true ∧ some (AObj.row [Value.int IntKind.i64 (3 : Int), Value.int IntKind.i64 (1 : Int), Value.int IntKind.i64 (0 : Int), Value.int IntKind.i64 (1 : Int)] (4 : Nat) false false true) = some (AObj.row [Value.int IntKind.i64 (3 : Int), Value.int IntKind.i64 (1 : Int), Value.int IntKind.i64 (0 : Int), Value.int IntKind.i64 (1 : Int)] (4 : Nat) false false true) ∧ Nat.blt (7 : Nat) (9 : Nat) = true ∧ some (AObj.row [Value.int IntKind.i64 (2 : Int)] (0 : Nat) false false true) = some (AObj.row [Value.int IntKind.i64 (2 : Int)] (0 : Nat) false false true) ∧ Nat.blt (8 : Nat) (9 : Nat) = true ∧ some (AObj.row [Value.slice (some { block := (0 : Nat), off := (0 : Nat) }) (2 : Nat) a, Value.slice (some { block := (1 : Nat), off := (0 : Nat) }) (1 : Nat) b] (0 : Nat) false false false) = some (AObj.row [Value.slice (some { block := (0 : Nat), off := (0 : Nat) }) (2 : Nat) a, Value.slice (some { block := (1 : Nat), off := (0 : Nat) }) (1 : Nat) b] (0 : Nat) false false false) ∧ True) ∧ some (AObj.row [Value.string { data := #[(97 : UInt8)] }, Value.int IntKind.i64 (5 : Int), Value.int IntKind.i64 (1 : Int), Value.int IntKind.i64 (0 : Int), Value.int IntKind.i64 v, Value.string { data := #[(98 : UInt8)] }, Value.int IntKind.i64 (5 : Int), Value.int IntKind.i64 (1 : Int), Value.int IntKind.i64 (0 : Int), Value.int IntKind.i64 w] (5 : Nat) true false true) :: some (AObj.row [Value.int IntKind.i64 (3 : Int), Value.int IntKind.i64 (1 : Int), Value.int IntKind.i64 (0 : Int), Value.int IntKind.i64 (1 : Int)] (4 : Nat) false false true) :: some (AObj.row [Value.slice (some { block := (0 : Nat), off := (0 : Nat) }) (2 : Nat) a, Value.slice (some { block := (1 : Nat), off := (0 : Nat) }) (1 : Nat) b] (0 : Nat) false true false) :: some (AObj.row [Value.int IntKind.i64 (0 : Int), Value.int IntKind.i64 (0 : Int)] (0 : Nat) false true true) :: some (AObj.row [Value.int IntKind.i64 (0 : Int), Value.int IntKind.i64 (0 : Int), Value.slice (some { block := (5 : Nat), off := (0 : Nat) }) (2 : Nat) (2 : Nat)] (0 : Nat) false true (false && List.all [Value.int IntKind.i64 (0 : Int), Value.int IntKind.i64 (0 : Int)] atom)) :: some (AObj.row [Value.int IntKind.i64 (-1 : Int), Value.int IntKind.i64 (-1 : Int)] (1 : Nat) false true true) :: some (AObj.row [Value.bool true] (0 : Nat) false true (true && List.all [Value.bool true] atom)) :: some (AObj.row [Value.int IntKind.i64 (2 : Int)] (0 : Nat) false false true) :: some (AObj.row [Value.slice (some { block := (0 : Nat), off := (0 : Nat) }) (2 : Nat) a, Value.slice (some { block := (1 : Nat), off := (0 : Nat) }) (1 : Nat) b] (0 : Nat) false false false) :: noH = some (AObj.row [Value.string { data := #[(97 : UInt8)] }, Value.int IntKind.i64 (5 : Int), Value.int IntKind.i64 (1 : Int), Value.int IntKind.i64 (0 : Int), Value.int IntKind.i64 v, Value.string { data := #[(98 : UInt8)] }, Value.int IntKind.i64 (5 : Int), Value.int IntKind.i64 (1 : Int), Value.int IntKind.i64 (0 : Int), Value.int IntKind.i64 w] (5 : Nat) true false true) :: some (AObj.row [Value.int IntKind.i64 (3 : Int), Value.int IntKind.i64 (1 : Int), Value.int IntKind.i64 (0 : Int), Value.int IntKind.i64 (1 : Int)] (4 : Nat) false false true) :: some (AObj.row [Value.slice (some { block := (0 : Nat), off := (0 : Nat) }) (2 : Nat) a, Value.slice (some { block := (1 : Nat), off := (0 : Nat) }) (1 : Nat) b] (0 : Nat) false true false) :: some (AObj.row [Value.int IntKind.i64 (0 : Int), Value.int IntKind.i64 (0 : Int)] (0 : Nat) false true true) :: some (AObj.row [Value.int IntKind.i64 (0 : Int), Value.int IntKind.i64 (0 : Int), Value.slice (some { block := (5 : Nat), off := (0 : Nat) }) (2 : Nat) (2 : Nat)] (0 : Nat) false true false) :: some (AObj.row [Value.int IntKind.i64 (-1 : Int), Value.int IntKind.i64 (-1 : Int)] (1 : Nat) false true true) :: some (AObj.row [Value.bool true] (0 : Nat) false true true) :: some (AObj.row [Value.int IntKind.i64 (2 : Int)] (0 : Nat) false false true) :: some (AObj.row [Value.slice (some { block := (0 : Nat), off := (0 : Nat) }) (2 : Nat) a, Value.slice (some { block := (1 : Nat), off := (0 : Nat) }) (1 : Nat) b] (0 : Nat) false false false) :: noH ∧ Is True)) ∧ (Is True → (Nat.blt (0 : Nat) (9 : Nat) = true ∧ some (AObj.row [Value.string { data := #[(97 : UInt8)] }, Value.int IntKind.i64 (5 : Int), Value.int IntKind.i64 (1 : Int), Value.int IntKind.i64 (0 : Int), Value.int IntKind.i64 v, Value.string { data := #[(98 : UInt8)] }, Value.int IntKind.i64 (5 : Int), Value.int IntKind.i64 (1 : Int), Value.int IntKind.i64 (0 : Int), Value.int IntKind.i64 w] (5 : Nat) true false true) = some (AObj.row [Value.string { data := #[(97 : UInt8)] }, Value.int IntKind.i64 (5 : Int), Value.int IntKind.i64 (1 : Int), Value.int IntKind.i64 (0 : Int), Value.int IntKind.i64 v, Value.string { data := #[(98 : UInt8)] }, Value.int IntKind.i64 (5 : Int), Value.int IntKind.i64 (1 : Int), Value.int IntKind.i64 (0 : Int), Value.int IntKind.i64 w] (5 : Nat) true false true) ∧ Nat.blt (1 : Nat) (9 : Nat) = true ∧ some (AObj.row [Value.int IntKind.i64 (3 : Int), Value.int IntKind.i64 (1 : Int), Value.int IntKind.i64 (0 : Int), Value.int IntKind.i64 (1 : Int)] (4 : Nat) false false true) = some (AObj.row [Value.int IntKind.i64 (3 : Int), Value.int IntKind.i64 (1 : Int), Value.int IntKind.i64 (0 : Int), Value.int IntKind.i64 (1 : Int)] (4 : Nat) false false true) ∧ Nat.blt (7 : Nat) (9 : Nat) = true ∧ some (AObj.row [Value.int IntKind.i64 (2 : Int)] (0 : Nat) false false true) = some (AObj.row [Value.int IntKind.i64 (2 : Int)] (0 : Nat) false false true) ∧ Nat.blt (8 : Nat) (9 : Nat) = true ∧ some (AObj.row [Value.slice (some { block := (0 : Nat), off := (0 : Nat) }) (2 : Nat) a, Value.slice (some { block := (1 : Nat), off := (0 : Nat) }) (1 : Nat) b] (0 : Nat) false false false) = some (AObj.row [Value.slice (some { block := (0 : Nat), off := (0 : Nat) }) (2 : Nat) a, Value.slice (some { block := (1 : Nat), off := (0 : Nat) }) (1 : Nat) b] (0 : Nat) false false false) ∧ True) ∧ Is True ∧ br (!btr (IntKind.wrap IntKind.i64 ((0 : Int) + w)) (1 : Int) (0 : Int) (0 : Int)) (some (AObj.row [Value.string { data := #[(97 : UInt8)] }, Value.int IntKind.i64 (5 : Int), Value.int IntKind.i64 (1 : Int), Value.int IntKind.i64 (0 : Int), Value.int IntKind.i64 v, Value.string { data := #[(98 : UInt8)] }, Value.int IntKind.i64 (5 : Int), Value.int IntKind.i64 (1 : Int), Value.int IntKind.i64 (0 : Int), Value.int IntKind.i64 w] (5 : Nat) true false true) :: some (AObj.row [Value.int IntKind.i64 (3 : Int), Value.int IntKind.i64 (1 : Int), Value.int IntKind.i64 (0 : Int), Value.int IntKind.i64 (1 : Int)] (4 : Nat) false false true) :: some (AObj.row [Value.slice (some { block := (0 : Nat), off := (0 : Nat) }) (2 : Nat) a, Value.slice (some { block := (1 : Nat), off := (0 : Nat) }) (1 : Nat) b] (0 : Nat) false true false) :: some (AObj.row [Value.int IntKind.i64 (0 : Int), Value.int IntKind.i64 (0 : Int)] (0 : Nat) false true true) :: some (AObj.row [Value.int IntKind.i64 (0 : Int), Value.int IntKind.i64 (0 : Int), Value.slice (some { block := (5 : Nat), off := (0 : Nat) }) (2 : Nat) (2 : Nat)] (0 : Nat) false true false) :: some (AObj.row [Value.int IntKind.i64 (-1 : Int), Value.int IntKind.i64 (-1 : Int)] (1 : Nat) false true true) :: some (AObj.row [Value.bool true] (0 : Nat) false true true) :: some (AObj.row [Value.int IntKind.i64 (2 : Int)] (0 : Nat) false false true) :: some (AObj.row [Value.slice (some { block := (0 : Nat), off := (0 : Nat) }) (2 : Nat) a, Value.slice (some { block := (1 : Nat), off := (0 : Nat) }) (1 : Nat) b] (0 : Nat) false false false) :: noH = some (AObj.row [Value.string { data := #[(97 : UInt8)] }, Value.int IntKind.i64 (5 : Int), Value.int IntKind.i64 (1 : Int), Value.int IntKind.i64 (0 : Int), Value.int IntKind.i64 v, Value.string { data := #[(98 : UInt8)] }, Value.int IntKind.i64 (5 : Int), Value.int IntKind.i64 (1 : Int), Value.int IntKind.i64 (0 : Int), Value.int IntKind.i64 w] (5 : Nat) true false true) :: some (AObj.row [Value.int IntKind.i64 (3 : Int), Value.int IntKind.i64 (1 : Int), Value.int IntKind.i64 (0 : Int), Value.int IntKind.i64 (1 : Int)] (4 : Nat) false false true) :: some (AObj.row [Value.slice (some { block := (0 : Nat), off := (0 : Nat) }) (2 : Nat) a, Value.slice (some { block := (1 : Nat), off := (0 : Nat) }) (1 : Nat) b] (0 : Nat) false true false) :: some (AObj.row [Value.int IntKind.i64 (0 : Int), Value.int IntKind.i64 (0 : Int)] (0 : Nat) false true true) :: some (AObj.row [Value.int IntKind.i64 (plV (0 : Int) w), Value.int IntKind.i64 (plK (0 : Int) w), Value.slice (some { block := (5 : Nat), off := (0 : Nat) }) (2 : Nat) (2 : Nat)] (0 : Nat) false true false) :: some (AObj.row [Value.int IntKind.i64 (plA (0 : Int) w), Value.int IntKind.i64 (plB (0 : Int) w)] (1 : Nat) false true true) :: some (AObj.row [Value.bool true] (0 : Nat) false true true) :: some (AObj.row [Value.int IntKind.i64 (2 : Int)] (0 : Nat) false false true) :: some (AObj.row [Value.slice (some { block := (0 : Nat), off := (0 : Nat) }) (2 : Nat) a, Value.slice (some { block := (1 : Nat), off := (0 : Nat) }) (1 : Nat) b] (0 : Nat) false false false) :: noH ∧ Is True) (some (AObj.row [Value.string { data := #[(97 : UInt8)] }, Value.int IntKind.i64 (5 : Int), Value.int IntKind.i64 (1 : Int), Value.int IntKind.i64 (0 : Int), Value.int IntKind.i64 v, Value.string { data := #[(98 : UInt8)] }, Value.int IntKind.i64 (5 : Int), Value.int IntKind.i64 (1 : Int), Value.int IntKind.i64 (0 : Int), Value.int IntKind.i64 w] (5 : Nat) true false true) :: some (AObj.row [Value.int IntKind.i64 (3 : Int), Value.int IntKind.i64 (1 : Int), Value.int IntKind.i64 (0 : Int), Value.int IntKind.i64 (1 : Int)] (4 : Nat) false false true) :: some (AObj.row [Value.slice (some { block := (0 : Nat), off := (0 : Nat) }) (2 : Nat) a, Value.slice (some { block := (1 : Nat), off := (0 : Nat) }) (1 : Nat) b] (0 : Nat) false true false) :: some (AObj.row [Value.int IntKind.i64 (0 : Int), Value.int IntKind.i64 (0 : Int)] (0 : Nat) false true true) :: some (AObj.row [Value.int IntKind.i64 (IntKind.wrap IntKind.i64 ((0 : Int) + w)), Value.int IntKind.i64 (1 : Int), Value.slice (some { block := (5 : Nat), off := (0 : Nat) }) (2 : Nat) (2 : Nat)] (0 : Nat) false true (false && List.all [Value.int IntKind.i64 (IntKind.wrap IntKind.i64 ((0 : Int) + w)), Value.int IntKind.i64 (1 : Int)] atom)) :: some (AObj.row [Value.int IntKind.i64 (-1 : Int), Value.int IntKind.i64 (0 : Int)] (1 : Nat) false true true) :: some (AObj.row [Value.bool true] (0 : Nat) false true (true && List.all [Value.bool true] atom)) :: some (AObj.row [Value.int IntKind.i64 (2 : Int)] (0 : Nat) false false true) :: some (AObj.row [Value.slice (some { block := (0 : Nat), off := (0 : Nat) }) (2 : Nat) a, Value.slice (some { block := (1 : Nat), off := (0 : Nat) }) (1 : Nat) b] (0 : Nat) false false false) :: noH = some (AObj.row [Value.string { data := #[(97 : UInt8)] }, Value.int IntKind.i64 (5 : Int), Value.int IntKind.i64 (1 : Int), Value.int IntKind.i64 (0 : Int), Value.int IntKind.i64 v, Value.string { data := #[(98 : UInt8)] }, Value.int IntKind.i64 (5 : Int), Value.int IntKind.i64 (1 : Int), Value.int IntKind.i64 (0 : Int), Value.int IntKind.i64 w] (5 : Nat) true false true) :: some (AObj.row [Value.int IntKind.i64 (3 : Int), Value.int IntKind.i64 (1 : Int), Value.int IntKind.i64 (0 : Int), Value.int IntKind.i64 (1 : Int)] (4 : Nat) false false true) :: some (AObj.row [Value.slice (some { block := (0 : Nat), off := (0 : Nat) }) (2 : Nat) a, Value.slice (some { block := (1 : Nat), off := (0 : Nat) }) (1 : Nat) b] (0 : Nat) false true false) :: some (AObj.row [Value.int IntKind.i64 (0 : Int), Value.int IntKind.i64 (0 : Int)] (0 : Nat) false true true) :: some (AObj.row [Value.int IntKind.i64 (plV (0 : Int) w), Value.int IntKind.i64 (plK (0 : Int) w), Value.slice (some { block := (5 : Nat), off := (0 : Nat) }) (2 : Nat) (2 : Nat)] (0 : Nat) false true false) :: some (AObj.row [Value.int IntKind.i64 (plA (0 : Int) w), Value.int IntKind.i64 (plB (0 : Int) w)] (1 : Nat) false true true) :: some (AObj.row [Value.bool true] (0 : Nat) false true true) :: some (AObj.row [Value.int IntKind.i64 (2 : Int)] (0 : Nat) false false true) :: some (AObj.row [Value.slice (some { block := (0 : Nat), off := (0 : Nat) }) (2 : Nat) a, Value.slice (some { block := (1 : Nat), off := (0 : Nat) }) (1 : Nat) b] (0 : Nat) false false false) :: noH ∧ Is True))) ∧ (Is True → (Nat.blt (0 : Nat) (9 : Nat) = true ∧ some (AObj.row [Value.string { data := #[(97 : UInt8)] }, Value.int IntKind.i64 (5 : Int), Value.int IntKind.i64 (1 : Int), Value.int IntKind.i64 (0 : Int), Value.int IntKind.i64 v, Value.string { data := #[(98 : UInt8)] }, Value.int IntKind.i64 (5 : Int), Value.int IntKind.i64 (1 : Int), Value.int IntKind.i64 (0 : Int), Value.int IntKind.i64 w] (5 : Nat) true false true) = some (AObj.row [Value.string { data := #[(97 : UInt8)] }, Value.int IntKind.i64 (5 : Int), Value.int IntKind.i64 (1 : Int), Value.int IntKind.i64 (0 : Int), Value.int IntKind.i64 v, Value.string { data := #[(98 : UInt8)] }, Value.int IntKind.i64 (5 : Int), Value.int IntKind.i64 (1 : Int), Value.int IntKind.i64 (0 : Int), Value.int IntKind.i64 w] (5 : Nat) true false true) ∧ Nat.blt (1 : Nat) (9 : Nat) = true ∧ some (AObj.row [Value.int IntKind.i64 (3 : Int), Value.int IntKind.i64 (1 : Int), Value.int IntKind.i64 (0 : Int), Value.int IntKind.i64 (1 : Int)] (4 : Nat) false false true) = some (AObj.row [Value.int IntKind.i64 (3 : Int), Value.int IntKind.i64 (1 : Int), Value.int IntKind.i64 (0 : Int), Value.int IntKind.i64 (1 : Int)] (4 : Nat) false false true) ∧ Nat.blt (7 : Nat) (9 : Nat) = true ∧ some (AObj.row [Value.int IntKind.i64 (2 : Int)] (0 : Nat) false false true) = some (AObj.row [Value.int IntKind.i64 (2 : Int)] (0 : Nat) false false true) ∧ Nat.blt (8 : Nat) (9 : Nat) = true ∧ some (AObj.row [Value.slice (some { block := (0 : Nat), off := (0 : Nat) }) (2 : Nat) a, Value.slice (some { block := (1 : Nat), off := (0 : Nat) }) (1 : Nat) b] (0 : Nat) false false false) = some (AObj.row [Value.slice (some { block := (0 : Nat), off := (0 : Nat) }) (2 : Nat) a, Value.slice (some { block := (1 : Nat), off := (0 : Nat) }) (1 : Nat) b] (0 : Nat) false false false) ∧ True) ∧ Is True ∧ br (!btr (IntKind.wrap IntKind.i64 ((0 : Int) + v)) (1 : Int) (plV (0 : Int) w) (plK (0 : Int) w)) (some (AObj.row [Value.string { data := #[(97 : UInt8)] }, Value.int IntKind.i64 (5 : Int), Value.int IntKind.i64 (1 : Int), Value.int IntKind.i64 (0 : Int), Value.int IntKind.i64 v, Value.string { data := #[(98 : UInt8)] }, Value.int IntKind.i64 (5 : Int), Value.int IntKind.i64 (1 : Int), Value.int IntKind.i64 (0 : Int), Value.int IntKind.i64 w] (5 : Nat) true false true) :: some (AObj.row [Value.int IntKind.i64 (3 : Int), Value.int IntKind.i64 (1 : Int), Value.int IntKind.i64 (0 : Int), Value.int IntKind.i64 (1 : Int)] (4 : Nat) false false true) :: some (AObj.row [Value.slice (some { block := (0 : Nat), off := (0 : Nat) }) (2 : Nat) a, Value.slice (some { block := (1 : Nat), off := (0 : Nat) }) (1 : Nat) b] (0 : Nat) false true false) :: some (AObj.row [Value.int IntKind.i64 (0 : Int), Value.int IntKind.i64 (0 : Int)] (0 : Nat) false true true) :: some (AObj.row [Value.int IntKind.i64 (plV (0 : Int) w), Value.int IntKind.i64 (plK (0 : Int) w), Value.slice (some { block := (5 : Nat), off := (0 : Nat) }) (2 : Nat) (2 : Nat)] (0 : Nat) false true false) :: some (AObj.row [Value.int IntKind.i64 (plA (0 : Int) w), Value.int IntKind.i64 (plB (0 : Int) w)] (1 : Nat) false true true) :: some (AObj.row [Value.bool true] (0 : Nat) false true true) :: some (AObj.row [Value.int IntKind.i64 (2 : Int)] (0 : Nat) false false true) :: some (AObj.row [Value.slice (some { block := (0 : Nat), off := (0 : Nat) }) (2 : Nat) a, Value.slice (some { block := (1 : Nat), off := (0 : Nat) }) (1 : Nat) b] (0 : Nat) false false false) :: noH = some (AObj.row [Value.string { data := #[(97 : UInt8)] }, Value.int IntKind.i64 (5 : Int), Value.int IntKind.i64 (1 : Int), Value.int IntKind.i64 (0 : Int), Value.int IntKind.i64 v, Value.string { data := #[(98 : UInt8)] }, Value.int IntKind.i64 (5 : Int), Value.int IntKind.i64 (1 : Int), Value.int IntKind.i64 (0 : Int), Value.int IntKind.i64 w] (5 : Nat) true false true) :: some (AObj.row [Value.int IntKind.i64 (3 : Int), Value.int IntKind.i64 (1 : Int), Value.int IntKind.i64 (0 : Int), Value.int IntKind.i64 (1 : Int)] (4 : Nat) false false true) :: some (AObj.row [Value.slice (some { block := (0 : Nat), off := (0 : Nat) }) (2 : Nat) a, Value.slice (some { block := (1 : Nat), off := (0 : Nat) }) (1 : Nat) b] (0 : Nat) false true false) :: some (AObj.row [Value.int IntKind.i64 (0 : Int), Value.int IntKind.i64 (0 : Int)] (0 : Nat) false true true) :: some (AObj.row [Value.int IntKind.i64 (plV v w), Value.int IntKind.i64 (plK v w), Value.slice (some { block := (5 : Nat), off := (0 : Nat) }) (2 : Nat) (2 : Nat)] (0 : Nat) false true false) :: some (AObj.row [Value.int IntKind.i64 (plA v w), Value.int IntKind.i64 (plB v w)] (1 : Nat) false true true) :: some (AObj.row [Value.bool true] (0 : Nat) false true true) :: some (AObj.row [Value.int IntKind.i64 (2 : Int)] (0 : Nat) false false true) :: some (AObj.row [Value.slice (some { block := (0 : Nat), off := (0 : Nat) }) (2 : Nat) a, Value.slice (some { block := (1 : Nat), off := (0 : Nat) }) (1 : Nat) b] (0 : Nat) false false false) :: noH ∧ Is True) (some (AObj.row [Value.string { data := #[(97 : UInt8)] }, Value.int IntKind.i64 (5 : Int), Value.int IntKind.i64 (1 : Int), Value.int IntKind.i64 (0 : Int), Value.int IntKind.i64 v, Value.string { data := #[(98 : UInt8)] }, Value.int IntKind.i64 (5 : Int), Value.int IntKind.i64 (1 : Int), Value.int IntKind.i64 (0 : Int), Value.int IntKind.i64 w] (5 : Nat) true false true) :: some (AObj.row [Value.int IntKind.i64 (3 : Int), Value.int IntKind.i64 (1 : Int), Value.int IntKind.i64 (0 : Int), Value.int IntKind.i64 (1 : Int)] (4 : Nat) false false true) :: some (AObj.row [Value.slice (some { block := (0 : Nat), off := (0 : Nat) }) (2 : Nat) a, Value.slice (some { block := (1 : Nat), off := (0 : Nat) }) (1 : Nat) b] (0 : Nat) false true false) :: some (AObj.row [Value.int IntKind.i64 (0 : Int), Value.int IntKind.i64 (0 : Int)] (0 : Nat) false true true) :: some (AObj.row [Value.int IntKind.i64 (IntKind.wrap IntKind.i64 ((0 : Int) + v)), Value.int IntKind.i64 (1 : Int), Value.slice (some { block := (5 : Nat), off := (0 : Nat) }) (2 : Nat) (2 : Nat)] (0 : Nat) false true (false && List.all [Value.int IntKind.i64 (IntKind.wrap IntKind.i64 ((0 : Int) + v)), Value.int IntKind.i64 (1 : Int)] atom)) :: some (AObj.row [Value.int IntKind.i64 (0 : Int), Value.int IntKind.i64 (-1 : Int)] (1 : Nat) false true true) :: some (AObj.row [Value.bool true] (0 : Nat) false true (true && List.all [Value.bool true] atom)) :: some (AObj.row [Value.int IntKind.i64 (2 : Int)] (0 : Nat) false false true) :: some (AObj.row [Value.slice (some { block := (0 : Nat), off := (0 : Nat) }) (2 : Nat) a, Value.slice (some { block := (1 : Nat), off := (0 : Nat) }) (1 : Nat) b] (0 : Nat) false false false) :: noH = some (AObj.row [Value.string { data := #[(97 : UInt8)] }, Value.int IntKind.i64 (5 : Int), Value.int IntKind.i64 (1 : Int), Value.int IntKind.i64 (0 : Int), Value.int IntKind.i64 v, Value.string { data := #[(98 : UInt8)] }, Value.int IntKind.i64 (5 : Int), Value.int IntKind.i64 (1 : Int), Value.int IntKind.i64 (0 : Int), Value.int IntKind.i64 w] (5 : Nat) true false true) :: some (AObj.row [Value.int IntKind.i64 (3 : Int), Value.int IntKind.i64 (1 : Int), Value.int IntKind.i64 (0 : Int), Value.int IntKind.i64 (1 : Int)] (4 : Nat) false false true) :: some (AObj.row [Value.slice (some { block := (0 : Nat), off := (0 : Nat) }) (2 : Nat) a, Value.slice (some { block := (1 : Nat), off := (0 : Nat) }) (1 : Nat) b] (0 : Nat) false true false) :: some (AObj.row [Value.int IntKind.i64 (0 : Int), Value.int IntKind.i64 (0 : Int)] (0 : Nat) false true true) :: some (AObj.row [Value.int IntKind.i64 (plV v w), Value.int IntKind.i64 (plK v w), Value.slice (some { block := (5 : Nat), off := (0 : Nat) }) (2 : Nat) (2 : Nat)] (0 : Nat) false true false) :: some (AObj.row [Value.int IntKind.i64 (plA v w), Value.int IntKind.i64 (plB v w)] (1 : Nat) false true true) :: some (AObj.row [Value.bool true] (0 : Nat) false true true) :: some (AObj.row [Value.int IntKind.i64 (2 : Int)] (0 : Nat) false false true) :: some (AObj.row [Value.slice (some { block := (0 : Nat), off := (0 : Nat) }) (2 : Nat) a, Value.slice (some { block := (1 : Nat), off := (0 : Nat) }) (1 : Nat) b] (0 : Nat) false false false) :: noH ∧ Is True))) ∧ (Is True → (Nat.blt (0 : Nat) (9 : Nat) = true ∧ some (AObj.row [Value.string { data := #[(97 : UInt8)] }, Value.int IntKind.i64 (5 : Int), Value.int IntKind.i64 (1 : Int), Value.int IntKind.i64 (0 : Int), Value.int IntKind.i64 v, Value.string { data := #[(98 : UInt8)] }, Value.int IntKind.i64 (5 : Int), Value.int IntKind.i64 (1 : Int), Value.int IntKind.i64 (0 : Int), Value.int IntKind.i64 w] (5 : Nat) true false true) = some (AObj.row [Value.string { data := #[(97 : UInt8)] }, Value.int IntKind.i64 (5 : Int), Value.int IntKind.i64 (1 : Int), Value.int IntKind.i64 (0 : Int), Value.int IntKind.i64 v, Value.string { data := #[(98 : UInt8)] }, Value.int IntKind.i64 (5 : Int), Value.int IntKind.i64 (1 : Int), Value.int IntKind.i64 (0 : Int), Value.int IntKind.i64 w] (5 : Nat) true false true) ∧ Nat.blt (1 : Nat) (9 : Nat) = true ∧ some (AObj.row [Value.int IntKind.i64 (3 : Int), Value.int IntKind.i64 (1 : Int), Value.int IntKind.i64 (0 : Int), Value.int IntKind.i64 (1 : Int)] (4 : Nat) false false true) = some (AObj.row [Value.int IntKind.i64 (3 : Int), Value.int IntKind.i64 (1 : Int), Value.int IntKind.i64 (0 : Int), Value.int IntKind.i64 (1 : Int)] (4 : Nat) false false true) ∧ Nat.blt (7 : Nat) (9 : Nat) = true ∧ some (AObj.row [Value.int IntKind.i64 (2 : Int)] (0 : Nat) false false true) = some (AObj.row [Value.int IntKind.i64 (2 : Int)] (0 : Nat) false false true) ∧ Nat.blt (8 : Nat) (9 : Nat) = true ∧ some (AObj.row [Value.slice (some { block := (0 : Nat), off := (0 : Nat) }) (2 : Nat) a, Value.slice (some { block := (1 : Nat), off := (0 : Nat) }) (1 : Nat) b] (0 : Nat) false false false) = some (AObj.row [Value.slice (some { block := (0 : Nat), off := (0 : Nat) }) (2 : Nat) a, Value.slice (some { block := (1 : Nat), off := (0 : Nat) }) (1 : Nat) b] (0 : Nat) false false false) ∧ True) ∧ Is True ∧ br (!btr (IntKind.wrap IntKind.i64 (IntKind.wrap IntKind.i64 ((0 : Int) + v) + w)) (2 : Int) (plV v w) (plK v w)) (some (AObj.row [Value.string { data := #[(97 : UInt8)] }, Value.int IntKind.i64 (5 : Int), Value.int IntKind.i64 (1 : Int), Value.int IntKind.i64 (0 : Int), Value.int IntKind.i64 v, Value.string { data := #[(98 : UInt8)] }, Value.int IntKind.i64 (5 : Int), Value.int IntKind.i64 (1 : Int), Value.int IntKind.i64 (0 : Int), Value.int IntKind.i64 w] (5 : Nat) true false true) :: some (AObj.row [Value.int IntKind.i64 (3 : Int), Value.int IntKind.i64 (1 : Int), Value.int IntKind.i64 (0 : Int), Value.int IntKind.i64 (1 : Int)] (4 : Nat) false false true) :: some (AObj.row [Value.slice (some { block := (0 : Nat), off := (0 : Nat) }) (2 : Nat) a, Value.slice (some { block := (1 : Nat), off := (0 : Nat) }) (1 : Nat) b] (0 : Nat) false true false) :: some (AObj.row [Value.int IntKind.i64 (0 : Int), Value.int IntKind.i64 (0 : Int)] (0 : Nat) false true true) :: some (AObj.row [Value.int IntKind.i64 (plV v w), Value.int IntKind.i64 (plK v w), Value.slice (some { block := (5 : Nat), off := (0 : Nat) }) (2 : Nat) (2 : Nat)] (0 : Nat) false true false) :: some (AObj.row [Value.int IntKind.i64 (plA v w), Value.int IntKind.i64 (plB v w)] (1 : Nat) false true true) :: some (AObj.row [Value.bool true] (0 : Nat) false true true) :: some (AObj.row [Value.int IntKind.i64 (2 : Int)] (0 : Nat) false false true) :: some (AObj.row [Value.slice (some { block := (0 : Nat), off := (0 : Nat) }) (2 : Nat) a, Value.slice (some { block := (1 : Nat), off := (0 : Nat) }) (1 : Nat) b] (0 : Nat) false false false) :: noH = some (AObj.row [Value.string { data := #[(97 : UInt8)] }, Value.int IntKind.i64 (5 : Int), Value.int IntKind.i64 (1 : Int), Value.int IntKind.i64 (0 : Int), Value.int IntKind.i64 v, Value.string { data := #[(98 : UInt8)] }, Value.int IntKind.i64 (5 : Int), Value.int IntKind.i64 (1 : Int), Value.int IntKind.i64 (0 : Int), Value.int IntKind.i64 w] (5 : Nat) true false true) :: some (AObj.row [Value.int IntKind.i64 (3 : Int), Value.int IntKind.i64 (1 : Int), Value.int IntKind.i64 (0 : Int), Value.int IntKind.i64 (1 : Int)] (4 : Nat) false false true) :: some (AObj.row [Value.slice (some { block := (0 : Nat), off := (0 : Nat) }) (2 : Nat) a, Value.slice (some { block := (1 : Nat), off := (0 : Nat) }) (1 : Nat) b] (0 : Nat) false true false) :: some (AObj.row [Value.int IntKind.i64 (0 : Int), Value.int IntKind.i64 (0 : Int)] (0 : Nat) false true true) :: some (AObj.row [Value.int IntKind.i64 (plV v w), Value.int IntKind.i64 (plK v w), Value.slice (some { block := (5 : Nat), off := (0 : Nat) }) (2 : Nat) (2 : Nat)] (0 : Nat) false true false) :: some (AObj.row [Value.int IntKind.i64 (plA v w), Value.int IntKind.i64 (plB v w)] (1 : Nat) false true true) :: some (AObj.row [Value.bool true] (0 : Nat) false true true) :: some (AObj.row [Value.int IntKind.i64 (2 : Int)] (0 : Nat) false false true) :: some (AObj.row [Value.slice (some { block := (0 : Nat), off := (0 : Nat) }) (2 : Nat) a, Value.slice (some { block := (1 : Nat), off := (0 : Nat) }) (1 : Nat) b] (0 : Nat) false false false) :: noH ∧ Is True) (some (AObj.row [Value.string { data := #[(97 : UInt8)] }, Value.int IntKind.i64 (5 : Int), Value.int IntKind.i64 (1 : Int), Value.int IntKind.i64 (0 : Int), Value.int IntKind.i64 v, Value.string { data := #[(98 : UInt8)] }, Value.int IntKind.i64 (5 : Int), Value.int IntKind.i64 (1 : Int), Value.int IntKind.i64 (0 : Int), Value.int IntKind.i64 w] (5 : Nat) true false true) :: some (AObj.row [Value.int IntKind.i64 (3 : Int), Value.int IntKind.i64 (1 : Int), Value.int IntKind.i64 (0 : Int), Value.int IntKind.i64 (1 : Int)] (4 : Nat) false false true) :: some (AObj.row [Value.slice (some { block := (0 : Nat), off := (0 : Nat) }) (2 : Nat) a, Value.slice (some { block := (1 : Nat), off := (0 : Nat) }) (1 : Nat) b] (0 : Nat) false true false) :: some (AObj.row [Value.int IntKind.i64 (0 : Int), Value.int IntKind.i64 (0 : Int)] (0 : Nat) false true true) :: some (AObj.row [Value.int IntKind.i64 (plV v w), Value.int IntKind.i64 (plK v w), Value.slice (some { block := (5 : Nat), off := (0 : Nat) }) (2 : Nat) (2 : Nat)] (0 : Nat) false true false) :: some (AObj.row [Value.int IntKind.i64 (plA v w), Value.int IntKind.i64 (plB v w)] (1 : Nat) false true true) :: some (AObj.row [Value.bool true] (0 : Nat) false true true) :: some (AObj.row [Value.int IntKind.i64 (2 : Int)] (0 : Nat) false false true) :: some (AObj.row [Value.slice (some { block := (0 : Nat), off := (0 : Nat) }) (2 : Nat) a, Value.slice (some { block := (1 : Nat), off := (0 : Nat) }) (1 : Nat) b] (0 : Nat) false false false) :: noH = some (AObj.row [Value.string { data := #[(97 : UInt8)] }, Value.int IntKind.i64 (5 : Int), Value.int IntKind.i64 (1 : Int), Value.int IntKind.i64 (0 : Int), Value.int IntKind.i64 v, Value.string { data := #[(98 : UInt8)] }, Value.int IntKind.i64 (5 : Int), Value.int IntKind.i64 (1 : Int), Value.int IntKind.i64 (0 : Int), Value.int IntKind.i64 w] (5 : Nat) true false true) :: some (AObj.row [Value.int IntKind.i64 (3 : Int), Value.int IntKind.i64 (1 : Int), Value.int IntKind.i64 (0 : Int), Value.int IntKind.i64 (1 : Int)] (4 : Nat) false false true) :: some (AObj.row [Value.slice (some { block := (0 : Nat), off := (0 : Nat) }) (2 : Nat) a, Value.slice (some { block := (1 : Nat), off := (0 : Nat) }) (1 : Nat) b] (0 : Nat) false true false) :: some (AObj.row [Value.int IntKind.i64 (0 : Int), Value.int IntKind.i64 (0 : Int)] (0 : Nat) false true true) :: some (AObj.row [Value.int IntKind.i64 (plV v w), Value.int IntKind.i64 (plK v w), Value.slice (some { block := (5 : Nat), off := (0 : Nat) }) (2 : Nat) (2 : Nat)] (0 : Nat) false true false) :: some (AObj.row [Value.int IntKind.i64 (plA v w), Value.int IntKind.i64 (plB v w)] (1 : Nat) false true true) :: some (AObj.row [Value.bool true] (0 : Nat) false true true) :: some (AObj.row [Value.int IntKind.i64 (2 : Int)] (0 : Nat) false false true) :: some (AObj.row [Value.slice (some { block := (0 : Nat), off := (0 : Nat) }) (2 : Nat) a, Value.slice (some { block := (1 : Nat), off := (0 : Nat) }) (1 : Nat) b] (0 : Nat) false false false) :: noH ∧ Is True))) ∧ (Is True → (Nat.blt (0 : Nat) (9 : Nat) = true ∧ some (AObj.row [Value.string { data := #[(97 : UInt8)] }, Value.int IntKind.i64 (5 : Int), Value.int IntKind.i64 (1 : Int), Value.int IntKind.i64 (0 : Int), Value.int IntKind.i64 v, Value.string { data := #[(98 : UInt8)] }, Value.int IntKind.i64 (5 : Int), Value.int IntKind.i64 (1 : Int), Value.int IntKind.i64 (0 : Int), Value.int IntKind.i64 w] (5 : Nat) true false true) = some (AObj.row [Value.string { data := #[(97 : UInt8)] }, Value.int IntKind.i64 (5 : Int), Value.int IntKind.i64 (1 : Int), Value.int IntKind.i64 (0 : Int), Value.int IntKind.i64 v, Value.string { data := #[(98 : UInt8)] }, Value.int IntKind.i64 (5 : Int), Value.int IntKind.i64 (1 : Int), Value.int IntKind.i64 (0 : Int), Value.int IntKind.i64 w] (5 : Nat) true false true) ∧ Nat.blt (1 : Nat) (9 : Nat) = true ∧ some (AObj.row [Value.int IntKind.i64 (3 : Int), Value.int IntKind.i64 (1 : Int), Value.int IntKind.i64 (0 : Int), Value.int IntKind.i64 (1 : Int)] (4 : Nat) false false true) = some (AObj.row [Value.int IntKind.i64 (3 : Int), Value.int IntKind.i64 (1 : Int), Value.int IntKind.i64 (0 : Int), Value.int IntKind.i64 (1 : Int)] (4 : Nat) false false true) ∧ Nat.blt (7 : Nat) (9 : Nat) = true ∧ some (AObj.row [Value.int IntKind.i64 (2 : Int)] (0 : Nat) false false true) = some (AObj.row [Value.int IntKind.i64 (2 : Int)] (0 : Nat) false false true) ∧ Nat.blt (8 : Nat) (9 : Nat) = true ∧ some (AObj.row [Value.slice (some { block := (0 : Nat), off := (0 : Nat) }) (2 : Nat) a, Value.slice (some { block := (1 : Nat), off := (0 : Nat) }) (1 : Nat) b] (0 : Nat) false false false) = some (AObj.row [Value.slice (some { block := (0 : Nat), off := (0 : Nat) }) (2 : Nat) a, Value.slice (some { block := (1 : Nat), off := (0 : Nat) }) (1 : Nat) b] (0 : Nat) false false false) ∧ True) ∧ K (Value.tuple #[Value.slice (some { block := (2 : Nat), off := (0 : Nat) }) (2 : Nat) (2 : Nat), Value.agg #[Value.int IntKind.i64 (plV v w), Value.int IntKind.i64 (plK v w)], Value.int IntKind.i64 (0 : Int)]) (some (AObj.row [Value.string { data := #[(97 : UInt8)] }, Value.int IntKind.i64 (5 : Int), Value.int IntKind.i64 (1 : Int), Value.int IntKind.i64 (0 : Int), Value.int IntKind.i64 v, Value.string { data := #[(98 : UInt8)] }, Value.int IntKind.i64 (5 : Int), Value.int IntKind.i64 (1 : Int), Value.int IntKind.i64 (0 : Int), Value.int IntKind.i64 w] (5 : Nat) true false true) :: some (AObj.row [Value.int IntKind.i64 (3 : Int), Value.int IntKind.i64 (1 : Int), Value.int IntKind.i64 (0 : Int), Value.int IntKind.i64 (1 : Int)] (4 : Nat) false false true) :: some (AObj.row [Value.int IntKind.i64 (plA v w), Value.int IntKind.i64 (plB v w)] (1 : Nat) false true true) :: noH)) ∧ ∀ (s : Empty), Is False → True ∧ False) := by kernel_rfl
theorem bt_w {w : Int} (h : 0 ≤ w) : btr w 1 0 0 = decide (0 < w) := by
  rw [btr, show decide ((1 : Int) < 0) = false from rfl, Bool.and_false, Bool.or_false]
theorem pz {w : Int} (h : 0 ≤ w) : plV 0 w = (if 0 < w then w else 0) ∧ plK 0 w = (if 0 < w then 1 else 0) ∧ plA 0 w = -1 ∧ plB 0 w = (if 0 < w then 0 else -1) := by
  have h : ¬ w < 0 := by omega
  exact ⟨if_neg h, if_neg h, if_neg h, if_neg h⟩
theorem py {v w : Int} (h : ¬ w < v) : plV v w = (if 0 < w then w else 0) ∧ plK v w = (if 0 < w then 1 else 0) ∧ plA v w = -1 ∧ plB v w = (if 0 < w then 0 else -1) := ⟨if_neg h, if_neg h, if_neg h, if_neg h⟩
theorem bt_v {v w : Int} (hw : 0 ≤ w) : btr v 1 (plV 0 w) (plK 0 w) = decide (w < v) := by
  rw [btr, (pz hw).1, (pz hw).2.1]
  by_cases h : 0 < w
  · rw [if_pos h, if_pos h, show decide ((1 : Int) < 1) = false from rfl, Bool.and_false, Bool.or_false]
  · rw [if_neg h, if_neg h, show decide ((1 : Int) < 0) = false from rfl, Bool.and_false, Bool.or_false]
    have : w = 0 := by omega
    rw [this]
theorem plan2_ok' {v w : Int} {a b : Nat} (hv : 0 ≤ v ∧ v ≤ 1000000) (hw : 0 ≤ w ∧ w ≤ 1000000) :
    SmallRes Try.prog 15 [offA 0 1 a b] [some (.row (secC v w) 5 true false true), some (.row shfC 4 false false true)]
      (.tuple #[.slice (some ⟨2, 0, none⟩) 2 2, .agg #[.int .i64 (plV v w), .int .i64 (plK v w)], .int .i64 0]) [some (.row (secC v w) 5 true false true), some (.row shfC 4 false false true), some (.row [.int .i64 (plA v w), .int .i64 (plB v w)] 1 false true true)] := by
  refine fnP_res hm c0_ok (hs := hsP v w a b) ?_
  rw [pn_t]
  have ev : ∀ x : Int, 0 ≤ x ∧ x ≤ 1000000 → IntKind.wrap .i64 (0 + x) = x := fun x hx => by rw [wrap_eq (by omega) (by omega)]; omega
  rw [ev v hv, ev w hw]
  refine ⟨⟨⟨v, w, rfl, rfl, hv, hw⟩⟩, rfl, rfl, rfl, ⟨rfl⟩, ⟨trivial⟩, ⟨⟨⟨⟨trivial, fun _ => ?_⟩, fun _ => ?_⟩, fun _ => ?_⟩, fun _ => ?_⟩, fun _ => ?_, fun s _ => s.elim⟩
  · exact ⟨⟨rfl, rfl, rfl, rfl, rfl, rfl, rfl, rfl, trivial⟩, rfl, ⟨trivial⟩⟩
  · refine ⟨⟨rfl, rfl, rfl, rfl, rfl, rfl, rfl, rfl, trivial⟩, ⟨trivial⟩, ?_⟩
    rw [bt_w hw.1]
    refine br_of (fun h => ?_) (fun h => ?_)
    · have h : ¬ 0 < w := by simpa using h
      obtain ⟨e1, e2, e3, e4⟩ := pz hw.1
      rw [e1, e2, e3, e4, if_neg h, if_neg h, if_neg h]
      exact ⟨rfl, ⟨trivial⟩⟩
    · have h : 0 < w := by simpa using h
      obtain ⟨e1, e2, e3, e4⟩ := pz hw.1
      rw [e1, e2, e3, e4, if_pos h, if_pos h, if_pos h]
      exact ⟨rfl, ⟨trivial⟩⟩
  · refine ⟨⟨rfl, rfl, rfl, rfl, rfl, rfl, rfl, rfl, trivial⟩, ⟨trivial⟩, ?_⟩
    rw [bt_v hw.1]
    refine br_of (fun h => ?_) (fun h => ?_)
    · have h : ¬ w < v := by simpa using h
      obtain ⟨e1, e2, e3, e4⟩ := pz hw.1
      obtain ⟨f1, f2, f3, f4⟩ := py h
      rw [e1, e2, e3, e4, f1, f2, f3, f4]
      exact ⟨rfl, ⟨trivial⟩⟩
    · have h : w < v := by simpa using h
      rw [show plV v w = v from if_pos h, show plK v w = 1 from if_pos h, show plA v w = 0 from if_pos h, show plB v w = -1 from if_pos h]
      exact ⟨rfl, ⟨trivial⟩⟩
  · refine ⟨⟨rfl, rfl, rfl, rfl, rfl, rfl, rfl, rfl, trivial⟩, ⟨trivial⟩, br_of (fun h => ?_) (fun h => ?_)⟩
    · exact ⟨rfl, ⟨trivial⟩⟩
    · exact ⟨rfl, ⟨trivial⟩⟩
  · exact ⟨⟨rfl, rfl, rfl, rfl, rfl, rfl, rfl, rfl, trivial⟩, rfl, rfl⟩
theorem plan2_ok {v w : Int} {a b : Nat} (hv : 0 ≤ v ∧ v ≤ 1000000) (hw : 0 ≤ w ∧ w ≤ 1000000) :
    SmallRes Try.prog 15 [offA 0 1 a b] [some (.row (secC v w) 5 true true true), some (.row shfC 4 false true true)]
      (.tuple #[.slice (some ⟨2, 0, none⟩) 2 2, .agg #[.int .i64 (plV v w), .int .i64 (plK v w)], .int .i64 0]) [some (.row (secC v w) 5 true true true), some (.row shfC 4 false true true), some (.row [.int .i64 (plA v w), .int .i64 (plB v w)] 1 false true true)] :=
  regain [0, 1] (H := [some (.row (secC v w) 5 true true true), some (.row shfC 4 false true true)]) (plan2_ok' hv hw) rfl rfl
noncomputable def orcPl : OrcV
  | [.agg ⟨[.slice (some ⟨0, 0, none⟩) 2 _, .slice (some ⟨1, 0, none⟩) 1 _]⟩], [some (.row [.string s1, .int .i64 d1, .int .i64 k1, .int .i64 t1, .int .i64 v, .string s2, .int .i64 d2, .int .i64 k2, .int .i64 t2, .int .i64 w] 5 true true true), some (.row g 4 false true true)] =>
    some (.tuple #[.slice (some ⟨2, 0, none⟩) 2 2, .agg #[.int .i64 (plV v w), .int .i64 (plK v w)], .int .i64 0], [some (.row [.string s1, .int .i64 d1, .int .i64 k1, .int .i64 t1, .int .i64 v, .string s2, .int .i64 d2, .int .i64 k2, .int .i64 t2, .int .i64 w] 5 true true true), some (.row g 4 false true true), some (.row [.int .i64 (plA v w), .int .i64 (plB v w)] 1 false true true)],
      ([.string s1, .int .i64 d1, .int .i64 k1, .int .i64 t1, .int .i64 v, .string s2, .int .i64 d2, .int .i64 k2, .int .i64 t2, .int .i64 w] = secC v w ∧ g = shfC) ∧ (0 ≤ v ∧ v ≤ 1000000) ∧ 0 ≤ w ∧ w ≤ 1000000)
  | _, _ => none
theorem okPl : OkV Try.prog 15 orcPl := by
  intro args H ret H' vc h hv
  unfold orcPl at h
  split at h
  · cases h
    obtain ⟨⟨e1, rfl⟩, h1, h2⟩ := hv
    rw [e1]
    exact plan2_ok h1 h2
  · cases h
end
end Qq
end
section
/- The fixed example. -/
open Go Go.Vm Go.Proofs Sp
namespace Qq
noncomputable section
noncomputable def sec1 : List Value := [.string ⟨#[97]⟩, .int .i64 5, .int .i64 1, .int .i64 0, .int .i64 2]
noncomputable def shf1 : List Value := [.int .i64 3, .int .i64 1, .int .i64 0, .int .i64 7]
noncomputable def offB (i j a b : Nat) : Value := .agg #[.slice (some ⟨i, 0, none⟩) 1 a, .slice (some ⟨j, 0, none⟩) 1 b]
noncomputable def hpPla (a b : Nat) (V C p : Int) (seen : Bool) : Heap := [some (.row sec1 5 false false true), some (.row shf1 4 false false true), some (.row [.slice (some ⟨0, 0, none⟩) 1 a, .slice (some ⟨1, 0, none⟩) 1 b] 0 false true false), some (.row [.int .i64 0, .int .i64 0] 0 false true true),
  some (.row [.int .i64 V, .int .i64 C, .slice (some ⟨5, 0, none⟩) 1 1] 0 false true false), some (.row [.int .i64 p] 1 false true true), some (.row [.bool seen] 0 false true true), some (.row [.int .i64 1] 0 false false true), some (.row [.slice (some ⟨0, 0, none⟩) 1 a, .slice (some ⟨1, 0, none⟩) 1 b] 0 false false false)]
noncomputable def hrPla (a b : Nat) : Nat → Heap
  | 0 => hpPla a b 0 0 0 false
  | 1 => hpPla a b 0 0 (-1) true
  | _ => hpPla a b 2 7 0 true
noncomputable def rlPla (a b : Nat) : Rl Try.prog where
  it := itC1
  k := 9
  E := slots 59 [(1, .pointer (some ⟨2, 0, none⟩)), (3, .pointer (some ⟨3, 0, none⟩)), (6, .pointer (some ⟨4, 0, none⟩)), (7, .pointer (some ⟨6, 0, none⟩)), (25, .func (.func 64) #[] #[.pointer (some ⟨7, 0, none⟩), .pointer (some ⟨8, 0, none⟩)])]
  Hp := hrPla a b
  conc := true
noncomputable def hsPla (a b : Nat) : Hs Try.prog where
  rl y := if y = 8 then some (rlPla a b) else none
  cl _ := keep 59 [1, 3, 6, 7, 25]
  sm := true
  au := au0 Try.prog
theorem pla_t (a : Nat) (b : Nat) (K : Value → Heap → Prop) :
    (fnP Try.prog c0 (hsPla a b) (15 : FuncId) [offB (0 : Nat) (1 : Nat) a b] [some (AObj.row sec1 (5 : Nat) false false true), some (AObj.row shf1 (4 : Nat) false false true)] K) =
    ([poi, Value.pointer (some { block := (2 : Nat), off := (0 : Nat) }), poi, Value.pointer (some { block := (3 : Nat), off := (0 : Nat) }), poi, poi, Value.pointer (some { block := (4 : Nat), off := (0 : Nat) }), Value.pointer (some { block := (6 : Nat), off := (0 : Nat) }), poi, poi, poi, poi, poi, poi, poi, poi, poi, poi, poi, poi, poi, poi, poi, poi, poi, Value.func (Fn.func (64 : Nat)) #[] #[Value.pointer (some { block := (7 : Nat), off := (0 : Nat) }), Value.pointer (some { block := (8 : Nat), off := (0 : Nat) })], poi, poi, poi, poi, poi, poi, poi, poi, poi, poi, poi, poi, poi, poi, poi, poi, poi, poi, poi, poi, poi, poi, poi, poi, poi, poi, poi, poi, poi, poi, poi, poi, poi] = [poi, Value.pointer (some { block := (2 : Nat), off := (0 : Nat) }), poi, Value.pointer (some { block := (3 : Nat), off := (0 : Nat) }), poi, poi, Value.pointer (some { block := (4 : Nat), off := (0 : Nat) }), Value.pointer (some { block := (6 : Nat), off := (0 : Nat) }), poi, poi, poi, poi, poi, poi, poi, poi, poi, poi, poi, poi, poi, poi, poi, poi, poi, Value.func (Fn.func (64 : Nat)) #[] #[Value.pointer (some { block := (7 : Nat), off := (0 : Nat) }), Value.pointer (some { block := (8 : Nat), off := (0 : Nat) })], poi, poi, poi, poi, poi, poi, poi, poi, poi, poi, poi, poi, poi, poi, poi, poi, poi, poi, poi, poi, poi, poi, poi, poi, poi, poi, poi, poi, poi, poi, poi, poi, poi] ∧ some (AObj.row [Value.string { data := #[(97 : UInt8)] }, Value.int IntKind.i64 (5 : Int), Value.int IntKind.i64 (1 : Int), Value.int IntKind.i64 (0 : Int), Value.int IntKind.i64 (2 : Int)] (5 : Nat) false false true) :: some (AObj.row [Value.int IntKind.i64 (3 : Int), Value.int IntKind.i64 (1 : Int), Value.int IntKind.i64 (0 : Int), Value.int IntKind.i64 (7 : Int)] (4 : Nat) false false true) :: some (AObj.row [Value.slice (some { block := (0 : Nat), off := (0 : Nat) }) (1 : Nat) a, Value.slice (some { block := (1 : Nat), off := (0 : Nat) }) (1 : Nat) b] (0 : Nat) false true (List.all [Value.slice (some { block := (0 : Nat), off := (0 : Nat) }) (1 : Nat) a, Value.slice (some { block := (1 : Nat), off := (0 : Nat) }) (1 : Nat) b] atom)) :: some (AObj.row [Value.int IntKind.i64 (0 : Int), Value.int IntKind.i64 (0 : Int)] (0 : Nat) false true true) :: some (AObj.row [Value.int IntKind.i64 (0 : Int), Value.int IntKind.i64 (0 : Int), Value.slice (some { block := (5 : Nat), off := (0 : Nat) }) (1 : Nat) (1 : Nat)] (0 : Nat) false true (true && List.all [Value.int IntKind.i64 (0 : Int), Value.int IntKind.i64 (0 : Int), Value.slice (some { block := List.length (some (AObj.row [Value.string { data := #[(97 : UInt8)] }, Value.int IntKind.i64 (5 : Int), Value.int IntKind.i64 (1 : Int), Value.int IntKind.i64 (0 : Int), Value.int IntKind.i64 (2 : Int)] (5 : Nat) false false true) :: some (AObj.row [Value.int IntKind.i64 (3 : Int), Value.int IntKind.i64 (1 : Int), Value.int IntKind.i64 (0 : Int), Value.int IntKind.i64 (7 : Int)] (4 : Nat) false false true) :: some (AObj.row [Value.slice (some { block := (0 : Nat), off := (0 : Nat) }) (1 : Nat) a, Value.slice (some { block := (1 : Nat), off := (0 : Nat) }) (1 : Nat) b] (0 : Nat) false true (List.all [Value.slice (some { block := (0 : Nat), off := (0 : Nat) }) (1 : Nat) a, Value.slice (some { block := (1 : Nat), off := (0 : Nat) }) (1 : Nat) b] atom)) :: some (AObj.row [Value.int IntKind.i64 (0 : Int), Value.int IntKind.i64 (0 : Int)] (0 : Nat) false true true) :: noH), off := (0 : Nat) }) (1 : Nat) (1 : Nat)] atom)) :: some (AObj.row [Value.int IntKind.i64 (0 : Int)] (1 : Nat) false true true) :: some (AObj.row [Value.bool false] (0 : Nat) false true (true && List.all [Value.bool false] atom)) :: some (AObj.row [Value.int IntKind.i64 (1 : Int)] (0 : Nat) false false (List.all [Value.int IntKind.i64 (1 : Int)] atom)) :: some (AObj.row [Value.slice (some { block := (0 : Nat), off := (0 : Nat) }) (1 : Nat) a, Value.slice (some { block := (1 : Nat), off := (0 : Nat) }) (1 : Nat) b] (0 : Nat) false false (List.all [Value.slice (some { block := (0 : Nat), off := (0 : Nat) }) (1 : Nat) a, Value.slice (some { block := (1 : Nat), off := (0 : Nat) }) (1 : Nat) b] atom)) :: noH = some (AObj.row [Value.string { data := #[(97 : UInt8)] }, Value.int IntKind.i64 (5 : Int), Value.int IntKind.i64 (1 : Int), Value.int IntKind.i64 (0 : Int), Value.int IntKind.i64 (2 : Int)] (5 : Nat) false false true) :: some (AObj.row [Value.int IntKind.i64 (3 : Int), Value.int IntKind.i64 (1 : Int), Value.int IntKind.i64 (0 : Int), Value.int IntKind.i64 (7 : Int)] (4 : Nat) false false true) :: some (AObj.row [Value.slice (some { block := (0 : Nat), off := (0 : Nat) }) (1 : Nat) a, Value.slice (some { block := (1 : Nat), off := (0 : Nat) }) (1 : Nat) b] (0 : Nat) false true false) :: some (AObj.row [Value.int IntKind.i64 (0 : Int), Value.int IntKind.i64 (0 : Int)] (0 : Nat) false true true) :: some (AObj.row [Value.int IntKind.i64 (0 : Int), Value.int IntKind.i64 (0 : Int), Value.slice (some { block := (5 : Nat), off := (0 : Nat) }) (1 : Nat) (1 : Nat)] (0 : Nat) false true false) :: some (AObj.row [Value.int IntKind.i64 (0 : Int)] (1 : Nat) false true true) :: some (AObj.row [Value.bool false] (0 : Nat) false true true) :: some (AObj.row [Value.int IntKind.i64 (1 : Int)] (0 : Nat) false false true) :: some (AObj.row [Value.slice (some { block := (0 : Nat), off := (0 : Nat) }) (1 : Nat) a, Value.slice (some { block := (1 : Nat), off := (0 : Nat) }) (1 : Nat) b] (0 : Nat) false false false) :: noH ∧ [poi, Value.pointer (some { block := (2 : Nat), off := (0 : Nat) }), poi, Value.pointer (some { block := (3 : Nat), off := (0 : Nat) }), poi, poi, Value.pointer (some { block := (4 : Nat), off := (0 : Nat) }), Value.pointer (some { block := (6 : Nat), off := (0 : Nat) }), poi, poi, poi, poi, poi, poi, poi, poi, poi, poi, poi, poi, poi, poi, poi, poi, poi, Value.func (Fn.func (64 : Nat)) #[] #[Value.pointer (some { block := (7 : Nat), off := (0 : Nat) }), Value.pointer (some { block := (8 : Nat), off := (0 : Nat) })], poi, poi, poi, poi, poi, poi, poi, poi, poi, poi, poi, poi, poi, poi, poi, poi, poi, poi, poi, poi, poi, poi, poi, poi, poi, poi, poi, poi, poi, poi, poi, poi, poi] = [poi, Value.pointer (some { block := (2 : Nat), off := (0 : Nat) }), poi, Value.pointer (some { block := (3 : Nat), off := (0 : Nat) }), poi, poi, Value.pointer (some { block := (4 : Nat), off := (0 : Nat) }), Value.pointer (some { block := (6 : Nat), off := (0 : Nat) }), poi, poi, poi, poi, poi, poi, poi, poi, poi, poi, poi, poi, poi, poi, poi, poi, poi, Value.func (Fn.func (64 : Nat)) #[] #[Value.pointer (some { block := (7 : Nat), off := (0 : Nat) }), Value.pointer (some { block := (8 : Nat), off := (0 : Nat) })], poi, poi, poi, poi, poi, poi, poi, poi, poi, poi, poi, poi, poi, poi, poi, poi, poi, poi, poi, poi, poi, poi, poi, poi, poi, poi, poi, poi, poi, poi, poi, poi, poi] ∧ Is ((1 : Int) = (1 : Int)) ∧ Is True ∧ ((True ∧ (Is True → (Nat.blt (0 : Nat) (9 : Nat) = true ∧ some (AObj.row [Value.string { data := #[(97 : UInt8)] }, Value.int IntKind.i64 (5 : Int), Value.int IntKind.i64 (1 : Int), Value.int IntKind.i64 (0 : Int), Value.int IntKind.i64 (2 : Int)] (5 : Nat) false false true) = some (AObj.row [Value.string { data := #[(97 : UInt8)] }, Value.int IntKind.i64 (5 : Int), Value.int IntKind.i64 (1 : Int), Value.int IntKind.i64 (0 : Int), Value.int IntKind.i64 (2 : Int)] (5 : Nat) false false true) ∧ Nat.blt (1 : Nat) (9 : Nat) = true ∧ some (AObj.row [Value.int IntKind.i64 (3 : Int), Value.int IntKind.i64 (1 : Int), Value.int IntKind.i64 (0 : Int), Value.int IntKind.i64 (7 : Int)] (4 : Nat) false false true) = some (AObj.row [Value.int IntKind.i64 (3 : Int), Value.int IntKind.i64 (1 : Int), Value.int IntKind.i64 (0 : Int), Value.int IntKind.i64 (7 : Int)] (4 : Nat) false false true) ∧ Nat.blt (7 : Nat) (9 : Nat) = true ∧ some (AObj.row [Value.int IntKind.i64 (1 : Int)] (0 : Nat) false false true) = some (AObj.row [Value.int IntKind.i64 (1 : Int)] (0 : Nat) false false true) ∧ Nat.blt (8 : Nat) (9 : Nat) = true ∧ some (AObj.row [Value.slice (some { block := (0 : Nat), off := (0 : Nat) }) (1 : Nat) a, Value.slice (some { block := (1 : Nat), off := (0 : Nat) }) (1 : Nat) b] (0 : Nat) false false false) = some (AObj.row [Value.slice (some { block := (0 : Nat), off := (0 : Nat) }) (1 : Nat) a, Value.slice (some { block := (1 : Nat), off := (0 : Nat) }) (1 : Nat) b] (0 : Nat) false false false) ∧ True) ∧ some (AObj.row [Value.string { data := #[(97 : UInt8)] }, Value.int IntKind.i64 (5 : Int), Value.int IntKind.i64 (1 : Int), Value.int IntKind.i64 (0 : Int), Value.int IntKind.i64 (2 : Int)] (5 : Nat) false false true) :: some (AObj.row [Value.int IntKind.i64 (3 : Int), Value.int IntKind.i64 (1 : Int), Value.int IntKind.i64 (0 : Int), Value.int IntKind.i64 (7 : Int)] (4 : Nat) false false true) :: some (AObj.row [Value.slice (some { block := (0 : Nat), off := (0 : Nat) }) (1 : Nat) a, Value.slice (some { block := (1 : Nat), off := (0 : Nat) }) (1 : Nat) b] (0 : Nat) false true false) :: some (AObj.row [Value.int IntKind.i64 (0 : Int), Value.int IntKind.i64 (0 : Int)] (0 : Nat) false true true) :: some (AObj.row [Value.int IntKind.i64 (0 : Int), Value.int IntKind.i64 (0 : Int), Value.slice (some { block := (5 : Nat), off := (0 : Nat) }) (1 : Nat) (1 : Nat)] (0 : Nat) false true (false && List.all [Value.int IntKind.i64 (0 : Int), Value.int IntKind.i64 (0 : Int)] atom)) :: some (AObj.row [Value.int IntKind.i64 (-1 : Int)] (1 : Nat) false true true) :: some (AObj.row [Value.bool true] (0 : Nat) false true (true && List.all [Value.bool true] atom)) :: some (AObj.row [Value.int IntKind.i64 (1 : Int)] (0 : Nat) false false true) :: some (AObj.row [Value.slice (some { block := (0 : Nat), off := (0 : Nat) }) (1 : Nat) a, Value.slice (some { block := (1 : Nat), off := (0 : Nat) }) (1 : Nat) b] (0 : Nat) false false false) :: noH = some (AObj.row [Value.string { data := #[(97 : UInt8)] }, Value.int IntKind.i64 (5 : Int), Value.int IntKind.i64 (1 : Int), Value.int IntKind.i64 (0 : Int), Value.int IntKind.i64 (2 : Int)] (5 : Nat) false false true) :: some (AObj.row [Value.int IntKind.i64 (3 : Int), Value.int IntKind.i64 (1 : Int), Value.int IntKind.i64 (0 : Int), Value.int IntKind.i64 (7 : Int)] (4 : Nat) false false true) :: some (AObj.row [Value.slice (some { block := (0 : Nat), off := (0 : Nat) }) (1 : Nat) a, Value.slice (some { block := (1 : Nat), off := (0 : Nat) }) (1 : Nat) b] (0 : Nat) false true false) :: some (AObj.row [Value.int IntKind.i64 (0 : Int), Value.int IntKind.i64 (0 : Int)] (0 : Nat) false true true) :: some (AObj.row [Value.int IntKind.i64 (0 : Int), Value.int IntKind.i64 (0 : Int), Value.slice (some { block := (5 : Nat), off := (0 : Nat) }) (1 : Nat) (1 : Nat)] (0 : Nat) false true false) :: some (AObj.row [Value.int IntKind.i64 (-1 : Int)] (1 : Nat) false true true) :: some (AObj.row [Value.bool true] (0 : Nat) false true true) :: some (AObj.row [Value.int IntKind.i64 (1 : Int)] (0 : Nat) false false true) :: some (AObj.row [Value.slice (some { block := (0 : Nat), off := (0 : Nat) }) (1 : Nat) a, Value.slice (some { block := (1 : Nat), off := (0 : Nat) }) (1 : Nat) b] (0 : Nat) false false false) :: noH ∧ Is True)) ∧ (Is True → (Nat.blt (0 : Nat) (9 : Nat) = true ∧ some (AObj.row [Value.string { data := #[(97 : UInt8)] }, Value.int IntKind.i64 (5 : Int), Value.int IntKind.i64 (1 : Int), Value.int IntKind.i64 (0 : Int), Value.int IntKind.i64 (2 : Int)] (5 : Nat) false false true) = some (AObj.row [Value.string { data := #[(97 : UInt8)] }, Value.int IntKind.i64 (5 : Int), Value.int IntKind.i64 (1 : Int), Value.int IntKind.i64 (0 : Int), Value.int IntKind.i64 (2 : Int)] (5 : Nat) false false true) ∧ Nat.blt (1 : Nat) (9 : Nat) = true ∧ some (AObj.row [Value.int IntKind.i64 (3 : Int), Value.int IntKind.i64 (1 : Int), Value.int IntKind.i64 (0 : Int), Value.int IntKind.i64 (7 : Int)] (4 : Nat) false false true) = some (AObj.row [Value.int IntKind.i64 (3 : Int), Value.int IntKind.i64 (1 : Int), Value.int IntKind.i64 (0 : Int), Value.int IntKind.i64 (7 : Int)] (4 : Nat) false false true) ∧ Nat.blt (7 : Nat) (9 : Nat) = true ∧ some (AObj.row [Value.int IntKind.i64 (1 : Int)] (0 : Nat) false false true) = some (AObj.row [Value.int IntKind.i64 (1 : Int)] (0 : Nat) false false true) ∧ Nat.blt (8 : Nat) (9 : Nat) = true ∧ some (AObj.row [Value.slice (some { block := (0 : Nat), off := (0 : Nat) }) (1 : Nat) a, Value.slice (some { block := (1 : Nat), off := (0 : Nat) }) (1 : Nat) b] (0 : Nat) false false false) = some (AObj.row [Value.slice (some { block := (0 : Nat), off := (0 : Nat) }) (1 : Nat) a, Value.slice (some { block := (1 : Nat), off := (0 : Nat) }) (1 : Nat) b] (0 : Nat) false false false) ∧ True) ∧ some (AObj.row [Value.string { data := #[(97 : UInt8)] }, Value.int IntKind.i64 (5 : Int), Value.int IntKind.i64 (1 : Int), Value.int IntKind.i64 (0 : Int), Value.int IntKind.i64 (2 : Int)] (5 : Nat) false false true) :: some (AObj.row [Value.int IntKind.i64 (3 : Int), Value.int IntKind.i64 (1 : Int), Value.int IntKind.i64 (0 : Int), Value.int IntKind.i64 (7 : Int)] (4 : Nat) false false true) :: some (AObj.row [Value.slice (some { block := (0 : Nat), off := (0 : Nat) }) (1 : Nat) a, Value.slice (some { block := (1 : Nat), off := (0 : Nat) }) (1 : Nat) b] (0 : Nat) false true false) :: some (AObj.row [Value.int IntKind.i64 (0 : Int), Value.int IntKind.i64 (0 : Int)] (0 : Nat) false true true) :: some (AObj.row [Value.int IntKind.i64 (2 : Int), Value.int IntKind.i64 (7 : Int), Value.slice (some { block := (5 : Nat), off := (0 : Nat) }) (1 : Nat) (1 : Nat)] (0 : Nat) false true (false && List.all [Value.int IntKind.i64 (2 : Int), Value.int IntKind.i64 (7 : Int)] atom)) :: some (AObj.row [Value.int IntKind.i64 (0 : Int)] (1 : Nat) false true true) :: some (AObj.row [Value.bool true] (0 : Nat) false true (true && List.all [Value.bool true] atom)) :: some (AObj.row [Value.int IntKind.i64 (1 : Int)] (0 : Nat) false false true) :: some (AObj.row [Value.slice (some { block := (0 : Nat), off := (0 : Nat) }) (1 : Nat) a, Value.slice (some { block := (1 : Nat), off := (0 : Nat) }) (1 : Nat) b] (0 : Nat) false false false) :: noH = some (AObj.row [Value.string { data := #[(97 : UInt8)] }, Value.int IntKind.i64 (5 : Int), Value.int IntKind.i64 (1 : Int), Value.int IntKind.i64 (0 : Int), Value.int IntKind.i64 (2 : Int)] (5 : Nat) false false true) :: some (AObj.row [Value.int IntKind.i64 (3 : Int), Value.int IntKind.i64 (1 : Int), Value.int IntKind.i64 (0 : Int), Value.int IntKind.i64 (7 : Int)] (4 : Nat) false false true) :: some (AObj.row [Value.slice (some { block := (0 : Nat), off := (0 : Nat) }) (1 : Nat) a, Value.slice (some { block := (1 : Nat), off := (0 : Nat) }) (1 : Nat) b] (0 : Nat) false true false) :: some (AObj.row [Value.int IntKind.i64 (0 : Int), Value.int IntKind.i64 (0 : Int)] (0 : Nat) false true true) :: some (AObj.row [Value.int IntKind.i64 (2 : Int), Value.int IntKind.i64 (7 : Int), Value.slice (some { block := (5 : Nat), off := (0 : Nat) }) (1 : Nat) (1 : Nat)] (0 : Nat) false true false) :: some (AObj.row [Value.int IntKind.i64 (0 : Int)] (1 : Nat) false true true) :: some (AObj.row [Value.bool true] (0 : Nat) false true true) :: some (AObj.row [Value.int IntKind.i64 (1 : Int)] (0 : Nat) false false true) :: some (AObj.row [Value.slice (some { block := (0 : Nat), off := (0 : Nat) }) (1 : Nat) a, Value.slice (some { block := (1 : Nat), off := (0 : Nat) }) (1 : Nat) b] (0 : Nat) false false false) :: noH ∧ Is True)) ∧ (Is True → (Nat.blt (0 : Nat) (9 : Nat) = true ∧ some (AObj.row [Value.string { data := #[(97 : UInt8)] }, Value.int IntKind.i64 (5 : Int), Value.int IntKind.i64 (1 : Int), Value.int IntKind.i64 (0 : Int), Value.int IntKind.i64 (2 : Int)] (5 : Nat) false false true) = some (AObj.row [Value.string { data := #[(97 : UInt8)] }, Value.int IntKind.i64 (5 : Int), Value.int IntKind.i64 (1 : Int), Value.int IntKind.i64 (0 : Int), Value.int IntKind.i64 (2 : Int)] (5 : Nat) false false true) ∧ Nat.blt (1 : Nat) (9 : Nat) = true ∧ some (AObj.row [Value.int IntKind.i64 (3 : Int), Value.int IntKind.i64 (1 : Int), Value.int IntKind.i64 (0 : Int), Value.int IntKind.i64 (7 : Int)] (4 : Nat) false false true) = some (AObj.row [Value.int IntKind.i64 (3 : Int), Value.int IntKind.i64 (1 : Int), Value.int IntKind.i64 (0 : Int), Value.int IntKind.i64 (7 : Int)] (4 : Nat) false false true) ∧ Nat.blt (7 : Nat) (9 : Nat) = true ∧ some (AObj.row [Value.int IntKind.i64 (1 : Int)] (0 : Nat) false false true) = some (AObj.row [Value.int IntKind.i64 (1 : Int)] (0 : Nat) false false true) ∧ Nat.blt (8 : Nat) (9 : Nat) = true ∧ some (AObj.row [Value.slice (some { block := (0 : Nat), off := (0 : Nat) }) (1 : Nat) a, Value.slice (some { block := (1 : Nat), off := (0 : Nat) }) (1 : Nat) b] (0 : Nat) false false false) = some (AObj.row [Value.slice (some { block := (0 : Nat), off := (0 : Nat) }) (1 : Nat) a, Value.slice (some { block := (1 : Nat), off := (0 : Nat) }) (1 : Nat) b] (0 : Nat) false false false) ∧ True) ∧ K (Value.tuple #[Value.slice (some { block := (2 : Nat), off := (0 : Nat) }) (1 : Nat) (1 : Nat), Value.agg #[Value.int IntKind.i64 (2 : Int), Value.int IntKind.i64 (7 : Int)], Value.int IntKind.i64 (0 : Int)]) (some (AObj.row [Value.string { data := #[(97 : UInt8)] }, Value.int IntKind.i64 (5 : Int), Value.int IntKind.i64 (1 : Int), Value.int IntKind.i64 (0 : Int), Value.int IntKind.i64 (2 : Int)] (5 : Nat) false false true) :: some (AObj.row [Value.int IntKind.i64 (3 : Int), Value.int IntKind.i64 (1 : Int), Value.int IntKind.i64 (0 : Int), Value.int IntKind.i64 (7 : Int)] (4 : Nat) false false true) :: some (AObj.row [Value.int IntKind.i64 (0 : Int)] (1 : Nat) false true true) :: noH)) ∧ ∀ (s : Empty), Is False → True ∧ False) := by kernel_rfl
theorem plan1_ok' {a b : Nat} : SmallRes Try.prog 15 [offB 0 1 a b] [some (.row sec1 5 false false true), some (.row shf1 4 false false true)]
    (.tuple #[.slice (some ⟨2, 0, none⟩) 1 1, .agg #[.int .i64 2, .int .i64 7], .int .i64 0]) [some (.row sec1 5 false false true), some (.row shf1 4 false false true), some (.row [.int .i64 0] 1 false true true)] := by
  refine fnP_res hm c0_ok (hs := hsPla a b) ?_
  rw [pla_t]
  exact ⟨rfl, rfl, rfl, ⟨rfl⟩, ⟨trivial⟩, ⟨⟨trivial, fun _ => ⟨⟨rfl, rfl, rfl, rfl, rfl, rfl, rfl, rfl, trivial⟩, rfl, ⟨trivial⟩⟩⟩, fun _ => ⟨⟨rfl, rfl, rfl, rfl, rfl, rfl, rfl, rfl, trivial⟩, rfl, ⟨trivial⟩⟩⟩, fun _ => ⟨⟨rfl, rfl, rfl, rfl, rfl, rfl, rfl, rfl, trivial⟩, rfl, rfl⟩, fun s _ => s.elim⟩
theorem plan1_ok {a b : Nat} : SmallRes Try.prog 15 [offB 0 1 a b] [some (.row sec1 5 false true true), some (.row shf1 4 false true true)]
    (.tuple #[.slice (some ⟨2, 0, none⟩) 1 1, .agg #[.int .i64 2, .int .i64 7], .int .i64 0]) [some (.row sec1 5 false true true), some (.row shf1 4 false true true), some (.row [.int .i64 0] 1 false true true)] :=
  regain [0, 1] (H := [some (.row sec1 5 false true true), some (.row shf1 4 false true true)]) plan1_ok' rfl rfl
noncomputable def orcP1 : OrcV
  | [.agg ⟨[.slice (some ⟨0, 0, none⟩) 1 _, .slice (some ⟨1, 0, none⟩) 1 _]⟩], [some (.row e 5 false true true), some (.row g 4 false true true)] =>
    some (.tuple #[.slice (some ⟨2, 0, none⟩) 1 1, .agg #[.int .i64 2, .int .i64 7], .int .i64 0], [some (.row e 5 false true true), some (.row g 4 false true true), some (.row [.int .i64 0] 1 false true true)], e = sec1 ∧ g = shf1)
  | _, _ => none
theorem okP1 : OkV Try.prog 15 orcP1 := by
  intro args H ret H' vc h hv
  unfold orcP1 at h
  split at h
  · cases h
    obtain ⟨rfl, rfl⟩ := hv
    exact plan1_ok
  · cases h
end
end Qq
end
section
/- The fixed example. -/
open Go Go.Vm Go.Proofs Sp
namespace Qq
noncomputable section
noncomputable def hsJr : Hs Try.prog where
  op y := if y = 526 then some (hEqX Try.prog) else none
  au := auCalls [(15, hCa Try.prog 15 orcP1 okP1)]
theorem jr_t (K : Value → Heap → Prop) :
    (fnP Try.prog c0 hsJr (7 : FuncId) [] [] K) =
    (Is ([Value.string { data := #[(97 : UInt8)] }, Value.int IntKind.i64 (5 : Int), Value.int IntKind.i64 (1 : Int), Value.int IntKind.i64 (0 : Int), Value.int IntKind.i64 (2 : Int)] = [Value.string { data := #[(97 : UInt8)] }, Value.int IntKind.i64 (5 : Int), Value.int IntKind.i64 (1 : Int), Value.int IntKind.i64 (0 : Int), Value.int IntKind.i64 (2 : Int)] ∧ [Value.int IntKind.i64 (3 : Int), Value.int IntKind.i64 (1 : Int), Value.int IntKind.i64 (0 : Int), Value.int IntKind.i64 (7 : Int)] = [Value.int IntKind.i64 (3 : Int), Value.int IntKind.i64 (1 : Int), Value.int IntKind.i64 (0 : Int), Value.int IntKind.i64 (7 : Int)]) ∧ Is True ∧ K (Value.bool true) noH) := by kernel_rfl
noncomputable def orcJr : OrcV
  | [], [] => some (.bool true, [], True)
  | _, _ => none
theorem okJr : OkV Try.prog 7 orcJr := by
  intro args H ret H' vc h hv
  unfold orcJr at h
  split at h
  · cases h
    refine fnP_res hm c0_ok (hs := hsJr) ?_
    rw [jr_t]
    exact ⟨⟨rfl, rfl⟩, ⟨trivial⟩, rfl, rfl⟩
  · cases h
end
end Qq
end
section
/- Moves in a row: how they lie, how two of them change places. -/
open Go Go.Vm Go.Proofs Sp
namespace Sp
open Qq
noncomputable section
abbrev Mv := Int × Int × Int
noncomputable def mC (m : Mv) : List Value := [.int .i64 m.1, .int .i64 m.2.1, .int .i64 m.2.2]
noncomputable def pA (d : Array Mv) : List Value := d.toList.flatMap mC
noncomputable def deM : List Value → List Mv
  | .int _ x :: .int _ y :: .int _ c :: r => (x, y, c) :: deM r
  | _ => []
noncomputable def dA (cells : List Value) : Array Mv := (deM cells).toArray
/-- A row of n moves. -/
def isM (cells : List Value) (n : Nat) : Prop := ∃ d : Array Mv, cells = pA d ∧ d.size = n ∧ n ≤ 49 ∧ ∀ m ∈ d.toList, mvIn m.1 m.2.1
noncomputable def cpM (a b : Mv) : Int := cpI a.1 a.2.1 a.2.2 b.1 b.2.1 b.2.2
noncomputable def ltM (a b : Mv) : Bool := decide (cpM a b < 0)
noncomputable def gMv (cells : List Value) (off : Nat) : Value := pv (iAt cells off) (iAt cells (off + 1)) (iAt cells (off + 2))
end
end Sp
namespace Qq
noncomputable section
theorem deM_pC : ∀ l : List Mv, deM (l.flatMap mC) = l
  | [] => by rw [List.flatMap_nil, deM]; intro _ _ _ _ _ _ _ h; cases h
  | m :: r => by
    have : (m :: r).flatMap mC = .int .i64 m.1 :: .int .i64 m.2.1 :: .int .i64 m.2.2 :: r.flatMap mC := rfl
    rw [this, deM, deM_pC r]
theorem dA_pA (d : Array Mv) : dA (pA d) = d := by rw [dA, pA, deM_pC]
theorem isM_eq {cells : List Value} {n : Nat} (h : isM cells n) : cells = pA (dA cells) ∧ (dA cells).size = n ∧ n ≤ 49 ∧ ∀ m ∈ (dA cells).toList, mvIn m.1 m.2.1 := by
  obtain ⟨d, rfl, h⟩ := h
  rw [dA_pA]
  exact ⟨rfl, h⟩
theorem pC_len : ∀ l : List Mv, (l.flatMap mC).length = l.length * 3
  | [] => rfl
  | m :: r => by rw [List.flatMap_cons, List.length_append, pC_len r, List.length_cons]; simp only [mC, List.length_cons, List.length_nil]; omega
theorem pA_len (d : Array Mv) : (pA d).length = d.size * 3 := pC_len _
theorem get!_eq {d : Array Mv} {p : Nat} (h : p < d.size) : d[p]! = d.toList[p]'h := by
  rw [getElem!_pos d p h]; rfl
theorem pA_split {d : Array Mv} {p : Nat} (h : p < d.size) : ∃ A B, d.toList = A ++ d[p]! :: B ∧ A.length = p := by
  have h' : p < d.toList.length := h
  refine ⟨d.toList.take p, d.toList.drop (p + 1), ?_, by rw [List.length_take]; omega⟩
  rw [get!_eq h]
  conv => lhs; rw [← List.take_append_drop p d.toList]
  rw [List.drop_eq_getElem_cons h']
theorem pA_cut {d : Array Mv} {p : Nat} (h : p < d.size) : ∃ A B : List Value, pA d = A ++ (mC d[p]! ++ B) ∧ A.length = p * 3 ∧ ∀ m, pA (d.setIfInBounds p m) = A ++ (mC m ++ B) := by
  obtain ⟨A, B, e, hA⟩ := pA_split h
  refine ⟨A.flatMap mC, B.flatMap mC, by rw [pA, e, List.flatMap_append, List.flatMap_cons], by rw [pC_len, hA], fun m => ?_⟩
  rw [pA, Array.toList_setIfInBounds, e, List.set_append_right _ _ (by omega), hA, Nat.sub_self, List.set_cons_zero, List.flatMap_append, List.flatMap_cons]
theorem pA_at {d : Array Mv} {p : Nat} (h : p < d.size) : iAt (pA d) (p * 3) = d[p]!.1 ∧ iAt (pA d) (p * 3 + 1) = d[p]!.2.1 ∧ iAt (pA d) (p * 3 + 2) = d[p]!.2.2 := by
  obtain ⟨A, B, e, hA, _⟩ := pA_cut h
  rw [e]
  refine ⟨?_, ?_, ?_⟩
  · rw [iAt, List.getElem?_append_right (by omega), show p * 3 - A.length = 0 by omega]; rfl
  · rw [iAt, List.getElem?_append_right (by omega), show p * 3 + 1 - A.length = 1 by omega]; rfl
  · rw [iAt, List.getElem?_append_right (by omega), show p * 3 + 2 - A.length = 2 by omega]; rfl
theorem pA_ld {d : Array Mv} {p : Nat} (h : p < d.size) : (if p * 3 + 3 ≤ (pA d).length then some (Value.agg (((pA d).drop (p * 3)).take 3).toArray) else none) = some (gMv (pA d) (p * 3)) := by
  obtain ⟨a1, a2, a3⟩ := pA_at h
  rw [if_pos (by rw [pA_len]; omega), gMv, a1, a2, a3]
  obtain ⟨A, B, e, hA, _⟩ := pA_cut h
  rw [e, ← hA, List.drop_left]
  rfl
theorem pA_put {d : Array Mv} {p : Nat} (h : p < d.size) (m : Mv) : putL (pA d) (p * 3) [.int .i64 m.1, .int .i64 m.2.1, .int .i64 m.2.2] = pA (d.setIfInBounds p m) := by
  obtain ⟨A, B, e, hA, hs⟩ := pA_cut h
  rw [hs m, e, putL, splice, ← hA, List.take_left]
  congr 1
  rw [← List.append_assoc, List.drop_append_of_le_length (by rw [List.length_append]; simp only [mC, List.length_cons, List.length_nil]; omega), List.drop_eq_nil_of_le (by rw [List.length_append]; simp only [mC, List.length_cons, List.length_nil]; omega), List.nil_append]
  rfl
theorem cp_at {d : Array Mv} {p q : Nat} (hp : p < d.size) (hq : q < d.size) : cpI (iAt (pA d) (p * 3)) (iAt (pA d) (p * 3 + 1)) (iAt (pA d) (p * 3 + 2)) (iAt (pA d) (q * 3)) (iAt (pA d) (q * 3 + 1)) (iAt (pA d) (q * 3 + 2)) = cpM d[p]! d[q]! := by
  obtain ⟨a1, a2, a3⟩ := pA_at hp
  obtain ⟨b1, b2, b3⟩ := pA_at hq
  rw [a1, a2, a3, b1, b2, b3]; rfl
theorem in_at {d : Array Mv} {p : Nat} (h : p < d.size) (hm : ∀ m ∈ d.toList, mvIn m.1 m.2.1) : mvIn (iAt (pA d) (p * 3)) (iAt (pA d) (p * 3 + 1)) := by
  obtain ⟨a1, a2, _⟩ := pA_at h
  rw [a1, a2]
  exact hm _ (by rw [get!_eq h]; exact List.getElem_mem _)
theorem swp_in {d : Array Mv} {i j : Nat} (hi : i < d.size) (hj : j < d.size) (hm : ∀ m ∈ d.toList, mvIn m.1 m.2.1) : ∀ m ∈ (Go.Sort.swp d i j).toList, mvIn m.1 m.2.1 := by
  intro m hx
  rw [Go.Sort.swp, Array.toList_setIfInBounds, Array.toList_setIfInBounds] at hx
  rcases List.mem_or_eq_of_mem_set hx with hx | rfl
  · rcases List.mem_or_eq_of_mem_set hx with hx | rfl
    · exact hm m hx
    · exact hm _ (by rw [get!_eq hj]; exact List.getElem_mem _)
  · exact hm _ (by rw [get!_eq hi]; exact List.getElem_mem _)
theorem swp_size (d : Array Mv) (i j : Nat) : (Go.Sort.swp d i j).size = d.size := by rw [Go.Sort.swp, Array.size_setIfInBounds, Array.size_setIfInBounds]
/-- As the program writes it. -/
theorem swp_put {d : Array Mv} {i j : Nat} (hi : i < d.size) (hj : j < d.size) : putL (putL (pA d) (i * 3) [.int .i64 (iAt (pA d) (j * 3)), .int .i64 (iAt (pA d) (j * 3 + 1)), .int .i64 (iAt (pA d) (j * 3 + 2))]) (j * 3) [.int .i64 (iAt (pA d) (i * 3)), .int .i64 (iAt (pA d) (i * 3 + 1)), .int .i64 (iAt (pA d) (i * 3 + 2))] = pA (Go.Sort.swp d i j) := by
  obtain ⟨a1, a2, a3⟩ := pA_at hi
  obtain ⟨b1, b2, b3⟩ := pA_at hj
  rw [a1, a2, a3, b1, b2, b3, pA_put hi, pA_put (by rw [Array.size_setIfInBounds]; exact hj)]; rfl
noncomputable def fF : Value := .func (.func 32) #[] #[]
noncomputable def mR (d : Array Mv) : Option AObj := some (.row (pA d) 3 true true true)
noncomputable def bxS (s : Nat) : Option AObj := some (.row [.int .i64 (s : Int)] 0 false true true)
noncomputable def hsO2 : Hs Try.prog where
  op y := if [103, 107].contains y then some (hIa Try.prog) else if [104, 108].contains y then some (hLc Try.prog gMv) else if y = 109 then some (hCa Try.prog 32 orcCp okCp) else if [201, 204].contains y then some (hNc Try.prog) else none
  nl _ := [.stay]
  rn := [.stay]
  au := au0 Try.prog
theorem o2_t (d : Array Mv) (n : Nat) (c : Nat) (a : Nat) (b : Nat) (s : Nat) (K : Value → Heap → Prop) :
    (fnP Try.prog c0 hsO2 (100 : FuncId) [Value.slice (some { block := (0 : Nat), off := (0 : Nat) }) n c, Value.int IntKind.i64 (↑a : Int), Value.int IntKind.i64 (↑b : Int), Value.pointer (some { block := (1 : Nat), off := (0 : Nat) }), fF] [mR d, bxS s] K) =
    (Is ((0 : Int) ≤ (↑b : Int) ∧ (↑b : Int) < (↑n : Int)) ∧ Is ((if (0 : Nat) + Int.toNat (↑b : Int) * (3 : Nat) + (3 : Nat) ≤ List.length (pA d) then some (Value.agg (List.toArray (List.take (3 : Nat) (List.drop ((0 : Nat) + Int.toNat (↑b : Int) * (3 : Nat)) (pA d))))) else none) = some (Value.agg #[Value.int IntKind.i64 (iAt (pA d) ((0 : Nat) + Int.toNat (↑b : Int) * (3 : Nat))), Value.int IntKind.i64 (iAt (pA d) ((0 : Nat) + Int.toNat (↑b : Int) * (3 : Nat) + (1 : Nat))), Value.int IntKind.i64 (iAt (pA d) ((0 : Nat) + Int.toNat (↑b : Int) * (3 : Nat) + (2 : Nat)))])) ∧ Is ((0 : Int) ≤ (↑a : Int) ∧ (↑a : Int) < (↑n : Int)) ∧ Is ((if (0 : Nat) + Int.toNat (↑a : Int) * (3 : Nat) + (3 : Nat) ≤ List.length (pA d) then some (Value.agg (List.toArray (List.take (3 : Nat) (List.drop ((0 : Nat) + Int.toNat (↑a : Int) * (3 : Nat)) (pA d))))) else none) = some (Value.agg #[Value.int IntKind.i64 (iAt (pA d) ((0 : Nat) + Int.toNat (↑a : Int) * (3 : Nat))), Value.int IntKind.i64 (iAt (pA d) ((0 : Nat) + Int.toNat (↑a : Int) * (3 : Nat) + (1 : Nat))), Value.int IntKind.i64 (iAt (pA d) ((0 : Nat) + Int.toNat (↑a : Int) * (3 : Nat) + (2 : Nat)))])) ∧ Is (mvIn (iAt (pA d) ((0 : Nat) + Int.toNat (↑b : Int) * (3 : Nat))) (iAt (pA d) ((0 : Nat) + Int.toNat (↑b : Int) * (3 : Nat) + (1 : Nat))) ∧ mvIn (iAt (pA d) ((0 : Nat) + Int.toNat (↑a : Int) * (3 : Nat))) (iAt (pA d) ((0 : Nat) + Int.toNat (↑a : Int) * (3 : Nat) + (1 : Nat)))) ∧ br (decide (cpI (iAt (pA d) ((0 : Nat) + Int.toNat (↑b : Int) * (3 : Nat))) (iAt (pA d) ((0 : Nat) + Int.toNat (↑b : Int) * (3 : Nat) + (1 : Nat))) (iAt (pA d) ((0 : Nat) + Int.toNat (↑b : Int) * (3 : Nat) + (2 : Nat))) (iAt (pA d) ((0 : Nat) + Int.toNat (↑a : Int) * (3 : Nat))) (iAt (pA d) ((0 : Nat) + Int.toNat (↑a : Int) * (3 : Nat) + (1 : Nat))) (iAt (pA d) ((0 : Nat) + Int.toNat (↑a : Int) * (3 : Nat) + (2 : Nat))) < (0 : Int))) (Is True ∧ Is True ∧ K (Value.tuple #[Value.int IntKind.i64 (↑b : Int), Value.int IntKind.i64 (↑a : Int)]) (some (AObj.row (pA d) (3 : Nat) true true true) :: some (AObj.row [Value.int IntKind.i64 (IntKind.wrap IntKind.i64 ((↑s : Int) + (1 : Int)))] (0 : Nat) false true (true && List.all [Value.int IntKind.i64 (IntKind.wrap IntKind.i64 ((↑s : Int) + (1 : Int)))] atom)) :: noH)) (K (Value.tuple #[Value.int IntKind.i64 (↑a : Int), Value.int IntKind.i64 (↑b : Int)]) (some (AObj.row (pA d) (3 : Nat) true true true) :: some (AObj.row [Value.int IntKind.i64 (↑s : Int)] (0 : Nat) false true true) :: noH))) := by kernel_rfl
noncomputable def o2F (cells : List Value) (a b s : Int) : Nat × Nat × Nat := Go.Sort.order2 ltM (dA cells) a.toNat b.toNat s.toNat
noncomputable def orcO2 : OrcV
  | [.slice (some ⟨0, 0, none⟩) n _, .int .i64 a, .int .i64 b, .pointer (some ⟨1, 0, none⟩), f], [some (.row cells 3 true true true), some (.row [.int .i64 s] 0 false true true)] =>
    some (.tuple #[.int .i64 ((o2F cells a b s).1 : Int), .int .i64 ((o2F cells a b s).2.1 : Int)], [some (.row cells 3 true true true), some (.row [.int .i64 ((o2F cells a b s).2.2 : Int)] 0 false true true)],
      isM cells n ∧ (0 ≤ a ∧ a < n) ∧ (0 ≤ b ∧ b < n) ∧ (0 ≤ s ∧ s ≤ 1000) ∧ f = fF)
  | _, _ => none
theorem k3 (a : Nat) : 0 + (a : Int).toNat * 3 = a * 3 := by omega
set_option maxRecDepth 100000 in
theorem okO2 : OkV Try.prog 100 orcO2 := by
  intro args H ret H' vc h hv
  unfold orcO2 at h
  split at h
  · rename_i n c a b f cells s
    cases h
    obtain ⟨hm1, ⟨a0, a1⟩, ⟨b0, b1⟩, ⟨s0, s1⟩, rfl⟩ := hv
    obtain ⟨he, hsz, h49, hin⟩ := isM_eq hm1
    obtain ⟨d, hd⟩ : ∃ d, d = dA cells := ⟨_, rfl⟩
    rw [← hd] at he hsz hin
    clear hd
    subst he
    obtain ⟨a, rfl⟩ : ∃ k : Nat, a = (k : Int) := ⟨a.toNat, by omega⟩
    obtain ⟨b, rfl⟩ : ∃ k : Nat, b = (k : Int) := ⟨b.toNat, by omega⟩
    obtain ⟨s, rfl⟩ : ∃ k : Nat, s = (k : Int) := ⟨s.toNat, by omega⟩
    have ha : a < d.size := by omega
    have hb : b < d.size := by omega
    refine fnP_res hm c0_ok (hs := hsO2) ?_
    show fnP Try.prog c0 hsO2 100 [_, _, _, _, fF] [mR d, bxS s] _
    rw [o2_t, k3, k3, cp_at hb ha]
    have l1 := pA_ld hb
    have l2 := pA_ld ha
    refine ⟨⟨by omega, by omega⟩, ⟨l1⟩, ⟨by omega, by omega⟩, ⟨l2⟩, ⟨in_at hb hin, in_at ha hin⟩, br_of (fun hc => ?_) (fun hc => ?_)⟩
    · have e : o2F (pA d) a b s = (b, a, s + 1) := by
        rw [o2F, dA_pA, Int.toNat_natCast, Int.toNat_natCast, Int.toNat_natCast, Go.Sort.order2, if_pos (show ltM d[b]! d[a]! = true from hc)]
      rw [e]
      refine ⟨⟨trivial⟩, ⟨trivial⟩, rfl, ?_⟩
      rw [wrap_eq (by omega) (by omega)]; rfl
    · have e : o2F (pA d) a b s = (a, b, s) := by
        rw [o2F, dA_pA, Int.toNat_natCast, Int.toNat_natCast, Int.toNat_natCast, Go.Sort.order2, if_neg (by rw [show ltM d[b]! d[a]! = false from hc]; decide)]
      rw [e]
      exact ⟨rfl, rfl⟩
  · cases h
noncomputable def hsMd : Hs Try.prog where
  nl _ := [.stay]
  rn := [.stay]
  au := auCalls [(100, hCa Try.prog 100 orcO2 okO2)]
theorem md_t (d : Array Mv) (n : Nat) (c : Nat) (a : Nat) (b : Nat) (e : Nat) (s : Nat) (K : Value → Heap → Prop) :
    (fnP Try.prog c0 hsMd (97 : FuncId) [Value.slice (some { block := (0 : Nat), off := (0 : Nat) }) n c, Value.int IntKind.i64 (↑a : Int), Value.int IntKind.i64 (↑b : Int), Value.int IntKind.i64 (↑e : Int), Value.pointer (some { block := (1 : Nat), off := (0 : Nat) }), fF] [mR d, bxS s] K) =
    (Is (isM (pA d) n ∧ ((0 : Int) ≤ (↑a : Int) ∧ (↑a : Int) < (↑n : Int)) ∧ ((0 : Int) ≤ (↑b : Int) ∧ (↑b : Int) < (↑n : Int)) ∧ ((0 : Int) ≤ (↑s : Int) ∧ (↑s : Int) ≤ (1000 : Int)) ∧ Value.func (Fn.func (32 : Nat)) #[] #[] = Value.func (Fn.func (32 : Nat)) #[] #[]) ∧ Is (isM (pA d) n ∧ ((0 : Int) ≤ (↑(Prod.fst (Prod.snd (o2F (pA d) (↑a : Int) (↑b : Int) (↑s : Int)))) : Int) ∧ (↑(Prod.fst (Prod.snd (o2F (pA d) (↑a : Int) (↑b : Int) (↑s : Int)))) : Int) < (↑n : Int)) ∧ ((0 : Int) ≤ (↑e : Int) ∧ (↑e : Int) < (↑n : Int)) ∧ ((0 : Int) ≤ (↑(Prod.snd (Prod.snd (o2F (pA d) (↑a : Int) (↑b : Int) (↑s : Int)))) : Int) ∧ (↑(Prod.snd (Prod.snd (o2F (pA d) (↑a : Int) (↑b : Int) (↑s : Int)))) : Int) ≤ (1000 : Int)) ∧ Value.func (Fn.func (32 : Nat)) #[] #[] = Value.func (Fn.func (32 : Nat)) #[] #[]) ∧ Is (isM (pA d) n ∧ ((0 : Int) ≤ (↑(Prod.fst (o2F (pA d) (↑a : Int) (↑b : Int) (↑s : Int))) : Int) ∧ (↑(Prod.fst (o2F (pA d) (↑a : Int) (↑b : Int) (↑s : Int))) : Int) < (↑n : Int)) ∧ ((0 : Int) ≤ (↑(Prod.fst (o2F (pA d) (↑(Prod.fst (Prod.snd (o2F (pA d) (↑a : Int) (↑b : Int) (↑s : Int)))) : Int) (↑e : Int) (↑(Prod.snd (Prod.snd (o2F (pA d) (↑a : Int) (↑b : Int) (↑s : Int)))) : Int))) : Int) ∧ (↑(Prod.fst (o2F (pA d) (↑(Prod.fst (Prod.snd (o2F (pA d) (↑a : Int) (↑b : Int) (↑s : Int)))) : Int) (↑e : Int) (↑(Prod.snd (Prod.snd (o2F (pA d) (↑a : Int) (↑b : Int) (↑s : Int)))) : Int))) : Int) < (↑n : Int)) ∧ ((0 : Int) ≤ (↑(Prod.snd (Prod.snd (o2F (pA d) (↑(Prod.fst (Prod.snd (o2F (pA d) (↑a : Int) (↑b : Int) (↑s : Int)))) : Int) (↑e : Int) (↑(Prod.snd (Prod.snd (o2F (pA d) (↑a : Int) (↑b : Int) (↑s : Int)))) : Int)))) : Int) ∧ (↑(Prod.snd (Prod.snd (o2F (pA d) (↑(Prod.fst (Prod.snd (o2F (pA d) (↑a : Int) (↑b : Int) (↑s : Int)))) : Int) (↑e : Int) (↑(Prod.snd (Prod.snd (o2F (pA d) (↑a : Int) (↑b : Int) (↑s : Int)))) : Int)))) : Int) ≤ (1000 : Int)) ∧ Value.func (Fn.func (32 : Nat)) #[] #[] = Value.func (Fn.func (32 : Nat)) #[] #[]) ∧ K (Value.int IntKind.i64 (↑(Prod.fst (Prod.snd (o2F (pA d) (↑(Prod.fst (o2F (pA d) (↑a : Int) (↑b : Int) (↑s : Int))) : Int) (↑(Prod.fst (o2F (pA d) (↑(Prod.fst (Prod.snd (o2F (pA d) (↑a : Int) (↑b : Int) (↑s : Int)))) : Int) (↑e : Int) (↑(Prod.snd (Prod.snd (o2F (pA d) (↑a : Int) (↑b : Int) (↑s : Int)))) : Int))) : Int) (↑(Prod.snd (Prod.snd (o2F (pA d) (↑(Prod.fst (Prod.snd (o2F (pA d) (↑a : Int) (↑b : Int) (↑s : Int)))) : Int) (↑e : Int) (↑(Prod.snd (Prod.snd (o2F (pA d) (↑a : Int) (↑b : Int) (↑s : Int)))) : Int)))) : Int)))) : Int)) (some (AObj.row (pA d) (3 : Nat) true true true) :: some (AObj.row [Value.int IntKind.i64 (↑(Prod.snd (Prod.snd (o2F (pA d) (↑(Prod.fst (o2F (pA d) (↑a : Int) (↑b : Int) (↑s : Int))) : Int) (↑(Prod.fst (o2F (pA d) (↑(Prod.fst (Prod.snd (o2F (pA d) (↑a : Int) (↑b : Int) (↑s : Int)))) : Int) (↑e : Int) (↑(Prod.snd (Prod.snd (o2F (pA d) (↑a : Int) (↑b : Int) (↑s : Int)))) : Int))) : Int) (↑(Prod.snd (Prod.snd (o2F (pA d) (↑(Prod.fst (Prod.snd (o2F (pA d) (↑a : Int) (↑b : Int) (↑s : Int)))) : Int) (↑e : Int) (↑(Prod.snd (Prod.snd (o2F (pA d) (↑a : Int) (↑b : Int) (↑s : Int)))) : Int)))) : Int)))) : Int)] (0 : Nat) false true true) :: noH)) := by kernel_rfl
noncomputable def mdP (cells : List Value) (a b c s : Int) : Nat := (Go.Sort.median ltM (dA cells) a.toNat b.toNat c.toNat s.toNat).1
noncomputable def mdS (cells : List Value) (a b c s : Int) : Nat := (Go.Sort.median ltM (dA cells) a.toNat b.toNat c.toNat s.toNat).2
noncomputable def orcMd : OrcV
  | [.slice (some ⟨0, 0, none⟩) n _, .int .i64 a, .int .i64 b, .int .i64 e, .pointer (some ⟨1, 0, none⟩), f], [some (.row cells 3 true true true), some (.row [.int .i64 s] 0 false true true)] =>
    some (.int .i64 (mdP cells a b e s : Int), [some (.row cells 3 true true true), some (.row [.int .i64 (mdS cells a b e s : Int)] 0 false true true)],
      isM cells n ∧ (0 ≤ a ∧ a < n) ∧ (0 ≤ b ∧ b < n) ∧ (0 ≤ e ∧ e < n) ∧ (0 ≤ s ∧ s ≤ 900) ∧ f = fF)
  | _, _ => none
theorem o2_le {d : Array Mv} {n a b s : Nat} (ha : a < n) (hb : b < n) : (Go.Sort.order2 ltM d a b s).1 < n ∧ (Go.Sort.order2 ltM d a b s).2.1 < n ∧ (Go.Sort.order2 ltM d a b s).2.2 ≤ s + 1 := by
  rw [Go.Sort.order2]
  split
  · exact ⟨hb, ha, Nat.le_refl _⟩
  · exact ⟨ha, hb, Nat.le_succ _⟩
set_option maxRecDepth 100000 in
theorem okMd : OkV Try.prog 97 orcMd := by
  intro args H ret H' vc h hv
  unfold orcMd at h
  split at h
  · rename_i n c a b e f cells s
    cases h
    obtain ⟨hm1, ⟨a0, a1⟩, ⟨b0, b1⟩, ⟨e0, e1⟩, ⟨s0, s1⟩, rfl⟩ := hv
    have hm2 := hm1
    obtain ⟨he, hsz, h49, hin⟩ := isM_eq hm1
    obtain ⟨d, hd⟩ : ∃ d, d = dA cells := ⟨_, rfl⟩
    rw [← hd] at he hsz hin
    clear hd
    subst he
    obtain ⟨a, rfl⟩ : ∃ k : Nat, a = (k : Int) := ⟨a.toNat, by omega⟩
    obtain ⟨b, rfl⟩ : ∃ k : Nat, b = (k : Int) := ⟨b.toNat, by omega⟩
    obtain ⟨e, rfl⟩ : ∃ k : Nat, e = (k : Int) := ⟨e.toNat, by omega⟩
    obtain ⟨s, rfl⟩ : ∃ k : Nat, s = (k : Int) := ⟨s.toNat, by omega⟩
    refine fnP_res hm c0_ok (hs := hsMd) ?_
    show fnP Try.prog c0 hsMd 97 [_, _, _, _, _, fF] [mR d, bxS s] _
    rw [md_t]
    have ef : ∀ x y z : Nat, o2F (pA d) x y z = Go.Sort.order2 ltM d x y z := fun x y z => by
      rw [o2F, dA_pA, Int.toNat_natCast, Int.toNat_natCast, Int.toNat_natCast]
    have em : mdP (pA d) a b e s = (Go.Sort.median ltM d a b e s).1 := by
      rw [mdP, dA_pA, Int.toNat_natCast, Int.toNat_natCast, Int.toNat_natCast, Int.toNat_natCast]
    have em2 : mdS (pA d) a b e s = (Go.Sort.median ltM d a b e s).2 := by
      rw [mdS, dA_pA, Int.toNat_natCast, Int.toNat_natCast, Int.toNat_natCast, Int.toNat_natCast]
    rw [em, em2]
    simp only [ef]
    obtain ⟨p1, p2, p3⟩ := o2_le (d := d) (n := n) (a := a) (b := b) (s := s) (by omega) (by omega)
    generalize hr1 : Go.Sort.order2 ltM d a b s = r1 at *
    obtain ⟨q1, q2, q3⟩ := o2_le (d := d) (n := n) (a := r1.2.1) (b := e) (s := r1.2.2) (by omega) (by omega)
    generalize hr2 : Go.Sort.order2 ltM d r1.2.1 e r1.2.2 = r2 at *
    refine ⟨⟨hm2, ⟨by omega, by omega⟩, ⟨by omega, by omega⟩, ⟨by omega, by omega⟩, trivial⟩, ⟨hm2, ⟨by omega, by omega⟩, ⟨by omega, by omega⟩, ⟨by omega, by omega⟩, trivial⟩, ⟨hm2, ⟨by omega, by omega⟩, ⟨by omega, by omega⟩, ⟨by omega, by omega⟩, trivial⟩, ?_⟩
    rw [Go.Sort.median]
    simp only [hr1, hr2]
    refine ⟨?_, ?_⟩ <;> first | rfl | trivial
  · cases h
end
end Qq
end
