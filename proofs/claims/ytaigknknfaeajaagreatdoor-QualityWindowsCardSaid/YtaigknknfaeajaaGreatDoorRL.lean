/- Indices, the worst window: the program, and the reference. -/
import Derived.Test.YtaigknknfaeajaaGreatDoorRK
import Derived.Test.YtaigknknfaeajaaGreatDoorZO
open Go Go.Vm Go.Proofs Sp
namespace Sp
noncomputable section
noncomputable def cwE (nm : ByteArray) (f : Int) (xs : List Nat) (n : Nat) (hs : List Int) (y : Int) : Int := fi [runE nm f xs n hs, wi y 2 256]
noncomputable def iL (nm : ByteArray) (f : Int) (xs : List Nat) (n : Nat) (hs : List Int) (y : Int) : List Int := if cwE nm f xs n hs y = 0 then ixL xs hs y.toNat (n / y.toNat) else []
noncomputable def ixV (v : Int) : List Int → Nat → Int
  | [], _ => -1
  | x :: r, i => if x = v then (i : Int) else ixV v r (i + 1)
/-- The window with the greatest index, as the reference looks for it. -/
noncomputable def wG (l : List Int) : List Int → Nat → Int → Int
  | [], _, at' => at'
  | x :: r, i, at' => wG l r (i + 1) (if (decide (0 ≤ x) && (decide (at' < 0) || decide (l.getD at'.toNat 0 < x))) = true then (i : Int) else at')
end
end Sp
namespace Qq
noncomputable section
noncomputable def hsCw (xs : List Nat) (hs : List Int) : Hs Tryz.prog where
  au := auCalls [(108, hCa Tryz.prog 108 (orcCrP xs hs) (okCrP xs hs))]
theorem cw_t (nm : ByteArray) (f : Int) (n : Nat) (c : Nat) (k : Nat) (d : Nat) (xs : List Nat) (hs : List Int) (y : Int) (K : Value → Heap → Prop) :
    (fnP Tryz.prog c2 (hsCw xs hs) (118 : FuncId) [Value.agg (List.toArray (runA nm f (0 : Nat) n c (1 : Nat) k d)), Value.int IntKind.i64 y] (hp2r xs hs true true true true []) K) =
    (Is (isRun xs hs n k (flts xs) (ints hs)) ∧ K (Value.int IntKind.i64 (fi [runE nm f xs n hs, wi y (2 : Int) (256 : Int)])) (some (AObj.row (flts xs) (1 : Nat) true true true) :: some (AObj.row (ints hs) (2 : Nat) true true true) :: noH)) := by kernel_rfl
noncomputable def orcCw (xs : List Nat) (hs : List Int) : OrcV
  | [.agg ⟨[.string nm, .int .i64 f, .slice (some ⟨0, 0, none⟩) n _, .slice (some ⟨1, 0, none⟩) k _]⟩, .int .i64 y], [some (.row e1 1 true true true), some (.row e2 2 true true true)] =>
    some (.int .i64 (cwE nm f xs n hs y), [some (.row e1 1 true true true), some (.row e2 2 true true true)], isRun xs hs n k e1 e2)
  | _, _ => none
theorem okCw (xs : List Nat) (hs : List Int) : OkV Tryz.prog 118 (orcCw xs hs) := by
  intro args H ret H' vc h hv
  unfold orcCw at h
  split at h
  · rename_i nm f n c k d y e1 e2
    cases h
    obtain ⟨rfl, rfl, h1, h2, h3, h4⟩ := hv
    refine fnP_res hm c2_ok (hs := hsCw xs hs) ?_
    show fnP Tryz.prog c2 (hsCw xs hs) 118 [.agg (runA nm f 0 n c 1 k d).toArray, _] (hp2r xs hs true true true true []) _
    rw [cw_t]
    exact ⟨⟨rfl, rfl, h1, h2, h3, h4⟩, by first | trivial | rfl, by first | trivial | rfl⟩
  · cases h
noncomputable def hsId (xs : List Nat) (hs : List Int) (y : Int) : Hs Tryz.prog where
  au := auCalls [(118, hCa Tryz.prog 118 (orcCw xs hs) (okCw xs hs)), (119, hCa Tryz.prog 119 (orcInx xs hs y.toNat) (okInx xs hs y.toNat))]
theorem id_t (nm : ByteArray) (f : Int) (n : Nat) (c : Nat) (k : Nat) (d : Nat) (xs : List Nat) (hs : List Int) (y : Int) (K : Value → Heap → Prop) :
    (fnP Tryz.prog c2 (hsId xs hs y) (25 : FuncId) [Value.agg (List.toArray (runA nm f (0 : Nat) n c (1 : Nat) k d)), Value.int IntKind.i64 y] (hp2r xs hs true true true true []) K) =
    (Is (isRun xs hs n k (flts xs) (ints hs)) ∧ br (cwE nm f xs n hs y != (0 : Int)) (K (Value.tuple #[Value.slice none (0 : Nat) (0 : Nat), Value.int IntKind.i64 (cwE nm f xs n hs y)]) (some (AObj.row (flts xs) (1 : Nat) true true true) :: some (AObj.row (ints hs) (2 : Nat) true true true) :: noH)) (Is (isRun xs hs n k (flts xs) (ints hs) ∧ runE nm f xs n hs = (0 : Int) ∧ y = (↑(Int.toNat y) : Int) ∧ (0 : Nat) < Int.toNat y ∧ Int.toNat y ≤ (256 : Nat)) ∧ K (Value.tuple #[Value.slice (some { block := (2 : Nat), off := (0 : Nat) }) (n / Int.toNat y) (0 : Nat), Value.int IntKind.i64 (0 : Int)]) (some (AObj.row (flts xs) (1 : Nat) true true true) :: some (AObj.row (ints hs) (2 : Nat) true true true) :: some (AObj.row (ints (ixL xs hs (Int.toNat y) (n / Int.toNat y))) (1 : Nat) true true true) :: noH))) := by kernel_rfl
/- The first index of a value. -/
noncomputable def lpXi (l : List Int) (n c : Nat) (v : Int) : Lp where
  σ := Nat
  E s := slots 19 [(0, .slice (some ⟨0, 0, none⟩) n c), (1, .int .i64 v), (7, .int .i64 (Int.ofNat n)), (8, .int .i64 (Int.ofNat s))]
  Hp _ := [oneR l]
  I s := s ≤ n ∧ ixV v (l.drop s) s = ixV v l 0
  m s := n - s
noncomputable def hsXi (l : List Int) (n c : Nat) (v : Int) : Hs Tryz.prog where
  op y := if y = 403 then some (hIa Tryz.prog) else if y = 404 then some (hLd Tryz.prog (zI l)) else none
  lp _ := some (lpXi l n c v)
  cl _ := keep 19 [0, 1, 7, 8]
  au := au0 Tryz.prog
theorem xi_t (l : List Int) (n : Nat) (c : Nat) (v : Int) (K : Value → Heap → Prop) :
    (fnP Tryz.prog c0 (hsXi l n c v) (121 : FuncId) [Value.slice (some { block := (0 : Nat), off := (0 : Nat) }) n c, Value.int IntKind.i64 v] [oneR l] K) =
    ((∃ (s : Nat), Is (s ≤ n ∧ ixV v (List.drop s l) s = ixV v l (0 : Nat)) ∧ [Value.slice (some { block := (0 : Nat), off := (0 : Nat) }) n c, Value.int IntKind.i64 v, poi, poi, poi, poi, poi, Value.int IntKind.i64 (↑n : Int), Value.int IntKind.i64 (0 : Int), poi, poi, poi, poi, poi, poi, poi, poi, poi, poi] = [Value.slice (some { block := (0 : Nat), off := (0 : Nat) }) n c, Value.int IntKind.i64 v, poi, poi, poi, poi, poi, Value.int IntKind.i64 (↑n : Int), Value.int IntKind.i64 (↑s : Int), poi, poi, poi, poi, poi, poi, poi, poi, poi, poi] ∧ some (AObj.row (ints l) (1 : Nat) true true true) :: noH = some (AObj.row (ints l) (1 : Nat) true true true) :: noH) ∧ ∀ (s : Nat), Is (s ≤ n ∧ ixV v (List.drop s l) s = ixV v l (0 : Nat)) → br (decide ((↑s : Int) < (↑n : Int))) (Is ((0 : Int) ≤ (↑s : Int) ∧ (↑s : Int) < (↑n : Int)) ∧ Is ((ints l)[(0 : Nat) + Int.toNat (↑s : Int) * (1 : Nat)]? = some (Value.int IntKind.i64 (List.getD l ((0 : Nat) + Int.toNat (↑s : Int) * (1 : Nat)) (0 : Int)))) ∧ br (v == List.getD l ((0 : Nat) + Int.toNat (↑s : Int) * (1 : Nat)) (0 : Int)) (K (Value.int IntKind.i64 (↑s : Int)) (some (AObj.row (ints l) (1 : Nat) true true true) :: noH)) (∃ (s' : Nat), Is (s' ≤ n ∧ ixV v (List.drop s' l) s' = ixV v l (0 : Nat)) ∧ Is (n - s' < n - s) ∧ [Value.slice (some { block := (0 : Nat), off := (0 : Nat) }) n c, Value.int IntKind.i64 v, poi, poi, poi, poi, poi, Value.int IntKind.i64 (↑n : Int), Value.int IntKind.i64 (IntKind.wrap IntKind.i64 ((↑s : Int) + (1 : Int))), poi, poi, poi, poi, poi, poi, poi, poi, poi, poi] = [Value.slice (some { block := (0 : Nat), off := (0 : Nat) }) n c, Value.int IntKind.i64 v, poi, poi, poi, poi, poi, Value.int IntKind.i64 (↑n : Int), Value.int IntKind.i64 (↑s' : Int), poi, poi, poi, poi, poi, poi, poi, poi, poi, poi] ∧ some (AObj.row (ints l) (1 : Nat) true true true) :: noH = some (AObj.row (ints l) (1 : Nat) true true true) :: noH)) (K (Value.int IntKind.i64 (-1 : Int)) (some (AObj.row (ints l) (1 : Nat) true true true) :: noH))) := by kernel_rfl
noncomputable def orcMaxV (l : List Int) : OrcV
  | [.slice (some ⟨0, 0, none⟩) n _], [some (.row e1 1 true true true)] => some (.int .i64 (mxL l), [some (.row e1 1 true true true)], e1 = ints l ∧ l.length = n ∧ 0 < n ∧ n ≤ 100000)
  | _, _ => none
theorem okMaxV (l : List Int) : OkV Tryz.prog 120 (orcMaxV l) := by
  intro args H ret H' vc h hv
  unfold orcMaxV at h
  split at h
  · rename_i n c e1
    cases h
    obtain ⟨rfl, rfl, h00, hlt⟩ := hv
    refine fnP_res hm c0_ok (hs := hsMax l l.length c 1 true true) ?_
    rw [max_t]
    refine br_of (fun h => by have := of_decide_eq_true h; omega) (fun _ => ⟨⟨by omega, by omega⟩, ⟨by simpa using ints_at h00⟩, ⟨(1, l.getD 0 0), ⟨by simp only; omega, rfl⟩, by first | trivial | rfl, by first | trivial | rfl⟩, fun s hs => ?_⟩)
    obtain ⟨h1, h2⟩ := hs.out
    refine br_of (fun hc => ?_) (fun hc => ?_)
    · have hc : s.1 < l.length := by simpa using hc
      have st := mxG_drop s.2 hc
      refine ⟨⟨by omega, by omega⟩, ⟨by simpa using ints_at hc⟩, (s.1 + 1, if l.getD s.1 0 > s.2 then l.getD s.1 0 else s.2), ⟨by simp only; omega, by rw [← st, h2]⟩, ⟨by simp only; omega⟩, ?_, by first | trivial | rfl⟩
      simp only [Nat.zero_add, Nat.mul_one, Int.toNat_natCast]
      rw [wrap_eq (by omega) (by omega)]
      rfl
    · have hc : l.length ≤ s.1 := by simpa using hc
      rw [List.drop_eq_nil_of_le hc] at h2
      rw [← h2]
      exact ⟨by first | trivial | rfl, by first | trivial | rfl⟩
  · cases h
theorem zi_drop {l : List Int} {i : Nat} (h : i < l.length) : l.drop i = l.getD i 0 :: l.drop (i + 1) := by
  rw [List.drop_eq_getElem_cons h, List.getD_eq_getElem?_getD, List.getElem?_eq_getElem h]; rfl
set_option maxRecDepth 100000 in
theorem xi_ok {l : List Int} {n c : Nat} {v : Int} (hn : l.length = n) (h9 : n ≤ 100000) :
    SmallRes Tryz.prog 121 [.slice (some ⟨0, 0, none⟩) n c, .int .i64 v] [oneR l] (.int .i64 (ixV v l 0)) [oneR l] := by
  refine fnP_res hm c0_ok (hs := hsXi l n c v) ?_
  rw [xi_t]
  refine ⟨⟨(0 : Nat), ⟨by omega, by rw [List.drop_zero]⟩, by first | trivial | rfl, by first | trivial | rfl⟩, fun s hs' => br_of (fun hc => ?_) (fun hc => ?_)⟩
  · have hc := lt_of_dec hc
    obtain ⟨i1, i2⟩ := hs'.out
    rw [zi_drop (show s < l.length by omega), ixV] at i2
    simp only [Nat.zero_add, Nat.mul_one, Int.toNat_natCast]
    refine ⟨⟨by omega, by omega⟩, ⟨zint_at (by omega)⟩, br_of (fun hb => ?_) (fun hb => ⟨s + 1, ⟨hc, ?_⟩, ⟨by omega⟩, by rw [up1 hc (by omega)], by first | trivial | rfl⟩)⟩
    · have hb : v = l.getD s 0 := by simpa using hb
      rw [if_pos hb.symm] at i2
      rw [← i2]
      exact ⟨by first | trivial | rfl, by first | trivial | rfl⟩
    · have hb : ¬ v = l.getD s 0 := by simpa using hb
      rw [if_neg (fun e => hb e.symm)] at i2
      exact i2
  · have hc := ge_of_dec hc
    obtain ⟨i1, i2⟩ := hs'.out
    rw [List.drop_eq_nil_of_le (by omega)] at i2
    rw [← i2]
    exact ⟨by first | trivial | rfl, by first | trivial | rfl⟩
noncomputable def orcXi (l : List Int) : OrcV
  | [.slice (some ⟨0, 0, none⟩) n _, .int .i64 v], [some (.row e1 1 true true true)] => some (.int .i64 (ixV v l 0), [some (.row e1 1 true true true)], e1 = ints l ∧ l.length = n ∧ n ≤ 100000)
  | _, _ => none
theorem okXi (l : List Int) : OkV Tryz.prog 121 (orcXi l) := by
  intro args H ret H' vc h hv
  unfold orcXi at h
  split at h
  · cases h
    obtain ⟨rfl, h1, h2⟩ := hv
    exact xi_ok h1 h2
  · cases h
/- The worst window. -/
noncomputable def hsWo (xs : List Nat) (hs : List Int) (y : Int) (l : List Int) : Hs Tryz.prog where
  op y := if y = 404 then some (hAp Tryz.prog) else none
  au := auCalls [(118, hCa Tryz.prog 118 (orcCw xs hs) (okCw xs hs)), (119, hCa Tryz.prog 119 (orcInx xs hs y.toNat) (okInx xs hs y.toNat)), (120, hCa Tryz.prog 120 (orcMaxV l) (okMaxV l)), (121, hCa Tryz.prog 121 (orcXi l) (okXi l))]
theorem wo_t (nm : ByteArray) (f : Int) (n : Nat) (c : Nat) (k : Nat) (d : Nat) (xs : List Nat) (hs : List Int) (y : Int) (l : List Int) (K : Value → Heap → Prop) :
    (fnP Tryz.prog c2 (hsWo xs hs y l) (26 : FuncId) [Value.agg (List.toArray (runA nm f (0 : Nat) n c (1 : Nat) k d)), Value.int IntKind.i64 y] (hp2r xs hs true true true true []) K) =
    (Is (isRun xs hs n k (flts xs) (ints hs)) ∧ br (cwE nm f xs n hs y != (0 : Int)) (K (Value.tuple #[Value.int IntKind.i64 (0 : Int), Value.int IntKind.i64 (0 : Int), Value.int IntKind.i64 (cwE nm f xs n hs y)]) (some (AObj.row (flts xs) (1 : Nat) true true true) :: some (AObj.row (ints hs) (2 : Nat) true true true) :: noH)) (Is (isRun xs hs n k (flts xs) (ints hs) ∧ runE nm f xs n hs = (0 : Int) ∧ y = (↑(Int.toNat y) : Int) ∧ (0 : Nat) < Int.toNat y ∧ Int.toNat y ≤ (256 : Nat)) ∧ Is (List.length (ints (ixL xs hs (Int.toNat y) (n / Int.toNat y))) = n / Int.toNat y * (1 : Nat) ∧ (n / Int.toNat y + (1 : Nat)) * (8 : Nat) ≤ (140737488355328 : Nat) ∧ n / Int.toNat y + (1 : Nat) ≤ (9223372036854775807 : Nat)) ∧ Is (ints (ixL xs hs (Int.toNat y) (n / Int.toNat y)) ++ [Value.int IntKind.i64 (-1 : Int)] = ints l ∧ List.length l = n / Int.toNat y + (1 : Nat) ∧ (0 : Nat) < n / Int.toNat y + (1 : Nat) ∧ n / Int.toNat y + (1 : Nat) ≤ (100000 : Nat)) ∧ br (mxL l == (-1 : Int)) (K (Value.tuple #[Value.int IntKind.i64 (0 : Int), Value.int IntKind.i64 (0 : Int), Value.int IntKind.i64 (7 : Int)]) (some (AObj.row (flts xs) (1 : Nat) true true true) :: some (AObj.row (ints hs) (2 : Nat) true true true) :: noH)) (Is (ints (ixL xs hs (Int.toNat y) (n / Int.toNat y)) ++ [Value.int IntKind.i64 (-1 : Int)] = ints l ∧ List.length l = n / Int.toNat y + (1 : Nat) ∧ n / Int.toNat y + (1 : Nat) ≤ (100000 : Nat)) ∧ K (Value.tuple #[Value.int IntKind.i64 (ixV (mxL l) l (0 : Nat)), Value.int IntKind.i64 (mxL l), Value.int IntKind.i64 (0 : Int)]) (some (AObj.row (flts xs) (1 : Nat) true true true) :: some (AObj.row (ints hs) (2 : Nat) true true true) :: noH)))) := by kernel_rfl
noncomputable def lpWR (xs : List Nat) (hs : List Int) (l : List Int) (n : Nat) : Lp where
  σ := Nat × Int
  E s := slots 47 [(7, .slice (some ⟨2, 0, none⟩) n 0), (8, .int .i64 s.2), (9, .int .i64 (Int.ofNat s.1))]
  Hp _ := hp2r xs hs false false false false [oneR l]
  I s := s.1 ≤ n ∧ wG l (l.drop s.1) s.1 s.2 = wG l l 0 (-1) ∧ (s.2 = -1 ∨ (0 ≤ s.2 ∧ s.2 < s.1))
  m s := n - s.1
noncomputable def hsWR (xs : List Nat) (hs : List Int) (z n : Nat) (l : List Int) : Hs Tryz.prog where
  op y := if [602, 611, 615, 1003].contains y then some (hIa Tryz.prog) else if [603, 612, 616, 1004].contains y then some (hLd Tryz.prog (zI l)) else none
  lp _ := some (lpWR xs hs l (n / z))
  cl _ := keep 47 [7, 8, 9]
  au := auCalls [(30, hCa Tryz.prog 30 (orcInxR xs hs z) (okInxR xs hs z))]
theorem woR_t (nm : ByteArray) (f : Int) (n : Nat) (c : Nat) (k : Nat) (d : Nat) (xs : List Nat) (hs : List Int) (z : Nat) (K : Value → Heap → Prop) :
    (fnP Tryz.prog c0 (hsWR xs hs z n (ixL xs hs z (n / z))) (31 : FuncId) [Value.agg (List.toArray (runA nm f (0 : Nat) n c (1 : Nat) k d)), Value.int IntKind.i64 (↑z : Int)] (hp2r xs hs false false false false []) K) =
    (Is (isRun xs hs n k (flts xs) (ints hs) ∧ runE nm f xs n hs = (0 : Int) ∧ (↑z : Int) = (↑z : Int) ∧ (0 : Nat) < z ∧ z ≤ (256 : Nat)) ∧ (∃ (s : Nat × Int), Is (Prod.fst s ≤ n / z ∧ wG (ixL xs hs z (n / z)) (List.drop (Prod.fst s) (ixL xs hs z (n / z))) (Prod.fst s) (Prod.snd s) = wG (ixL xs hs z (n / z)) (ixL xs hs z (n / z)) (0 : Nat) (-1 : Int) ∧ (Prod.snd s = (-1 : Int) ∨ (0 : Int) ≤ Prod.snd s ∧ Prod.snd s < (↑(Prod.fst s) : Int))) ∧ [poi, poi, poi, poi, poi, poi, poi, Value.slice (some { block := (2 : Nat), off := (0 : Nat) }) (n / z) (0 : Nat), Value.int IntKind.i64 (-1 : Int), Value.int IntKind.i64 (0 : Int), poi, poi, poi, poi, poi, poi, poi, poi, poi, poi, poi, poi, poi, poi, poi, poi, poi, poi, poi, poi, poi, poi, poi, poi, poi, poi, poi, poi, poi, poi, poi, poi, poi, poi, poi, poi, poi] = [poi, poi, poi, poi, poi, poi, poi, Value.slice (some { block := (2 : Nat), off := (0 : Nat) }) (n / z) (0 : Nat), Value.int IntKind.i64 (Prod.snd s), Value.int IntKind.i64 (↑(Prod.fst s) : Int), poi, poi, poi, poi, poi, poi, poi, poi, poi, poi, poi, poi, poi, poi, poi, poi, poi, poi, poi, poi, poi, poi, poi, poi, poi, poi, poi, poi, poi, poi, poi, poi, poi, poi, poi, poi, poi] ∧ some (AObj.row (flts xs) (1 : Nat) false false true) :: some (AObj.row (ints hs) (2 : Nat) false false true) :: some (AObj.row (ints (ixL xs hs z (n / z))) (1 : Nat) true true true) :: noH = some (AObj.row (flts xs) (1 : Nat) false false true) :: some (AObj.row (ints hs) (2 : Nat) false false true) :: some (AObj.row (ints (ixL xs hs z (n / z))) (1 : Nat) true true true) :: noH) ∧ ∀ (s : Nat × Int), Is (Prod.fst s ≤ n / z ∧ wG (ixL xs hs z (n / z)) (List.drop (Prod.fst s) (ixL xs hs z (n / z))) (Prod.fst s) (Prod.snd s) = wG (ixL xs hs z (n / z)) (ixL xs hs z (n / z)) (0 : Nat) (-1 : Int) ∧ (Prod.snd s = (-1 : Int) ∨ (0 : Int) ≤ Prod.snd s ∧ Prod.snd s < (↑(Prod.fst s) : Int))) → br (decide ((↑(Prod.fst s) : Int) < (↑(n / z) : Int))) (Is ((0 : Int) ≤ (↑(Prod.fst s) : Int) ∧ (↑(Prod.fst s) : Int) < (↑(n / z) : Int)) ∧ Is ((ints (ixL xs hs z (n / z)))[(0 : Nat) + Int.toNat (↑(Prod.fst s) : Int) * (1 : Nat)]? = some (Value.int IntKind.i64 (List.getD (ixL xs hs z (n / z)) ((0 : Nat) + Int.toNat (↑(Prod.fst s) : Int) * (1 : Nat)) (0 : Int)))) ∧ br (decide ((0 : Int) ≤ List.getD (ixL xs hs z (n / z)) ((0 : Nat) + Int.toNat (↑(Prod.fst s) : Int) * (1 : Nat)) (0 : Int))) (br (decide (Prod.snd s < (0 : Int))) (∃ (s' : Nat × Int), Is (Prod.fst s' ≤ n / z ∧ wG (ixL xs hs z (n / z)) (List.drop (Prod.fst s') (ixL xs hs z (n / z))) (Prod.fst s') (Prod.snd s') = wG (ixL xs hs z (n / z)) (ixL xs hs z (n / z)) (0 : Nat) (-1 : Int) ∧ (Prod.snd s' = (-1 : Int) ∨ (0 : Int) ≤ Prod.snd s' ∧ Prod.snd s' < (↑(Prod.fst s') : Int))) ∧ Is (n / z - Prod.fst s' < n / z - Prod.fst s) ∧ [poi, poi, poi, poi, poi, poi, poi, Value.slice (some { block := (2 : Nat), off := (0 : Nat) }) (n / z) (0 : Nat), Value.int IntKind.i64 (↑(Prod.fst s) : Int), Value.int IntKind.i64 (IntKind.wrap IntKind.i64 ((↑(Prod.fst s) : Int) + (1 : Int))), poi, poi, poi, poi, poi, poi, poi, poi, poi, poi, poi, poi, poi, poi, poi, poi, poi, poi, poi, poi, poi, poi, poi, poi, poi, poi, poi, poi, poi, poi, poi, poi, poi, poi, poi, poi, poi] = [poi, poi, poi, poi, poi, poi, poi, Value.slice (some { block := (2 : Nat), off := (0 : Nat) }) (n / z) (0 : Nat), Value.int IntKind.i64 (Prod.snd s'), Value.int IntKind.i64 (↑(Prod.fst s') : Int), poi, poi, poi, poi, poi, poi, poi, poi, poi, poi, poi, poi, poi, poi, poi, poi, poi, poi, poi, poi, poi, poi, poi, poi, poi, poi, poi, poi, poi, poi, poi, poi, poi, poi, poi, poi, poi] ∧ some (AObj.row (flts xs) (1 : Nat) false false true) :: some (AObj.row (ints hs) (2 : Nat) false false true) :: some (AObj.row (ints (ixL xs hs z (n / z))) (1 : Nat) true true true) :: noH = some (AObj.row (flts xs) (1 : Nat) false false true) :: some (AObj.row (ints hs) (2 : Nat) false false true) :: some (AObj.row (ints (ixL xs hs z (n / z))) (1 : Nat) true true true) :: noH) (Is ((0 : Int) ≤ (↑(Prod.fst s) : Int) ∧ (↑(Prod.fst s) : Int) < (↑(n / z) : Int)) ∧ Is ((ints (ixL xs hs z (n / z)))[(0 : Nat) + Int.toNat (↑(Prod.fst s) : Int) * (1 : Nat)]? = some (Value.int IntKind.i64 (List.getD (ixL xs hs z (n / z)) ((0 : Nat) + Int.toNat (↑(Prod.fst s) : Int) * (1 : Nat)) (0 : Int)))) ∧ Is ((0 : Int) ≤ Prod.snd s ∧ Prod.snd s < (↑(n / z) : Int)) ∧ Is ((ints (ixL xs hs z (n / z)))[(0 : Nat) + Int.toNat (Prod.snd s) * (1 : Nat)]? = some (Value.int IntKind.i64 (List.getD (ixL xs hs z (n / z)) ((0 : Nat) + Int.toNat (Prod.snd s) * (1 : Nat)) (0 : Int)))) ∧ br (decide (List.getD (ixL xs hs z (n / z)) ((0 : Nat) + Int.toNat (Prod.snd s) * (1 : Nat)) (0 : Int) < List.getD (ixL xs hs z (n / z)) ((0 : Nat) + Int.toNat (↑(Prod.fst s) : Int) * (1 : Nat)) (0 : Int))) (∃ (s' : Nat × Int), Is (Prod.fst s' ≤ n / z ∧ wG (ixL xs hs z (n / z)) (List.drop (Prod.fst s') (ixL xs hs z (n / z))) (Prod.fst s') (Prod.snd s') = wG (ixL xs hs z (n / z)) (ixL xs hs z (n / z)) (0 : Nat) (-1 : Int) ∧ (Prod.snd s' = (-1 : Int) ∨ (0 : Int) ≤ Prod.snd s' ∧ Prod.snd s' < (↑(Prod.fst s') : Int))) ∧ Is (n / z - Prod.fst s' < n / z - Prod.fst s) ∧ [poi, poi, poi, poi, poi, poi, poi, Value.slice (some { block := (2 : Nat), off := (0 : Nat) }) (n / z) (0 : Nat), Value.int IntKind.i64 (↑(Prod.fst s) : Int), Value.int IntKind.i64 (IntKind.wrap IntKind.i64 ((↑(Prod.fst s) : Int) + (1 : Int))), poi, poi, poi, poi, poi, poi, poi, poi, poi, poi, poi, poi, poi, poi, poi, poi, poi, poi, poi, poi, poi, poi, poi, poi, poi, poi, poi, poi, poi, poi, poi, poi, poi, poi, poi, poi, poi] = [poi, poi, poi, poi, poi, poi, poi, Value.slice (some { block := (2 : Nat), off := (0 : Nat) }) (n / z) (0 : Nat), Value.int IntKind.i64 (Prod.snd s'), Value.int IntKind.i64 (↑(Prod.fst s') : Int), poi, poi, poi, poi, poi, poi, poi, poi, poi, poi, poi, poi, poi, poi, poi, poi, poi, poi, poi, poi, poi, poi, poi, poi, poi, poi, poi, poi, poi, poi, poi, poi, poi, poi, poi, poi, poi] ∧ some (AObj.row (flts xs) (1 : Nat) false false true) :: some (AObj.row (ints hs) (2 : Nat) false false true) :: some (AObj.row (ints (ixL xs hs z (n / z))) (1 : Nat) true true true) :: noH = some (AObj.row (flts xs) (1 : Nat) false false true) :: some (AObj.row (ints hs) (2 : Nat) false false true) :: some (AObj.row (ints (ixL xs hs z (n / z))) (1 : Nat) true true true) :: noH) (∃ (s' : Nat × Int), Is (Prod.fst s' ≤ n / z ∧ wG (ixL xs hs z (n / z)) (List.drop (Prod.fst s') (ixL xs hs z (n / z))) (Prod.fst s') (Prod.snd s') = wG (ixL xs hs z (n / z)) (ixL xs hs z (n / z)) (0 : Nat) (-1 : Int) ∧ (Prod.snd s' = (-1 : Int) ∨ (0 : Int) ≤ Prod.snd s' ∧ Prod.snd s' < (↑(Prod.fst s') : Int))) ∧ Is (n / z - Prod.fst s' < n / z - Prod.fst s) ∧ [poi, poi, poi, poi, poi, poi, poi, Value.slice (some { block := (2 : Nat), off := (0 : Nat) }) (n / z) (0 : Nat), Value.int IntKind.i64 (Prod.snd s), Value.int IntKind.i64 (IntKind.wrap IntKind.i64 ((↑(Prod.fst s) : Int) + (1 : Int))), poi, poi, poi, poi, poi, poi, poi, poi, poi, poi, poi, poi, poi, poi, poi, poi, poi, poi, poi, poi, poi, poi, poi, poi, poi, poi, poi, poi, poi, poi, poi, poi, poi, poi, poi, poi, poi] = [poi, poi, poi, poi, poi, poi, poi, Value.slice (some { block := (2 : Nat), off := (0 : Nat) }) (n / z) (0 : Nat), Value.int IntKind.i64 (Prod.snd s'), Value.int IntKind.i64 (↑(Prod.fst s') : Int), poi, poi, poi, poi, poi, poi, poi, poi, poi, poi, poi, poi, poi, poi, poi, poi, poi, poi, poi, poi, poi, poi, poi, poi, poi, poi, poi, poi, poi, poi, poi, poi, poi, poi, poi, poi, poi] ∧ some (AObj.row (flts xs) (1 : Nat) false false true) :: some (AObj.row (ints hs) (2 : Nat) false false true) :: some (AObj.row (ints (ixL xs hs z (n / z))) (1 : Nat) true true true) :: noH = some (AObj.row (flts xs) (1 : Nat) false false true) :: some (AObj.row (ints hs) (2 : Nat) false false true) :: some (AObj.row (ints (ixL xs hs z (n / z))) (1 : Nat) true true true) :: noH))) (∃ (s' : Nat × Int), Is (Prod.fst s' ≤ n / z ∧ wG (ixL xs hs z (n / z)) (List.drop (Prod.fst s') (ixL xs hs z (n / z))) (Prod.fst s') (Prod.snd s') = wG (ixL xs hs z (n / z)) (ixL xs hs z (n / z)) (0 : Nat) (-1 : Int) ∧ (Prod.snd s' = (-1 : Int) ∨ (0 : Int) ≤ Prod.snd s' ∧ Prod.snd s' < (↑(Prod.fst s') : Int))) ∧ Is (n / z - Prod.fst s' < n / z - Prod.fst s) ∧ [poi, poi, poi, poi, poi, poi, poi, Value.slice (some { block := (2 : Nat), off := (0 : Nat) }) (n / z) (0 : Nat), Value.int IntKind.i64 (Prod.snd s), Value.int IntKind.i64 (IntKind.wrap IntKind.i64 ((↑(Prod.fst s) : Int) + (1 : Int))), poi, poi, poi, poi, poi, poi, poi, poi, poi, poi, poi, poi, poi, poi, poi, poi, poi, poi, poi, poi, poi, poi, poi, poi, poi, poi, poi, poi, poi, poi, poi, poi, poi, poi, poi, poi, poi] = [poi, poi, poi, poi, poi, poi, poi, Value.slice (some { block := (2 : Nat), off := (0 : Nat) }) (n / z) (0 : Nat), Value.int IntKind.i64 (Prod.snd s'), Value.int IntKind.i64 (↑(Prod.fst s') : Int), poi, poi, poi, poi, poi, poi, poi, poi, poi, poi, poi, poi, poi, poi, poi, poi, poi, poi, poi, poi, poi, poi, poi, poi, poi, poi, poi, poi, poi, poi, poi, poi, poi, poi, poi, poi, poi] ∧ some (AObj.row (flts xs) (1 : Nat) false false true) :: some (AObj.row (ints hs) (2 : Nat) false false true) :: some (AObj.row (ints (ixL xs hs z (n / z))) (1 : Nat) true true true) :: noH = some (AObj.row (flts xs) (1 : Nat) false false true) :: some (AObj.row (ints hs) (2 : Nat) false false true) :: some (AObj.row (ints (ixL xs hs z (n / z))) (1 : Nat) true true true) :: noH)) (br (decide (Prod.snd s < (0 : Int))) (K (Value.tuple #[Value.int IntKind.i64 (0 : Int), Value.int IntKind.i64 (0 : Int), Value.int IntKind.i64 (7 : Int)]) (some (AObj.row (flts xs) (1 : Nat) false false true) :: some (AObj.row (ints hs) (2 : Nat) false false true) :: noH)) (Is ((0 : Int) ≤ Prod.snd s ∧ Prod.snd s < (↑(n / z) : Int)) ∧ Is ((ints (ixL xs hs z (n / z)))[(0 : Nat) + Int.toNat (Prod.snd s) * (1 : Nat)]? = some (Value.int IntKind.i64 (List.getD (ixL xs hs z (n / z)) ((0 : Nat) + Int.toNat (Prod.snd s) * (1 : Nat)) (0 : Int)))) ∧ K (Value.tuple #[Value.int IntKind.i64 (Prod.snd s), Value.int IntKind.i64 (List.getD (ixL xs hs z (n / z)) ((0 : Nat) + Int.toNat (Prod.snd s) * (1 : Nat)) (0 : Int)), Value.int IntKind.i64 (0 : Int)]) (some (AObj.row (flts xs) (1 : Nat) false false true) :: some (AObj.row (ints hs) (2 : Nat) false false true) :: noH)))) := by kernel_rfl
theorem cw_zero {nm : ByteArray} {f : Int} {xs : List Nat} {n : Nat} {hs : List Int} {y : Int} (h : cwE nm f xs n hs y = 0) : runE nm f xs n hs = 0 ∧ y = (y.toNat : Int) ∧ 0 < y.toNat ∧ y.toNat ≤ 256 := by
  have h1 := fi_zero.1 h (runE nm f xs n hs) (by simp)
  have h2 := wi_zero.1 (fi_zero.1 h (wi y 2 256) (by simp))
  exact ⟨h1, by omega, by omega, by omega⟩
theorem iL_some {nm : ByteArray} {f : Int} {xs : List Nat} {n : Nat} {hs : List Int} {y : Int} (h : cwE nm f xs n hs y = 0) : iL nm f xs n hs y = ixL xs hs y.toNat (n / y.toNat) := if_pos h
theorem iL_none {nm : ByteArray} {f : Int} {xs : List Nat} {n : Nat} {hs : List Int} {y : Int} (h : ¬ cwE nm f xs n hs y = 0) : iL nm f xs n hs y = [] := if_neg h
theorem iL_len (nm : ByteArray) (f : Int) (xs : List Nat) (n : Nat) (hs : List Int) (y : Int) : (iL nm f xs n hs y).length ≤ n := by
  rw [iL]
  split
  · rw [ixL_len]; exact Nat.div_le_self n _
  · simp
theorem id_ok {nm : ByteArray} {f : Int} {n c k d : Nat} {xs : List Nat} {hs : List Int} {y : Int} (hr : isRun xs hs n k (flts xs) (ints hs)) :
    SmallRes Tryz.prog 25 [.agg (runA nm f 0 n c 1 k d).toArray, .int .i64 y] (hp2r xs hs true true true true []) (.tuple #[.slice (some ⟨2, 0, none⟩) (iL nm f xs n hs y).length 0, .int .i64 (cwE nm f xs n hs y)]) (hp2r xs hs true true true true [oneR (iL nm f xs n hs y)]) := by
  by_cases h0 : cwE nm f xs n hs y = 0
  · obtain ⟨h1, h2, h3, h4⟩ := cw_zero h0
    rw [iL_some h0, ixL_len, h0]
    refine fnP_res hm c2_ok (hs := hsId xs hs y) ?_
    rw [id_t]
    exact ⟨⟨hr⟩, br_of (fun h => by rw [h0] at h; cases h) (fun _ => ⟨⟨hr, h1, h2, h3, h4⟩, by first | trivial | rfl, by first | trivial | rfl⟩)⟩
  · rw [iL_none h0]
    refine SmallRes.nil (H' := hp2r xs hs true true true true []) (rest := [.int .i64 (cwE nm f xs n hs y)]) ?_ 1
    refine fnP_res hm c2_ok (hs := hsId xs hs y) ?_
    rw [id_t]
    exact ⟨⟨hr⟩, br_of (fun _ => ⟨by first | trivial | rfl, by first | trivial | rfl⟩) (fun h => absurd (by simpa using h) h0)⟩
noncomputable def orcIdV (xs : List Nat) (hs : List Int) : OrcV
  | [.agg ⟨[.string nm, .int .i64 f, .slice (some ⟨0, 0, none⟩) n _, .slice (some ⟨1, 0, none⟩) k _]⟩, .int .i64 y], [some (.row e1 1 true true true), some (.row e2 2 true true true)] =>
    some (.tuple #[.slice (some ⟨2, 0, none⟩) (iL nm f xs n hs y).length 0, .int .i64 (cwE nm f xs n hs y)], [some (.row e1 1 true true true), some (.row e2 2 true true true), oneR (iL nm f xs n hs y)], isRun xs hs n k e1 e2)
  | _, _ => none
theorem okIdV (xs : List Nat) (hs : List Int) : OkV Tryz.prog 25 (orcIdV xs hs) := by
  intro args H ret H' vc h hv
  unfold orcIdV at h
  split at h
  · cases h
    obtain ⟨rfl, rfl, h1⟩ := hv
    exact id_ok ⟨rfl, rfl, h1⟩
  · cases h
/-! ### The worst window -/
noncomputable def wT (l : List Int) : Int × Int × Int := if wG l l 0 (-1) < 0 then (0, 0, 7) else (wG l l 0 (-1), l.getD (wG l l 0 (-1)).toNat 0, 0)
def wI (l : List Int) (i : Nat) (a : Int) : Prop :=
  (a = -1 ∧ ∀ j, j < i → l.getD j 0 < 0) ∨ (0 ≤ a ∧ a < i ∧ 0 ≤ l.getD a.toNat 0 ∧ (∀ j, j < i → l.getD j 0 ≤ l.getD a.toNat 0) ∧ ∀ j, j < a.toNat → l.getD j 0 < l.getD a.toNat 0)
theorem wG_inv (l : List Int) : ∀ (m i : Nat) (a : Int), i + m = l.length → wI l i a → wI l l.length (wG l (l.drop i) i a)
  | 0, i, a, h, hi => by
    have : i = l.length := by omega
    subst this
    rw [List.drop_length]
    exact hi
  | m + 1, i, a, h, hi => by
    rw [zi_drop (show i < l.length by omega), wG]
    refine wG_inv l m (i + 1) _ (by omega) ?_
    have ext : ∀ {p : Nat → Prop}, (∀ j, j < i → p j) → p i → ∀ j, j < i + 1 → p j := fun h1 h2 j hj => by
      rcases Nat.lt_succ_iff_lt_or_eq.1 hj with h | rfl
      · exact h1 j h
      · exact h2
    split
    · rename_i hc
      simp only [Bool.and_eq_true, Bool.or_eq_true, decide_eq_true_eq] at hc
      obtain ⟨h0, h1⟩ := hc
      have e : ((i : Nat) : Int).toNat = i := Int.toNat_natCast i
      refine .inr ⟨by omega, by omega, by rw [e]; exact h0, ?_, ?_⟩
      · rw [e]
        rcases hi with ⟨_, hi⟩ | ⟨ha, _, _, hi, _⟩
        · exact ext (fun j hj => by have := hi j hj; omega) (Int.le_refl _)
        · have h1 : l.getD a.toNat 0 < l.getD i 0 := by omega
          exact ext (fun j hj => by have := hi j hj; omega) (Int.le_refl _)
      · rw [e]
        intro j hj
        rcases hi with ⟨_, hi⟩ | ⟨ha, _, _, hi, _⟩
        · have := hi j hj; omega
        · have h1 : l.getD a.toNat 0 < l.getD i 0 := by omega
          have := hi j hj; omega
    · rename_i hc
      simp only [Bool.and_eq_true, Bool.or_eq_true, decide_eq_true_eq] at hc
      rcases hi with ⟨ha, hi⟩ | ⟨ha, hb, h0, hi, hf⟩
      · exact .inl ⟨ha, ext hi (by omega)⟩
      · exact .inr ⟨ha, by omega, h0, ext hi (by omega), hf⟩
theorem wG_end (l : List Int) : wI l l.length (wG l l 0 (-1)) := wG_inv l l.length 0 (-1) (by omega) (.inl ⟨rfl, fun j hj => by omega⟩)
theorem mxG_spec : ∀ (r : List Int) (m : Int), mxG m r ∈ m :: r ∧ ∀ x ∈ m :: r, x ≤ mxG m r
  | [], m => ⟨by simp [mxG], fun x hx => by simp at hx; subst hx; exact Int.le_refl _⟩
  | a :: r, m => by
    rw [mxG]
    obtain ⟨h1, h2⟩ := mxG_spec r (if a > m then a else m)
    generalize mxG (if a > m then a else m) r = M at *
    simp only [List.mem_cons] at h1 h2 ⊢
    constructor
    · split at h1 <;> rcases h1 with h | h <;> simp [h]
    · intro x hx
      have h3 := h2 (if a > m then a else m) (.inl rfl)
      rcases hx with rfl | rfl | hx
      · split at h3 <;> omega
      · split at h3 <;> omega
      · exact h2 x (.inr hx)
theorem mxL_spec {l : List Int} (h : 0 < l.length) : mxL l ∈ l ∧ ∀ x ∈ l, x ≤ mxL l := by
  have e : l = l.getD 0 0 :: l.drop 1 := by
    have := zi_drop (l := l) (i := 0) h
    rwa [List.drop_zero] at this
  have := mxG_spec (l.drop 1) (l.getD 0 0)
  rw [← e] at this
  exact this
theorem ixV_first {v : Int} : ∀ (l : List Int) (k j : Nat), j < l.length → l.getD j 0 = v → (∀ i, i < j → l.getD i 0 ≠ v) → ixV v l k = ((k + j : Nat) : Int)
  | [], _, _, h, _, _ => by simp at h
  | x :: r, k, 0, _, h1, _ => by
    rw [ixV, if_pos (by simpa using h1)]; rfl
  | x :: r, k, j + 1, h, h1, h2 => by
    have h3 : x ≠ v := h2 0 (by omega)
    rw [ixV, if_neg h3, ixV_first r (k + 1) j (by simpa using h) (by simpa using h1) (fun i hi => by simpa using h2 (i + 1) (by omega))]
    congr 1
    omega
theorem get_app {l : List Int} {v : Int} {j : Nat} (h : j < l.length) : (l ++ [v]).getD j 0 = l.getD j 0 := by
  simp [List.getD_eq_getElem?_getD, List.getElem?_append_left h]
theorem get_mem {l : List Int} {j : Nat} (h : j < l.length) : l.getD j 0 ∈ l := by
  rw [List.getD_eq_getElem?_getD, List.getElem?_eq_getElem h]; exact List.getElem_mem _
/-- Both find the same window. -/
theorem worst_eq (l : List Int) : (if mxL (l ++ [-1]) = -1 then ((0 : Int), (0 : Int), (7 : Int)) else (ixV (mxL (l ++ [-1])) (l ++ [-1]) 0, mxL (l ++ [-1]), 0)) = wT l := by
  obtain ⟨m1, m2⟩ := mxL_spec (l := l ++ [-1]) (by simp)
  generalize mxL (l ++ [-1]) = M at *
  have hM : -1 ≤ M := m2 (-1) (by simp)
  rw [wT]
  rcases wG_end l with ⟨h1, h2⟩ | ⟨h1, h2, h3, h4, h5⟩
  · have : M = -1 := by
      rcases List.mem_append.1 m1 with h | h
      · obtain ⟨j, hj, rfl⟩ := List.mem_iff_getElem.1 h
        have := h2 j hj
        rw [List.getD_eq_getElem?_getD, List.getElem?_eq_getElem hj] at this
        simp only [Option.getD_some] at this
        omega
      · simpa using h
    rw [if_pos this, if_pos (by omega)]
  · generalize wG l l 0 (-1) = a at *
    have ha : a.toNat < l.length := by omega
    have e : M = l.getD a.toNat 0 := by
      have g1 := m2 (l.getD a.toNat 0) (List.mem_append.2 (.inl (get_mem ha)))
      rcases List.mem_append.1 m1 with h | h
      · obtain ⟨j, hj, rfl⟩ := List.mem_iff_getElem.1 h
        have := h4 j hj
        rw [List.getD_eq_getElem?_getD, List.getElem?_eq_getElem hj] at this
        simp only [Option.getD_some] at this
        omega
      · have : M = -1 := by simpa using h
        omega
    rw [if_neg (by omega), if_neg (by omega)]
    have := ixV_first (v := M) (l ++ [-1]) 0 a.toNat (by rw [List.length_append]; omega) (by rw [get_app ha, e]) (fun i hi => by
      rw [get_app (by omega), e]
      have := h5 i hi
      omega)
    rw [this, e]
    congr 1
    omega
noncomputable def woP (nm : ByteArray) (f : Int) (xs : List Nat) (n : Nat) (hs : List Int) (y : Int) : Int × Int × Int := if cwE nm f xs n hs y = 0 then wT (iL nm f xs n hs y) else (0, 0, cwE nm f xs n hs y)
theorem wo_ok {nm : ByteArray} {f : Int} {n c k d : Nat} {xs : List Nat} {hs : List Int} {y : Int} (hr : isRun xs hs n k (flts xs) (ints hs)) :
    SmallRes Tryz.prog 26 [.agg (runA nm f 0 n c 1 k d).toArray, .int .i64 y] (hp2r xs hs true true true true []) (.tuple #[.int .i64 (woP nm f xs n hs y).1, .int .i64 (woP nm f xs n hs y).2.1, .int .i64 (woP nm f xs n hs y).2.2]) (hp2r xs hs true true true true []) := by
  refine fnP_res hm c2_ok (hs := hsWo xs hs y (iL nm f xs n hs y ++ [-1])) ?_
  rw [wo_t]
  refine ⟨⟨hr⟩, br_of (fun h => ?_) (fun h => ?_)⟩
  · have h0 : ¬ cwE nm f xs n hs y = 0 := by simpa using h
    rw [woP, if_neg h0]
    exact ⟨by first | trivial | rfl, by first | trivial | rfl⟩
  · have h0 : cwE nm f xs n hs y = 0 := by simpa using h
    obtain ⟨h1, h2, h3, h4⟩ := cw_zero h0
    obtain ⟨_, _, hn4, _⟩ := run_zero h1
    have hdz : n / y.toNat ≤ n := Nat.div_le_self n _
    have hl : (iL nm f xs n hs y).length = n / y.toNat := by rw [iL_some h0, ixL_len]
    have e := worst_eq (iL nm f xs n hs y)
    have er : ints (ixL xs hs y.toNat (n / y.toNat)) ++ [Value.int .i64 (-1)] = ints (iL nm f xs n hs y ++ [-1]) := by rw [iL_some h0, ← ints_app]; rfl
    have hl1 : (iL nm f xs n hs y ++ [-1]).length = n / y.toNat + 1 := by rw [List.length_append, hl]; rfl
    rw [woP, if_pos h0, ← e]
    refine ⟨⟨hr, h1, h2, h3, h4⟩, ⟨by rw [ints_len, ixL_len, Nat.mul_one], by omega, by omega⟩, ⟨er, hl1, by omega, by omega⟩, br_of (fun hM => ?_) (fun hM => ⟨⟨er, hl1, by omega⟩, ?_⟩)⟩
    · rw [if_pos (by simpa using hM)]
      exact ⟨by first | trivial | rfl, by first | trivial | rfl⟩
    · rw [if_neg (by simpa using hM)]
      exact ⟨by first | trivial | rfl, by first | trivial | rfl⟩
noncomputable def orcWoV (xs : List Nat) (hs : List Int) : OrcV
  | [.agg ⟨[.string nm, .int .i64 f, .slice (some ⟨0, 0, none⟩) n _, .slice (some ⟨1, 0, none⟩) k _]⟩, .int .i64 y], [some (.row e1 1 true true true), some (.row e2 2 true true true)] =>
    some (.tuple #[.int .i64 (woP nm f xs n hs y).1, .int .i64 (woP nm f xs n hs y).2.1, .int .i64 (woP nm f xs n hs y).2.2], [some (.row e1 1 true true true), some (.row e2 2 true true true)], isRun xs hs n k e1 e2)
  | _, _ => none
theorem okWoV (xs : List Nat) (hs : List Int) : OkV Tryz.prog 26 (orcWoV xs hs) := by
  intro args H ret H' vc h hv
  unfold orcWoV at h
  split at h
  · cases h
    obtain ⟨rfl, rfl, h1⟩ := hv
    exact wo_ok ⟨rfl, rfl, h1⟩
  · cases h
set_option maxRecDepth 100000 in
theorem woR_ok {nm : ByteArray} {f : Int} {n c k d : Nat} {xs : List Nat} {hs : List Int} {z : Nat} (hr : isRun xs hs n k (flts xs) (ints hs)) (h0 : runE nm f xs n hs = 0) (z0 : 0 < z) (z1 : z ≤ 256) :
    SmallRes Tryz.prog 31 [.agg (runA nm f 0 n c 1 k d).toArray, .int .i64 (z : Int)] (hp2r xs hs false false false false []) (.tuple #[.int .i64 (wT (ixL xs hs z (n / z))).1, .int .i64 (wT (ixL xs hs z (n / z))).2.1, .int .i64 (wT (ixL xs hs z (n / z))).2.2]) (hp2r xs hs false false false false []) := by
  refine fnP_res hm c0_ok (hs := hsWR xs hs z n (ixL xs hs z (n / z))) ?_
  rw [woR_t]
  have hn9 := hr.2.2.2.1
  have hdz : n / z ≤ n := Nat.div_le_self n z
  have hl := ixL_len xs hs z (n / z)
  generalize ixL xs hs z (n / z) = l at *
  refine ⟨⟨hr, h0, rfl, z0, z1⟩, ⟨((0 : Nat), (-1 : Int)), ⟨by omega, by rw [List.drop_zero], .inl rfl⟩, by first | trivial | rfl, by first | trivial | rfl⟩, fun s hs' => br_of (fun hc => ?_) (fun hc => ?_)⟩
  · have hc := lt_of_dec hc
    obtain ⟨i1, i2, i3⟩ := hs'.out
    rw [zi_drop (show s.1 < l.length by omega), wG] at i2
    simp only [Nat.zero_add, Nat.mul_one, Int.toNat_natCast]
    have b1 : 0 ≤ (s.1 : Int) ∧ (s.1 : Int) < ((n / z : Nat) : Int) := by omega
    have hit : (decide (0 ≤ l.getD s.1 0) && (decide (s.2 < 0) || decide (l.getD s.2.toNat 0 < l.getD s.1 0))) = true → s.1 + 1 ≤ n / z ∧ wG l (l.drop (s.1 + 1)) (s.1 + 1) (s.1 : Int) = wG l l 0 (-1) ∧ ((s.1 : Int) = -1 ∨ (0 ≤ (s.1 : Int) ∧ (s.1 : Int) < ((s.1 + 1 : Nat) : Int))) := fun h => by
      rw [if_pos h] at i2
      exact ⟨hc, i2, by omega⟩
    have miss : (decide (0 ≤ l.getD s.1 0) && (decide (s.2 < 0) || decide (l.getD s.2.toNat 0 < l.getD s.1 0))) = false → s.1 + 1 ≤ n / z ∧ wG l (l.drop (s.1 + 1)) (s.1 + 1) s.2 = wG l l 0 (-1) ∧ (s.2 = -1 ∨ (0 ≤ s.2 ∧ s.2 < ((s.1 + 1 : Nat) : Int))) := fun h => by
      rw [if_neg (by rw [h]; decide)] at i2
      exact ⟨hc, i2, by omega⟩
    refine ⟨⟨b1⟩, ⟨zint_at (by omega)⟩, br_of (fun h1 => br_of (fun h2 => ⟨(s.1 + 1, (s.1 : Int)), ⟨hit (by rw [h1, h2]; rfl)⟩, ⟨by simp only; omega⟩, by rw [up1 hc (by omega)], by first | trivial | rfl⟩) (fun h2 => ?_)) (fun h1 => ⟨(s.1 + 1, s.2), ⟨miss (by rw [h1]; rfl)⟩, ⟨by simp only; omega⟩, by rw [up1 hc (by omega)], by first | trivial | rfl⟩)⟩
    have h2' : 0 ≤ s.2 := by have := of_decide_eq_false h2; omega
    refine ⟨⟨b1⟩, ⟨zint_at (by omega)⟩, ⟨by omega, by omega⟩, ⟨zint_at (by omega)⟩, br_of (fun h3 => ⟨(s.1 + 1, (s.1 : Int)), ⟨hit (by rw [h1, h3, Bool.or_true]; rfl)⟩, ⟨by simp only; omega⟩, by rw [up1 hc (by omega)], by first | trivial | rfl⟩) (fun h3 => ⟨(s.1 + 1, s.2), ⟨miss (by rw [h1, h2, h3]; rfl)⟩, ⟨by simp only; omega⟩, by rw [up1 hc (by omega)], by first | trivial | rfl⟩)⟩
  · have hc := ge_of_dec hc
    obtain ⟨i1, i2, i3⟩ := hs'.out
    rw [List.drop_eq_nil_of_le (by omega)] at i2
    have i2 : s.2 = wG l l 0 (-1) := i2
    rw [wT, ← i2]
    refine br_of (fun h => ?_) (fun h => ?_)
    · rw [if_pos (of_decide_eq_true h)]
      exact ⟨by first | trivial | rfl, by first | trivial | rfl⟩
    · have h := of_decide_eq_false h
      rw [if_neg h]
      simp only [Nat.zero_add, Nat.mul_one]
      exact ⟨⟨by omega, by omega⟩, ⟨zint_at (by omega)⟩, by first | trivial | rfl, by first | trivial | rfl⟩
noncomputable def orcWoR (xs : List Nat) (hs : List Int) (z : Nat) : OrcV
  | [.agg ⟨[.string nm, .int .i64 f, .slice (some ⟨0, 0, none⟩) n _, .slice (some ⟨1, 0, none⟩) k _]⟩, .int .i64 y], [some (.row e1 1 false false true), some (.row e2 2 false false true)] =>
    some (.tuple #[.int .i64 (wT (ixL xs hs z (n / z))).1, .int .i64 (wT (ixL xs hs z (n / z))).2.1, .int .i64 (wT (ixL xs hs z (n / z))).2.2], [some (.row e1 1 false false true), some (.row e2 2 false false true)], isRun xs hs n k e1 e2 ∧ runE nm f xs n hs = 0 ∧ y = (z : Int) ∧ 0 < z ∧ z ≤ 256)
  | _, _ => none
theorem okWoR (xs : List Nat) (hs : List Int) (z : Nat) : OkV Tryz.prog 31 (orcWoR xs hs z) := by
  intro args H ret H' vc h hv
  unfold orcWoR at h
  split at h
  · cases h
    obtain ⟨⟨rfl, rfl, h1⟩, h2, rfl, h3, h4⟩ := hv
    exact woR_ok ⟨rfl, rfl, h1⟩ h2 h3 h4
  · cases h
end
end Qq
