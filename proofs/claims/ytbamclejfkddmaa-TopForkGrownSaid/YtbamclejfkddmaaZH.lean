/- Parts of the proof: GG, GH, GI, GL, GJ. -/
import Derived.Test.YtbamclejfkddmaaZG
import Derived.Test.YtbamclejfkddmaaZC
import Derived.Test.YtbamclejfkddmaaZF
section
/- Growths: the program. -/
open Go Go.Vm Go.Proofs Sp
namespace Sp
noncomputable section
def fl3 : List (Int × Int × Int) → List Int
  | [] => []
  | a :: r => a.1 :: a.2.1 :: a.2.2 :: fl3 r
/-- One more place that has grown. -/
noncomputable def gStep (l : List (Int × Int × Int)) (at' v : Int) : List (Int × Int × Int) :=
  if 0 < l.length ∧ (l.getD (l.length - 1) (0, 0, 0)).2.1 = at' then l.take (l.length - 1) ++ [((l.getD (l.length - 1) (0, 0, 0)).1, at' + 1, if v > (l.getD (l.length - 1) (0, 0, 0)).2.2 then v else (l.getD (l.length - 1) (0, 0, 0)).2.2)]
  else l ++ [(at', at' + 1, v)]
/-- By how much a place has grown at least. -/
noncomputable def gV (xs ys : List Nat) (b0 b1 : Int) (i : Nat) : Int := absI (lev (ys.getD i 0)) - b1 - absI (lev (xs.getD i 0)) - b0
noncomputable def gG (xs ys : List Nat) (gs : List Int) (f b0 b1 : Int) : Nat → List (Int × Int × Int)
  | 0 => []
  | i + 1 => if knB gs (i : Int) = true ∧ 0 < gV xs ys b0 b1 i then gStep (gG xs ys gs f b0 b1 i) (f + i) (gV xs ys b0 b1 i) else gG xs ys gs f b0 b1 i
noncomputable def gN (xs ys : List Nat) (gs : List Int) (f b0 b1 : Int) (i : Nat) : Nat := (gG xs ys gs f b0 b1 i).length
noncomputable def gF (xs ys : List Nat) (gs : List Int) (f b0 b1 : Int) (i : Nat) : List Int := fl3 (gG xs ys gs f b0 b1 i)
/-- A reading, visited. -/
noncomputable def z3 (ys : List Nat) (gs : List Int) (off : Nat) : Value := .agg #[.int .i64 ((off / 3 : Nat) : Int), .int .i64 (lev (ys.getD (off / 3) 0)), .bool (knB gs ((off / 3 : Nat) : Int))]
end
end Sp
namespace Qq
noncomputable section
theorem g1_t (nm : ByteArray) (f : Int) (n : Nat) (c : Nat) (k : Nat) (d : Nat) (xs : List Nat) (hs : List Int) (K : Value → Heap → Prop) :
    (fnP Try.prog c0 h0 (34 : FuncId) [Value.agg (List.toArray (runA nm f (0 : Nat) n c (1 : Nat) k d))] (hp2r xs hs true true true true []) K) =
    (K (Value.agg #[Value.int IntKind.i64 f, Value.int IntKind.i64 (↑n : Int)]) (some (AObj.row (flts xs) (1 : Nat) true true true) :: some (AObj.row (ints hs) (2 : Nat) true true true) :: noH)) := by kernel_rfl
noncomputable def orcG1 (xs : List Nat) (hs : List Int) : OrcV
  | [.agg ⟨[.string _, .int .i64 f, .slice (some ⟨0, 0, none⟩) n _, .slice (some ⟨1, 0, none⟩) _ _]⟩], [some (.row e1 1 true true true), some (.row e2 2 true true true)] =>
    some (.agg #[.int .i64 f, .int .i64 (n : Int)], [some (.row e1 1 true true true), some (.row e2 2 true true true)], isR2 xs hs e1 e2)
  | _, _ => none
theorem okG1 (xs : List Nat) (hs : List Int) : OkV Try.prog 34 (orcG1 xs hs) := by
  intro args H ret H' vc h hv
  unfold orcG1 at h
  split at h
  · rename_i nm f n c k d e1 e2
    cases h
    obtain ⟨rfl, rfl⟩ := hv
    refine fnP_res hm c0_ok (hs := h0) ?_
    show fnP Try.prog c0 h0 34 [.agg (runA nm f 0 n c 1 k d).toArray] (hp2r xs hs true true true true []) _
    rw [g1_t]
    exact ⟨by first | trivial | rfl, by first | trivial | rfl⟩
  · cases h
noncomputable def rfG (nm1 : ByteArray) (f b0 b1 : Int) (n c d : Nat) (xs ys : List Nat) (gs : List Int) : Rf Try.prog where
  it := itRI nm1 f n c 0 d xs []
  k := 10
  E := slots 126 [(3, .pointer (some ⟨4, 0, none⟩)), (5, .pointer (some ⟨5, 0, none⟩)), (10, .pointer (some ⟨6, 0, none⟩)), (11, .pointer (some ⟨8, 0, none⟩)), (44, fnR 9)]
  Hp i := [some (.row (flts xs) 1 true false true), some (.row [] 2 true false true), fR ys, some (.row (ints gs) 2 true true true), some (.row (runA nm1 f 0 n c 1 0 d) 0 false true false), some (.row [.int .i64 b0, .int .i64 b1] 0 false true true),
    some (.row [.slice (some ⟨7, 0, none⟩) n 0] 0 false true false), some (.row (rd3 ys gs n) 3 true true true), some (.row [.slice (some ⟨10, 0, none⟩) (gN xs ys gs f b0 b1 i) 0] 0 false true false), some (.row (runA nm1 f 0 n c 1 0 d) 0 false false false), some (.row (ints (gF xs ys gs f b0 b1 i)) 3 true true true)]
noncomputable def hsGr (nm1 : ByteArray) (f b0 b1 : Int) (n c d : Nat) (xs ys : List Nat) (gs : List Int) : Hs Try.prog where
  op y := if [903, 1405, 1504, 1513, 1519].contains y then some (hIa Try.prog) else if y = 904 then some (hLd Try.prog (z3 ys gs)) else if [1408, 1507, 1515].contains y then some (hLc Try.prog gI)
    else if y = 1520 then some (hSp Try.prog) else if y = 1608 then some (hAp Try.prog) else if y = 210 then some (hEq Try.prog)
    else if y = 201 then some (hCa Try.prog 19 (orcCrP xs []) (okCrP xs [])) else if y = 203 then some (hCa Try.prog 19 (orcCrP ys gs) (okCrP ys gs))
    else if y = 206 then some (hCa Try.prog 34 (orcG1 xs []) (okG1 xs [])) else if y = 209 then some (hCa Try.prog 34 (orcG1 ys gs) (okG1 ys gs))
    else if y = 501 then some (hCa Try.prog 39 (orcRs ys gs) (okRs ys gs)) else if y = 502 then some (hCa Try.prog 38 (orcCo ys gs) (okCo ys gs)) else if y = 701 then some (hCa Try.prog 39 (orcRs xs []) (okRs xs [])) else none
  rf _ := some (rfG nm1 f b0 b1 n c d xs ys gs)
  cl _ := keep 126 [3, 5, 10, 11, 44]
  nl _ := [.cell 8 0 3]
  sm := true
  au := auCalls [(40, hCa Try.prog 40 orcSz okSz)]
set_option maxHeartbeats 0 in
theorem gr_t (nm1 : ByteArray) (nm2 : ByteArray) (f : Int) (g : Int) (b0 : Int) (b1 : Int) (n : Nat) (c : Nat) (d : Nat) (m : Nat) (c2 : Nat) (k2 : Nat) (d2 : Nat) (xs : List Nat) (ys : List Nat) (gs : List Int) (K : Value → Heap → Prop) :
    (fnP Try.prog cF2 (hsGr nm1 f b0 b1 n c d xs ys gs) (12 : FuncId) [Value.agg (List.toArray (runA nm1 f (0 : Nat) n c (1 : Nat) (0 : Nat) d)), Value.agg (List.toArray (runA nm2 g (2 : Nat) m c2 (3 : Nat) k2 d2)), Value.agg #[Value.int IntKind.i64 b0, Value.int IntKind.i64 b1]] (hp4r xs [] ys gs []) K) =
    (Is (isRun xs [] n (0 : Nat) (flts xs) []) ∧ Is (isRun ys gs m k2 (flts ys) (ints gs)) ∧ Is (isR2 xs [] (flts xs) []) ∧ Is (isR2 ys gs (flts ys) (ints gs)) ∧ Is True ∧ br (fi [runE nm1 f xs n [], runE nm2 g ys m gs, wh (!(f == g && ((↑n : Int) == (↑m : Int) && true))) (2 : Int), wi b0 (0 : Int) (1000 : Int), wi b1 (0 : Int) (1000 : Int)] != (0 : Int)) (K (Value.tuple #[Value.slice none (0 : Nat) (0 : Nat), Value.int IntKind.i64 (fi [runE nm1 f xs n [], runE nm2 g ys m gs, wh (!(f == g && ((↑n : Int) == (↑m : Int) && true))) (2 : Int), wi b0 (0 : Int) (1000 : Int), wi b1 (0 : Int) (1000 : Int)])]) (some (AObj.row (flts xs) (1 : Nat) true true true) :: some (AObj.row [] (2 : Nat) true true true) :: some (AObj.row (flts ys) (1 : Nat) true true true) :: some (AObj.row (ints gs) (2 : Nat) true true true) :: noH)) (Is (isR2 ys gs (flts ys) (ints gs)) ∧ Is (flts ys = flts ys ∧ ints gs = ints gs ∧ List.length ys = m ∧ m ≤ (100000 : Nat) ∧ List.length gs = k2 * (2 : Nat) ∧ k2 ≤ (100000 : Nat) ∧ fi (List.map sE ys) = (0 : Int) ∧ hchk (↑m : Int) gs (-1 : Int) = (0 : Int)) ∧ Is (isR2 xs [] (flts xs) []) ∧ [poi, poi, poi, Value.pointer (some { block := (4 : Nat), off := (0 : Nat) }), poi, Value.pointer (some { block := (5 : Nat), off := (0 : Nat) }), poi, poi, poi, poi, Value.pointer (some { block := (6 : Nat), off := (0 : Nat) }), Value.pointer (some { block := (8 : Nat), off := (0 : Nat) }), poi, poi, poi, poi, poi, poi, poi, poi, poi, poi, poi, poi, poi, poi, poi, poi, poi, poi, poi, poi, poi, poi, poi, poi, poi, poi, poi, poi, poi, poi, poi, poi, Value.func (Fn.func (58 : Nat)) #[] #[Value.pointer (some { block := (9 : Nat), off := (0 : Nat) })], poi, poi, poi, poi, poi, poi, poi, poi, poi, poi, poi, poi, poi, poi, poi, poi, poi, poi, poi, poi, poi, poi, poi, poi, poi, poi, poi, poi, poi, poi, poi, poi, poi, poi, poi, poi, poi, poi, poi, poi, poi, poi, poi, poi, poi, poi, poi, poi, poi, poi, poi, poi, poi, poi, poi, poi, poi, poi, poi, poi, poi, poi, poi, poi, poi, poi, poi, poi, poi, poi, poi, poi, poi, poi, poi, poi, poi, poi, poi, poi, poi] = [poi, poi, poi, Value.pointer (some { block := (4 : Nat), off := (0 : Nat) }), poi, Value.pointer (some { block := (5 : Nat), off := (0 : Nat) }), poi, poi, poi, poi, Value.pointer (some { block := (6 : Nat), off := (0 : Nat) }), Value.pointer (some { block := (8 : Nat), off := (0 : Nat) }), poi, poi, poi, poi, poi, poi, poi, poi, poi, poi, poi, poi, poi, poi, poi, poi, poi, poi, poi, poi, poi, poi, poi, poi, poi, poi, poi, poi, poi, poi, poi, poi, Value.func (Fn.func (58 : Nat)) #[] #[Value.pointer (some { block := (9 : Nat), off := (0 : Nat) })], poi, poi, poi, poi, poi, poi, poi, poi, poi, poi, poi, poi, poi, poi, poi, poi, poi, poi, poi, poi, poi, poi, poi, poi, poi, poi, poi, poi, poi, poi, poi, poi, poi, poi, poi, poi, poi, poi, poi, poi, poi, poi, poi, poi, poi, poi, poi, poi, poi, poi, poi, poi, poi, poi, poi, poi, poi, poi, poi, poi, poi, poi, poi, poi, poi, poi, poi, poi, poi, poi, poi, poi, poi, poi, poi, poi, poi, poi, poi, poi, poi] ∧ some (AObj.row (flts xs) (1 : Nat) true false true) :: some (AObj.row [] (2 : Nat) true false true) :: some (AObj.row (flts ys) (1 : Nat) true true true) :: some (AObj.row (ints gs) (2 : Nat) true true true) :: some (AObj.row [Value.string nm1, Value.int IntKind.i64 f, Value.slice (some { block := (0 : Nat), off := (0 : Nat) }) n c, Value.slice (some { block := (1 : Nat), off := (0 : Nat) }) (0 : Nat) d] (0 : Nat) false true (List.all [Value.string nm1, Value.int IntKind.i64 f, Value.slice (some { block := (0 : Nat), off := (0 : Nat) }) n c, Value.slice (some { block := (1 : Nat), off := (0 : Nat) }) (0 : Nat) d] atom)) :: some (AObj.row [Value.int IntKind.i64 b0, Value.int IntKind.i64 b1] (0 : Nat) false true (List.all [Value.int IntKind.i64 b0, Value.int IntKind.i64 b1] atom)) :: some (AObj.row [Value.slice (some { block := (7 : Nat), off := (0 : Nat) }) m (0 : Nat)] (0 : Nat) false true (true && List.all [Value.slice (some { block := (9 : Nat), off := (0 : Nat) }) m (0 : Nat)] atom)) :: some (AObj.row (rd3 ys gs m) (3 : Nat) true true true) :: some (AObj.row [Value.slice (some { block := (10 : Nat), off := (0 : Nat) }) (0 : Nat) (0 : Nat)] (0 : Nat) false true false) :: some (AObj.row [Value.string nm1, Value.int IntKind.i64 f, Value.slice (some { block := (0 : Nat), off := (0 : Nat) }) n c, Value.slice (some { block := (1 : Nat), off := (0 : Nat) }) (0 : Nat) d] (0 : Nat) false false false) :: some (AObj.row [] (3 : Nat) true true true) :: noH = some (AObj.row (flts xs) (1 : Nat) true false true) :: some (AObj.row [] (2 : Nat) true false true) :: some (AObj.row (flts ys) (1 : Nat) true true true) :: some (AObj.row (ints gs) (2 : Nat) true true true) :: some (AObj.row [Value.string nm1, Value.int IntKind.i64 f, Value.slice (some { block := (0 : Nat), off := (0 : Nat) }) n c, Value.slice (some { block := (1 : Nat), off := (0 : Nat) }) (0 : Nat) d] (0 : Nat) false true false) :: some (AObj.row [Value.int IntKind.i64 b0, Value.int IntKind.i64 b1] (0 : Nat) false true true) :: some (AObj.row [Value.slice (some { block := (7 : Nat), off := (0 : Nat) }) n (0 : Nat)] (0 : Nat) false true false) :: some (AObj.row (rd3 ys gs n) (3 : Nat) true true true) :: some (AObj.row [Value.slice (some { block := (10 : Nat), off := (0 : Nat) }) (0 : Nat) (0 : Nat)] (0 : Nat) false true false) :: some (AObj.row [Value.string nm1, Value.int IntKind.i64 f, Value.slice (some { block := (0 : Nat), off := (0 : Nat) }) n c, Value.slice (some { block := (1 : Nat), off := (0 : Nat) }) (0 : Nat) d] (0 : Nat) false false false) :: some (AObj.row [] (3 : Nat) true true true) :: noH ∧ [poi, poi, poi, Value.pointer (some { block := (4 : Nat), off := (0 : Nat) }), poi, Value.pointer (some { block := (5 : Nat), off := (0 : Nat) }), poi, poi, poi, poi, Value.pointer (some { block := (6 : Nat), off := (0 : Nat) }), Value.pointer (some { block := (8 : Nat), off := (0 : Nat) }), poi, poi, poi, poi, poi, poi, poi, poi, poi, poi, poi, poi, poi, poi, poi, poi, poi, poi, poi, poi, poi, poi, poi, poi, poi, poi, poi, poi, poi, poi, poi, poi, Value.func (Fn.func (58 : Nat)) #[] #[Value.pointer (some { block := (9 : Nat), off := (0 : Nat) })], poi, poi, poi, poi, poi, poi, poi, poi, poi, poi, poi, poi, poi, poi, poi, poi, poi, poi, poi, poi, poi, poi, poi, poi, poi, poi, poi, poi, poi, poi, poi, poi, poi, poi, poi, poi, poi, poi, poi, poi, poi, poi, poi, poi, poi, poi, poi, poi, poi, poi, poi, poi, poi, poi, poi, poi, poi, poi, poi, poi, poi, poi, poi, poi, poi, poi, poi, poi, poi, poi, poi, poi, poi, poi, poi, poi, poi, poi, poi, poi, poi] = [poi, poi, poi, Value.pointer (some { block := (4 : Nat), off := (0 : Nat) }), poi, Value.pointer (some { block := (5 : Nat), off := (0 : Nat) }), poi, poi, poi, poi, Value.pointer (some { block := (6 : Nat), off := (0 : Nat) }), Value.pointer (some { block := (8 : Nat), off := (0 : Nat) }), poi, poi, poi, poi, poi, poi, poi, poi, poi, poi, poi, poi, poi, poi, poi, poi, poi, poi, poi, poi, poi, poi, poi, poi, poi, poi, poi, poi, poi, poi, poi, poi, Value.func (Fn.func (58 : Nat)) #[] #[Value.pointer (some { block := (9 : Nat), off := (0 : Nat) })], poi, poi, poi, poi, poi, poi, poi, poi, poi, poi, poi, poi, poi, poi, poi, poi, poi, poi, poi, poi, poi, poi, poi, poi, poi, poi, poi, poi, poi, poi, poi, poi, poi, poi, poi, poi, poi, poi, poi, poi, poi, poi, poi, poi, poi, poi, poi, poi, poi, poi, poi, poi, poi, poi, poi, poi, poi, poi, poi, poi, poi, poi, poi, poi, poi, poi, poi, poi, poi, poi, poi, poi, poi, poi, poi, poi, poi, poi, poi, poi, poi] ∧ Is (([Value.pointer (some { block := (0 : Nat), off := (0 : Nat) })] = [Value.pointer (some { block := (0 : Nat), off := (0 : Nat) })] ∧ some (AObj.row [Value.string nm1, Value.int IntKind.i64 f, Value.slice (some { block := (1 : Nat), off := (0 : Nat) }) n c, Value.slice (some { block := (2 : Nat), off := (0 : Nat) }) (0 : Nat) d] (0 : Nat) false false false) :: some (AObj.row (flts xs) (1 : Nat) true false true) :: some (AObj.row [] (2 : Nat) true false true) :: noH = some (AObj.row [Value.string nm1, Value.int IntKind.i64 f, Value.slice (some { block := (1 : Nat), off := (0 : Nat) }) n c, Value.slice (some { block := (2 : Nat), off := (0 : Nat) }) (0 : Nat) d] (0 : Nat) false false false) :: some (AObj.row (flts xs) (1 : Nat) true false true) :: some (AObj.row [] (2 : Nat) true false true) :: noH) ∧ List.length xs = n ∧ n ≤ (100000 : Nat) ∧ (0 : Nat) = (0 : Nat) ∧ (0 : Nat) ≤ (100000 : Nat) ∧ fi (List.map sE xs) = (0 : Int) ∧ hchk (↑n : Int) [] (-1 : Int) = (0 : Int)) ∧ Is True ∧ (∀ (i : Nat), Is True → Is (i < n) → Is ((0 : Int) ≤ (↑i : Int) ∧ (↑i : Int) < (↑n : Int)) ∧ Is ((if (0 : Nat) + Int.toNat (↑i : Int) * (3 : Nat) + (3 : Nat) ≤ List.length (rd3 ys gs n) then some (Value.agg (List.toArray (List.take (3 : Nat) (List.drop ((0 : Nat) + Int.toNat (↑i : Int) * (3 : Nat)) (rd3 ys gs n))))) else none) = some (Value.agg #[Value.int IntKind.i64 (↑(((0 : Nat) + Int.toNat (↑i : Int) * (3 : Nat)) / (3 : Nat)) : Int), Value.int IntKind.i64 (lev (List.getD ys (((0 : Nat) + Int.toNat (↑i : Int) * (3 : Nat)) / (3 : Nat)) (0 : Nat))), Value.bool (knB gs (↑(((0 : Nat) + Int.toNat (↑i : Int) * (3 : Nat)) / (3 : Nat)) : Int))])) ∧ Is (Int.natAbs (lev (List.getD ys (((0 : Nat) + Int.toNat (↑i : Int) * (3 : Nat)) / (3 : Nat)) (0 : Nat))) ≤ (1000000000 : Nat)) ∧ Is (Int.natAbs (lev (List.getD xs i (0 : Nat))) ≤ (1000000000 : Nat)) ∧ br (!knB gs (↑(((0 : Nat) + Int.toNat (↑i : Int) * (3 : Nat)) / (3 : Nat)) : Int)) (some (AObj.row (flts xs) (1 : Nat) true false true) :: some (AObj.row [] (2 : Nat) true false true) :: some (AObj.row (flts ys) (1 : Nat) true true true) :: some (AObj.row (ints gs) (2 : Nat) true true true) :: some (AObj.row [Value.string nm1, Value.int IntKind.i64 f, Value.slice (some { block := (0 : Nat), off := (0 : Nat) }) n c, Value.slice (some { block := (1 : Nat), off := (0 : Nat) }) (0 : Nat) d] (0 : Nat) false true false) :: some (AObj.row [Value.int IntKind.i64 b0, Value.int IntKind.i64 b1] (0 : Nat) false true true) :: some (AObj.row [Value.slice (some { block := (7 : Nat), off := (0 : Nat) }) n (0 : Nat)] (0 : Nat) false true false) :: some (AObj.row (rd3 ys gs n) (3 : Nat) true true true) :: some (AObj.row [Value.slice (some { block := (10 : Nat), off := (0 : Nat) }) (gN xs ys gs f b0 b1 i) (0 : Nat)] (0 : Nat) false true false) :: some (AObj.row [Value.string nm1, Value.int IntKind.i64 f, Value.slice (some { block := (0 : Nat), off := (0 : Nat) }) n c, Value.slice (some { block := (1 : Nat), off := (0 : Nat) }) (0 : Nat) d] (0 : Nat) false false false) :: some (AObj.row (ints (gF xs ys gs f b0 b1 i)) (3 : Nat) true true true) :: noH = some (AObj.row (flts xs) (1 : Nat) true false true) :: some (AObj.row [] (2 : Nat) true false true) :: some (AObj.row (flts ys) (1 : Nat) true true true) :: some (AObj.row (ints gs) (2 : Nat) true true true) :: some (AObj.row [Value.string nm1, Value.int IntKind.i64 f, Value.slice (some { block := (0 : Nat), off := (0 : Nat) }) n c, Value.slice (some { block := (1 : Nat), off := (0 : Nat) }) (0 : Nat) d] (0 : Nat) false true false) :: some (AObj.row [Value.int IntKind.i64 b0, Value.int IntKind.i64 b1] (0 : Nat) false true true) :: some (AObj.row [Value.slice (some { block := (7 : Nat), off := (0 : Nat) }) n (0 : Nat)] (0 : Nat) false true false) :: some (AObj.row (rd3 ys gs n) (3 : Nat) true true true) :: some (AObj.row [Value.slice (some { block := (10 : Nat), off := (0 : Nat) }) (gN xs ys gs f b0 b1 (i + (1 : Nat))) (0 : Nat)] (0 : Nat) false true false) :: some (AObj.row [Value.string nm1, Value.int IntKind.i64 f, Value.slice (some { block := (0 : Nat), off := (0 : Nat) }) n c, Value.slice (some { block := (1 : Nat), off := (0 : Nat) }) (0 : Nat) d] (0 : Nat) false false false) :: some (AObj.row (ints (gF xs ys gs f b0 b1 (i + (1 : Nat)))) (3 : Nat) true true true) :: noH ∧ Is True) (br (decide (IntKind.wrap IntKind.i64 (IntKind.wrap IntKind.i64 (IntKind.wrap IntKind.i64 (absI (lev (List.getD ys (((0 : Nat) + Int.toNat (↑i : Int) * (3 : Nat)) / (3 : Nat)) (0 : Nat))) - b1) - absI (lev (List.getD xs i (0 : Nat)))) - b0) ≤ (0 : Int))) (some (AObj.row (flts xs) (1 : Nat) true false true) :: some (AObj.row [] (2 : Nat) true false true) :: some (AObj.row (flts ys) (1 : Nat) true true true) :: some (AObj.row (ints gs) (2 : Nat) true true true) :: some (AObj.row [Value.string nm1, Value.int IntKind.i64 f, Value.slice (some { block := (0 : Nat), off := (0 : Nat) }) n c, Value.slice (some { block := (1 : Nat), off := (0 : Nat) }) (0 : Nat) d] (0 : Nat) false true false) :: some (AObj.row [Value.int IntKind.i64 b0, Value.int IntKind.i64 b1] (0 : Nat) false true true) :: some (AObj.row [Value.slice (some { block := (7 : Nat), off := (0 : Nat) }) n (0 : Nat)] (0 : Nat) false true false) :: some (AObj.row (rd3 ys gs n) (3 : Nat) true true true) :: some (AObj.row [Value.slice (some { block := (10 : Nat), off := (0 : Nat) }) (gN xs ys gs f b0 b1 i) (0 : Nat)] (0 : Nat) false true false) :: some (AObj.row [Value.string nm1, Value.int IntKind.i64 f, Value.slice (some { block := (0 : Nat), off := (0 : Nat) }) n c, Value.slice (some { block := (1 : Nat), off := (0 : Nat) }) (0 : Nat) d] (0 : Nat) false false false) :: some (AObj.row (ints (gF xs ys gs f b0 b1 i)) (3 : Nat) true true true) :: noH = some (AObj.row (flts xs) (1 : Nat) true false true) :: some (AObj.row [] (2 : Nat) true false true) :: some (AObj.row (flts ys) (1 : Nat) true true true) :: some (AObj.row (ints gs) (2 : Nat) true true true) :: some (AObj.row [Value.string nm1, Value.int IntKind.i64 f, Value.slice (some { block := (0 : Nat), off := (0 : Nat) }) n c, Value.slice (some { block := (1 : Nat), off := (0 : Nat) }) (0 : Nat) d] (0 : Nat) false true false) :: some (AObj.row [Value.int IntKind.i64 b0, Value.int IntKind.i64 b1] (0 : Nat) false true true) :: some (AObj.row [Value.slice (some { block := (7 : Nat), off := (0 : Nat) }) n (0 : Nat)] (0 : Nat) false true false) :: some (AObj.row (rd3 ys gs n) (3 : Nat) true true true) :: some (AObj.row [Value.slice (some { block := (10 : Nat), off := (0 : Nat) }) (gN xs ys gs f b0 b1 (i + (1 : Nat))) (0 : Nat)] (0 : Nat) false true false) :: some (AObj.row [Value.string nm1, Value.int IntKind.i64 f, Value.slice (some { block := (0 : Nat), off := (0 : Nat) }) n c, Value.slice (some { block := (1 : Nat), off := (0 : Nat) }) (0 : Nat) d] (0 : Nat) false false false) :: some (AObj.row (ints (gF xs ys gs f b0 b1 (i + (1 : Nat)))) (3 : Nat) true true true) :: noH ∧ Is True) (br (decide ((0 : Int) ≤ IntKind.wrap IntKind.i64 ((↑(gN xs ys gs f b0 b1 i) : Int) - (1 : Int)))) (Is ((0 : Int) ≤ IntKind.wrap IntKind.i64 ((↑(gN xs ys gs f b0 b1 i) : Int) - (1 : Int)) ∧ IntKind.wrap IntKind.i64 ((↑(gN xs ys gs f b0 b1 i) : Int) - (1 : Int)) < (↑(gN xs ys gs f b0 b1 i) : Int)) ∧ Is ((ints (gF xs ys gs f b0 b1 i))[(0 : Nat) + Int.toNat (IntKind.wrap IntKind.i64 ((↑(gN xs ys gs f b0 b1 i) : Int) - (1 : Int))) * (3 : Nat) + (0 : Nat) + (1 : Nat)]? = some (Value.int IntKind.i64 (iAt (ints (gF xs ys gs f b0 b1 i)) ((0 : Nat) + Int.toNat (IntKind.wrap IntKind.i64 ((↑(gN xs ys gs f b0 b1 i) : Int) - (1 : Int))) * (3 : Nat) + (0 : Nat) + (1 : Nat))))) ∧ br (iAt (ints (gF xs ys gs f b0 b1 i)) ((0 : Nat) + Int.toNat (IntKind.wrap IntKind.i64 ((↑(gN xs ys gs f b0 b1 i) : Int) - (1 : Int))) * (3 : Nat) + (0 : Nat) + (1 : Nat)) == IntKind.wrap IntKind.i64 (f + (↑i : Int))) (Is ((0 : Int) ≤ IntKind.wrap IntKind.i64 ((↑(gN xs ys gs f b0 b1 i) : Int) - (1 : Int)) ∧ IntKind.wrap IntKind.i64 ((↑(gN xs ys gs f b0 b1 i) : Int) - (1 : Int)) < (↑(gN xs ys gs f b0 b1 i) : Int)) ∧ Is ((ints (gF xs ys gs f b0 b1 i))[(0 : Nat) + Int.toNat (IntKind.wrap IntKind.i64 ((↑(gN xs ys gs f b0 b1 i) : Int) - (1 : Int))) * (3 : Nat) + (0 : Nat) + (0 : Nat)]? = some (Value.int IntKind.i64 (iAt (ints (gF xs ys gs f b0 b1 i)) ((0 : Nat) + Int.toNat (IntKind.wrap IntKind.i64 ((↑(gN xs ys gs f b0 b1 i) : Int) - (1 : Int))) * (3 : Nat) + (0 : Nat) + (0 : Nat))))) ∧ Is ((0 : Int) ≤ IntKind.wrap IntKind.i64 ((↑(gN xs ys gs f b0 b1 i) : Int) - (1 : Int)) ∧ IntKind.wrap IntKind.i64 ((↑(gN xs ys gs f b0 b1 i) : Int) - (1 : Int)) < (↑(gN xs ys gs f b0 b1 i) : Int)) ∧ Is ((ints (gF xs ys gs f b0 b1 i))[(0 : Nat) + Int.toNat (IntKind.wrap IntKind.i64 ((↑(gN xs ys gs f b0 b1 i) : Int) - (1 : Int))) * (3 : Nat) + (2 : Nat)]? = some (Value.int IntKind.i64 (iAt (ints (gF xs ys gs f b0 b1 i)) ((0 : Nat) + Int.toNat (IntKind.wrap IntKind.i64 ((↑(gN xs ys gs f b0 b1 i) : Int) - (1 : Int))) * (3 : Nat) + (2 : Nat))))) ∧ Is ((0 : Int) ≤ IntKind.wrap IntKind.i64 ((↑(gN xs ys gs f b0 b1 i) : Int) - (1 : Int)) ∧ IntKind.wrap IntKind.i64 ((↑(gN xs ys gs f b0 b1 i) : Int) - (1 : Int)) < (↑(gN xs ys gs f b0 b1 i) : Int)) ∧ Is ((0 : Nat) + Int.toNat (IntKind.wrap IntKind.i64 ((↑(gN xs ys gs f b0 b1 i) : Int) - (1 : Int))) * (3 : Nat) + (3 : Nat) ≤ List.length (ints (gF xs ys gs f b0 b1 i))) ∧ some (AObj.row (flts xs) (1 : Nat) true false true) :: some (AObj.row [] (2 : Nat) true false true) :: some (AObj.row (flts ys) (1 : Nat) true true true) :: some (AObj.row (ints gs) (2 : Nat) true true true) :: some (AObj.row [Value.string nm1, Value.int IntKind.i64 f, Value.slice (some { block := (0 : Nat), off := (0 : Nat) }) n c, Value.slice (some { block := (1 : Nat), off := (0 : Nat) }) (0 : Nat) d] (0 : Nat) false true false) :: some (AObj.row [Value.int IntKind.i64 b0, Value.int IntKind.i64 b1] (0 : Nat) false true true) :: some (AObj.row [Value.slice (some { block := (7 : Nat), off := (0 : Nat) }) n (0 : Nat)] (0 : Nat) false true false) :: some (AObj.row (rd3 ys gs n) (3 : Nat) true true true) :: some (AObj.row [Value.slice (some { block := (10 : Nat), off := (0 : Nat) }) (gN xs ys gs f b0 b1 i) (0 : Nat)] (0 : Nat) false true false) :: some (AObj.row [Value.string nm1, Value.int IntKind.i64 f, Value.slice (some { block := (0 : Nat), off := (0 : Nat) }) n c, Value.slice (some { block := (1 : Nat), off := (0 : Nat) }) (0 : Nat) d] (0 : Nat) false false false) :: some (AObj.row (putL (ints (gF xs ys gs f b0 b1 i)) ((0 : Nat) + Int.toNat (IntKind.wrap IntKind.i64 ((↑(gN xs ys gs f b0 b1 i) : Int) - (1 : Int))) * (3 : Nat)) [Value.int IntKind.i64 (iAt (ints (gF xs ys gs f b0 b1 i)) ((0 : Nat) + Int.toNat (IntKind.wrap IntKind.i64 ((↑(gN xs ys gs f b0 b1 i) : Int) - (1 : Int))) * (3 : Nat) + (0 : Nat) + (0 : Nat))), Value.int IntKind.i64 (IntKind.wrap IntKind.i64 (IntKind.wrap IntKind.i64 (f + (↑i : Int)) + (1 : Int))), Value.int IntKind.i64 (if IntKind.wrap IntKind.i64 (IntKind.wrap IntKind.i64 (IntKind.wrap IntKind.i64 (absI (lev (List.getD ys (((0 : Nat) + Int.toNat (↑i : Int) * (3 : Nat)) / (3 : Nat)) (0 : Nat))) - b1) - absI (lev (List.getD xs i (0 : Nat)))) - b0) > iAt (ints (gF xs ys gs f b0 b1 i)) ((0 : Nat) + Int.toNat (IntKind.wrap IntKind.i64 ((↑(gN xs ys gs f b0 b1 i) : Int) - (1 : Int))) * (3 : Nat) + (2 : Nat)) then IntKind.wrap IntKind.i64 (IntKind.wrap IntKind.i64 (IntKind.wrap IntKind.i64 (absI (lev (List.getD ys (((0 : Nat) + Int.toNat (↑i : Int) * (3 : Nat)) / (3 : Nat)) (0 : Nat))) - b1) - absI (lev (List.getD xs i (0 : Nat)))) - b0) else iAt (ints (gF xs ys gs f b0 b1 i)) ((0 : Nat) + Int.toNat (IntKind.wrap IntKind.i64 ((↑(gN xs ys gs f b0 b1 i) : Int) - (1 : Int))) * (3 : Nat) + (2 : Nat)))]) (3 : Nat) true true (true && List.all [Value.int IntKind.i64 (iAt (ints (gF xs ys gs f b0 b1 i)) ((0 : Nat) + Int.toNat (IntKind.wrap IntKind.i64 ((↑(gN xs ys gs f b0 b1 i) : Int) - (1 : Int))) * (3 : Nat) + (0 : Nat) + (0 : Nat))), Value.int IntKind.i64 (IntKind.wrap IntKind.i64 (IntKind.wrap IntKind.i64 (f + (↑i : Int)) + (1 : Int))), Value.int IntKind.i64 (if IntKind.wrap IntKind.i64 (IntKind.wrap IntKind.i64 (IntKind.wrap IntKind.i64 (absI (lev (List.getD ys (((0 : Nat) + Int.toNat (↑i : Int) * (3 : Nat)) / (3 : Nat)) (0 : Nat))) - b1) - absI (lev (List.getD xs i (0 : Nat)))) - b0) > iAt (ints (gF xs ys gs f b0 b1 i)) ((0 : Nat) + Int.toNat (IntKind.wrap IntKind.i64 ((↑(gN xs ys gs f b0 b1 i) : Int) - (1 : Int))) * (3 : Nat) + (2 : Nat)) then IntKind.wrap IntKind.i64 (IntKind.wrap IntKind.i64 (IntKind.wrap IntKind.i64 (absI (lev (List.getD ys (((0 : Nat) + Int.toNat (↑i : Int) * (3 : Nat)) / (3 : Nat)) (0 : Nat))) - b1) - absI (lev (List.getD xs i (0 : Nat)))) - b0) else iAt (ints (gF xs ys gs f b0 b1 i)) ((0 : Nat) + Int.toNat (IntKind.wrap IntKind.i64 ((↑(gN xs ys gs f b0 b1 i) : Int) - (1 : Int))) * (3 : Nat) + (2 : Nat)))] atom)) :: noH = some (AObj.row (flts xs) (1 : Nat) true false true) :: some (AObj.row [] (2 : Nat) true false true) :: some (AObj.row (flts ys) (1 : Nat) true true true) :: some (AObj.row (ints gs) (2 : Nat) true true true) :: some (AObj.row [Value.string nm1, Value.int IntKind.i64 f, Value.slice (some { block := (0 : Nat), off := (0 : Nat) }) n c, Value.slice (some { block := (1 : Nat), off := (0 : Nat) }) (0 : Nat) d] (0 : Nat) false true false) :: some (AObj.row [Value.int IntKind.i64 b0, Value.int IntKind.i64 b1] (0 : Nat) false true true) :: some (AObj.row [Value.slice (some { block := (7 : Nat), off := (0 : Nat) }) n (0 : Nat)] (0 : Nat) false true false) :: some (AObj.row (rd3 ys gs n) (3 : Nat) true true true) :: some (AObj.row [Value.slice (some { block := (10 : Nat), off := (0 : Nat) }) (gN xs ys gs f b0 b1 (i + (1 : Nat))) (0 : Nat)] (0 : Nat) false true false) :: some (AObj.row [Value.string nm1, Value.int IntKind.i64 f, Value.slice (some { block := (0 : Nat), off := (0 : Nat) }) n c, Value.slice (some { block := (1 : Nat), off := (0 : Nat) }) (0 : Nat) d] (0 : Nat) false false false) :: some (AObj.row (ints (gF xs ys gs f b0 b1 (i + (1 : Nat)))) (3 : Nat) true true true) :: noH ∧ Is True) (Is (List.length (ints (gF xs ys gs f b0 b1 i)) = gN xs ys gs f b0 b1 i * (3 : Nat) ∧ (gN xs ys gs f b0 b1 i + (1 : Nat)) * (24 : Nat) ≤ (140737488355328 : Nat) ∧ gN xs ys gs f b0 b1 i + (1 : Nat) ≤ (9223372036854775807 : Nat)) ∧ some (AObj.row (flts xs) (1 : Nat) true false true) :: some (AObj.row [] (2 : Nat) true false true) :: some (AObj.row (flts ys) (1 : Nat) true true true) :: some (AObj.row (ints gs) (2 : Nat) true true true) :: some (AObj.row [Value.string nm1, Value.int IntKind.i64 f, Value.slice (some { block := (0 : Nat), off := (0 : Nat) }) n c, Value.slice (some { block := (1 : Nat), off := (0 : Nat) }) (0 : Nat) d] (0 : Nat) false true false) :: some (AObj.row [Value.int IntKind.i64 b0, Value.int IntKind.i64 b1] (0 : Nat) false true true) :: some (AObj.row [Value.slice (some { block := (7 : Nat), off := (0 : Nat) }) n (0 : Nat)] (0 : Nat) false true false) :: some (AObj.row (rd3 ys gs n) (3 : Nat) true true true) :: some (AObj.row [Value.slice (some { block := (10 : Nat), off := (0 : Nat) }) (gN xs ys gs f b0 b1 i + (1 : Nat)) (0 : Nat)] (0 : Nat) false true (false && List.all [Value.slice (some { block := (14 : Nat), off := (0 : Nat) }) (gN xs ys gs f b0 b1 i + (1 : Nat)) (0 : Nat)] atom)) :: some (AObj.row [Value.string nm1, Value.int IntKind.i64 f, Value.slice (some { block := (0 : Nat), off := (0 : Nat) }) n c, Value.slice (some { block := (1 : Nat), off := (0 : Nat) }) (0 : Nat) d] (0 : Nat) false false false) :: some (AObj.row (ints (gF xs ys gs f b0 b1 i) ++ [Value.int IntKind.i64 (IntKind.wrap IntKind.i64 (f + (↑i : Int))), Value.int IntKind.i64 (IntKind.wrap IntKind.i64 (IntKind.wrap IntKind.i64 (f + (↑i : Int)) + (1 : Int))), Value.int IntKind.i64 (IntKind.wrap IntKind.i64 (IntKind.wrap IntKind.i64 (IntKind.wrap IntKind.i64 (absI (lev (List.getD ys (((0 : Nat) + Int.toNat (↑i : Int) * (3 : Nat)) / (3 : Nat)) (0 : Nat))) - b1) - absI (lev (List.getD xs i (0 : Nat)))) - b0))]) (3 : Nat) true true (List.all [Value.int IntKind.i64 (IntKind.wrap IntKind.i64 (f + (↑i : Int))), Value.int IntKind.i64 (IntKind.wrap IntKind.i64 (IntKind.wrap IntKind.i64 (f + (↑i : Int)) + (1 : Int))), Value.int IntKind.i64 (IntKind.wrap IntKind.i64 (IntKind.wrap IntKind.i64 (IntKind.wrap IntKind.i64 (absI (lev (List.getD ys (((0 : Nat) + Int.toNat (↑i : Int) * (3 : Nat)) / (3 : Nat)) (0 : Nat))) - b1) - absI (lev (List.getD xs i (0 : Nat)))) - b0))] atom)) :: noH = some (AObj.row (flts xs) (1 : Nat) true false true) :: some (AObj.row [] (2 : Nat) true false true) :: some (AObj.row (flts ys) (1 : Nat) true true true) :: some (AObj.row (ints gs) (2 : Nat) true true true) :: some (AObj.row [Value.string nm1, Value.int IntKind.i64 f, Value.slice (some { block := (0 : Nat), off := (0 : Nat) }) n c, Value.slice (some { block := (1 : Nat), off := (0 : Nat) }) (0 : Nat) d] (0 : Nat) false true false) :: some (AObj.row [Value.int IntKind.i64 b0, Value.int IntKind.i64 b1] (0 : Nat) false true true) :: some (AObj.row [Value.slice (some { block := (7 : Nat), off := (0 : Nat) }) n (0 : Nat)] (0 : Nat) false true false) :: some (AObj.row (rd3 ys gs n) (3 : Nat) true true true) :: some (AObj.row [Value.slice (some { block := (10 : Nat), off := (0 : Nat) }) (gN xs ys gs f b0 b1 (i + (1 : Nat))) (0 : Nat)] (0 : Nat) false true false) :: some (AObj.row [Value.string nm1, Value.int IntKind.i64 f, Value.slice (some { block := (0 : Nat), off := (0 : Nat) }) n c, Value.slice (some { block := (1 : Nat), off := (0 : Nat) }) (0 : Nat) d] (0 : Nat) false false false) :: some (AObj.row (ints (gF xs ys gs f b0 b1 (i + (1 : Nat)))) (3 : Nat) true true true) :: noH ∧ Is True)) (Is (List.length (ints (gF xs ys gs f b0 b1 i)) = gN xs ys gs f b0 b1 i * (3 : Nat) ∧ (gN xs ys gs f b0 b1 i + (1 : Nat)) * (24 : Nat) ≤ (140737488355328 : Nat) ∧ gN xs ys gs f b0 b1 i + (1 : Nat) ≤ (9223372036854775807 : Nat)) ∧ some (AObj.row (flts xs) (1 : Nat) true false true) :: some (AObj.row [] (2 : Nat) true false true) :: some (AObj.row (flts ys) (1 : Nat) true true true) :: some (AObj.row (ints gs) (2 : Nat) true true true) :: some (AObj.row [Value.string nm1, Value.int IntKind.i64 f, Value.slice (some { block := (0 : Nat), off := (0 : Nat) }) n c, Value.slice (some { block := (1 : Nat), off := (0 : Nat) }) (0 : Nat) d] (0 : Nat) false true false) :: some (AObj.row [Value.int IntKind.i64 b0, Value.int IntKind.i64 b1] (0 : Nat) false true true) :: some (AObj.row [Value.slice (some { block := (7 : Nat), off := (0 : Nat) }) n (0 : Nat)] (0 : Nat) false true false) :: some (AObj.row (rd3 ys gs n) (3 : Nat) true true true) :: some (AObj.row [Value.slice (some { block := (10 : Nat), off := (0 : Nat) }) (gN xs ys gs f b0 b1 i + (1 : Nat)) (0 : Nat)] (0 : Nat) false true (false && List.all [Value.slice (some { block := (14 : Nat), off := (0 : Nat) }) (gN xs ys gs f b0 b1 i + (1 : Nat)) (0 : Nat)] atom)) :: some (AObj.row [Value.string nm1, Value.int IntKind.i64 f, Value.slice (some { block := (0 : Nat), off := (0 : Nat) }) n c, Value.slice (some { block := (1 : Nat), off := (0 : Nat) }) (0 : Nat) d] (0 : Nat) false false false) :: some (AObj.row (ints (gF xs ys gs f b0 b1 i) ++ [Value.int IntKind.i64 (IntKind.wrap IntKind.i64 (f + (↑i : Int))), Value.int IntKind.i64 (IntKind.wrap IntKind.i64 (IntKind.wrap IntKind.i64 (f + (↑i : Int)) + (1 : Int))), Value.int IntKind.i64 (IntKind.wrap IntKind.i64 (IntKind.wrap IntKind.i64 (IntKind.wrap IntKind.i64 (absI (lev (List.getD ys (((0 : Nat) + Int.toNat (↑i : Int) * (3 : Nat)) / (3 : Nat)) (0 : Nat))) - b1) - absI (lev (List.getD xs i (0 : Nat)))) - b0))]) (3 : Nat) true true (List.all [Value.int IntKind.i64 (IntKind.wrap IntKind.i64 (f + (↑i : Int))), Value.int IntKind.i64 (IntKind.wrap IntKind.i64 (IntKind.wrap IntKind.i64 (f + (↑i : Int)) + (1 : Int))), Value.int IntKind.i64 (IntKind.wrap IntKind.i64 (IntKind.wrap IntKind.i64 (IntKind.wrap IntKind.i64 (absI (lev (List.getD ys (((0 : Nat) + Int.toNat (↑i : Int) * (3 : Nat)) / (3 : Nat)) (0 : Nat))) - b1) - absI (lev (List.getD xs i (0 : Nat)))) - b0))] atom)) :: noH = some (AObj.row (flts xs) (1 : Nat) true false true) :: some (AObj.row [] (2 : Nat) true false true) :: some (AObj.row (flts ys) (1 : Nat) true true true) :: some (AObj.row (ints gs) (2 : Nat) true true true) :: some (AObj.row [Value.string nm1, Value.int IntKind.i64 f, Value.slice (some { block := (0 : Nat), off := (0 : Nat) }) n c, Value.slice (some { block := (1 : Nat), off := (0 : Nat) }) (0 : Nat) d] (0 : Nat) false true false) :: some (AObj.row [Value.int IntKind.i64 b0, Value.int IntKind.i64 b1] (0 : Nat) false true true) :: some (AObj.row [Value.slice (some { block := (7 : Nat), off := (0 : Nat) }) n (0 : Nat)] (0 : Nat) false true false) :: some (AObj.row (rd3 ys gs n) (3 : Nat) true true true) :: some (AObj.row [Value.slice (some { block := (10 : Nat), off := (0 : Nat) }) (gN xs ys gs f b0 b1 (i + (1 : Nat))) (0 : Nat)] (0 : Nat) false true false) :: some (AObj.row [Value.string nm1, Value.int IntKind.i64 f, Value.slice (some { block := (0 : Nat), off := (0 : Nat) }) n c, Value.slice (some { block := (1 : Nat), off := (0 : Nat) }) (0 : Nat) d] (0 : Nat) false false false) :: some (AObj.row (ints (gF xs ys gs f b0 b1 (i + (1 : Nat)))) (3 : Nat) true true true) :: noH ∧ Is True)))) ∧ (Is True → K (Value.tuple #[Value.slice (some { block := (4 : Nat), off := (0 : Nat) }) (gN xs ys gs f b0 b1 n) (0 : Nat), Value.int IntKind.i64 (0 : Int)]) (some (AObj.row (flts xs) (1 : Nat) true false true) :: some (AObj.row [] (2 : Nat) true false true) :: some (AObj.row (flts ys) (1 : Nat) true true true) :: some (AObj.row (ints gs) (2 : Nat) true true true) :: some (AObj.row (ints (gF xs ys gs f b0 b1 n)) (3 : Nat) true true true) :: noH)) ∧ ∀ (s : Empty), Is False → False)) := by kernel_rfl
theorem rd3_take {ys : List Nat} {gs : List Int} {i : Nat} : ∀ n, i < n → (rd3 ys gs n).drop (i * 3) = [.int .i64 (i : Int), .int .i64 (lev (ys.getD i 0)), .bool (knB gs (i : Int))] ++ (rd3 ys gs n).drop (i * 3 + 3)
  | 0, h => by omega
  | n + 1, h => by
    have hl := rd3_len ys gs n
    rw [rd3]
    rcases Nat.lt_succ_iff_lt_or_eq.1 h with h2 | rfl
    · rw [List.drop_append_of_le_length (by omega), List.drop_append_of_le_length (by omega), rd3_take n h2, List.append_assoc]
    · rw [← hl, List.drop_left, List.drop_eq_nil_of_le (by simp), List.append_nil]
theorem fl3_len : ∀ l, (fl3 l).length = l.length * 3
  | [] => rfl
  | a :: r => by rw [fl3, List.length_cons, List.length_cons, List.length_cons, fl3_len r, List.length_cons]; omega
theorem fl3_app : ∀ a b, fl3 (a ++ b) = fl3 a ++ fl3 b
  | [], b => rfl
  | x :: r, b => by rw [List.cons_append, fl3, fl3, fl3_app r b]; rfl
theorem fl3_at : ∀ (l : List (Int × Int × Int)) (q : Nat), q < l.length → (fl3 l).getD (q * 3) 0 = (l.getD q (0, 0, 0)).1 ∧ (fl3 l).getD (q * 3 + 1) 0 = (l.getD q (0, 0, 0)).2.1 ∧ (fl3 l).getD (q * 3 + 2) 0 = (l.getD q (0, 0, 0)).2.2
  | [], q, h => by simp at h
  | a :: r, 0, _ => ⟨rfl, rfl, rfl⟩
  | a :: r, q + 1, h => by
    have := fl3_at r q (by simp only [List.length_cons] at h; omega)
    rw [show (q + 1) * 3 = q * 3 + 1 + 1 + 1 by omega, show q * 3 + 1 + 1 + 1 + 1 = (q * 3 + 1) + 1 + 1 + 1 by omega, show q * 3 + 1 + 1 + 1 + 2 = (q * 3 + 2) + 1 + 1 + 1 by omega]
    exact this
theorem iAt_ints {l : List Int} {k : Nat} (h : k < l.length) : iAt (ints l) k = l.getD k 0 := by
  rw [iAt, zint_at h]
theorem ld_ints {l : List Int} {k : Nat} (h : k < l.length) : (ints l)[k]? = some (.int .i64 (iAt (ints l) k)) := by
  rw [iAt_ints h]; exact zint_at h
theorem last_split {l : List (Int × Int × Int)} (h : 0 < l.length) : l = l.take (l.length - 1) ++ [l.getD (l.length - 1) (0, 0, 0)] := by
  have e := List.take_append_drop (l.length - 1) l
  have e2 : l.drop (l.length - 1) = [l.getD (l.length - 1) (0, 0, 0)] := by
    rw [List.drop_eq_getElem_cons (by omega), List.drop_eq_nil_of_le (by omega), List.getD_eq_getElem?_getD, List.getElem?_eq_getElem (by omega)]; rfl
  rw [e2] at e
  exact e.symm
theorem put3 {l : List (Int × Int × Int)} {a b c : Int} (h : 0 < l.length) : putL (ints (fl3 l)) ((l.length - 1) * 3) [.int .i64 a, .int .i64 b, .int .i64 c] = ints (fl3 (l.take (l.length - 1) ++ [(a, b, c)])) := by
  have hs := last_split h
  have hl : (ints (fl3 (l.take (l.length - 1)))).length = (l.length - 1) * 3 := by rw [ints_len, fl3_len, List.length_take]; congr 1; omega
  generalize l.getD (l.length - 1) (0, 0, 0) = z at hs
  have e : ints (fl3 l) = ints (fl3 (l.take (l.length - 1))) ++ [.int .i64 z.1, .int .i64 z.2.1, .int .i64 z.2.2] := by
    conv => lhs; rw [hs]
    rw [fl3_app, ← ints_app]; rfl
  rw [fl3_app, ← ints_app, e, putL, splice, ← hl, List.take_left]
  have e2 : List.drop ((ints (fl3 (l.take (l.length - 1)))).length + [Value.int .i64 a, Value.int .i64 b, Value.int .i64 c].length) (ints (fl3 (l.take (l.length - 1))) ++ [.int .i64 z.1, .int .i64 z.2.1, .int .i64 z.2.2]) = [] := List.drop_eq_nil_of_le (by simp)
  rw [e2, List.append_nil]; rfl
theorem gStep_len (l : List (Int × Int × Int)) (a v : Int) : (gStep l a v).length ≤ l.length + 1 := by
  rw [gStep]
  split
  · rw [List.length_append, List.length_take]; simp only [List.length_cons, List.length_nil]; omega
  · simp
theorem gG_len (xs ys : List Nat) (gs : List Int) (f b0 b1 : Int) : ∀ i, (gG xs ys gs f b0 b1 i).length ≤ i
  | 0 => Nat.le_refl _
  | i + 1 => by
    have h := gG_len xs ys gs f b0 b1 i
    rw [gG]
    split
    · have := gStep_len (gG xs ys gs f b0 b1 i) (f + i) (gV xs ys b0 b1 i); omega
    · omega
set_option maxRecDepth 100000 in
set_option maxHeartbeats 2000000 in
theorem gr_ok {nm1 nm2 : ByteArray} {f g b0 b1 : Int} {n c d m c2 k2 d2 : Nat} {xs ys : List Nat} {gs : List Int} (ha : runE nm1 f xs n [] = 0) (hb : runE nm2 g ys n gs = 0) (hfg : g = f) (hnm : m = n) (hn : xs.length = n) (hm' : ys.length = n) (h9 : n ≤ 4096) (hk : gs.length = k2 * 2) (hk9 : k2 ≤ 100000) (hb0 : 0 ≤ b0 ∧ b0 ≤ 1000) (hb1 : 0 ≤ b1 ∧ b1 ≤ 1000) :
    SmallRes Try.prog 12 [.agg (runA nm1 f 0 n c 1 0 d).toArray, .agg (runA nm2 g 2 m c2 3 k2 d2).toArray, .agg #[.int .i64 b0, .int .i64 b1]] (hp4r xs [] ys gs []) (.tuple #[.slice (some ⟨4, 0, none⟩) (gN xs ys gs f b0 b1 n) 0, .int .i64 0])
      [some (.row (flts xs) 1 true false true), some (.row [] 2 true false true), fR ys, some (.row (ints gs) 2 true true true), some (.row (ints (gF xs ys gs f b0 b1 n)) 3 true true true)] := by
  subst hfg hnm
  refine fnP_res hm cF2_ok (hs := hsGr nm1 g b0 b1 m c d xs ys gs) ?_
  rw [gr_t]
  obtain ⟨_, hg0, _, _, hx, _⟩ := run_zero ha
  obtain ⟨_, _, _, _, hy, hh, _⟩ := run_zero hb
  have hr1 : isRun xs [] m 0 (flts xs) [] := ⟨rfl, rfl, hn, by omega, rfl, by decide⟩
  have hr2 : isRun ys gs m k2 (flts ys) (ints gs) := ⟨rfl, rfl, hm', by omega, hk, hk9⟩
  have e0 : fi [runE nm1 g xs m [], runE nm2 g ys m gs, wh (!(g == g && ((m : Int) == (m : Int) && true))) 2, wi b0 0 1000, wi b1 0 1000] = 0 := by
    rw [ha, hb, beq_self_eq_true, beq_self_eq_true, wi_zero.2 hb0, wi_zero.2 hb1]; rfl
  rw [e0]
  refine ⟨⟨hr1⟩, ⟨hr2⟩, ⟨rfl, rfl⟩, ⟨rfl, rfl⟩, ⟨trivial⟩, br_of (fun h => by cases h) (fun _ => ⟨⟨by first | trivial | rfl, by first | trivial | rfl⟩, ⟨by first | trivial | rfl, by first | trivial | rfl, hm', by omega, hk, hk9, hy, hh⟩, ⟨by first | trivial | rfl, by first | trivial | rfl⟩, by first | trivial | rfl, by first | trivial | rfl, by first | trivial | rfl,
    ⟨⟨by first | trivial | rfl, by first | trivial | rfl⟩, hn, by omega, rfl, by decide, hx, rfl⟩, ⟨trivial⟩, fun i _ hi => ?_, fun _ => ⟨by first | trivial | rfl, by first | trivial | rfl⟩, fun s => s.elim⟩)⟩
  have hi := hi.out
  have q1 := lev_few (smps hx (j := i) (by omega))
  have q2 := lev_few (smps hy (j := i) (by omega))
  have ed : i * 3 / 3 = i := Nat.mul_div_cancel _ (by decide)
  simp only [Nat.zero_add, Nat.add_zero, Int.toNat_natCast, ed]
  have a1 : absI (lev (xs.getD i 0)) = ((lev (xs.getD i 0)).natAbs : Int) := rfl
  have a2 : absI (lev (ys.getD i 0)) = ((lev (ys.getD i 0)).natAbs : Int) := rfl
  have eV : IntKind.wrap .i64 (IntKind.wrap .i64 (IntKind.wrap .i64 (absI (lev (ys.getD i 0)) - b1) - absI (lev (xs.getD i 0))) - b0) = gV xs ys b0 b1 i := by
    rw [gV, wrap_eq (x := absI (lev (ys.getD i 0)) - b1) (by omega) (by omega), wrap_eq (x := absI (lev (ys.getD i 0)) - b1 - absI (lev (xs.getD i 0))) (by omega) (by omega), wrap_eq (by omega) (by omega)]
  have eA : IntKind.wrap .i64 (g + (i : Int)) = g + i := wrap_eq (by omega) (by omega)
  have eA2 : IntKind.wrap .i64 (g + (i : Int) + 1) = g + i + 1 := wrap_eq (by omega) (by omega)
  rw [eV, eA, eA2]
  have hlen := gG_len xs ys gs g b0 b1 i
  have hF : (gF xs ys gs g b0 b1 i).length = gN xs ys gs g b0 b1 i * 3 := fl3_len _
  have hN : gN xs ys gs g b0 b1 i ≤ i := hlen
  have same : ¬ (knB gs (i : Int) = true ∧ 0 < gV xs ys b0 b1 i) → gN xs ys gs g b0 b1 (i + 1) = gN xs ys gs g b0 b1 i ∧ gF xs ys gs g b0 b1 (i + 1) = gF xs ys gs g b0 b1 i := fun h => by
    rw [gN, gF, gG, if_neg h]; exact ⟨rfl, rfl⟩
  have tk : (if i * 3 + 3 ≤ (rd3 ys gs m).length then some (Value.agg (List.take 3 (List.drop (i * 3) (rd3 ys gs m))).toArray) else none) = some (.agg #[.int .i64 (i : Int), .int .i64 (lev (ys.getD i 0)), .bool (knB gs (i : Int))]) := by
    rw [if_pos (by rw [rd3_len]; omega), rd3_take m hi]; rfl
  refine ⟨⟨by omega, by omega⟩, ⟨tk⟩, ⟨by omega⟩, ⟨by omega⟩, br_of (fun hkn => ?_) (fun hkn => br_of (fun hv => ?_) (fun hv => ?_))⟩
  · have hkn : ¬ knB gs (i : Int) = true := by simpa using hkn
    obtain ⟨s1, s2⟩ := same (fun h => hkn h.1)
    rw [s1, s2]
    exact ⟨by first | trivial | rfl, ⟨trivial⟩⟩
  · have hv := of_decide_eq_true hv
    obtain ⟨s1, s2⟩ := same (fun h => by omega)
    rw [s1, s2]
    exact ⟨by first | trivial | rfl, ⟨trivial⟩⟩
  · have hkn : knB gs (i : Int) = true := by simpa using hkn
    have hv : 0 < gV xs ys b0 b1 i := by have := of_decide_eq_false hv; omega
    have st : gG xs ys gs g b0 b1 (i + 1) = gStep (gG xs ys gs g b0 b1 i) (g + i) (gV xs ys b0 b1 i) := by rw [gG, if_pos ⟨hkn, hv⟩]
    have eN : gN xs ys gs g b0 b1 i = (gG xs ys gs g b0 b1 i).length := rfl
    have eF : gF xs ys gs g b0 b1 i = fl3 (gG xs ys gs g b0 b1 i) := rfl
    have eN' : gN xs ys gs g b0 b1 (i + 1) = (gStep (gG xs ys gs g b0 b1 i) (g + i) (gV xs ys b0 b1 i)).length := by rw [gN, st]
    have eF' : gF xs ys gs g b0 b1 (i + 1) = fl3 (gStep (gG xs ys gs g b0 b1 i) (g + i) (gV xs ys b0 b1 i)) := by rw [gF, st]
    have more : ¬ (0 < (gG xs ys gs g b0 b1 i).length ∧ ((gG xs ys gs g b0 b1 i).getD ((gG xs ys gs g b0 b1 i).length - 1) (0, 0, 0)).2.1 = g + i) →
        gN xs ys gs g b0 b1 (i + 1) = gN xs ys gs g b0 b1 i + 1 ∧ ints (gF xs ys gs g b0 b1 (i + 1)) = ints (gF xs ys gs g b0 b1 i) ++ [.int .i64 (g + i), .int .i64 (g + i + 1), .int .i64 (gV xs ys b0 b1 i)] := fun h => by
      rw [eN', eF', gStep, if_neg h, List.length_append, fl3_app, ← ints_app]; exact ⟨rfl, rfl⟩
    refine br_of (fun h1 => ?_) (fun h1 => ?_)
    · have h1 := of_decide_eq_true h1
      have ew : IntKind.wrap .i64 ((gN xs ys gs g b0 b1 i : Int) - 1) = ((gN xs ys gs g b0 b1 i - 1 : Nat) : Int) := by
        by_cases h0 : gN xs ys gs g b0 b1 i = 0
        · rw [h0, wrap_eq (by decide) (by decide)] at h1
          omega
        · rw [wrap_eq (by omega) (by omega)]; omega
      have h0 : 0 < gN xs ys gs g b0 b1 i := by
        by_cases h0 : gN xs ys gs g b0 b1 i = 0
        · rw [h0, wrap_eq (by decide) (by decide)] at h1
          omega
        · omega
      rw [ew]
      simp only [Int.toNat_natCast]
      have at3 := fl3_at (gG xs ys gs g b0 b1 i) (gN xs ys gs g b0 b1 i - 1) (by omega)
      rw [← eF] at at3
      obtain ⟨p1, p2, p3⟩ := at3
      have k1 : (gN xs ys gs g b0 b1 i - 1) * 3 + 2 < (gF xs ys gs g b0 b1 i).length := by omega
      have v0 := iAt_ints (l := gF xs ys gs g b0 b1 i) (k := (gN xs ys gs g b0 b1 i - 1) * 3) (by omega)
      have v1 := iAt_ints (l := gF xs ys gs g b0 b1 i) (k := (gN xs ys gs g b0 b1 i - 1) * 3 + 1) (by omega)
      have v2 := iAt_ints (l := gF xs ys gs g b0 b1 i) (k := (gN xs ys gs g b0 b1 i - 1) * 3 + 2) (by omega)
      refine ⟨⟨by omega, by omega⟩, ⟨ld_ints (by omega)⟩, br_of (fun h2 => ?_) (fun h2 => ?_)⟩
      · have h2 := eq_of_beq h2
        rw [v1, p2] at h2
        have hc : 0 < (gG xs ys gs g b0 b1 i).length ∧ ((gG xs ys gs g b0 b1 i).getD ((gG xs ys gs g b0 b1 i).length - 1) (0, 0, 0)).2.1 = g + i := ⟨h0, h2⟩
        have eN2 : gN xs ys gs g b0 b1 (i + 1) = gN xs ys gs g b0 b1 i := by
          rw [eN', gStep, if_pos hc, List.length_append, List.length_take]; simp only [List.length_cons, List.length_nil]; omega
        have eF2 : ints (gF xs ys gs g b0 b1 (i + 1)) = putL (ints (gF xs ys gs g b0 b1 i)) ((gN xs ys gs g b0 b1 i - 1) * 3) [.int .i64 (iAt (ints (gF xs ys gs g b0 b1 i)) ((gN xs ys gs g b0 b1 i - 1) * 3)), .int .i64 (g + i + 1), .int .i64 (if gV xs ys b0 b1 i > iAt (ints (gF xs ys gs g b0 b1 i)) ((gN xs ys gs g b0 b1 i - 1) * 3 + 2) then gV xs ys b0 b1 i else iAt (ints (gF xs ys gs g b0 b1 i)) ((gN xs ys gs g b0 b1 i - 1) * 3 + 2))] := by
          rw [v0, v2, p1, p3, eF', gStep, if_pos hc, eF, eN]
          exact (put3 h0).symm
        rw [eN2, eF2]
        exact ⟨⟨by omega, by omega⟩, ⟨ld_ints (by omega)⟩, ⟨by omega, by omega⟩, ⟨ld_ints (by omega)⟩, ⟨by omega, by omega⟩, ⟨by rw [ints_len]; omega⟩, by first | trivial | rfl, ⟨trivial⟩⟩
      · have h2 := ne_of_beq_false h2
        rw [v1, p2] at h2
        obtain ⟨m1, m2⟩ := more (fun h => h2 h.2)
        rw [m1, m2]
        exact ⟨⟨by rw [ints_len]; omega, by omega, by omega⟩, by first | trivial | rfl, ⟨trivial⟩⟩
    · have h1 := of_decide_eq_false h1
      have h0 : gN xs ys gs g b0 b1 i = 0 := by
        by_cases h0 : gN xs ys gs g b0 b1 i = 0
        · exact h0
        · rw [wrap_eq (by omega) (by omega)] at h1; omega
      obtain ⟨m1, m2⟩ := more (fun h => by omega)
      rw [m1, m2]
      exact ⟨⟨by rw [ints_len]; omega, by omega, by omega⟩, by first | trivial | rfl, ⟨trivial⟩⟩
noncomputable def orcGr (xs ys : List Nat) (gs : List Int) : OrcV
  | [.agg ⟨[.string nm1, .int .i64 f, .slice (some ⟨0, 0, none⟩) n _, .slice (some ⟨1, 0, none⟩) 0 _]⟩, .agg ⟨[.string nm2, .int .i64 g, .slice (some ⟨2, 0, none⟩) m _, .slice (some ⟨3, 0, none⟩) k2 _]⟩, .agg ⟨[.int .i64 b0, .int .i64 b1]⟩],
    [some (.row e1 1 true true true), some (.row [] 2 true true true), some (.row e3 1 true true true), some (.row e4 2 true true true)] =>
    some (.tuple #[.slice (some ⟨4, 0, none⟩) (gN xs ys gs f b0 b1 n) 0, .int .i64 0], [some (.row e1 1 true false true), some (.row [] 2 true false true), some (.row e3 1 true true true), some (.row e4 2 true true true), some (.row (ints (gF xs ys gs f b0 b1 n)) 3 true true true)],
      e1 = flts xs ∧ isR2 ys gs e3 e4 ∧ runE nm1 f xs n [] = 0 ∧ runE nm2 g ys m gs = 0 ∧ g = f ∧ m = n ∧ xs.length = n ∧ ys.length = n ∧ n ≤ 4096 ∧ gs.length = k2 * 2 ∧ k2 ≤ 100000 ∧ (0 ≤ b0 ∧ b0 ≤ 1000) ∧ (0 ≤ b1 ∧ b1 ≤ 1000))
  | _, _ => none
theorem okGr (xs ys : List Nat) (gs : List Int) : OkV Try.prog 12 (orcGr xs ys gs) := by
  intro args H ret H' vc h hv
  unfold orcGr at h
  split at h
  · cases h
    obtain ⟨rfl, ⟨rfl, rfl⟩, h1, h2, h3, rfl, h5, h6, h7, h8, h9, h10, h11⟩ := hv
    exact gr_ok h1 h2 h3 rfl h5 h6 h7 h8 h9 h10 h11
  · cases h
end
end Qq
end
section
/- Where two runs are apart: the program. -/
open Go Go.Vm Go.Proofs Sp
namespace Sp
noncomputable section
def isI (e : List Value) (n : Nat) : Prop := ∃ zs, e = ints zs ∧ zs.length = n * 2
def lnA (e : List Value) (n : Nat) (a : Int) : Prop := isI e n ∧ n ≤ 100000 ∧ a.natAbs ≤ 1000000000 ∧ (0 < n ∧ iAt e ((n - 1) * 2 + 1) = a)
def lnB (e : List Value) (n : Nat) (a : Int) : Prop := isI e n ∧ n ≤ 100000 ∧ a.natAbs ≤ 1000000000 ∧ ¬ (0 < n ∧ iAt e ((n - 1) * 2 + 1) = a)
instance (e : List Value) (n : Nat) (a : Int) : Decidable (lnA e n a) := Classical.propDecidable _
/-- One more place that is apart. -/
noncomputable def aStep (l : List (Int × Int)) (at' : Int) : List (Int × Int) :=
  if 0 < l.length ∧ (l.getD (l.length - 1) (0, 0)).2 = at' then l.take (l.length - 1) ++ [((l.getD (l.length - 1) (0, 0)).1, at' + 1)] else l ++ [(at', at' + 1)]
def flp : List (Int × Int) → List Int
  | [] => []
  | a :: r => a.1 :: a.2 :: flp r
noncomputable def aB (xs ys : List Nat) (gs : List Int) (b : Int) (i : Nat) : Bool := knB gs (i : Int) && decide (b < farI (lev (xs.getD i 0)) (lev (ys.getD i 0)))
noncomputable def aG (xs ys : List Nat) (gs : List Int) (f b : Int) : Nat → List (Int × Int)
  | 0 => []
  | i + 1 => if aB xs ys gs b i = true then aStep (aG xs ys gs f b i) (f + i) else aG xs ys gs f b i
noncomputable def aN (xs ys : List Nat) (gs : List Int) (f b : Int) (i : Nat) : Nat := (aG xs ys gs f b i).length
noncomputable def aF (xs ys : List Nat) (gs : List Int) (f b : Int) (i : Nat) : List Int := flp (aG xs ys gs f b i)
end
end Sp
namespace Qq
noncomputable section
noncomputable def hsLn : Hs Try.prog where
  op y := if [206, 303, 307].contains y then some (hIa Try.prog) else if [208, 305].contains y then some (hLc Try.prog gI) else if y = 309 then some (hSp Try.prog) else if y = 506 then some (hAp Try.prog) else none
  au := au0 Try.prog
theorem ln_t (zs : List Int) (n : Nat) (a : Int) (K : Value → Heap → Prop) :
    (fnP Try.prog c0 hsLn (46 : FuncId) [Value.slice (some { block := (0 : Nat), off := (0 : Nat) }) n (0 : Nat), Value.int IntKind.i64 a] [some (AObj.row (ints zs) (2 : Nat) true true true)] K) =
    (br (decide ((0 : Int) < (↑n : Int))) (Is ((0 : Int) ≤ IntKind.wrap IntKind.i64 ((↑n : Int) - (1 : Int)) ∧ IntKind.wrap IntKind.i64 ((↑n : Int) - (1 : Int)) < (↑n : Int)) ∧ Is ((ints zs)[(0 : Nat) + Int.toNat (IntKind.wrap IntKind.i64 ((↑n : Int) - (1 : Int))) * (2 : Nat) + (1 : Nat)]? = some (Value.int IntKind.i64 (iAt (ints zs) ((0 : Nat) + Int.toNat (IntKind.wrap IntKind.i64 ((↑n : Int) - (1 : Int))) * (2 : Nat) + (1 : Nat))))) ∧ br (iAt (ints zs) ((0 : Nat) + Int.toNat (IntKind.wrap IntKind.i64 ((↑n : Int) - (1 : Int))) * (2 : Nat) + (1 : Nat)) == a) (Is ((0 : Int) ≤ IntKind.wrap IntKind.i64 ((↑n : Int) - (1 : Int)) ∧ IntKind.wrap IntKind.i64 ((↑n : Int) - (1 : Int)) < (↑n : Int)) ∧ Is ((ints zs)[(0 : Nat) + Int.toNat (IntKind.wrap IntKind.i64 ((↑n : Int) - (1 : Int))) * (2 : Nat) + (1 : Nat)]? = some (Value.int IntKind.i64 (iAt (ints zs) ((0 : Nat) + Int.toNat (IntKind.wrap IntKind.i64 ((↑n : Int) - (1 : Int))) * (2 : Nat) + (1 : Nat))))) ∧ Is ((0 : Int) ≤ IntKind.wrap IntKind.i64 ((↑n : Int) - (1 : Int)) ∧ IntKind.wrap IntKind.i64 ((↑n : Int) - (1 : Int)) < (↑n : Int)) ∧ Is ((0 : Nat) + Int.toNat (IntKind.wrap IntKind.i64 ((↑n : Int) - (1 : Int))) * (2 : Nat) + (1 : Nat) + (1 : Nat) ≤ List.length (ints zs)) ∧ K (Value.slice (some { block := (0 : Nat), off := (0 : Nat) }) n (0 : Nat)) (some (AObj.row (putL (ints zs) ((0 : Nat) + Int.toNat (IntKind.wrap IntKind.i64 ((↑n : Int) - (1 : Int))) * (2 : Nat) + (1 : Nat)) [Value.int IntKind.i64 (IntKind.wrap IntKind.i64 (iAt (ints zs) ((0 : Nat) + Int.toNat (IntKind.wrap IntKind.i64 ((↑n : Int) - (1 : Int))) * (2 : Nat) + (1 : Nat)) + (1 : Int)))]) (2 : Nat) true true (true && List.all [Value.int IntKind.i64 (IntKind.wrap IntKind.i64 (iAt (ints zs) ((0 : Nat) + Int.toNat (IntKind.wrap IntKind.i64 ((↑n : Int) - (1 : Int))) * (2 : Nat) + (1 : Nat)) + (1 : Int)))] atom)) :: noH)) (Is (List.length (ints zs) = n * (2 : Nat) ∧ (n + (1 : Nat)) * (16 : Nat) ≤ (140737488355328 : Nat) ∧ n + (1 : Nat) ≤ (9223372036854775807 : Nat)) ∧ K (Value.slice (some { block := (1 : Nat), off := (0 : Nat) }) (n + (1 : Nat)) (0 : Nat)) (none :: some (AObj.row (ints zs ++ [Value.int IntKind.i64 a, Value.int IntKind.i64 (IntKind.wrap IntKind.i64 (a + (1 : Int)))]) (2 : Nat) true true (List.all [Value.int IntKind.i64 a, Value.int IntKind.i64 (IntKind.wrap IntKind.i64 (a + (1 : Int)))] atom)) :: noH))) (Is (List.length (ints zs) = n * (2 : Nat) ∧ (n + (1 : Nat)) * (16 : Nat) ≤ (140737488355328 : Nat) ∧ n + (1 : Nat) ≤ (9223372036854775807 : Nat)) ∧ K (Value.slice (some { block := (1 : Nat), off := (0 : Nat) }) (n + (1 : Nat)) (0 : Nat)) (none :: some (AObj.row (ints zs ++ [Value.int IntKind.i64 a, Value.int IntKind.i64 (IntKind.wrap IntKind.i64 (a + (1 : Int)))]) (2 : Nat) true true (List.all [Value.int IntKind.i64 a, Value.int IntKind.i64 (IntKind.wrap IntKind.i64 (a + (1 : Int)))] atom)) :: noH))) := by kernel_rfl
noncomputable def orcLn1 : OrcV
  | [.slice (some ⟨0, 0, none⟩) n 0, .int .i64 a], [some (.row e1 2 true true true)] => some (.slice (some ⟨0, 0, none⟩) n 0, [some (.row (putL e1 ((n - 1) * 2 + 1) [.int .i64 (a + 1)]) 2 true true true)], lnA e1 n a)
  | _, _ => none
noncomputable def orcLn2 : OrcV
  | [.slice (some ⟨0, 0, none⟩) n 0, .int .i64 a], [some (.row e1 2 true true true)] => some (.slice (some ⟨1, 0, none⟩) (n + 1) 0, [none, some (.row (e1 ++ [.int .i64 a, .int .i64 (a + 1)]) 2 true true true)], lnB e1 n a)
  | _, _ => none
theorem pre_n {n : Nat} (h : 0 < n) (h2 : n ≤ 100000) : IntKind.wrap .i64 ((n : Int) - 1) = ((n - 1 : Nat) : Int) := by
  rw [wrap_eq (by omega) (by omega)]; omega
theorem okLn1 : OkV Try.prog 46 orcLn1 := by
  intro args H ret H' vc h hv
  unfold orcLn1 at h
  split at h
  · rename_i n a e1
    cases h
    obtain ⟨⟨zs, rfl, hz⟩, h1, h2, h3, h4⟩ := hv
    refine fnP_res hm c0_ok (hs := hsLn) ?_
    have ea : IntKind.wrap .i64 (a + 1) = a + 1 := wrap_eq (by omega) (by omega)
    rw [ln_t, pre_n h3 h1]
    simp only [Nat.zero_add, Int.toNat_natCast]
    rw [h4, ea]
    have hat : (ints zs)[(n - 1) * 2 + 1]? = some (.int .i64 a) := by
      have := ld_ints (l := zs) (k := (n - 1) * 2 + 1) (by omega)
      rwa [h4] at this
    exact br_of (fun _ => ⟨⟨by omega, by omega⟩, ⟨hat⟩, br_of (fun _ => ⟨⟨by omega, by omega⟩, ⟨hat⟩, ⟨by omega, by omega⟩, ⟨by rw [ints_len]; omega⟩, by first | trivial | rfl, by first | trivial | rfl⟩) (fun h => by simp at h)⟩) (fun h => by have := of_decide_eq_false h; omega)
  · cases h
theorem okLn2 : OkV Try.prog 46 orcLn2 := by
  intro args H ret H' vc h hv
  unfold orcLn2 at h
  split at h
  · rename_i n a e1
    cases h
    obtain ⟨⟨zs, rfl, hz⟩, h1, h2, h3⟩ := hv
    refine fnP_res hm c0_ok (hs := hsLn) ?_
    have ea : IntKind.wrap .i64 (a + 1) = a + 1 := wrap_eq (by omega) (by omega)
    rw [ln_t]
    refine br_of (fun h0 => ?_) (fun h0 => ?_)
    · have h0 : 0 < n := by have := of_decide_eq_true h0; omega
      rw [pre_n h0 h1, ea]
      simp only [Nat.zero_add, Int.toNat_natCast]
      refine ⟨⟨by omega, by omega⟩, ⟨ld_ints (by omega)⟩, br_of (fun h => absurd ⟨h0, eq_of_beq h⟩ h3) (fun _ => ⟨⟨by rw [ints_len]; omega, by omega, by omega⟩, by first | trivial | rfl, by first | trivial | rfl⟩)⟩
    · rw [ea]
      exact ⟨⟨by rw [ints_len]; omega, by omega, by omega⟩, by first | trivial | rfl, by first | trivial | rfl⟩
  · cases h
noncomputable def lpAp0 (nm1 nm2 : ByteArray) (f : Int) (lim n c d c2 k2 d2 : Nat) (xs ys : List Nat) (gs : List Int) : Lp where
  σ := Nat
  E _ := slots 86 [(2, .float .f32 lim), (3, .pointer (some ⟨4, 0, none⟩)), (4, .pointer (some ⟨5, 0, none⟩)), (9, .slice (some ⟨6, 0, none⟩) n 0), (10, .slice (some ⟨7, 0, none⟩) 0 0)]
  Hp _ := hp4r xs [] ys gs [run2 nm1 f 0 n c 1 0 d, run2 nm2 f 2 n c2 3 k2 d2, rdR n (rdF ys (knB gs)), some (.row (ints []) 2 true true true)]
  I i := i = 0
  m _ := 0
noncomputable def lpAp (nm1 nm2 : ByteArray) (f : Int) (lim n c d c2 k2 d2 : Nat) (xs ys : List Nat) (gs : List Int) : Lp where
  σ := Nat
  E i := slots 86 [(2, .float .f32 lim), (3, .pointer (some ⟨4, 0, none⟩)), (4, .pointer (some ⟨5, 0, none⟩)), (9, .slice (some ⟨6, 0, none⟩) n 0), (10, .slice (some ⟨7, 0, none⟩) (aN xs ys gs f (lev lim) i) 0), (32, .slice (some ⟨8, 0, none⟩) n 0), (33, .int .i64 (Int.ofNat n)), (34, .int .i64 (Int.ofNat i))]
  Hp i := hp4r xs [] ys gs [run2 nm1 f 0 n c 1 0 d, run2 nm2 f 2 n c2 3 k2 d2, rdR n (rdF ys (knB gs)), some (.row (ints (aF xs ys gs f (lev lim) i)) 2 true true true), rdR n (allR xs)]
  I i := i ≤ n
  m i := n - i
noncomputable def hsAp (nm1 nm2 : ByteArray) (f : Int) (lim n c d c2 k2 d2 : Nat) (xs ys : List Nat) (gs : List Int) : Hs Try.prog where
  op y := if [801, 1115, 1125].contains y then some (hIa Try.prog) else if y = 802 then some (hLd Try.prog (zR (allR xs))) else if y = 1117 then some (hLd Try.prog (zRb (rdF ys (knB gs)))) else if y = 1127 then some (hLd Try.prog (zRf (rdF ys (knB gs))))
    else if y = 101 then some (hCa Try.prog 19 (orcCrP xs []) (okCrP xs [])) else if y = 103 then some (hCa Try.prog 19 (orcCrP ys gs) (okCrP ys gs))
    else if y = 401 then some (hCa Try.prog 43 (orcRr ys gs) (okRr ys gs)) else if y = 601 then some (hCa Try.prog 43 (orcRr xs []) (okRr xs [])) else none
  bl := blCall 46 (hCa Try.prog 46 orcLn1 okLn1) (hCa Try.prog 46 orcLn2 okLn2)
  cut y := if y = 6 then some (lpAp0 nm1 nm2 f lim n c d c2 k2 d2 xs ys gs) else none
  lp _ := some (lpAp nm1 nm2 f lim n c d c2 k2 d2 xs ys gs)
  cl y := if y = 6 then keep 86 [2, 3, 4, 9, 10] else keep 86 [2, 3, 4, 9, 10, 32, 33, 34]
  nl y := if y = 6 then [.slot 10 2] else []
  sm := true
  au := auF [(45, hCa Try.prog 45 orcIn okIn), (44, hCa Try.prog 44 orcFa okFa)]
noncomputable def lA4 : List (Nat × Orc) := (41, orcSm1) :: lA2
theorem lA4_all : ∀ p ∈ lA4, Ok Try.prog p.1 p.2 := all_cons okSm1 lA2_all
noncomputable def cA4 : CallF := ctx Try.prog lA4
theorem cA4_ok : CallOK Try.prog cA4 := ctx_ok hm lA4_all
set_option maxHeartbeats 0 in
theorem ap_t (nm1 : ByteArray) (nm2 : ByteArray) (f : Int) (lim : Nat) (n : Nat) (c : Nat) (d : Nat) (c2 : Nat) (k2 : Nat) (d2 : Nat) (xs : List Nat) (ys : List Nat) (gs : List Int) (K : Value → Heap → Prop) :
    (fnP Try.prog cA4 (hsAp nm1 nm2 f lim n c d c2 k2 d2 xs ys gs) (13 : FuncId) [Value.agg (List.toArray (runA nm1 f (0 : Nat) n c (1 : Nat) (0 : Nat) d)), Value.agg (List.toArray (runA nm2 f (2 : Nat) n c2 (3 : Nat) k2 d2)), Value.float FloatKind.f32 lim] (hp4r xs [] ys gs []) K) =
    (Is (isRun xs [] n (0 : Nat) (flts xs) []) ∧ Is (isRun ys gs n k2 (flts ys) (ints gs)) ∧ Is True ∧ br (fi [runE nm1 f xs n [], runE nm2 f ys n gs, sE lim, wh (fLt lim (0 : Nat)) (3 : Int)] != (0 : Int)) (K (Value.tuple #[Value.slice none (0 : Nat) (0 : Nat), Value.int IntKind.i64 (fi [runE nm1 f xs n [], runE nm2 f ys n gs, sE lim, wh (fLt lim (0 : Nat)) (3 : Int)])]) (some (AObj.row (flts xs) (1 : Nat) true true true) :: some (AObj.row [] (2 : Nat) true true true) :: some (AObj.row (flts ys) (1 : Nat) true true true) :: some (AObj.row (ints gs) (2 : Nat) true true true) :: noH)) (Is (isRun ys gs n k2 (flts ys) (ints gs) ∧ fi (List.map sE ys) = (0 : Int) ∧ hchk (↑n : Int) gs (-1 : Int) = (0 : Int)) ∧ (∃ (s : Nat), Is (s = (0 : Nat)) ∧ (Value.float FloatKind.f32 lim = Value.float FloatKind.f32 lim ∧ Value.pointer (some { block := (4 : Nat), off := (0 : Nat) }) = Value.pointer (some { block := (4 : Nat), off := (0 : Nat) }) ∧ Value.pointer (some { block := (5 : Nat), off := (0 : Nat) }) = Value.pointer (some { block := (5 : Nat), off := (0 : Nat) }) ∧ Value.slice (some { block := (6 : Nat), off := (0 : Nat) }) n (0 : Nat) = Value.slice (some { block := (6 : Nat), off := (0 : Nat) }) n (0 : Nat) ∧ Value.slice (some { block := (7 : Nat), off := (0 : Nat) }) (0 : Nat) (0 : Nat) = Value.slice (some { block := (7 : Nat), off := (0 : Nat) }) (0 : Nat) (0 : Nat) ∧ True) ∧ some (AObj.row (flts xs) (1 : Nat) true true true) :: some (AObj.row [] (2 : Nat) true true true) :: some (AObj.row (flts ys) (1 : Nat) true true true) :: some (AObj.row (ints gs) (2 : Nat) true true true) :: some (AObj.row [Value.string nm1, Value.int IntKind.i64 f, Value.slice (some { block := (0 : Nat), off := (0 : Nat) }) n c, Value.slice (some { block := (1 : Nat), off := (0 : Nat) }) (0 : Nat) d] (0 : Nat) false true (List.all [Value.string nm1, Value.int IntKind.i64 f, Value.slice (some { block := (0 : Nat), off := (0 : Nat) }) n c, Value.slice (some { block := (1 : Nat), off := (0 : Nat) }) (0 : Nat) d] atom)) :: some (AObj.row [Value.string nm2, Value.int IntKind.i64 f, Value.slice (some { block := (2 : Nat), off := (0 : Nat) }) n c2, Value.slice (some { block := (3 : Nat), off := (0 : Nat) }) k2 d2] (0 : Nat) false true (List.all [Value.string nm2, Value.int IntKind.i64 f, Value.slice (some { block := (2 : Nat), off := (0 : Nat) }) n c2, Value.slice (some { block := (3 : Nat), off := (0 : Nat) }) k2 d2] atom)) :: some (AObj.row (rdc n (rdF ys (knB gs))) (2 : Nat) true true true) :: some (AObj.row [] (2 : Nat) true true true) :: noH = some (AObj.row (flts xs) (1 : Nat) true true true) :: some (AObj.row [] (2 : Nat) true true true) :: some (AObj.row (flts ys) (1 : Nat) true true true) :: some (AObj.row (ints gs) (2 : Nat) true true true) :: some (AObj.row [Value.string nm1, Value.int IntKind.i64 f, Value.slice (some { block := (0 : Nat), off := (0 : Nat) }) n c, Value.slice (some { block := (1 : Nat), off := (0 : Nat) }) (0 : Nat) d] (0 : Nat) false true false) :: some (AObj.row [Value.string nm2, Value.int IntKind.i64 f, Value.slice (some { block := (2 : Nat), off := (0 : Nat) }) n c2, Value.slice (some { block := (3 : Nat), off := (0 : Nat) }) k2 d2] (0 : Nat) false true false) :: some (AObj.row (rdc n (rdF ys (knB gs))) (2 : Nat) true true true) :: some (AObj.row [] (2 : Nat) true true true) :: noH) ∧ ∀ (s : Nat), Is (s = (0 : Nat)) → Is (isRun xs [] n (0 : Nat) (flts xs) [] ∧ fi (List.map sE xs) = (0 : Int) ∧ hchk (↑n : Int) [] (-1 : Int) = (0 : Int)) ∧ (∃ (s : Nat), Is (s ≤ n) ∧ (Value.float FloatKind.f32 lim = Value.float FloatKind.f32 lim ∧ Value.pointer (some { block := (4 : Nat), off := (0 : Nat) }) = Value.pointer (some { block := (4 : Nat), off := (0 : Nat) }) ∧ Value.pointer (some { block := (5 : Nat), off := (0 : Nat) }) = Value.pointer (some { block := (5 : Nat), off := (0 : Nat) }) ∧ Value.slice (some { block := (6 : Nat), off := (0 : Nat) }) n (0 : Nat) = Value.slice (some { block := (6 : Nat), off := (0 : Nat) }) n (0 : Nat) ∧ Value.slice (some { block := (7 : Nat), off := (0 : Nat) }) (0 : Nat) (0 : Nat) = Value.slice (some { block := (7 : Nat), off := (0 : Nat) }) (aN xs ys gs f (lev lim) s) (0 : Nat) ∧ Value.slice (some { block := (8 : Nat), off := (0 : Nat) }) n (0 : Nat) = Value.slice (some { block := (8 : Nat), off := (0 : Nat) }) n (0 : Nat) ∧ Value.int IntKind.i64 (↑n : Int) = Value.int IntKind.i64 (↑n : Int) ∧ Value.int IntKind.i64 (0 : Int) = Value.int IntKind.i64 (↑s : Int) ∧ True) ∧ some (AObj.row (flts xs) (1 : Nat) true true true) :: some (AObj.row [] (2 : Nat) true true true) :: some (AObj.row (flts ys) (1 : Nat) true true true) :: some (AObj.row (ints gs) (2 : Nat) true true true) :: some (AObj.row [Value.string nm1, Value.int IntKind.i64 f, Value.slice (some { block := (0 : Nat), off := (0 : Nat) }) n c, Value.slice (some { block := (1 : Nat), off := (0 : Nat) }) (0 : Nat) d] (0 : Nat) false true false) :: some (AObj.row [Value.string nm2, Value.int IntKind.i64 f, Value.slice (some { block := (2 : Nat), off := (0 : Nat) }) n c2, Value.slice (some { block := (3 : Nat), off := (0 : Nat) }) k2 d2] (0 : Nat) false true false) :: some (AObj.row (rdc n (rdF ys (knB gs))) (2 : Nat) true true true) :: some (AObj.row [] (2 : Nat) true true true) :: some (AObj.row (rdc n (rdF xs (knB []))) (2 : Nat) true true true) :: noH = some (AObj.row (flts xs) (1 : Nat) true true true) :: some (AObj.row [] (2 : Nat) true true true) :: some (AObj.row (flts ys) (1 : Nat) true true true) :: some (AObj.row (ints gs) (2 : Nat) true true true) :: some (AObj.row [Value.string nm1, Value.int IntKind.i64 f, Value.slice (some { block := (0 : Nat), off := (0 : Nat) }) n c, Value.slice (some { block := (1 : Nat), off := (0 : Nat) }) (0 : Nat) d] (0 : Nat) false true false) :: some (AObj.row [Value.string nm2, Value.int IntKind.i64 f, Value.slice (some { block := (2 : Nat), off := (0 : Nat) }) n c2, Value.slice (some { block := (3 : Nat), off := (0 : Nat) }) k2 d2] (0 : Nat) false true false) :: some (AObj.row (rdc n (rdF ys (knB gs))) (2 : Nat) true true true) :: some (AObj.row (ints (aF xs ys gs f (lev lim) s)) (2 : Nat) true true true) :: some (AObj.row (rdc n (allR xs)) (2 : Nat) true true true) :: noH) ∧ ∀ (s : Nat), Is (s ≤ n) → br (decide ((↑s : Int) < (↑n : Int))) (Is ((0 : Int) ≤ (↑s : Int) ∧ (↑s : Int) < (↑n : Int)) ∧ Is ((if (0 : Nat) + Int.toNat (↑s : Int) * (2 : Nat) + (2 : Nat) ≤ List.length (rdc n (allR xs)) then some (Value.agg (List.toArray (List.take (2 : Nat) (List.drop ((0 : Nat) + Int.toNat (↑s : Int) * (2 : Nat)) (rdc n (allR xs)))))) else none) = some (Value.agg #[Value.float FloatKind.f32 (rdV (allR xs) ((0 : Nat) + Int.toNat (↑s : Int) * (2 : Nat))), Value.bool (rdW (allR xs) ((0 : Nat) + Int.toNat (↑s : Int) * (2 : Nat)))])) ∧ br (decide ((0 : Int) ≤ IntKind.wrap IntKind.i64 (IntKind.wrap IntKind.i64 (f + (↑s : Int)) - f))) (br (decide (IntKind.wrap IntKind.i64 (IntKind.wrap IntKind.i64 (f + (↑s : Int)) - f) < (↑n : Int))) (Is ((0 : Int) ≤ IntKind.wrap IntKind.i64 (IntKind.wrap IntKind.i64 (f + (↑s : Int)) - f) ∧ IntKind.wrap IntKind.i64 (IntKind.wrap IntKind.i64 (f + (↑s : Int)) - f) < (↑n : Int)) ∧ Is ((rdc n (rdF ys (knB gs)))[(0 : Nat) + Int.toNat (IntKind.wrap IntKind.i64 (IntKind.wrap IntKind.i64 (f + (↑s : Int)) - f)) * (2 : Nat) + (1 : Nat)]? = some (Value.bool (rdW (rdF ys (knB gs)) ((0 : Nat) + Int.toNat (IntKind.wrap IntKind.i64 (IntKind.wrap IntKind.i64 (f + (↑s : Int)) - f)) * (2 : Nat) + (1 : Nat))))) ∧ br (rdW (rdF ys (knB gs)) ((0 : Nat) + Int.toNat (IntKind.wrap IntKind.i64 (IntKind.wrap IntKind.i64 (f + (↑s : Int)) - f)) * (2 : Nat) + (1 : Nat))) (Is (sE (rdV (allR xs) ((0 : Nat) + Int.toNat (↑s : Int) * (2 : Nat))) = (0 : Int)) ∧ Is ((0 : Int) ≤ IntKind.wrap IntKind.i64 (IntKind.wrap IntKind.i64 (f + (↑s : Int)) - f) ∧ IntKind.wrap IntKind.i64 (IntKind.wrap IntKind.i64 (f + (↑s : Int)) - f) < (↑n : Int)) ∧ Is ((rdc n (rdF ys (knB gs)))[(0 : Nat) + Int.toNat (IntKind.wrap IntKind.i64 (IntKind.wrap IntKind.i64 (f + (↑s : Int)) - f)) * (2 : Nat) + (0 : Nat)]? = some (Value.float FloatKind.f32 (rdV (rdF ys (knB gs)) ((0 : Nat) + Int.toNat (IntKind.wrap IntKind.i64 (IntKind.wrap IntKind.i64 (f + (↑s : Int)) - f)) * (2 : Nat) + (0 : Nat))))) ∧ Is (sE (rdV (rdF ys (knB gs)) ((0 : Nat) + Int.toNat (IntKind.wrap IntKind.i64 (IntKind.wrap IntKind.i64 (f + (↑s : Int)) - f)) * (2 : Nat) + (0 : Nat))) = (0 : Int)) ∧ Is (Int.natAbs (lev (rdV (allR xs) ((0 : Nat) + Int.toNat (↑s : Int) * (2 : Nat)))) ≤ (1000000000 : Nat) ∧ Int.natAbs (lev (rdV (rdF ys (knB gs)) ((0 : Nat) + Int.toNat (IntKind.wrap IntKind.i64 (IntKind.wrap IntKind.i64 (f + (↑s : Int)) - f)) * (2 : Nat) + (0 : Nat)))) ≤ (1000000000 : Nat)) ∧ Is (sE lim = (0 : Int)) ∧ br (decide (lev lim < farI (lev (rdV (allR xs) ((0 : Nat) + Int.toNat (↑s : Int) * (2 : Nat)))) (lev (rdV (rdF ys (knB gs)) ((0 : Nat) + Int.toNat (IntKind.wrap IntKind.i64 (IntKind.wrap IntKind.i64 (f + (↑s : Int)) - f)) * (2 : Nat) + (0 : Nat)))))) (br (decide (lnA (ints (aF xs ys gs f (lev lim) s)) (aN xs ys gs f (lev lim) s) (IntKind.wrap IntKind.i64 (f + (↑s : Int))))) (∃ (s' : Nat), Is (s' ≤ n) ∧ Is (n - s' < n - s) ∧ (Value.float FloatKind.f32 lim = Value.float FloatKind.f32 lim ∧ Value.pointer (some { block := (4 : Nat), off := (0 : Nat) }) = Value.pointer (some { block := (4 : Nat), off := (0 : Nat) }) ∧ Value.pointer (some { block := (5 : Nat), off := (0 : Nat) }) = Value.pointer (some { block := (5 : Nat), off := (0 : Nat) }) ∧ Value.slice (some { block := (6 : Nat), off := (0 : Nat) }) n (0 : Nat) = Value.slice (some { block := (6 : Nat), off := (0 : Nat) }) n (0 : Nat) ∧ Value.slice (some { block := (7 : Nat), off := (0 : Nat) }) (aN xs ys gs f (lev lim) s) (0 : Nat) = Value.slice (some { block := (7 : Nat), off := (0 : Nat) }) (aN xs ys gs f (lev lim) s') (0 : Nat) ∧ Value.slice (some { block := (8 : Nat), off := (0 : Nat) }) n (0 : Nat) = Value.slice (some { block := (8 : Nat), off := (0 : Nat) }) n (0 : Nat) ∧ Value.int IntKind.i64 (↑n : Int) = Value.int IntKind.i64 (↑n : Int) ∧ Value.int IntKind.i64 (IntKind.wrap IntKind.i64 ((↑s : Int) + (1 : Int))) = Value.int IntKind.i64 (↑s' : Int) ∧ True) ∧ some (AObj.row (flts xs) (1 : Nat) true true true) :: some (AObj.row [] (2 : Nat) true true true) :: some (AObj.row (flts ys) (1 : Nat) true true true) :: some (AObj.row (ints gs) (2 : Nat) true true true) :: some (AObj.row [Value.string nm1, Value.int IntKind.i64 f, Value.slice (some { block := (0 : Nat), off := (0 : Nat) }) n c, Value.slice (some { block := (1 : Nat), off := (0 : Nat) }) (0 : Nat) d] (0 : Nat) false true false) :: some (AObj.row [Value.string nm2, Value.int IntKind.i64 f, Value.slice (some { block := (2 : Nat), off := (0 : Nat) }) n c2, Value.slice (some { block := (3 : Nat), off := (0 : Nat) }) k2 d2] (0 : Nat) false true false) :: some (AObj.row (rdc n (rdF ys (knB gs))) (2 : Nat) true true true) :: some (AObj.row (putL (ints (aF xs ys gs f (lev lim) s)) ((aN xs ys gs f (lev lim) s - (1 : Nat)) * (2 : Nat) + (1 : Nat)) [Value.int IntKind.i64 (IntKind.wrap IntKind.i64 (f + (↑s : Int)) + (1 : Int))]) (2 : Nat) true true true) :: some (AObj.row (rdc n (allR xs)) (2 : Nat) true true true) :: noH = some (AObj.row (flts xs) (1 : Nat) true true true) :: some (AObj.row [] (2 : Nat) true true true) :: some (AObj.row (flts ys) (1 : Nat) true true true) :: some (AObj.row (ints gs) (2 : Nat) true true true) :: some (AObj.row [Value.string nm1, Value.int IntKind.i64 f, Value.slice (some { block := (0 : Nat), off := (0 : Nat) }) n c, Value.slice (some { block := (1 : Nat), off := (0 : Nat) }) (0 : Nat) d] (0 : Nat) false true false) :: some (AObj.row [Value.string nm2, Value.int IntKind.i64 f, Value.slice (some { block := (2 : Nat), off := (0 : Nat) }) n c2, Value.slice (some { block := (3 : Nat), off := (0 : Nat) }) k2 d2] (0 : Nat) false true false) :: some (AObj.row (rdc n (rdF ys (knB gs))) (2 : Nat) true true true) :: some (AObj.row (ints (aF xs ys gs f (lev lim) s')) (2 : Nat) true true true) :: some (AObj.row (rdc n (allR xs)) (2 : Nat) true true true) :: noH) (Is (lnB (ints (aF xs ys gs f (lev lim) s)) (aN xs ys gs f (lev lim) s) (IntKind.wrap IntKind.i64 (f + (↑s : Int)))) ∧ ∃ (s' : Nat), Is (s' ≤ n) ∧ Is (n - s' < n - s) ∧ (Value.float FloatKind.f32 lim = Value.float FloatKind.f32 lim ∧ Value.pointer (some { block := (4 : Nat), off := (0 : Nat) }) = Value.pointer (some { block := (4 : Nat), off := (0 : Nat) }) ∧ Value.pointer (some { block := (5 : Nat), off := (0 : Nat) }) = Value.pointer (some { block := (5 : Nat), off := (0 : Nat) }) ∧ Value.slice (some { block := (6 : Nat), off := (0 : Nat) }) n (0 : Nat) = Value.slice (some { block := (6 : Nat), off := (0 : Nat) }) n (0 : Nat) ∧ Value.slice (some { block := (7 : Nat), off := (0 : Nat) }) (aN xs ys gs f (lev lim) s + (1 : Nat)) (0 : Nat) = Value.slice (some { block := (7 : Nat), off := (0 : Nat) }) (aN xs ys gs f (lev lim) s') (0 : Nat) ∧ Value.slice (some { block := (8 : Nat), off := (0 : Nat) }) n (0 : Nat) = Value.slice (some { block := (8 : Nat), off := (0 : Nat) }) n (0 : Nat) ∧ Value.int IntKind.i64 (↑n : Int) = Value.int IntKind.i64 (↑n : Int) ∧ Value.int IntKind.i64 (IntKind.wrap IntKind.i64 ((↑s : Int) + (1 : Int))) = Value.int IntKind.i64 (↑s' : Int) ∧ True) ∧ some (AObj.row (flts xs) (1 : Nat) true true true) :: some (AObj.row [] (2 : Nat) true true true) :: some (AObj.row (flts ys) (1 : Nat) true true true) :: some (AObj.row (ints gs) (2 : Nat) true true true) :: some (AObj.row [Value.string nm1, Value.int IntKind.i64 f, Value.slice (some { block := (0 : Nat), off := (0 : Nat) }) n c, Value.slice (some { block := (1 : Nat), off := (0 : Nat) }) (0 : Nat) d] (0 : Nat) false true false) :: some (AObj.row [Value.string nm2, Value.int IntKind.i64 f, Value.slice (some { block := (2 : Nat), off := (0 : Nat) }) n c2, Value.slice (some { block := (3 : Nat), off := (0 : Nat) }) k2 d2] (0 : Nat) false true false) :: some (AObj.row (rdc n (rdF ys (knB gs))) (2 : Nat) true true true) :: some (AObj.row (ints (aF xs ys gs f (lev lim) s) ++ [Value.int IntKind.i64 (IntKind.wrap IntKind.i64 (f + (↑s : Int))), Value.int IntKind.i64 (IntKind.wrap IntKind.i64 (f + (↑s : Int)) + (1 : Int))]) (2 : Nat) true true true) :: some (AObj.row (rdc n (allR xs)) (2 : Nat) true true true) :: noH = some (AObj.row (flts xs) (1 : Nat) true true true) :: some (AObj.row [] (2 : Nat) true true true) :: some (AObj.row (flts ys) (1 : Nat) true true true) :: some (AObj.row (ints gs) (2 : Nat) true true true) :: some (AObj.row [Value.string nm1, Value.int IntKind.i64 f, Value.slice (some { block := (0 : Nat), off := (0 : Nat) }) n c, Value.slice (some { block := (1 : Nat), off := (0 : Nat) }) (0 : Nat) d] (0 : Nat) false true false) :: some (AObj.row [Value.string nm2, Value.int IntKind.i64 f, Value.slice (some { block := (2 : Nat), off := (0 : Nat) }) n c2, Value.slice (some { block := (3 : Nat), off := (0 : Nat) }) k2 d2] (0 : Nat) false true false) :: some (AObj.row (rdc n (rdF ys (knB gs))) (2 : Nat) true true true) :: some (AObj.row (ints (aF xs ys gs f (lev lim) s')) (2 : Nat) true true true) :: some (AObj.row (rdc n (allR xs)) (2 : Nat) true true true) :: noH)) (∃ (s' : Nat), Is (s' ≤ n) ∧ Is (n - s' < n - s) ∧ (Value.float FloatKind.f32 lim = Value.float FloatKind.f32 lim ∧ Value.pointer (some { block := (4 : Nat), off := (0 : Nat) }) = Value.pointer (some { block := (4 : Nat), off := (0 : Nat) }) ∧ Value.pointer (some { block := (5 : Nat), off := (0 : Nat) }) = Value.pointer (some { block := (5 : Nat), off := (0 : Nat) }) ∧ Value.slice (some { block := (6 : Nat), off := (0 : Nat) }) n (0 : Nat) = Value.slice (some { block := (6 : Nat), off := (0 : Nat) }) n (0 : Nat) ∧ Value.slice (some { block := (7 : Nat), off := (0 : Nat) }) (aN xs ys gs f (lev lim) s) (0 : Nat) = Value.slice (some { block := (7 : Nat), off := (0 : Nat) }) (aN xs ys gs f (lev lim) s') (0 : Nat) ∧ Value.slice (some { block := (8 : Nat), off := (0 : Nat) }) n (0 : Nat) = Value.slice (some { block := (8 : Nat), off := (0 : Nat) }) n (0 : Nat) ∧ Value.int IntKind.i64 (↑n : Int) = Value.int IntKind.i64 (↑n : Int) ∧ Value.int IntKind.i64 (IntKind.wrap IntKind.i64 ((↑s : Int) + (1 : Int))) = Value.int IntKind.i64 (↑s' : Int) ∧ True) ∧ some (AObj.row (flts xs) (1 : Nat) true true true) :: some (AObj.row [] (2 : Nat) true true true) :: some (AObj.row (flts ys) (1 : Nat) true true true) :: some (AObj.row (ints gs) (2 : Nat) true true true) :: some (AObj.row [Value.string nm1, Value.int IntKind.i64 f, Value.slice (some { block := (0 : Nat), off := (0 : Nat) }) n c, Value.slice (some { block := (1 : Nat), off := (0 : Nat) }) (0 : Nat) d] (0 : Nat) false true false) :: some (AObj.row [Value.string nm2, Value.int IntKind.i64 f, Value.slice (some { block := (2 : Nat), off := (0 : Nat) }) n c2, Value.slice (some { block := (3 : Nat), off := (0 : Nat) }) k2 d2] (0 : Nat) false true false) :: some (AObj.row (rdc n (rdF ys (knB gs))) (2 : Nat) true true true) :: some (AObj.row (ints (aF xs ys gs f (lev lim) s)) (2 : Nat) true true true) :: some (AObj.row (rdc n (allR xs)) (2 : Nat) true true true) :: noH = some (AObj.row (flts xs) (1 : Nat) true true true) :: some (AObj.row [] (2 : Nat) true true true) :: some (AObj.row (flts ys) (1 : Nat) true true true) :: some (AObj.row (ints gs) (2 : Nat) true true true) :: some (AObj.row [Value.string nm1, Value.int IntKind.i64 f, Value.slice (some { block := (0 : Nat), off := (0 : Nat) }) n c, Value.slice (some { block := (1 : Nat), off := (0 : Nat) }) (0 : Nat) d] (0 : Nat) false true false) :: some (AObj.row [Value.string nm2, Value.int IntKind.i64 f, Value.slice (some { block := (2 : Nat), off := (0 : Nat) }) n c2, Value.slice (some { block := (3 : Nat), off := (0 : Nat) }) k2 d2] (0 : Nat) false true false) :: some (AObj.row (rdc n (rdF ys (knB gs))) (2 : Nat) true true true) :: some (AObj.row (ints (aF xs ys gs f (lev lim) s')) (2 : Nat) true true true) :: some (AObj.row (rdc n (allR xs)) (2 : Nat) true true true) :: noH)) (∃ (s' : Nat), Is (s' ≤ n) ∧ Is (n - s' < n - s) ∧ (Value.float FloatKind.f32 lim = Value.float FloatKind.f32 lim ∧ Value.pointer (some { block := (4 : Nat), off := (0 : Nat) }) = Value.pointer (some { block := (4 : Nat), off := (0 : Nat) }) ∧ Value.pointer (some { block := (5 : Nat), off := (0 : Nat) }) = Value.pointer (some { block := (5 : Nat), off := (0 : Nat) }) ∧ Value.slice (some { block := (6 : Nat), off := (0 : Nat) }) n (0 : Nat) = Value.slice (some { block := (6 : Nat), off := (0 : Nat) }) n (0 : Nat) ∧ Value.slice (some { block := (7 : Nat), off := (0 : Nat) }) (aN xs ys gs f (lev lim) s) (0 : Nat) = Value.slice (some { block := (7 : Nat), off := (0 : Nat) }) (aN xs ys gs f (lev lim) s') (0 : Nat) ∧ Value.slice (some { block := (8 : Nat), off := (0 : Nat) }) n (0 : Nat) = Value.slice (some { block := (8 : Nat), off := (0 : Nat) }) n (0 : Nat) ∧ Value.int IntKind.i64 (↑n : Int) = Value.int IntKind.i64 (↑n : Int) ∧ Value.int IntKind.i64 (IntKind.wrap IntKind.i64 ((↑s : Int) + (1 : Int))) = Value.int IntKind.i64 (↑s' : Int) ∧ True) ∧ some (AObj.row (flts xs) (1 : Nat) true true true) :: some (AObj.row [] (2 : Nat) true true true) :: some (AObj.row (flts ys) (1 : Nat) true true true) :: some (AObj.row (ints gs) (2 : Nat) true true true) :: some (AObj.row [Value.string nm1, Value.int IntKind.i64 f, Value.slice (some { block := (0 : Nat), off := (0 : Nat) }) n c, Value.slice (some { block := (1 : Nat), off := (0 : Nat) }) (0 : Nat) d] (0 : Nat) false true false) :: some (AObj.row [Value.string nm2, Value.int IntKind.i64 f, Value.slice (some { block := (2 : Nat), off := (0 : Nat) }) n c2, Value.slice (some { block := (3 : Nat), off := (0 : Nat) }) k2 d2] (0 : Nat) false true false) :: some (AObj.row (rdc n (rdF ys (knB gs))) (2 : Nat) true true true) :: some (AObj.row (ints (aF xs ys gs f (lev lim) s)) (2 : Nat) true true true) :: some (AObj.row (rdc n (allR xs)) (2 : Nat) true true true) :: noH = some (AObj.row (flts xs) (1 : Nat) true true true) :: some (AObj.row [] (2 : Nat) true true true) :: some (AObj.row (flts ys) (1 : Nat) true true true) :: some (AObj.row (ints gs) (2 : Nat) true true true) :: some (AObj.row [Value.string nm1, Value.int IntKind.i64 f, Value.slice (some { block := (0 : Nat), off := (0 : Nat) }) n c, Value.slice (some { block := (1 : Nat), off := (0 : Nat) }) (0 : Nat) d] (0 : Nat) false true false) :: some (AObj.row [Value.string nm2, Value.int IntKind.i64 f, Value.slice (some { block := (2 : Nat), off := (0 : Nat) }) n c2, Value.slice (some { block := (3 : Nat), off := (0 : Nat) }) k2 d2] (0 : Nat) false true false) :: some (AObj.row (rdc n (rdF ys (knB gs))) (2 : Nat) true true true) :: some (AObj.row (ints (aF xs ys gs f (lev lim) s')) (2 : Nat) true true true) :: some (AObj.row (rdc n (allR xs)) (2 : Nat) true true true) :: noH)) (∃ (s' : Nat), Is (s' ≤ n) ∧ Is (n - s' < n - s) ∧ (Value.float FloatKind.f32 lim = Value.float FloatKind.f32 lim ∧ Value.pointer (some { block := (4 : Nat), off := (0 : Nat) }) = Value.pointer (some { block := (4 : Nat), off := (0 : Nat) }) ∧ Value.pointer (some { block := (5 : Nat), off := (0 : Nat) }) = Value.pointer (some { block := (5 : Nat), off := (0 : Nat) }) ∧ Value.slice (some { block := (6 : Nat), off := (0 : Nat) }) n (0 : Nat) = Value.slice (some { block := (6 : Nat), off := (0 : Nat) }) n (0 : Nat) ∧ Value.slice (some { block := (7 : Nat), off := (0 : Nat) }) (aN xs ys gs f (lev lim) s) (0 : Nat) = Value.slice (some { block := (7 : Nat), off := (0 : Nat) }) (aN xs ys gs f (lev lim) s') (0 : Nat) ∧ Value.slice (some { block := (8 : Nat), off := (0 : Nat) }) n (0 : Nat) = Value.slice (some { block := (8 : Nat), off := (0 : Nat) }) n (0 : Nat) ∧ Value.int IntKind.i64 (↑n : Int) = Value.int IntKind.i64 (↑n : Int) ∧ Value.int IntKind.i64 (IntKind.wrap IntKind.i64 ((↑s : Int) + (1 : Int))) = Value.int IntKind.i64 (↑s' : Int) ∧ True) ∧ some (AObj.row (flts xs) (1 : Nat) true true true) :: some (AObj.row [] (2 : Nat) true true true) :: some (AObj.row (flts ys) (1 : Nat) true true true) :: some (AObj.row (ints gs) (2 : Nat) true true true) :: some (AObj.row [Value.string nm1, Value.int IntKind.i64 f, Value.slice (some { block := (0 : Nat), off := (0 : Nat) }) n c, Value.slice (some { block := (1 : Nat), off := (0 : Nat) }) (0 : Nat) d] (0 : Nat) false true false) :: some (AObj.row [Value.string nm2, Value.int IntKind.i64 f, Value.slice (some { block := (2 : Nat), off := (0 : Nat) }) n c2, Value.slice (some { block := (3 : Nat), off := (0 : Nat) }) k2 d2] (0 : Nat) false true false) :: some (AObj.row (rdc n (rdF ys (knB gs))) (2 : Nat) true true true) :: some (AObj.row (ints (aF xs ys gs f (lev lim) s)) (2 : Nat) true true true) :: some (AObj.row (rdc n (allR xs)) (2 : Nat) true true true) :: noH = some (AObj.row (flts xs) (1 : Nat) true true true) :: some (AObj.row [] (2 : Nat) true true true) :: some (AObj.row (flts ys) (1 : Nat) true true true) :: some (AObj.row (ints gs) (2 : Nat) true true true) :: some (AObj.row [Value.string nm1, Value.int IntKind.i64 f, Value.slice (some { block := (0 : Nat), off := (0 : Nat) }) n c, Value.slice (some { block := (1 : Nat), off := (0 : Nat) }) (0 : Nat) d] (0 : Nat) false true false) :: some (AObj.row [Value.string nm2, Value.int IntKind.i64 f, Value.slice (some { block := (2 : Nat), off := (0 : Nat) }) n c2, Value.slice (some { block := (3 : Nat), off := (0 : Nat) }) k2 d2] (0 : Nat) false true false) :: some (AObj.row (rdc n (rdF ys (knB gs))) (2 : Nat) true true true) :: some (AObj.row (ints (aF xs ys gs f (lev lim) s')) (2 : Nat) true true true) :: some (AObj.row (rdc n (allR xs)) (2 : Nat) true true true) :: noH)) (∃ (s' : Nat), Is (s' ≤ n) ∧ Is (n - s' < n - s) ∧ (Value.float FloatKind.f32 lim = Value.float FloatKind.f32 lim ∧ Value.pointer (some { block := (4 : Nat), off := (0 : Nat) }) = Value.pointer (some { block := (4 : Nat), off := (0 : Nat) }) ∧ Value.pointer (some { block := (5 : Nat), off := (0 : Nat) }) = Value.pointer (some { block := (5 : Nat), off := (0 : Nat) }) ∧ Value.slice (some { block := (6 : Nat), off := (0 : Nat) }) n (0 : Nat) = Value.slice (some { block := (6 : Nat), off := (0 : Nat) }) n (0 : Nat) ∧ Value.slice (some { block := (7 : Nat), off := (0 : Nat) }) (aN xs ys gs f (lev lim) s) (0 : Nat) = Value.slice (some { block := (7 : Nat), off := (0 : Nat) }) (aN xs ys gs f (lev lim) s') (0 : Nat) ∧ Value.slice (some { block := (8 : Nat), off := (0 : Nat) }) n (0 : Nat) = Value.slice (some { block := (8 : Nat), off := (0 : Nat) }) n (0 : Nat) ∧ Value.int IntKind.i64 (↑n : Int) = Value.int IntKind.i64 (↑n : Int) ∧ Value.int IntKind.i64 (IntKind.wrap IntKind.i64 ((↑s : Int) + (1 : Int))) = Value.int IntKind.i64 (↑s' : Int) ∧ True) ∧ some (AObj.row (flts xs) (1 : Nat) true true true) :: some (AObj.row [] (2 : Nat) true true true) :: some (AObj.row (flts ys) (1 : Nat) true true true) :: some (AObj.row (ints gs) (2 : Nat) true true true) :: some (AObj.row [Value.string nm1, Value.int IntKind.i64 f, Value.slice (some { block := (0 : Nat), off := (0 : Nat) }) n c, Value.slice (some { block := (1 : Nat), off := (0 : Nat) }) (0 : Nat) d] (0 : Nat) false true false) :: some (AObj.row [Value.string nm2, Value.int IntKind.i64 f, Value.slice (some { block := (2 : Nat), off := (0 : Nat) }) n c2, Value.slice (some { block := (3 : Nat), off := (0 : Nat) }) k2 d2] (0 : Nat) false true false) :: some (AObj.row (rdc n (rdF ys (knB gs))) (2 : Nat) true true true) :: some (AObj.row (ints (aF xs ys gs f (lev lim) s)) (2 : Nat) true true true) :: some (AObj.row (rdc n (allR xs)) (2 : Nat) true true true) :: noH = some (AObj.row (flts xs) (1 : Nat) true true true) :: some (AObj.row [] (2 : Nat) true true true) :: some (AObj.row (flts ys) (1 : Nat) true true true) :: some (AObj.row (ints gs) (2 : Nat) true true true) :: some (AObj.row [Value.string nm1, Value.int IntKind.i64 f, Value.slice (some { block := (0 : Nat), off := (0 : Nat) }) n c, Value.slice (some { block := (1 : Nat), off := (0 : Nat) }) (0 : Nat) d] (0 : Nat) false true false) :: some (AObj.row [Value.string nm2, Value.int IntKind.i64 f, Value.slice (some { block := (2 : Nat), off := (0 : Nat) }) n c2, Value.slice (some { block := (3 : Nat), off := (0 : Nat) }) k2 d2] (0 : Nat) false true false) :: some (AObj.row (rdc n (rdF ys (knB gs))) (2 : Nat) true true true) :: some (AObj.row (ints (aF xs ys gs f (lev lim) s')) (2 : Nat) true true true) :: some (AObj.row (rdc n (allR xs)) (2 : Nat) true true true) :: noH)) (K (Value.tuple #[Value.slice (some { block := (4 : Nat), off := (0 : Nat) }) (aN xs ys gs f (lev lim) s) (0 : Nat), Value.int IntKind.i64 (0 : Int)]) (some (AObj.row (flts xs) (1 : Nat) true true true) :: some (AObj.row [] (2 : Nat) true true true) :: some (AObj.row (flts ys) (1 : Nat) true true true) :: some (AObj.row (ints gs) (2 : Nat) true true true) :: some (AObj.row (ints (aF xs ys gs f (lev lim) s)) (2 : Nat) true true true) :: noH)))) := by kernel_rfl
theorem flp_len : ∀ l, (flp l).length = l.length * 2
  | [] => rfl
  | a :: r => by rw [flp, List.length_cons, List.length_cons, flp_len r, List.length_cons]; omega
theorem flp_app : ∀ a b, flp (a ++ b) = flp a ++ flp b
  | [], b => rfl
  | x :: r, b => by rw [List.cons_append, flp, flp, flp_app r b]; rfl
theorem flp_at : ∀ (l : List (Int × Int)) (q : Nat), q < l.length → (flp l).getD (q * 2) 0 = (l.getD q (0, 0)).1 ∧ (flp l).getD (q * 2 + 1) 0 = (l.getD q (0, 0)).2
  | [], q, h => by simp at h
  | a :: r, 0, _ => ⟨rfl, rfl⟩
  | a :: r, q + 1, h => by
    have := flp_at r q (by simp only [List.length_cons] at h; omega)
    rw [show (q + 1) * 2 = q * 2 + 1 + 1 by omega, show q * 2 + 1 + 1 + 1 = (q * 2 + 1) + 1 + 1 by omega]
    exact this
theorem lastp_split {l : List (Int × Int)} (h : 0 < l.length) : l = l.take (l.length - 1) ++ [l.getD (l.length - 1) (0, 0)] := by
  have e := List.take_append_drop (l.length - 1) l
  have e2 : l.drop (l.length - 1) = [l.getD (l.length - 1) (0, 0)] := by
    rw [List.drop_eq_getElem_cons (by omega), List.drop_eq_nil_of_le (by omega), List.getD_eq_getElem?_getD, List.getElem?_eq_getElem (by omega)]; rfl
  rw [e2] at e
  exact e.symm
theorem putp {l : List (Int × Int)} {b : Int} (h : 0 < l.length) : putL (ints (flp l)) ((l.length - 1) * 2 + 1) [.int .i64 b] = ints (flp (l.take (l.length - 1) ++ [((l.getD (l.length - 1) (0, 0)).1, b)])) := by
  have hs := lastp_split h
  have hl : (ints (flp (l.take (l.length - 1)))).length = (l.length - 1) * 2 := by rw [ints_len, flp_len, List.length_take]; congr 1; omega
  generalize l.getD (l.length - 1) (0, 0) = z at hs ⊢
  have e : ints (flp l) = ints (flp (l.take (l.length - 1))) ++ [.int .i64 z.1] ++ [.int .i64 z.2] := by
    conv => lhs; rw [hs]
    rw [flp_app, ← ints_app, List.append_assoc]; rfl
  have hl2 : (ints (flp (l.take (l.length - 1))) ++ [Value.int .i64 z.1]).length = (l.length - 1) * 2 + 1 := by rw [List.length_append, hl]; rfl
  rw [flp_app, ← ints_app, e, putL, splice, ← hl2, List.take_left]
  have e2 : List.drop ((ints (flp (l.take (l.length - 1))) ++ [Value.int .i64 z.1]).length + [Value.int .i64 b].length) (ints (flp (l.take (l.length - 1))) ++ [Value.int .i64 z.1] ++ [Value.int .i64 z.2]) = [] := List.drop_eq_nil_of_le (by simp)
  rw [e2, List.append_nil, List.append_assoc]; rfl
theorem aStep_len (l : List (Int × Int)) (a : Int) : (aStep l a).length ≤ l.length + 1 := by
  rw [aStep]
  split
  · rw [List.length_append, List.length_take]; simp only [List.length_cons, List.length_nil]; omega
  · simp
theorem aG_len (xs ys : List Nat) (gs : List Int) (f b : Int) : ∀ i, (aG xs ys gs f b i).length ≤ i
  | 0 => Nat.le_refl _
  | i + 1 => by
    have h := aG_len xs ys gs f b i
    rw [aG]
    split
    · have := aStep_len (aG xs ys gs f b i) (f + i); omega
    · omega
set_option maxRecDepth 100000 in
set_option maxHeartbeats 2000000 in
theorem ap_ok {nm1 nm2 : ByteArray} {f : Int} {lim n c d c2 k2 d2 : Nat} {xs ys : List Nat} {gs : List Int} (ha : runE nm1 f xs n [] = 0) (hb : runE nm2 f ys n gs = 0) (hn : xs.length = n) (hm' : ys.length = n) (h9 : n ≤ 4096) (hk : gs.length = k2 * 2) (hk9 : k2 ≤ 100000) (hl : sE lim = 0) (hl2 : fLt lim 0 = false) :
    SmallRes Try.prog 13 [.agg (runA nm1 f 0 n c 1 0 d).toArray, .agg (runA nm2 f 2 n c2 3 k2 d2).toArray, .float .f32 lim] (hp4r xs [] ys gs []) (.tuple #[.slice (some ⟨4, 0, none⟩) (aN xs ys gs f (lev lim) n) 0, .int .i64 0]) (hp4r xs [] ys gs [some (.row (ints (aF xs ys gs f (lev lim) n)) 2 true true true)]) := by
  refine fnP_res hm cA4_ok (hs := hsAp nm1 nm2 f lim n c d c2 k2 d2 xs ys gs) ?_
  rw [ap_t]
  obtain ⟨_, hg0, _, _, hx, _⟩ := run_zero ha
  obtain ⟨_, _, _, _, hy, hh, _⟩ := run_zero hb
  have hr1 : isRun xs [] n 0 (flts xs) [] := ⟨rfl, rfl, hn, by omega, rfl, by decide⟩
  have hr2 : isRun ys gs n k2 (flts ys) (ints gs) := ⟨rfl, rfl, hm', by omega, hk, hk9⟩
  have e0 : fi [runE nm1 f xs n [], runE nm2 f ys n gs, sE lim, wh (fLt lim 0) 3] = 0 := by rw [ha, hb, hl, hl2]; rfl
  rw [e0]
  refine ⟨⟨hr1⟩, ⟨hr2⟩, ⟨trivial⟩, br_of (fun h => by cases h) (fun _ => ⟨⟨hr2, hy, hh⟩, ⟨(0 : Nat), ⟨rfl⟩, by first | trivial | rfl, by first | trivial | rfl⟩, fun _ _ => ⟨⟨hr1, hx, rfl⟩, ⟨(0 : Nat), ⟨by omega⟩, by first | trivial | rfl, by rw [allR_eq]; first | done | trivial | rfl⟩, fun s hs' => br_of (fun hc => ?_) (fun hc => ?_)⟩⟩)⟩
  · have hc := lt_of_dec hc
    have hu := up1 hc (by omega : n ≤ 100000)
    have eA : IntKind.wrap .i64 (f + (s : Int)) = f + s := wrap_eq (by omega) (by omega)
    have eK : IntKind.wrap .i64 (f + (s : Int) - f) = (s : Int) := by rw [wrap_eq (by omega) (by omega)]; omega
    rw [eA, eK, hu]
    have s1 : sE (allR xs s).1 = 0 := smps hx (by omega)
    have l1 := lev_few s1
    have e1 : (s * 2 + 1) / 2 = s := by omega
    simp only [Nat.zero_add, Nat.add_zero, Int.toNat_natCast, rdV_at, rdW_at]
    have eW : rdW (rdF ys (knB gs)) (s * 2 + 1) = knB gs (s : Int) := by
      rw [rdW, e1, rdF]; split <;> simp_all
    have rt := rdc_take (R := allR xs) hc
    have rb := rdc_bool (R := rdF ys (knB gs)) hc
    have rf := rdc_int (R := rdF ys (knB gs)) hc
    have eb : (rdF ys (knB gs) s).2 = knB gs (s : Int) := by rw [rdF]; split <;> simp_all
    rw [eb] at rb
    rw [eW]
    have hlen := aG_len xs ys gs f (lev lim) s
    have hN : aN xs ys gs f (lev lim) s ≤ s := hlen
    have hF : (aF xs ys gs f (lev lim) s).length = aN xs ys gs f (lev lim) s * 2 := flp_len _
    have same : ¬ aB xs ys gs (lev lim) s = true → aN xs ys gs f (lev lim) (s + 1) = aN xs ys gs f (lev lim) s ∧ aF xs ys gs f (lev lim) (s + 1) = aF xs ys gs f (lev lim) s := fun h => by
      rw [aN, aF, aG, if_neg h]; exact ⟨rfl, rfl⟩
    refine ⟨⟨by omega, by omega⟩, ⟨rt⟩, br_of (fun _ => br_of (fun _ => ⟨⟨by omega, by omega⟩, ⟨rb⟩, br_of (fun hkn => ?_) (fun hkn => ?_)⟩) (fun h => by have := of_decide_eq_false h; omega)) (fun h => by have := of_decide_eq_false h; omega)⟩
    · have ey : (rdF ys (knB gs) s).1 = ys.getD s 0 := by rw [rdF, if_pos hkn]
      rw [ey] at rf ⊢
      have s2 : sE (ys.getD s 0) = 0 := smps hy (by omega)
      have l2 := lev_few s2
      have ex : (allR xs s).1 = xs.getD s 0 := rfl
      rw [ex] at s1 l1 ⊢
      refine ⟨⟨s1⟩, ⟨by omega, by omega⟩, ⟨rf⟩, ⟨s2⟩, ⟨by omega, by omega⟩, ⟨hl⟩, br_of (fun hd => ?_) (fun hd => ?_)⟩
      · have hB : aB xs ys gs (lev lim) s = true := by rw [aB, hkn, hd]; rfl
        have st : aG xs ys gs f (lev lim) (s + 1) = aStep (aG xs ys gs f (lev lim) s) (f + s) := by rw [aG, if_pos hB]
        have eN : aN xs ys gs f (lev lim) s = (aG xs ys gs f (lev lim) s).length := rfl
        have eF : aF xs ys gs f (lev lim) s = flp (aG xs ys gs f (lev lim) s) := rfl
        have eN' : aN xs ys gs f (lev lim) (s + 1) = (aStep (aG xs ys gs f (lev lim) s) (f + s)).length := by rw [aN, st]
        have eF' : aF xs ys gs f (lev lim) (s + 1) = flp (aStep (aG xs ys gs f (lev lim) s) (f + s)) := by rw [aF, st]
        have hI : isI (ints (aF xs ys gs f (lev lim) s)) (aN xs ys gs f (lev lim) s) := ⟨_, rfl, hF⟩
        have hat : 0 < aN xs ys gs f (lev lim) s → iAt (ints (aF xs ys gs f (lev lim) s)) ((aN xs ys gs f (lev lim) s - 1) * 2 + 1) = ((aG xs ys gs f (lev lim) s).getD ((aG xs ys gs f (lev lim) s).length - 1) (0, 0)).2 := fun h0 => by
          rw [iAt_ints (by omega), eF, (flp_at _ (aN xs ys gs f (lev lim) s - 1) (by omega)).2]; rfl
        refine br_of (fun hA => ?_) (fun hA => ?_)
        · have hA : lnA (ints (aF xs ys gs f (lev lim) s)) (aN xs ys gs f (lev lim) s) (f + s) := of_decide_eq_true hA
          obtain ⟨_, _, _, h0, h1⟩ := hA
          have hc2 : 0 < (aG xs ys gs f (lev lim) s).length ∧ ((aG xs ys gs f (lev lim) s).getD ((aG xs ys gs f (lev lim) s).length - 1) (0, 0)).2 = f + s := ⟨h0, by rw [← hat h0]; exact h1⟩
          have eN2 : aN xs ys gs f (lev lim) (s + 1) = aN xs ys gs f (lev lim) s := by
            rw [eN', aStep, if_pos hc2, List.length_append, List.length_take]; simp only [List.length_cons, List.length_nil]; omega
          have eF2 : ints (aF xs ys gs f (lev lim) (s + 1)) = putL (ints (aF xs ys gs f (lev lim) s)) ((aN xs ys gs f (lev lim) s - 1) * 2 + 1) [.int .i64 (f + s + 1)] := by
            rw [eF', aStep, if_pos hc2, eF, eN]
            exact (putp h0).symm
          exact ⟨s + 1, ⟨hc⟩, ⟨by omega⟩, by rw [eN2]; first | done | ((repeat' refine And.intro ?_ ?_) <;> first | rfl | trivial), by rw [eF2]; first | done | trivial | rfl⟩
        · have hA : ¬ lnA (ints (aF xs ys gs f (lev lim) s)) (aN xs ys gs f (lev lim) s) (f + s) := of_decide_eq_false hA
          have hnb : ¬ (0 < aN xs ys gs f (lev lim) s ∧ iAt (ints (aF xs ys gs f (lev lim) s)) ((aN xs ys gs f (lev lim) s - 1) * 2 + 1) = f + s) := fun h => hA ⟨hI, by omega, by omega, h⟩
          have hc2 : ¬ (0 < (aG xs ys gs f (lev lim) s).length ∧ ((aG xs ys gs f (lev lim) s).getD ((aG xs ys gs f (lev lim) s).length - 1) (0, 0)).2 = f + s) := fun h => hnb ⟨h.1, by rw [hat h.1]; exact h.2⟩
          have eN2 : aN xs ys gs f (lev lim) (s + 1) = aN xs ys gs f (lev lim) s + 1 := by
            rw [eN', aStep, if_neg hc2, List.length_append]; rfl
          have eF2 : ints (aF xs ys gs f (lev lim) (s + 1)) = ints (aF xs ys gs f (lev lim) s) ++ [.int .i64 (f + s), .int .i64 (f + s + 1)] := by
            rw [eF', aStep, if_neg hc2, flp_app, ← ints_app]; rfl
          exact ⟨⟨hI, by omega, by omega, hnb⟩, s + 1, ⟨hc⟩, ⟨by omega⟩, by rw [eN2]; first | done | ((repeat' refine And.intro ?_ ?_) <;> first | rfl | trivial), by rw [eF2]; first | done | trivial | rfl⟩
      · obtain ⟨m1, m2⟩ := same (by rw [aB, hd, Bool.and_false]; decide)
        exact ⟨s + 1, ⟨hc⟩, ⟨by omega⟩, by rw [m1]; first | done | ((repeat' refine And.intro ?_ ?_) <;> first | rfl | trivial), by rw [m2]⟩
    · obtain ⟨m1, m2⟩ := same (by rw [aB, hkn, Bool.false_and]; decide)
      exact ⟨s + 1, ⟨hc⟩, ⟨by omega⟩, by rw [m1]; first | done | ((repeat' refine And.intro ?_ ?_) <;> first | rfl | trivial), by rw [m2]⟩
  · have hc := ge_of_dec hc
    have : s = n := by have := hs'.out; omega
    subst this
    exact ⟨by first | trivial | rfl, by first | trivial | rfl⟩
noncomputable def orcAp (xs ys : List Nat) (gs : List Int) : OrcV
  | [.agg ⟨[.string nm1, .int .i64 f, .slice (some ⟨0, 0, none⟩) n _, .slice (some ⟨1, 0, none⟩) 0 _]⟩, .agg ⟨[.string nm2, .int .i64 g, .slice (some ⟨2, 0, none⟩) m _, .slice (some ⟨3, 0, none⟩) k2 _]⟩, .float .f32 lim],
    [some (.row e1 1 true true true), some (.row [] 2 true true true), some (.row e3 1 true true true), some (.row e4 2 true true true)] =>
    some (.tuple #[.slice (some ⟨4, 0, none⟩) (aN xs ys gs f (lev lim) n) 0, .int .i64 0], [some (.row e1 1 true true true), some (.row [] 2 true true true), some (.row e3 1 true true true), some (.row e4 2 true true true), some (.row (ints (aF xs ys gs f (lev lim) n)) 2 true true true)],
      e1 = flts xs ∧ isR2 ys gs e3 e4 ∧ runE nm1 f xs n [] = 0 ∧ runE nm2 g ys m gs = 0 ∧ g = f ∧ m = n ∧ xs.length = n ∧ ys.length = n ∧ n ≤ 4096 ∧ gs.length = k2 * 2 ∧ k2 ≤ 100000 ∧ sE lim = 0 ∧ fLt lim 0 = false)
  | _, _ => none
theorem okAp (xs ys : List Nat) (gs : List Int) : OkV Try.prog 13 (orcAp xs ys gs) := by
  intro args H ret H' vc h hv
  unfold orcAp at h
  split at h
  · cases h
    obtain ⟨rfl, ⟨rfl, rfl⟩, h1, h2, rfl, rfl, h5, h6, h7, h8, h9, h10, h11⟩ := hv
    exact ap_ok h1 h2 h5 h6 h7 h8 h9 h10 h11
  · cases h
end
end Qq
end
section
/- The reference's check of a run, at rows of one's own. -/
open Go Go.Vm Go.Proofs Sp
namespace Qq
noncomputable section
noncomputable def lpChT (hs : List Int) (k d : Nat) (n : Int) : Lp where
  σ := Nat × Int
  E s := slots 42 [(0, .slice (some ⟨0, 0, none⟩) k d), (1, .int .i64 n), (5, .int .i64 (Int.ofNat s.1))]
  Hp _ := [some (.row (ints hs) 2 true true true)]
  I s := s.1 ≤ k ∧ hchk n (hs.drop (s.1 * 2)) s.2 = hchk n hs (-1) ∧ s.2 = if s.1 = 0 then -1 else hs.getD ((s.1 - 1) * 2 + 1) 0
  m s := k - s.1
noncomputable def hsChT (hs : List Int) (k d : Nat) (n : Int) : Hs Try.prog where
  op y := if [402, 411, 418].contains y then some (hIa Try.prog) else if y = 403 then some (hLd Try.prog (z2 hs)) else if [413, 420].contains y then some (hLd Try.prog (zI hs)) else none
  lp _ := some (lpChT hs k d n)
  cl _ := keep 42 [0, 1, 5]
  au := au0 Try.prog
theorem chT_t (hs : List Int) (k : Nat) (d : Nat) (n : Int) (K : Value → Heap → Prop) :
    (fnP Try.prog cr14 (hsChT hs k d n) (28 : FuncId) [Value.slice (some { block := (0 : Nat), off := (0 : Nat) }) k d, Value.int IntKind.i64 n] [some (AObj.row (ints hs) (2 : Nat) true true true)] K) =
    ((∃ (s : Nat × Int), Is (Prod.fst s ≤ k ∧ hchk n (List.drop (Prod.fst s * (2 : Nat)) hs) (Prod.snd s) = hchk n hs (-1 : Int) ∧ Prod.snd s = if Prod.fst s = (0 : Nat) then (-1 : Int) else List.getD hs ((Prod.fst s - (1 : Nat)) * (2 : Nat) + (1 : Nat)) (0 : Int)) ∧ [Value.slice (some { block := (0 : Nat), off := (0 : Nat) }) k d, Value.int IntKind.i64 n, poi, poi, poi, Value.int IntKind.i64 (0 : Int), poi, poi, poi, poi, poi, poi, poi, poi, poi, poi, poi, poi, poi, poi, poi, poi, poi, poi, poi, poi, poi, poi, poi, poi, poi, poi, poi, poi, poi, poi, poi, poi, poi, poi, poi, poi] = [Value.slice (some { block := (0 : Nat), off := (0 : Nat) }) k d, Value.int IntKind.i64 n, poi, poi, poi, Value.int IntKind.i64 (↑(Prod.fst s) : Int), poi, poi, poi, poi, poi, poi, poi, poi, poi, poi, poi, poi, poi, poi, poi, poi, poi, poi, poi, poi, poi, poi, poi, poi, poi, poi, poi, poi, poi, poi, poi, poi, poi, poi, poi, poi] ∧ some (AObj.row (ints hs) (2 : Nat) true true true) :: noH = some (AObj.row (ints hs) (2 : Nat) true true true) :: noH) ∧ ∀ (s : Nat × Int), Is (Prod.fst s ≤ k ∧ hchk n (List.drop (Prod.fst s * (2 : Nat)) hs) (Prod.snd s) = hchk n hs (-1 : Int) ∧ Prod.snd s = if Prod.fst s = (0 : Nat) then (-1 : Int) else List.getD hs ((Prod.fst s - (1 : Nat)) * (2 : Nat) + (1 : Nat)) (0 : Int)) → br (decide ((↑(Prod.fst s) : Int) < (↑k : Int))) (Is ((0 : Int) ≤ (↑(Prod.fst s) : Int) ∧ (↑(Prod.fst s) : Int) < (↑k : Int)) ∧ Is ((if (0 : Nat) + Int.toNat (↑(Prod.fst s) : Int) * (2 : Nat) + (2 : Nat) ≤ List.length (ints hs) then some (Value.agg (List.toArray (List.take (2 : Nat) (List.drop ((0 : Nat) + Int.toNat (↑(Prod.fst s) : Int) * (2 : Nat)) (ints hs))))) else none) = some (Value.agg #[Value.int IntKind.i64 (List.getD hs ((0 : Nat) + Int.toNat (↑(Prod.fst s) : Int) * (2 : Nat)) (0 : Int)), Value.int IntKind.i64 (List.getD hs ((0 : Nat) + Int.toNat (↑(Prod.fst s) : Int) * (2 : Nat) + (1 : Nat)) (0 : Int))])) ∧ br (decide ((0 : Int) < (↑(Prod.fst s) : Int))) (Is ((0 : Int) ≤ (↑(Prod.fst s) : Int) ∧ (↑(Prod.fst s) : Int) < (↑k : Int)) ∧ Is ((ints hs)[(0 : Nat) + Int.toNat (↑(Prod.fst s) : Int) * (2 : Nat) + (0 : Nat)]? = some (Value.int IntKind.i64 (List.getD hs ((0 : Nat) + Int.toNat (↑(Prod.fst s) : Int) * (2 : Nat) + (0 : Nat)) (0 : Int)))) ∧ Is (((0 : Int) ≤ if IntKind.wrap IntKind.i64 ((↑(Prod.fst s) : Int) - (1 : Int)) > (0 : Int) then IntKind.wrap IntKind.i64 ((↑(Prod.fst s) : Int) - (1 : Int)) else (0 : Int)) ∧ (if IntKind.wrap IntKind.i64 ((↑(Prod.fst s) : Int) - (1 : Int)) > (0 : Int) then IntKind.wrap IntKind.i64 ((↑(Prod.fst s) : Int) - (1 : Int)) else (0 : Int)) < (↑k : Int)) ∧ Is ((ints hs)[(0 : Nat) + Int.toNat (if IntKind.wrap IntKind.i64 ((↑(Prod.fst s) : Int) - (1 : Int)) > (0 : Int) then IntKind.wrap IntKind.i64 ((↑(Prod.fst s) : Int) - (1 : Int)) else (0 : Int)) * (2 : Nat) + (1 : Nat)]? = some (Value.int IntKind.i64 (List.getD hs ((0 : Nat) + Int.toNat (if IntKind.wrap IntKind.i64 ((↑(Prod.fst s) : Int) - (1 : Int)) > (0 : Int) then IntKind.wrap IntKind.i64 ((↑(Prod.fst s) : Int) - (1 : Int)) else (0 : Int)) * (2 : Nat) + (1 : Nat)) (0 : Int)))) ∧ br (fi [wh (decide (List.getD hs ((0 : Nat) + Int.toNat (↑(Prod.fst s) : Int) * (2 : Nat)) (0 : Int) < (0 : Int)) || (decide (List.getD hs ((0 : Nat) + Int.toNat (↑(Prod.fst s) : Int) * (2 : Nat) + (1 : Nat)) (0 : Int) ≤ List.getD hs ((0 : Nat) + Int.toNat (↑(Prod.fst s) : Int) * (2 : Nat)) (0 : Int)) || decide (n < List.getD hs ((0 : Nat) + Int.toNat (↑(Prod.fst s) : Int) * (2 : Nat) + (1 : Nat)) (0 : Int)))) (14 : Int), wh (decide (List.getD hs ((0 : Nat) + Int.toNat (↑(Prod.fst s) : Int) * (2 : Nat) + (0 : Nat)) (0 : Int) ≤ List.getD hs ((0 : Nat) + Int.toNat (if IntKind.wrap IntKind.i64 ((↑(Prod.fst s) : Int) - (1 : Int)) > (0 : Int) then IntKind.wrap IntKind.i64 ((↑(Prod.fst s) : Int) - (1 : Int)) else (0 : Int)) * (2 : Nat) + (1 : Nat)) (0 : Int))) (11 : Int)] != (0 : Int)) (K (Value.int IntKind.i64 (fi [wh (decide (List.getD hs ((0 : Nat) + Int.toNat (↑(Prod.fst s) : Int) * (2 : Nat)) (0 : Int) < (0 : Int)) || (decide (List.getD hs ((0 : Nat) + Int.toNat (↑(Prod.fst s) : Int) * (2 : Nat) + (1 : Nat)) (0 : Int) ≤ List.getD hs ((0 : Nat) + Int.toNat (↑(Prod.fst s) : Int) * (2 : Nat)) (0 : Int)) || decide (n < List.getD hs ((0 : Nat) + Int.toNat (↑(Prod.fst s) : Int) * (2 : Nat) + (1 : Nat)) (0 : Int)))) (14 : Int), wh (decide (List.getD hs ((0 : Nat) + Int.toNat (↑(Prod.fst s) : Int) * (2 : Nat) + (0 : Nat)) (0 : Int) ≤ List.getD hs ((0 : Nat) + Int.toNat (if IntKind.wrap IntKind.i64 ((↑(Prod.fst s) : Int) - (1 : Int)) > (0 : Int) then IntKind.wrap IntKind.i64 ((↑(Prod.fst s) : Int) - (1 : Int)) else (0 : Int)) * (2 : Nat) + (1 : Nat)) (0 : Int))) (11 : Int)])) (some (AObj.row (ints hs) (2 : Nat) true true true) :: noH)) (∃ (s' : Nat × Int), Is (Prod.fst s' ≤ k ∧ hchk n (List.drop (Prod.fst s' * (2 : Nat)) hs) (Prod.snd s') = hchk n hs (-1 : Int) ∧ Prod.snd s' = if Prod.fst s' = (0 : Nat) then (-1 : Int) else List.getD hs ((Prod.fst s' - (1 : Nat)) * (2 : Nat) + (1 : Nat)) (0 : Int)) ∧ Is (k - Prod.fst s' < k - Prod.fst s) ∧ [Value.slice (some { block := (0 : Nat), off := (0 : Nat) }) k d, Value.int IntKind.i64 n, poi, poi, poi, Value.int IntKind.i64 (IntKind.wrap IntKind.i64 ((↑(Prod.fst s) : Int) + (1 : Int))), poi, poi, poi, poi, poi, poi, poi, poi, poi, poi, poi, poi, poi, poi, poi, poi, poi, poi, poi, poi, poi, poi, poi, poi, poi, poi, poi, poi, poi, poi, poi, poi, poi, poi, poi, poi] = [Value.slice (some { block := (0 : Nat), off := (0 : Nat) }) k d, Value.int IntKind.i64 n, poi, poi, poi, Value.int IntKind.i64 (↑(Prod.fst s') : Int), poi, poi, poi, poi, poi, poi, poi, poi, poi, poi, poi, poi, poi, poi, poi, poi, poi, poi, poi, poi, poi, poi, poi, poi, poi, poi, poi, poi, poi, poi, poi, poi, poi, poi, poi, poi] ∧ some (AObj.row (ints hs) (2 : Nat) true true true) :: noH = some (AObj.row (ints hs) (2 : Nat) true true true) :: noH)) (br (fi [wh (decide (List.getD hs ((0 : Nat) + Int.toNat (↑(Prod.fst s) : Int) * (2 : Nat)) (0 : Int) < (0 : Int)) || (decide (List.getD hs ((0 : Nat) + Int.toNat (↑(Prod.fst s) : Int) * (2 : Nat) + (1 : Nat)) (0 : Int) ≤ List.getD hs ((0 : Nat) + Int.toNat (↑(Prod.fst s) : Int) * (2 : Nat)) (0 : Int)) || decide (n < List.getD hs ((0 : Nat) + Int.toNat (↑(Prod.fst s) : Int) * (2 : Nat) + (1 : Nat)) (0 : Int)))) (14 : Int), (0 : Int)] != (0 : Int)) (K (Value.int IntKind.i64 (fi [wh (decide (List.getD hs ((0 : Nat) + Int.toNat (↑(Prod.fst s) : Int) * (2 : Nat)) (0 : Int) < (0 : Int)) || (decide (List.getD hs ((0 : Nat) + Int.toNat (↑(Prod.fst s) : Int) * (2 : Nat) + (1 : Nat)) (0 : Int) ≤ List.getD hs ((0 : Nat) + Int.toNat (↑(Prod.fst s) : Int) * (2 : Nat)) (0 : Int)) || decide (n < List.getD hs ((0 : Nat) + Int.toNat (↑(Prod.fst s) : Int) * (2 : Nat) + (1 : Nat)) (0 : Int)))) (14 : Int), (0 : Int)])) (some (AObj.row (ints hs) (2 : Nat) true true true) :: noH)) (∃ (s' : Nat × Int), Is (Prod.fst s' ≤ k ∧ hchk n (List.drop (Prod.fst s' * (2 : Nat)) hs) (Prod.snd s') = hchk n hs (-1 : Int) ∧ Prod.snd s' = if Prod.fst s' = (0 : Nat) then (-1 : Int) else List.getD hs ((Prod.fst s' - (1 : Nat)) * (2 : Nat) + (1 : Nat)) (0 : Int)) ∧ Is (k - Prod.fst s' < k - Prod.fst s) ∧ [Value.slice (some { block := (0 : Nat), off := (0 : Nat) }) k d, Value.int IntKind.i64 n, poi, poi, poi, Value.int IntKind.i64 (IntKind.wrap IntKind.i64 ((↑(Prod.fst s) : Int) + (1 : Int))), poi, poi, poi, poi, poi, poi, poi, poi, poi, poi, poi, poi, poi, poi, poi, poi, poi, poi, poi, poi, poi, poi, poi, poi, poi, poi, poi, poi, poi, poi, poi, poi, poi, poi, poi, poi] = [Value.slice (some { block := (0 : Nat), off := (0 : Nat) }) k d, Value.int IntKind.i64 n, poi, poi, poi, Value.int IntKind.i64 (↑(Prod.fst s') : Int), poi, poi, poi, poi, poi, poi, poi, poi, poi, poi, poi, poi, poi, poi, poi, poi, poi, poi, poi, poi, poi, poi, poi, poi, poi, poi, poi, poi, poi, poi, poi, poi, poi, poi, poi, poi] ∧ some (AObj.row (ints hs) (2 : Nat) true true true) :: noH = some (AObj.row (ints hs) (2 : Nat) true true true) :: noH))) (K (Value.int IntKind.i64 (0 : Int)) (some (AObj.row (ints hs) (2 : Nat) true true true) :: noH))) := by kernel_rfl
noncomputable def lpSmT (xs : List Nat) (n c : Nat) : Lp where
  σ := Nat
  E s := slots 19 [(0, .slice (some ⟨0, 0, none⟩) n c), (3, .int .i64 (Int.ofNat s))]
  Hp _ := [fR xs]
  I s := s ≤ n ∧ fi ((xs.drop s).map sE) = fi (xs.map sE)
  m s := n - s
noncomputable def hsSmT (xs : List Nat) (n c : Nat) : Hs Try.prog where
  op y := if y = 402 then some (hIa Try.prog) else if y = 403 then some (hLd Try.prog (xF xs)) else none
  lp _ := some (lpSmT xs n c)
  cl _ := keep 19 [0, 3]
  au := au0 Try.prog
theorem smT_t (xs : List Nat) (n : Nat) (c : Nat) (K : Value → Heap → Prop) :
    (fnP Try.prog csr4 (hsSmT xs n c) (55 : FuncId) [Value.slice (some { block := (0 : Nat), off := (0 : Nat) }) n c] [fR xs] K) =
    ((∃ (s : Nat), Is (s ≤ n ∧ fi (List.map sE (List.drop s xs)) = fi (List.map sE xs)) ∧ [Value.slice (some { block := (0 : Nat), off := (0 : Nat) }) n c, poi, poi, Value.int IntKind.i64 (0 : Int), poi, poi, poi, poi, poi, poi, poi, poi, poi, poi, poi, poi, poi, poi, poi] = [Value.slice (some { block := (0 : Nat), off := (0 : Nat) }) n c, poi, poi, Value.int IntKind.i64 (↑s : Int), poi, poi, poi, poi, poi, poi, poi, poi, poi, poi, poi, poi, poi, poi, poi] ∧ some (AObj.row (flts xs) (1 : Nat) true true true) :: noH = some (AObj.row (flts xs) (1 : Nat) true true true) :: noH) ∧ ∀ (s : Nat), Is (s ≤ n ∧ fi (List.map sE (List.drop s xs)) = fi (List.map sE xs)) → br (decide ((↑s : Int) < (↑n : Int))) (Is ((0 : Int) ≤ (↑s : Int) ∧ (↑s : Int) < (↑n : Int)) ∧ Is ((flts xs)[(0 : Nat) + Int.toNat (↑s : Int) * (1 : Nat)]? = some (Value.float FloatKind.f32 (List.getD xs ((0 : Nat) + Int.toNat (↑s : Int) * (1 : Nat)) (0 : Nat)))) ∧ br (sE (List.getD xs ((0 : Nat) + Int.toNat (↑s : Int) * (1 : Nat)) (0 : Nat)) != (0 : Int)) (K (Value.int IntKind.i64 (sE (List.getD xs ((0 : Nat) + Int.toNat (↑s : Int) * (1 : Nat)) (0 : Nat)))) (some (AObj.row (flts xs) (1 : Nat) true true true) :: noH)) (∃ (s' : Nat), Is (s' ≤ n ∧ fi (List.map sE (List.drop s' xs)) = fi (List.map sE xs)) ∧ Is (n - s' < n - s) ∧ [Value.slice (some { block := (0 : Nat), off := (0 : Nat) }) n c, poi, poi, Value.int IntKind.i64 (IntKind.wrap IntKind.i64 ((↑s : Int) + (1 : Int))), poi, poi, poi, poi, poi, poi, poi, poi, poi, poi, poi, poi, poi, poi, poi] = [Value.slice (some { block := (0 : Nat), off := (0 : Nat) }) n c, poi, poi, Value.int IntKind.i64 (↑s' : Int), poi, poi, poi, poi, poi, poi, poi, poi, poi, poi, poi, poi, poi, poi, poi] ∧ some (AObj.row (flts xs) (1 : Nat) true true true) :: noH = some (AObj.row (flts xs) (1 : Nat) true true true) :: noH)) (K (Value.int IntKind.i64 (0 : Int)) (some (AObj.row (flts xs) (1 : Nat) true true true) :: noH))) := by kernel_rfl
set_option maxRecDepth 100000 in
theorem chT_ok {hs : List Int} {k d : Nat} {n : Int} (hk : hs.length = k * 2) (hk9 : k ≤ 100000) :
    SmallRes Try.prog 28 [.slice (some ⟨0, 0, none⟩) k d, .int .i64 n] [some (.row (ints hs) 2 true true true)] (.int .i64 (hchk n hs (-1))) [some (.row (ints hs) 2 true true true)] := by
  refine fnP_res hm cr14_ok (hs := hsChT hs k d n) ?_
  rw [chT_t]
  refine ⟨⟨((0 : Nat), (-1 : Int)), ⟨by omega, by rw [Nat.zero_mul, List.drop_zero], by first | trivial | rfl⟩, by first | trivial | rfl, by first | trivial | rfl⟩, fun s hs' => br_of (fun hc => ?_) (fun hc => ?_)⟩
  · have hc := lt_of_dec hc
    obtain ⟨i1, i2, i3⟩ := hs'.out
    rw [spn_drop (show s.1 * 2 + 2 ≤ hs.length by omega), hchk] at i2
    simp only [pred1 hc (by omega), Nat.zero_add, Nat.add_zero, Int.toNat_natCast]
    have b1 : 0 ≤ (s.1 : Int) ∧ (s.1 : Int) < (k : Int) := by omega
    refine ⟨⟨b1⟩, ⟨ldh (by omega)⟩, br_of (fun h1 => ⟨⟨b1⟩, ⟨zint_at (by omega)⟩, ⟨by omega, by omega⟩, ⟨zint_at (by omega)⟩, ?_⟩) (fun h1 => ?_)⟩
    · have h1 : 0 < s.1 := by have := of_decide_eq_true h1; omega
      rw [if_neg (show ¬ s.1 = 0 by omega)] at i3
      rw [← i3]
      refine br_of (fun h => ?_) (fun h => ⟨(s.1 + 1, hs.getD (s.1 * 2 + 1) 0), ⟨hc, ?_, ?_⟩, ⟨by simp only; omega⟩, ?_, by first | trivial | rfl⟩)
      · rw [sel_ne h] at i2
        rw [← i2]
        exact ⟨by first | trivial | rfl, by first | trivial | rfl⟩
      · rw [sel_eq h] at i2
        exact i2
      · rw [if_neg (by simp only; omega)]; rfl
      · rw [up1 hc (by omega)]
    · have h1 : s.1 = 0 := by have := of_decide_eq_false h1; omega
      rw [if_pos h1] at i3
      have e : ∀ {b : Bool}, (b = true → wh (decide (hs.getD (s.1 * 2) 0 < 0) || (decide (hs.getD (s.1 * 2 + 1) 0 ≤ hs.getD (s.1 * 2) 0) || decide (n < hs.getD (s.1 * 2 + 1) 0))) 14 ≠ 0) →
          fi [wh (decide (hs.getD (s.1 * 2) 0 < 0) || (decide (hs.getD (s.1 * 2 + 1) 0 ≤ hs.getD (s.1 * 2) 0) || decide (n < hs.getD (s.1 * 2 + 1) 0))) 14, wh b 11] = fi [wh (decide (hs.getD (s.1 * 2) 0 < 0) || (decide (hs.getD (s.1 * 2 + 1) 0 ≤ hs.getD (s.1 * 2) 0) || decide (n < hs.getD (s.1 * 2 + 1) 0))) 14, 0] := fun h => fi_late h
      rw [e (fun h => ?_)] at i2
      · refine br_of (fun h => ?_) (fun h => ⟨(s.1 + 1, hs.getD (s.1 * 2 + 1) 0), ⟨hc, ?_, ?_⟩, ⟨by simp only; omega⟩, ?_, by first | trivial | rfl⟩)
        · rw [sel_ne h] at i2
          rw [← i2]
          exact ⟨by first | trivial | rfl, by first | trivial | rfl⟩
        · rw [sel_eq h] at i2
          exact i2
        · rw [if_neg (by simp only; omega)]; rfl
        · rw [up1 hc (by omega)]
      · have h := of_decide_eq_true h
        have : decide (hs.getD (s.1 * 2) 0 < 0) = true := decide_eq_true (by omega)
        rw [this]; simp [wh]
  · have hc := ge_of_dec hc
    obtain ⟨i1, i2, _⟩ := hs'.out
    rw [List.drop_eq_nil_of_le (by omega)] at i2
    rw [← i2]
    exact ⟨by first | trivial | rfl, by first | trivial | rfl⟩
noncomputable def orcChT (hs : List Int) : OrcV
  | [.slice (some ⟨0, 0, none⟩) k _, .int .i64 n], [some (.row e1 2 true true true)] => some (.int .i64 (hchk n hs (-1)), [some (.row e1 2 true true true)], e1 = ints hs ∧ hs.length = k * 2 ∧ k ≤ 100000)
  | _, _ => none
theorem okChT (hs : List Int) : OkV Try.prog 28 (orcChT hs) := by
  intro args H ret H' vc h hv
  unfold orcChT at h
  split at h
  · cases h
    obtain ⟨rfl, h1, h2⟩ := hv
    exact chT_ok h1 h2
  · cases h
set_option maxRecDepth 100000 in
theorem smT_ok {xs : List Nat} {n c : Nat} (hn : xs.length = n) (h9 : n ≤ 100000) :
    SmallRes Try.prog 55 [.slice (some ⟨0, 0, none⟩) n c] [fR xs] (.int .i64 (fi (xs.map sE))) [fR xs] := by
  refine fnP_res hm csr4_ok (hs := hsSmT xs n c) ?_
  rw [smT_t]
  refine ⟨⟨(0 : Nat), ⟨by omega, by rw [List.drop_zero]⟩, by first | trivial | rfl, by first | trivial | rfl⟩, fun s hs' => br_of (fun hc => ?_) (fun hc => ?_)⟩
  · have hc := lt_of_dec hc
    obtain ⟨i1, i2⟩ := hs'.out
    have e := fi_one (l := xs.map sE) (i := s) (by rw [List.length_map]; omega)
    rw [map_getD (by omega)] at e
    rw [List.map_drop, e] at i2
    simp only [Nat.zero_add, Nat.mul_one, Int.toNat_natCast]
    refine ⟨⟨by omega, by omega⟩, ⟨flts_at (by omega)⟩, br_of (fun h => ?_) (fun h => ⟨s + 1, ⟨hc, ?_⟩, ⟨by omega⟩, by rw [up1 hc (by omega)], by first | trivial | rfl⟩)⟩
    · rw [if_pos (by simpa using h)] at i2
      rw [← i2]
      exact ⟨by first | trivial | rfl, by first | trivial | rfl⟩
    · rw [if_neg (by simpa using h)] at i2
      rw [List.map_drop]
      exact i2
  · have hc := ge_of_dec hc
    obtain ⟨i1, i2⟩ := hs'.out
    rw [List.drop_eq_nil_of_le (by omega)] at i2
    rw [← i2]
    exact ⟨by first | trivial | rfl, by first | trivial | rfl⟩
noncomputable def orcSmT (xs : List Nat) : OrcV
  | [.slice (some ⟨0, 0, none⟩) n _], [some (.row e1 1 true true true)] => some (.int .i64 (fi (xs.map sE)), [some (.row e1 1 true true true)], e1 = flts xs ∧ xs.length = n ∧ n ≤ 100000)
  | _, _ => none
theorem okSmT (xs : List Nat) : OkV Try.prog 55 (orcSmT xs) := by
  intro args H ret H' vc h hv
  unfold orcSmT at h
  split at h
  · cases h
    obtain ⟨rfl, h1, h2⟩ := hv
    exact smT_ok h1 h2
  · cases h
noncomputable def hsLiT (xs : List Nat) : Hs Try.prog where
  au := auCalls [(55, hCa Try.prog 55 (orcSmT xs) (okSmT xs))]
theorem lsT_t (xs : List Nat) (n : Nat) (c : Nat) (K : Value → Heap → Prop) :
    (fnP Try.prog cr14 (hsLiT xs) (26 : FuncId) [Value.slice (some { block := (0 : Nat), off := (0 : Nat) }) n c] [fR xs] K) =
    (Is (flts xs = flts xs ∧ List.length xs = n ∧ n ≤ (100000 : Nat)) ∧ K (Value.int IntKind.i64 (fi [wh (decide ((4096 : Int) < (↑n : Int))) (5 : Int), fi (List.map sE xs)])) (some (AObj.row (flts xs) (1 : Nat) true true true) :: noH)) := by kernel_rfl
noncomputable def orcLiT (xs : List Nat) : OrcV
  | [.slice (some ⟨0, 0, none⟩) n _], [some (.row e1 1 true true true)] => some (.int .i64 (fi [wh (decide ((4096 : Int) < n)) 5, fi (xs.map sE)]), [some (.row e1 1 true true true)], e1 = flts xs ∧ xs.length = n ∧ n ≤ 100000)
  | _, _ => none
theorem okLiT (xs : List Nat) : OkV Try.prog 26 (orcLiT xs) := by
  intro args H ret H' vc h hv
  unfold orcLiT at h
  split at h
  · cases h
    obtain ⟨rfl, h1, h2⟩ := hv
    refine fnP_res hm cr14_ok (hs := hsLiT xs) ?_
    show fnP Try.prog cr14 (hsLiT xs) 26 _ [fR xs] _
    rw [lsT_t]
    exact ⟨⟨rfl, h1, h2⟩, by first | trivial | rfl, by first | trivial | rfl⟩
  · cases h
noncomputable def lpCrT (nm : ByteArray) (f : Int) (n c k d : Nat) (xs : List Nat) (hs : List Int) : Lp where
  σ := Nat
  E s := slots 62 [(1, .pointer (some ⟨2, 0, none⟩)), (5, .int .i64 (Int.ofNat s))]
  Hp _ := hp2r xs hs true true true true [runOs nm f n c k d]
  I s := s ≤ n ∧ ∀ j, j < s → nzB (xs.getD j 0) = true → knB hs (j : Int) = true
  m s := n - s
noncomputable def hsCrT (nm : ByteArray) (f : Int) (n c k d : Nat) (xs : List Nat) (hs : List Int) : Hs Try.prog where
  op y := if y = 1003 then some (hIa Try.prog) else if y = 1004 then some (hLd Try.prog (xF xs)) else none
  lp _ := some (lpCrT nm f n c k d xs hs)
  cl _ := keep 62 [1, 5]
  au := auF [(26, hCa Try.prog 26 (orcLiT xs) (okLiT xs)), (28, hCa Try.prog 28 (orcChT hs) (okChT hs)), (29, hCa Try.prog 29 (orcKn xs hs) (okKn xs hs))]
theorem crT_t (nm : ByteArray) (f : Int) (n : Nat) (c : Nat) (k : Nat) (d : Nat) (xs : List Nat) (hs : List Int) (K : Value → Heap → Prop) :
    (fnP Try.prog cr14 (hsCrT nm f n c k d xs hs) (9 : FuncId) [Value.agg (List.toArray (runA nm f (0 : Nat) n c (1 : Nat) k d))] (hp2r xs hs true true true true []) K) =
    (Is (flts xs = flts xs ∧ List.length xs = n ∧ n ≤ (100000 : Nat)) ∧ br (decide (IntKind.wrap IntKind.i64 ((100000000 : Int) - (↑n : Int)) < f)) (br (fi [wh (!nameB nm) (8 : Int), wi f (0 : Int) (100000000 : Int), fi [wh (decide ((4096 : Int) < (↑n : Int))) (5 : Int), fi (List.map sE xs)], wh (decide ((↑n : Int) ≤ (4096 : Int))) (4 : Int)] != (0 : Int)) (K (Value.int IntKind.i64 (fi [wh (!nameB nm) (8 : Int), wi f (0 : Int) (100000000 : Int), fi [wh (decide ((4096 : Int) < (↑n : Int))) (5 : Int), fi (List.map sE xs)], wh (decide ((↑n : Int) ≤ (4096 : Int))) (4 : Int)])) (some (AObj.row (flts xs) (1 : Nat) true true true) :: some (AObj.row (ints hs) (2 : Nat) true true true) :: noH)) (Is (ints hs = ints hs ∧ List.length hs = k * (2 : Nat) ∧ k ≤ (100000 : Nat)) ∧ br (hchk (↑n : Int) hs (-1 : Int) != (0 : Int)) (K (Value.int IntKind.i64 (hchk (↑n : Int) hs (-1 : Int))) (some (AObj.row (flts xs) (1 : Nat) true true true) :: some (AObj.row (ints hs) (2 : Nat) true true true) :: noH)) ((∃ (s : Nat), Is (s ≤ n ∧ ∀ (j : Nat), j < s → nzB (List.getD xs j (0 : Nat)) = true → knB hs (↑j : Int) = true) ∧ [poi, Value.pointer (some { block := (2 : Nat), off := (0 : Nat) }), poi, poi, poi, Value.int IntKind.i64 (0 : Int), poi, poi, poi, poi, poi, poi, poi, poi, poi, poi, poi, poi, poi, poi, poi, poi, poi, poi, poi, poi, poi, poi, poi, poi, poi, poi, poi, poi, poi, poi, poi, poi, poi, poi, poi, poi, poi, poi, poi, poi, poi, poi, poi, poi, poi, poi, poi, poi, poi, poi, poi, poi, poi, poi, poi, poi] = [poi, Value.pointer (some { block := (2 : Nat), off := (0 : Nat) }), poi, poi, poi, Value.int IntKind.i64 (↑s : Int), poi, poi, poi, poi, poi, poi, poi, poi, poi, poi, poi, poi, poi, poi, poi, poi, poi, poi, poi, poi, poi, poi, poi, poi, poi, poi, poi, poi, poi, poi, poi, poi, poi, poi, poi, poi, poi, poi, poi, poi, poi, poi, poi, poi, poi, poi, poi, poi, poi, poi, poi, poi, poi, poi, poi, poi] ∧ some (AObj.row (flts xs) (1 : Nat) true true true) :: some (AObj.row (ints hs) (2 : Nat) true true true) :: some (AObj.row [Value.string nm, Value.int IntKind.i64 f, Value.slice (some { block := (0 : Nat), off := (0 : Nat) }) n c, Value.slice (some { block := (1 : Nat), off := (0 : Nat) }) k d] (0 : Nat) false true (List.all [Value.string nm, Value.int IntKind.i64 f, Value.slice (some { block := (0 : Nat), off := (0 : Nat) }) n c, Value.slice (some { block := (1 : Nat), off := (0 : Nat) }) k d] atom)) :: noH = some (AObj.row (flts xs) (1 : Nat) true true true) :: some (AObj.row (ints hs) (2 : Nat) true true true) :: some (AObj.row [Value.string nm, Value.int IntKind.i64 f, Value.slice (some { block := (0 : Nat), off := (0 : Nat) }) n c, Value.slice (some { block := (1 : Nat), off := (0 : Nat) }) k d] (0 : Nat) false true false) :: noH) ∧ ∀ (s : Nat), Is (s ≤ n ∧ ∀ (j : Nat), j < s → nzB (List.getD xs j (0 : Nat)) = true → knB hs (↑j : Int) = true) → br (decide ((↑s : Int) < (↑n : Int))) (Is ((0 : Int) ≤ (↑s : Int) ∧ (↑s : Int) < (↑n : Int)) ∧ Is ((flts xs)[(0 : Nat) + Int.toNat (↑s : Int) * (1 : Nat)]? = some (Value.float FloatKind.f32 (List.getD xs ((0 : Nat) + Int.toNat (↑s : Int) * (1 : Nat)) (0 : Nat)))) ∧ Is True ∧ br (fNe (List.getD xs ((0 : Nat) + Int.toNat (↑s : Int) * (1 : Nat)) (0 : Nat)) (0 : Nat)) (Is (isRn0 xs hs k (flts xs) (ints hs)) ∧ br (!knB hs (↑s : Int)) (K (Value.int IntKind.i64 (1 : Int)) (some (AObj.row (flts xs) (1 : Nat) true true true) :: some (AObj.row (ints hs) (2 : Nat) true true true) :: noH)) (∃ (s' : Nat), Is (s' ≤ n ∧ ∀ (j : Nat), j < s' → nzB (List.getD xs j (0 : Nat)) = true → knB hs (↑j : Int) = true) ∧ Is (n - s' < n - s) ∧ [poi, Value.pointer (some { block := (2 : Nat), off := (0 : Nat) }), poi, poi, poi, Value.int IntKind.i64 (IntKind.wrap IntKind.i64 ((↑s : Int) + (1 : Int))), poi, poi, poi, poi, poi, poi, poi, poi, poi, poi, poi, poi, poi, poi, poi, poi, poi, poi, poi, poi, poi, poi, poi, poi, poi, poi, poi, poi, poi, poi, poi, poi, poi, poi, poi, poi, poi, poi, poi, poi, poi, poi, poi, poi, poi, poi, poi, poi, poi, poi, poi, poi, poi, poi, poi, poi] = [poi, Value.pointer (some { block := (2 : Nat), off := (0 : Nat) }), poi, poi, poi, Value.int IntKind.i64 (↑s' : Int), poi, poi, poi, poi, poi, poi, poi, poi, poi, poi, poi, poi, poi, poi, poi, poi, poi, poi, poi, poi, poi, poi, poi, poi, poi, poi, poi, poi, poi, poi, poi, poi, poi, poi, poi, poi, poi, poi, poi, poi, poi, poi, poi, poi, poi, poi, poi, poi, poi, poi, poi, poi, poi, poi, poi, poi] ∧ some (AObj.row (flts xs) (1 : Nat) true true true) :: some (AObj.row (ints hs) (2 : Nat) true true true) :: some (AObj.row [Value.string nm, Value.int IntKind.i64 f, Value.slice (some { block := (0 : Nat), off := (0 : Nat) }) n c, Value.slice (some { block := (1 : Nat), off := (0 : Nat) }) k d] (0 : Nat) false true false) :: noH = some (AObj.row (flts xs) (1 : Nat) true true true) :: some (AObj.row (ints hs) (2 : Nat) true true true) :: some (AObj.row [Value.string nm, Value.int IntKind.i64 f, Value.slice (some { block := (0 : Nat), off := (0 : Nat) }) n c, Value.slice (some { block := (1 : Nat), off := (0 : Nat) }) k d] (0 : Nat) false true false) :: noH)) (∃ (s' : Nat), Is (s' ≤ n ∧ ∀ (j : Nat), j < s' → nzB (List.getD xs j (0 : Nat)) = true → knB hs (↑j : Int) = true) ∧ Is (n - s' < n - s) ∧ [poi, Value.pointer (some { block := (2 : Nat), off := (0 : Nat) }), poi, poi, poi, Value.int IntKind.i64 (IntKind.wrap IntKind.i64 ((↑s : Int) + (1 : Int))), poi, poi, poi, poi, poi, poi, poi, poi, poi, poi, poi, poi, poi, poi, poi, poi, poi, poi, poi, poi, poi, poi, poi, poi, poi, poi, poi, poi, poi, poi, poi, poi, poi, poi, poi, poi, poi, poi, poi, poi, poi, poi, poi, poi, poi, poi, poi, poi, poi, poi, poi, poi, poi, poi, poi, poi] = [poi, Value.pointer (some { block := (2 : Nat), off := (0 : Nat) }), poi, poi, poi, Value.int IntKind.i64 (↑s' : Int), poi, poi, poi, poi, poi, poi, poi, poi, poi, poi, poi, poi, poi, poi, poi, poi, poi, poi, poi, poi, poi, poi, poi, poi, poi, poi, poi, poi, poi, poi, poi, poi, poi, poi, poi, poi, poi, poi, poi, poi, poi, poi, poi, poi, poi, poi, poi, poi, poi, poi, poi, poi, poi, poi, poi, poi] ∧ some (AObj.row (flts xs) (1 : Nat) true true true) :: some (AObj.row (ints hs) (2 : Nat) true true true) :: some (AObj.row [Value.string nm, Value.int IntKind.i64 f, Value.slice (some { block := (0 : Nat), off := (0 : Nat) }) n c, Value.slice (some { block := (1 : Nat), off := (0 : Nat) }) k d] (0 : Nat) false true false) :: noH = some (AObj.row (flts xs) (1 : Nat) true true true) :: some (AObj.row (ints hs) (2 : Nat) true true true) :: some (AObj.row [Value.string nm, Value.int IntKind.i64 f, Value.slice (some { block := (0 : Nat), off := (0 : Nat) }) n c, Value.slice (some { block := (1 : Nat), off := (0 : Nat) }) k d] (0 : Nat) false true false) :: noH)) (K (Value.int IntKind.i64 (0 : Int)) (some (AObj.row (flts xs) (1 : Nat) true true true) :: some (AObj.row (ints hs) (2 : Nat) true true true) :: noH))))) (br (fi [wh (!nameB nm) (8 : Int), wi f (0 : Int) (100000000 : Int), fi [wh (decide ((4096 : Int) < (↑n : Int))) (5 : Int), fi (List.map sE xs)], (0 : Int)] != (0 : Int)) (K (Value.int IntKind.i64 (fi [wh (!nameB nm) (8 : Int), wi f (0 : Int) (100000000 : Int), fi [wh (decide ((4096 : Int) < (↑n : Int))) (5 : Int), fi (List.map sE xs)], (0 : Int)])) (some (AObj.row (flts xs) (1 : Nat) true true true) :: some (AObj.row (ints hs) (2 : Nat) true true true) :: noH)) (Is (ints hs = ints hs ∧ List.length hs = k * (2 : Nat) ∧ k ≤ (100000 : Nat)) ∧ br (hchk (↑n : Int) hs (-1 : Int) != (0 : Int)) (K (Value.int IntKind.i64 (hchk (↑n : Int) hs (-1 : Int))) (some (AObj.row (flts xs) (1 : Nat) true true true) :: some (AObj.row (ints hs) (2 : Nat) true true true) :: noH)) ((∃ (s : Nat), Is (s ≤ n ∧ ∀ (j : Nat), j < s → nzB (List.getD xs j (0 : Nat)) = true → knB hs (↑j : Int) = true) ∧ [poi, Value.pointer (some { block := (2 : Nat), off := (0 : Nat) }), poi, poi, poi, Value.int IntKind.i64 (0 : Int), poi, poi, poi, poi, poi, poi, poi, poi, poi, poi, poi, poi, poi, poi, poi, poi, poi, poi, poi, poi, poi, poi, poi, poi, poi, poi, poi, poi, poi, poi, poi, poi, poi, poi, poi, poi, poi, poi, poi, poi, poi, poi, poi, poi, poi, poi, poi, poi, poi, poi, poi, poi, poi, poi, poi, poi] = [poi, Value.pointer (some { block := (2 : Nat), off := (0 : Nat) }), poi, poi, poi, Value.int IntKind.i64 (↑s : Int), poi, poi, poi, poi, poi, poi, poi, poi, poi, poi, poi, poi, poi, poi, poi, poi, poi, poi, poi, poi, poi, poi, poi, poi, poi, poi, poi, poi, poi, poi, poi, poi, poi, poi, poi, poi, poi, poi, poi, poi, poi, poi, poi, poi, poi, poi, poi, poi, poi, poi, poi, poi, poi, poi, poi, poi] ∧ some (AObj.row (flts xs) (1 : Nat) true true true) :: some (AObj.row (ints hs) (2 : Nat) true true true) :: some (AObj.row [Value.string nm, Value.int IntKind.i64 f, Value.slice (some { block := (0 : Nat), off := (0 : Nat) }) n c, Value.slice (some { block := (1 : Nat), off := (0 : Nat) }) k d] (0 : Nat) false true (List.all [Value.string nm, Value.int IntKind.i64 f, Value.slice (some { block := (0 : Nat), off := (0 : Nat) }) n c, Value.slice (some { block := (1 : Nat), off := (0 : Nat) }) k d] atom)) :: noH = some (AObj.row (flts xs) (1 : Nat) true true true) :: some (AObj.row (ints hs) (2 : Nat) true true true) :: some (AObj.row [Value.string nm, Value.int IntKind.i64 f, Value.slice (some { block := (0 : Nat), off := (0 : Nat) }) n c, Value.slice (some { block := (1 : Nat), off := (0 : Nat) }) k d] (0 : Nat) false true false) :: noH) ∧ ∀ (s : Nat), Is (s ≤ n ∧ ∀ (j : Nat), j < s → nzB (List.getD xs j (0 : Nat)) = true → knB hs (↑j : Int) = true) → br (decide ((↑s : Int) < (↑n : Int))) (Is ((0 : Int) ≤ (↑s : Int) ∧ (↑s : Int) < (↑n : Int)) ∧ Is ((flts xs)[(0 : Nat) + Int.toNat (↑s : Int) * (1 : Nat)]? = some (Value.float FloatKind.f32 (List.getD xs ((0 : Nat) + Int.toNat (↑s : Int) * (1 : Nat)) (0 : Nat)))) ∧ Is True ∧ br (fNe (List.getD xs ((0 : Nat) + Int.toNat (↑s : Int) * (1 : Nat)) (0 : Nat)) (0 : Nat)) (Is (isRn0 xs hs k (flts xs) (ints hs)) ∧ br (!knB hs (↑s : Int)) (K (Value.int IntKind.i64 (1 : Int)) (some (AObj.row (flts xs) (1 : Nat) true true true) :: some (AObj.row (ints hs) (2 : Nat) true true true) :: noH)) (∃ (s' : Nat), Is (s' ≤ n ∧ ∀ (j : Nat), j < s' → nzB (List.getD xs j (0 : Nat)) = true → knB hs (↑j : Int) = true) ∧ Is (n - s' < n - s) ∧ [poi, Value.pointer (some { block := (2 : Nat), off := (0 : Nat) }), poi, poi, poi, Value.int IntKind.i64 (IntKind.wrap IntKind.i64 ((↑s : Int) + (1 : Int))), poi, poi, poi, poi, poi, poi, poi, poi, poi, poi, poi, poi, poi, poi, poi, poi, poi, poi, poi, poi, poi, poi, poi, poi, poi, poi, poi, poi, poi, poi, poi, poi, poi, poi, poi, poi, poi, poi, poi, poi, poi, poi, poi, poi, poi, poi, poi, poi, poi, poi, poi, poi, poi, poi, poi, poi] = [poi, Value.pointer (some { block := (2 : Nat), off := (0 : Nat) }), poi, poi, poi, Value.int IntKind.i64 (↑s' : Int), poi, poi, poi, poi, poi, poi, poi, poi, poi, poi, poi, poi, poi, poi, poi, poi, poi, poi, poi, poi, poi, poi, poi, poi, poi, poi, poi, poi, poi, poi, poi, poi, poi, poi, poi, poi, poi, poi, poi, poi, poi, poi, poi, poi, poi, poi, poi, poi, poi, poi, poi, poi, poi, poi, poi, poi] ∧ some (AObj.row (flts xs) (1 : Nat) true true true) :: some (AObj.row (ints hs) (2 : Nat) true true true) :: some (AObj.row [Value.string nm, Value.int IntKind.i64 f, Value.slice (some { block := (0 : Nat), off := (0 : Nat) }) n c, Value.slice (some { block := (1 : Nat), off := (0 : Nat) }) k d] (0 : Nat) false true false) :: noH = some (AObj.row (flts xs) (1 : Nat) true true true) :: some (AObj.row (ints hs) (2 : Nat) true true true) :: some (AObj.row [Value.string nm, Value.int IntKind.i64 f, Value.slice (some { block := (0 : Nat), off := (0 : Nat) }) n c, Value.slice (some { block := (1 : Nat), off := (0 : Nat) }) k d] (0 : Nat) false true false) :: noH)) (∃ (s' : Nat), Is (s' ≤ n ∧ ∀ (j : Nat), j < s' → nzB (List.getD xs j (0 : Nat)) = true → knB hs (↑j : Int) = true) ∧ Is (n - s' < n - s) ∧ [poi, Value.pointer (some { block := (2 : Nat), off := (0 : Nat) }), poi, poi, poi, Value.int IntKind.i64 (IntKind.wrap IntKind.i64 ((↑s : Int) + (1 : Int))), poi, poi, poi, poi, poi, poi, poi, poi, poi, poi, poi, poi, poi, poi, poi, poi, poi, poi, poi, poi, poi, poi, poi, poi, poi, poi, poi, poi, poi, poi, poi, poi, poi, poi, poi, poi, poi, poi, poi, poi, poi, poi, poi, poi, poi, poi, poi, poi, poi, poi, poi, poi, poi, poi, poi, poi] = [poi, Value.pointer (some { block := (2 : Nat), off := (0 : Nat) }), poi, poi, poi, Value.int IntKind.i64 (↑s' : Int), poi, poi, poi, poi, poi, poi, poi, poi, poi, poi, poi, poi, poi, poi, poi, poi, poi, poi, poi, poi, poi, poi, poi, poi, poi, poi, poi, poi, poi, poi, poi, poi, poi, poi, poi, poi, poi, poi, poi, poi, poi, poi, poi, poi, poi, poi, poi, poi, poi, poi, poi, poi, poi, poi, poi, poi] ∧ some (AObj.row (flts xs) (1 : Nat) true true true) :: some (AObj.row (ints hs) (2 : Nat) true true true) :: some (AObj.row [Value.string nm, Value.int IntKind.i64 f, Value.slice (some { block := (0 : Nat), off := (0 : Nat) }) n c, Value.slice (some { block := (1 : Nat), off := (0 : Nat) }) k d] (0 : Nat) false true false) :: noH = some (AObj.row (flts xs) (1 : Nat) true true true) :: some (AObj.row (ints hs) (2 : Nat) true true true) :: some (AObj.row [Value.string nm, Value.int IntKind.i64 f, Value.slice (some { block := (0 : Nat), off := (0 : Nat) }) n c, Value.slice (some { block := (1 : Nat), off := (0 : Nat) }) k d] (0 : Nat) false true false) :: noH)) (K (Value.int IntKind.i64 (0 : Int)) (some (AObj.row (flts xs) (1 : Nat) true true true) :: some (AObj.row (ints hs) (2 : Nat) true true true) :: noH)))))) := by kernel_rfl
set_option maxRecDepth 100000 in
theorem crT_ok {nm : ByteArray} {f : Int} {n c k d : Nat} {xs : List Nat} {hs : List Int} (hn : xs.length = n) (h9 : n ≤ 100000) (hk : hs.length = k * 2) (hk9 : k ≤ 100000) :
    SmallRes Try.prog 9 [.agg (runA nm f 0 n c 1 k d).toArray] (hp2r xs hs true true true true []) (.int .i64 (runE nm f xs n hs)) (hp2r xs hs true true true true []) := by
  refine fnP_res hm cr14_ok (hs := hsCrT nm f n c k d xs hs) ?_
  rw [crT_t, wrap_eq (x := 100000000 - (n : Int)) (by omega) (by omega)]
  have pre : ∀ {b : Bool} {e : Int}, wh b 4 = e → (b = true ↔ (100000000 : Int) < f + n ∧ n ≤ 4096) → runE nm f xs n hs = sel (fi [wh (!nameB nm) 8, wi f 0 100000000, fi [wh (decide ((4096 : Int) < n)) 5, fi (xs.map sE)], e]) (sel (hchk n hs (-1)) (wh (!hzH xs hs) 1)) := by
    intro b e he hb
    subst he
    have e4 : ∀ x : Int, wh (decide ((4096 : Int) < n)) 5 = 0 → fi [fi (xs.map sE), wh (decide ((100000000 : Int) < f + n)) 4] = fi [fi (xs.map sE), wh b 4] := fun _ h => by
      have h := (wh_zero (by decide)).1 h
      have h := of_decide_eq_false h
      have : decide ((100000000 : Int) < f + n) = b := by
        rw [Bool.eq_iff_iff, decide_eq_true_iff, hb]
        exact ⟨fun h1 => ⟨h1, by omega⟩, fun h1 => h1.1⟩
      rw [this]
    rw [runE]
    by_cases h1 : wh (!nameB nm) 8 = 0
    · by_cases h2 : wi f 0 100000000 = 0
      · by_cases h3 : wh (decide ((4096 : Int) < n)) 5 = 0
        · rw [e4 0 h3]
          by_cases h4 : fi (xs.map sE) = 0 <;> simp [fi, h1, h2, h3, h4, sel]
        · simp [fi, h1, h2, h3, sel]
      · simp [fi, h1, h2, sel]
    · simp [fi, h1, sel]
  have go : ∀ {e : Int}, runE nm f xs n hs = sel e (sel (hchk n hs (-1)) (wh (!hzH xs hs) 1)) → e = 0 → hchk n hs (-1) = 0 → runE nm f xs n hs = wh (!hzH xs hs) 1 := fun h h1 h2 => by rw [h, h1, h2]; rfl
  have yes : runE nm f xs n hs = wh (!hzH xs hs) 1 → hchk n hs (-1) = 0 → (∀ j, j < n → nzB (xs.getD j 0) = true → knB hs (j : Int) = true) → runE nm f xs n hs = 0 := fun h h1 h2 => by
    subst hn
    rw [h, (hz_iff hs (-1) h1).2 h2]; rfl
  have no : runE nm f xs n hs = wh (!hzH xs hs) 1 → hchk n hs (-1) = 0 → ∀ j, j < n → nzB (xs.getD j 0) = true → knB hs (j : Int) = false → runE nm f xs n hs = 1 := fun h h1 j hj h2 h3 => by
    subst hn
    have : hzH xs hs = false := by
      cases hz : hzH xs hs
      · rfl
      · rw [(hz_iff hs (-1) h1).1 hz j hj h2] at h3; cases h3
    rw [h, this]; rfl
  refine ⟨⟨rfl, hn, h9⟩, br_of (fun hb => ?_) (fun hb => ?_)⟩
  case' refine_1 => have P := pre (b := decide ((n : Int) ≤ 4096)) rfl (by rw [decide_eq_true_iff]; have := of_decide_eq_true hb; omega)
  case' refine_2 => have P := pre (b := false) (e := 0) rfl (by have := of_decide_eq_false hb; constructor <;> intro h; cases h; omega)
  all_goals
    refine br_of (fun h => ?_) (fun h => ⟨⟨rfl, hk, hk9⟩, br_of (fun h2 => ?_) (fun h2 => ?_)⟩)
    · rw [P]
      rw [sel_ne h]
      exact ⟨by first | trivial | rfl, by first | trivial | rfl⟩
    · rw [P]
      rw [sel_eq h, sel_ne h2]
      exact ⟨by first | trivial | rfl, by first | trivial | rfl⟩
    have h2' : hchk n hs (-1) = 0 := by simpa using h2
    have h0 : runE nm f xs n hs = wh (!hzH xs hs) 1 := go P (by simpa using h) h2'
    refine ⟨⟨(0 : Nat), ⟨by omega, fun j hj => by omega⟩, by first | trivial | rfl, by first | trivial | rfl⟩, fun s hs' => br_of (fun hc => ?_) (fun hc => ?_)⟩
    · have hc := lt_of_dec hc
      obtain ⟨i1, i2⟩ := hs'.out
      simp only [Nat.zero_add, Nat.mul_one, Int.toNat_natCast]
      have next : (nzB (xs.getD s 0) = true → knB hs (s : Int) = true) → ∀ j, j < s + 1 → nzB (xs.getD j 0) = true → knB hs (j : Int) = true := fun h j hj hz => by
        rcases Nat.lt_succ_iff_lt_or_eq.1 hj with h' | rfl
        · exact i2 j h' hz
        · exact h hz
      refine ⟨⟨by omega, by omega⟩, ⟨flts_at (by omega)⟩, ⟨trivial⟩, br_of (fun hz => ⟨⟨rfl, rfl, hk, hk9⟩, br_of (fun hkn => ?_) (fun hkn => ⟨s + 1, ⟨hc, next fun _ => by simpa using hkn⟩, ⟨by omega⟩, by rw [up1 hc (by omega)], by first | trivial | rfl⟩)⟩) (fun hz => ⟨s + 1, ⟨hc, next fun h => ?_⟩, ⟨by omega⟩, by rw [up1 hc (by omega)], by first | trivial | rfl⟩)⟩
      · rw [no h0 h2' s hc hz (by simpa using hkn)]
        exact ⟨by first | trivial | rfl, by first | trivial | rfl⟩
      · have hz : nzB (xs.getD s 0) = false := hz
        rw [hz] at h; cases h
    · have hc := ge_of_dec hc
      obtain ⟨i1, i2⟩ := hs'.out
      rw [yes h0 h2' (fun j hj => i2 j (by omega))]
      exact ⟨by first | trivial | rfl, by first | trivial | rfl⟩
noncomputable def orcCrT (xs : List Nat) (hs : List Int) : OrcV
  | [.agg ⟨[.string nm, .int .i64 f, .slice (some ⟨0, 0, none⟩) n _, .slice (some ⟨1, 0, none⟩) k _]⟩], [some (.row e1 1 true true true), some (.row e2 2 true true true)] =>
    some (.int .i64 (runE nm f xs n hs), [some (.row e1 1 true true true), some (.row e2 2 true true true)], isRun xs hs n k e1 e2)
  | _, _ => none
theorem okCrT (xs : List Nat) (hs : List Int) : OkV Try.prog 9 (orcCrT xs hs) := by
  intro args H ret H' vc h hv
  unfold orcCrT at h
  split at h
  · cases h
    obtain ⟨rfl, rfl, h1, h2, h3, h4⟩ := hv
    exact crT_ok h1 h2 h3 h4
  · cases h
end
end Qq
end
section
/- Growths and the spans where two runs are apart: plain facts. -/
open Go Go.Vm Go.Proofs Sp
namespace Sp
noncomputable section
/-- The spans of the places that are told by P. -/
noncomputable def sG (P : Nat → Bool) (f : Int) : Nat → List (Int × Int)
  | 0 => []
  | i + 1 => if P i = true then aStep (sG P f i) (f + i) else sG P f i
def pr2 (g : Int × Int × Int) : Int × Int := (g.1, g.2.1)
def sh3 (b : Int) (g : Int × Int × Int) : Int × Int × Int := (g.1 + b, g.2.1 + b, g.2.2)
/-- The spans of growths, so many of them. -/
def spL (L : List Int) : Nat → List Int
  | 0 => []
  | s + 1 => spL L s ++ [L.getD (s * 3) 0, L.getD (s * 3 + 1) 0]
def inS (L : List Int) (n : Nat) (p q : Int) : Prop := ∃ j, j < n ∧ L.getD (j * 2) 0 ≤ p ∧ q ≤ L.getD (j * 2 + 1) 0
end
end Sp
namespace Qq
noncomputable section
theorem last_app {α : Type} (l : List α) (x d : α) : (l ++ [x]).getD ((l ++ [x]).length - 1) d = x := by
  rw [List.length_append, List.length_singleton, Nat.add_sub_cancel, List.getD_eq_getElem?_getD, List.getElem?_append_right (Nat.le_refl _), Nat.sub_self]; rfl
theorem aStep_cases (l : List (Int × Int)) (a : Int) :
    (∃ r x, l = r ++ [x] ∧ x.2 = a ∧ aStep l a = r ++ [(x.1, a + 1)]) ∨ (aStep l a = l ++ [(a, a + 1)] ∧ ∀ r x, l = r ++ [x] → x.2 ≠ a) := by
  rw [aStep]
  by_cases h : 0 < l.length ∧ (l.getD (l.length - 1) (0, 0)).2 = a
  · rw [if_pos h]
    exact .inl ⟨_, _, lastp_split h.1, h.2, rfl⟩
  · rw [if_neg h]
    refine .inr ⟨rfl, fun r x e hx => h ?_⟩
    subst e
    rw [last_app]
    exact ⟨by simp, hx⟩
/-- What the spans are: intervals of told places; all intervals are covered; the last one ends here if the place before is told. -/
structure SInv (P : Nat → Bool) (f : Int) (l : List (Int × Int)) (i : Nat) : Prop where
  snd : ∀ p ∈ l, ∃ a b, a < b ∧ b ≤ i ∧ p.1 = f + (a : Nat) ∧ p.2 = f + (b : Nat) ∧ ∀ j, a ≤ j → j < b → P j = true
  cov : ∀ a b, a < b → b ≤ i → (∀ j, a ≤ j → j < b → P j = true) → ∃ p ∈ l, p.1 ≤ f + (a : Nat) ∧ f + (b : Nat) ≤ p.2
  lst : ∀ a, a < i → (∀ j, a ≤ j → j < i → P j = true) → ∃ r x, l = r ++ [x] ∧ x.1 ≤ f + (a : Nat) ∧ x.2 = f + (i : Nat)
theorem sG_inv (P : Nat → Bool) (f : Int) : ∀ i, SInv P f (sG P f i) i
  | 0 => ⟨fun p h => (by rw [sG] at h; cases h), fun a b h1 h2 => by omega, fun a h => by omega⟩
  | i + 1 => by
    have I := sG_inv P f i
    rw [sG]
    by_cases hp : P i = true
    · rw [if_pos hp]
      rcases aStep_cases (sG P f i) (f + i) with ⟨r, x, e1, e2, e3⟩ | ⟨e3, e4⟩
      · rw [e3]
        obtain ⟨a0, b0, h1, h2, h3, h4, h5⟩ := I.snd x (by rw [e1]; simp)
        have hb : b0 = i := by omega
        subst hb
        have lst : ∀ a, a < b0 + 1 → (∀ j, a ≤ j → j < b0 + 1 → P j = true) → ∃ r' x', r ++ [(x.1, f + (b0 : Int) + 1)] = r' ++ [x'] ∧ x'.1 ≤ f + (a : Nat) ∧ x'.2 = f + ((b0 + 1 : Nat) : Int) := fun a ha hj => by
          refine ⟨r, _, rfl, ?_, by simp only; omega⟩
          by_cases h : a < b0
          · obtain ⟨r2, x2, q1, q2, q3⟩ := I.lst a h fun j q1 q2 => hj j q1 (by omega)
            rw [e1] at q1
            have := List.append_inj_right' q1 rfl
            rw [List.cons.injEq] at this
            rw [this.1]; exact q2
          · simp only; omega
        refine ⟨fun p hp2 => ?_, fun a b hab hb hj => ?_, lst⟩
        · rw [List.mem_append, List.mem_singleton] at hp2
          rcases hp2 with h | rfl
          · obtain ⟨a, b, q1, q2, q3⟩ := I.snd p (by rw [e1]; simp [h])
            exact ⟨a, b, q1, by omega, q3⟩
          · refine ⟨a0, b0 + 1, by omega, by omega, h3, by simp only; omega, fun j q1 q2 => ?_⟩
            by_cases e : j = b0
            · subst e; exact hp
            · exact h5 j q1 (by omega)
        · by_cases e : b = b0 + 1
          · subst e
            obtain ⟨r', x', q1, q2, q3⟩ := lst a hab hj
            exact ⟨x', by rw [q1]; simp, q2, by omega⟩
          · obtain ⟨p, q1, q2, q3⟩ := I.cov a b hab (by omega) hj
            rw [e1, List.mem_append, List.mem_singleton] at q1
            rcases q1 with q1 | rfl
            · exact ⟨p, by simp [q1], q2, q3⟩
            · exact ⟨(p.1, f + (b0 : Int) + 1), List.mem_append.2 (.inr (List.mem_singleton.2 rfl)), q2, by simp only; omega⟩
      · rw [e3]
        have lst : ∀ a, a < i + 1 → (∀ j, a ≤ j → j < i + 1 → P j = true) → ∃ r' x', sG P f i ++ [(f + (i : Int), f + (i : Int) + 1)] = r' ++ [x'] ∧ x'.1 ≤ f + (a : Nat) ∧ x'.2 = f + ((i + 1 : Nat) : Int) := fun a ha hj => by
          refine ⟨_, _, rfl, ?_, by simp only; omega⟩
          by_cases h : a < i
          · obtain ⟨r2, x2, q1, q2, q3⟩ := I.lst a h fun j q1 q2 => hj j q1 (by omega)
            exact absurd q3 (e4 r2 x2 q1)
          · simp only; omega
        refine ⟨fun p hp2 => ?_, fun a b hab hb hj => ?_, lst⟩
        · rw [List.mem_append, List.mem_singleton] at hp2
          rcases hp2 with h | rfl
          · obtain ⟨a, b, q1, q2, q3⟩ := I.snd p h
            exact ⟨a, b, q1, by omega, q3⟩
          · refine ⟨i, i + 1, by omega, by omega, rfl, by simp only; omega, fun j q1 q2 => ?_⟩
            have : j = i := by omega
            subst this; exact hp
        · by_cases e : b = i + 1
          · subst e
            obtain ⟨r', x', q1, q2, q3⟩ := lst a hab hj
            exact ⟨x', by rw [q1]; simp, q2, by omega⟩
          · obtain ⟨p, q1, q2, q3⟩ := I.cov a b hab (by omega) hj
            exact ⟨p, by simp [q1], q2, q3⟩
    · rw [if_neg hp]
      refine ⟨fun p h => ?_, fun a b hab hb hj => ?_, fun a ha hj => absurd (hj i (by omega) (by omega)) hp⟩
      · obtain ⟨a, b, q1, q2, q3⟩ := I.snd p h
        exact ⟨a, b, q1, by omega, q3⟩
      · by_cases e : b = i + 1
        · subst e
          exact absurd (hj i (by omega) (by omega)) hp
        · exact I.cov a b hab (by omega) hj
/-- What is told by P lies within what is told by Q. -/
theorem sG_in {P Q : Nat → Bool} {f : Int} {n : Nat} (h : ∀ i, i < n → P i = true → Q i = true) {p : Int × Int} (hp : p ∈ sG P f n) : ∃ q ∈ sG Q f n, q.1 ≤ p.1 ∧ p.2 ≤ q.2 := by
  obtain ⟨a, b, h1, h2, h3, h4, h5⟩ := (sG_inv P f n).snd p hp
  obtain ⟨q, q1, q2, q3⟩ := (sG_inv Q f n).cov a b h1 h2 fun j j1 j2 => h j (by omega) (h5 j j1 j2)
  exact ⟨q, q1, by omega, by omega⟩
theorem aG_sG (xs ys : List Nat) (gs : List Int) (f b : Int) : ∀ i, aG xs ys gs f b i = sG (aB xs ys gs b) f i
  | 0 => by rw [aG, sG]
  | i + 1 => by rw [aG, sG, aG_sG xs ys gs f b i]
noncomputable def gB (xs ys : List Nat) (gs : List Int) (b0 b1 : Int) (i : Nat) : Bool := knB gs (i : Int) && decide (0 < gV xs ys b0 b1 i)
theorem gB_iff {xs ys : List Nat} {gs : List Int} {b0 b1 : Int} {i : Nat} : gB xs ys gs b0 b1 i = true ↔ knB gs (i : Int) = true ∧ 0 < gV xs ys b0 b1 i := by
  rw [gB, Bool.and_eq_true, decide_eq_true_eq]
theorem gStep_cases (l : List (Int × Int × Int)) (a v : Int) :
    (∃ r x, l = r ++ [x] ∧ x.2.1 = a ∧ gStep l a v = r ++ [(x.1, a + 1, if v > x.2.2 then v else x.2.2)]) ∨ (gStep l a v = l ++ [(a, a + 1, v)] ∧ ∀ r x, l = r ++ [x] → x.2.1 ≠ a) := by
  rw [gStep]
  by_cases h : 0 < l.length ∧ (l.getD (l.length - 1) (0, 0, 0)).2.1 = a
  · rw [if_pos h]
    exact .inl ⟨_, _, last_split h.1, h.2, rfl⟩
  · rw [if_neg h]
    refine .inr ⟨rfl, fun r x e hx => h ?_⟩
    subst e
    rw [last_app]
    exact ⟨by simp, hx⟩
theorem app_last {α : Type} {r r' : List α} {x x' : α} (h : r ++ [x] = r' ++ [x']) : r = r' ∧ x = x' := by
  have h1 := List.append_inj' h rfl
  exact ⟨h1.1, by simpa using h1.2⟩
theorem gStep_pr (l : List (Int × Int × Int)) (a v : Int) : (gStep l a v).map pr2 = aStep (l.map pr2) a := by
  rcases gStep_cases l a v with ⟨r, x, e1, e2, e3⟩ | ⟨e3, e4⟩
  · rw [e3]
    rcases aStep_cases (l.map pr2) a with ⟨r', x', f1, f2, f3⟩ | ⟨f3, f4⟩
    · rw [f3]
      rw [e1, List.map_append] at f1
      obtain ⟨h1, h2⟩ := app_last f1
      rw [List.map_append, h1, ← h2]; rfl
    · exact absurd e2 (f4 (r.map pr2) (pr2 x) (by rw [e1, List.map_append]; rfl))
  · rw [e3]
    rcases aStep_cases (l.map pr2) a with ⟨r', x', f1, f2, f3⟩ | ⟨f3, f4⟩
    · rcases List.eq_nil_or_concat l with rfl | ⟨s, y, rfl⟩
      · simp at f1
      · rw [List.concat_eq_append, List.map_append] at f1
        obtain ⟨h1, h2⟩ := app_last f1
        rw [← h2] at f2
        exact absurd f2 (e4 s y (by simp))
    · rw [f3, List.map_append]; rfl
theorem gG_pr (xs ys : List Nat) (gs : List Int) (f b0 b1 : Int) : ∀ i, (gG xs ys gs f b0 b1 i).map pr2 = sG (gB xs ys gs b0 b1) f i
  | 0 => by rw [gG, sG]; rfl
  | i + 1 => by
    rw [gG, sG]
    by_cases h : knB gs (i : Int) = true ∧ 0 < gV xs ys b0 b1 i
    · rw [if_pos h, if_pos (gB_iff.2 h), gStep_pr, gG_pr xs ys gs f b0 b1 i]
    · rw [if_neg h, if_neg (fun h2 => h (gB_iff.1 h2)), gG_pr xs ys gs f b0 b1 i]
theorem gG_least (xs ys : List Nat) (gs : List Int) (f b0 b1 : Int) : ∀ i, ∀ q ∈ gG xs ys gs f b0 b1 i, 1 ≤ q.2.2
  | 0 => fun q h => by rw [gG] at h; cases h
  | i + 1 => fun q hq => by
    have I := gG_least xs ys gs f b0 b1 i
    rw [gG] at hq
    by_cases h : knB gs (i : Int) = true ∧ 0 < gV xs ys b0 b1 i
    · rw [if_pos h] at hq
      rcases gStep_cases (gG xs ys gs f b0 b1 i) (f + i) (gV xs ys b0 b1 i) with ⟨r, x, e1, e2, e3⟩ | ⟨e3, e4⟩
      · rw [e3, List.mem_append, List.mem_singleton] at hq
        rcases hq with h1 | rfl
        · exact I q (by rw [e1]; simp [h1])
        · have := I x (by rw [e1]; simp)
          show 1 ≤ if gV xs ys b0 b1 i > x.2.2 then gV xs ys b0 b1 i else x.2.2
          split <;> omega
      · rw [e3, List.mem_append, List.mem_singleton] at hq
        rcases hq with h1 | rfl
        · exact I q h1
        · show 1 ≤ gV xs ys b0 b1 i
          omega
    · rw [if_neg h] at hq
      exact I q hq
theorem gStep_sh (l : List (Int × Int × Int)) (a v b : Int) : gStep (l.map (sh3 b)) (a + b) v = (gStep l a v).map (sh3 b) := by
  rcases gStep_cases l a v with ⟨r, x, e1, e2, e3⟩ | ⟨e3, e4⟩
  · rw [e3]
    rcases gStep_cases (l.map (sh3 b)) (a + b) v with ⟨r', x', f1, f2, f3⟩ | ⟨f3, f4⟩
    · rw [f3]
      rw [e1, List.map_append] at f1
      obtain ⟨h1, h2⟩ := app_last f1
      rw [List.map_append, h1, ← h2]
      show r' ++ [(x.1 + b, a + b + 1, if v > x.2.2 then v else x.2.2)] = r' ++ [(x.1 + b, a + 1 + b, if v > x.2.2 then v else x.2.2)]
      rw [show a + b + 1 = a + 1 + b by omega]
    · exact absurd (show (sh3 b x).2.1 = a + b by rw [sh3, e2]) (f4 (r.map (sh3 b)) (sh3 b x) (by rw [e1, List.map_append]; rfl))
  · rw [e3]
    rcases gStep_cases (l.map (sh3 b)) (a + b) v with ⟨r', x', f1, f2, f3⟩ | ⟨f3, f4⟩
    · rcases List.eq_nil_or_concat l with rfl | ⟨s, y, rfl⟩
      · simp at f1
      · rw [List.concat_eq_append, List.map_append] at f1
        obtain ⟨h1, h2⟩ := app_last f1
        rw [← h2] at f2
        exact absurd (by have : y.2.1 + b = a + b := f2; omega) (e4 s y (by simp))
    · rw [f3, List.map_append]
      show _ = List.map (sh3 b) l ++ [(a + b, a + 1 + b, v)]
      rw [show a + b + 1 = a + 1 + b by omega]
theorem gG_sh (xs ys : List Nat) (gs : List Int) (f b0 b1 b : Int) : ∀ i, gG xs ys gs (f + b) b0 b1 i = (gG xs ys gs f b0 b1 i).map (sh3 b)
  | 0 => by rw [gG, gG]; rfl
  | i + 1 => by
    rw [gG, gG, gG_sh xs ys gs f b0 b1 b i]
    split
    · rw [show f + b + (i : Int) = f + i + b by omega, gStep_sh]
    · rfl
theorem gG_self {xs : List Nat} {f b0 b1 : Int} (h0 : 0 ≤ b0) (h1 : 0 ≤ b1) : ∀ i, gG xs xs [] f b0 b1 i = []
  | 0 => by rw [gG]
  | i + 1 => by
    rw [gG, gG_self h0 h1 i, if_neg]
    rintro ⟨_, h⟩
    rw [gV] at h
    omega
/-- The n-th growth, from the flat list. -/
theorem gF_at (xs ys : List Nat) (gs : List Int) (f b0 b1 : Int) (i : Nat) {q : Nat} (h : q < gN xs ys gs f b0 b1 i) :
    ∃ g ∈ gG xs ys gs f b0 b1 i, (gF xs ys gs f b0 b1 i).getD (q * 3) 0 = g.1 ∧ (gF xs ys gs f b0 b1 i).getD (q * 3 + 1) 0 = g.2.1 ∧ (gF xs ys gs f b0 b1 i).getD (q * 3 + 2) 0 = g.2.2 := by
  obtain ⟨h1, h2, h3⟩ := fl3_at _ q h
  refine ⟨_, ?_, h1, h2, h3⟩
  rw [List.getD_eq_getElem?_getD, List.getElem?_eq_getElem (show q < (gG xs ys gs f b0 b1 i).length from h)]
  exact List.getElem_mem _
theorem flp_mem {l : List (Int × Int)} {p : Int × Int} (h : p ∈ l) : ∃ j, j < l.length ∧ (flp l).getD (j * 2) 0 = p.1 ∧ (flp l).getD (j * 2 + 1) 0 = p.2 := by
  obtain ⟨j, hj, rfl⟩ := List.getElem_of_mem h
  obtain ⟨h1, h2⟩ := flp_at l j hj
  have e : l.getD j (0, 0) = l[j] := by rw [List.getD_eq_getElem?_getD, List.getElem?_eq_getElem hj]; rfl
  rw [e] at h1 h2
  exact ⟨j, hj, h1, h2⟩
theorem spL_eq (l : List (Int × Int × Int)) : ∀ s, s ≤ l.length → spL (fl3 l) s = flp ((l.take s).map pr2)
  | 0, _ => by rw [spL]; rfl
  | s + 1, h => by
    obtain ⟨h1, h2, _⟩ := fl3_at l s (by omega)
    rw [spL, spL_eq l s (by omega), h1, h2, List.take_add_one, List.map_append, flp_app, List.getD_eq_getElem?_getD, List.getElem?_eq_getElem (by omega)]
    rfl
theorem spL_len (L : List Int) : ∀ s, (spL L s).length = s * 2
  | 0 => rfl
  | s + 1 => by rw [spL, List.length_append, spL_len L s]; simp only [List.length_cons, List.length_nil]; omega
/-- A growth lies where the runs are apart. -/
theorem gr_in {xs ys : List Nat} {gs : List Int} {f b0 b1 l : Int} {n q : Nat} (hl : l = b0 + b1) (h : q < gN xs ys gs f b0 b1 n) :
    inS (aF xs ys gs f l n) (aN xs ys gs f l n) ((gF xs ys gs f b0 b1 n).getD (q * 3) 0) ((gF xs ys gs f b0 b1 n).getD (q * 3 + 1) 0) := by
  obtain ⟨g, g1, g2, g3, _⟩ := gF_at xs ys gs f b0 b1 n h
  rw [g2, g3]
  have hm : pr2 g ∈ sG (gB xs ys gs b0 b1) f n := by rw [← gG_pr]; exact List.mem_map.2 ⟨g, g1, rfl⟩
  obtain ⟨p, p1, p2, p3⟩ := sG_in (P := gB xs ys gs b0 b1) (Q := aB xs ys gs l) (fun i _ hi => by
    obtain ⟨h1, h2⟩ := gB_iff.1 hi
    rw [aB, h1, Bool.true_and, decide_eq_true_eq, farI]
    rw [gV, absI, absI] at h2
    omega) hm
  rw [← aG_sG] at p1
  obtain ⟨j, j1, j2, j3⟩ := flp_mem p1
  exact ⟨j, j1, by rw [aF, j2]; exact p2, by rw [aF, j3]; exact p3⟩
/-- With wider bands nothing more has grown. -/
theorem gr_wide {xs ys : List Nat} {gs : List Int} {f b0 b1 c0 : Int} {n q : Nat} (hc : b0 ≤ c0) (h : q < gN xs ys gs f c0 b1 n) :
    inS (spL (gF xs ys gs f b0 b1 n) (gN xs ys gs f b0 b1 n)) (gN xs ys gs f b0 b1 n) ((gF xs ys gs f c0 b1 n).getD (q * 3) 0) ((gF xs ys gs f c0 b1 n).getD (q * 3 + 1) 0) := by
  obtain ⟨g, g1, g2, g3, _⟩ := gF_at xs ys gs f c0 b1 n h
  rw [g2, g3]
  have hm : pr2 g ∈ sG (gB xs ys gs c0 b1) f n := by rw [← gG_pr]; exact List.mem_map.2 ⟨g, g1, rfl⟩
  obtain ⟨p, p1, p2, p3⟩ := sG_in (P := gB xs ys gs c0 b1) (Q := gB xs ys gs b0 b1) (fun i _ hi => by
    obtain ⟨h1, h2⟩ := gB_iff.1 hi
    refine gB_iff.2 ⟨h1, ?_⟩
    rw [gV] at h2 ⊢
    omega) hm
  rw [← gG_pr] at p1
  obtain ⟨j, j1, j2, j3⟩ := flp_mem p1
  rw [List.length_map] at j1
  have e : spL (gF xs ys gs f b0 b1 n) (gN xs ys gs f b0 b1 n) = flp ((gG xs ys gs f b0 b1 n).map pr2) := by
    rw [gF, gN, spL_eq _ _ (Nat.le_refl _), List.take_length]
  exact ⟨j, j1, by rw [e, j2]; exact p2, by rw [e, j3]; exact p3⟩
theorem gr_least {xs ys : List Nat} {gs : List Int} {f b0 b1 : Int} {n q : Nat} (h : q < gN xs ys gs f b0 b1 n) : 1 ≤ (gF xs ys gs f b0 b1 n).getD (q * 3 + 2) 0 := by
  obtain ⟨g, g1, _, _, g4⟩ := gF_at xs ys gs f b0 b1 n h
  rw [g4]
  exact gG_least xs ys gs f b0 b1 n g g1
theorem gr_shN (xs ys : List Nat) (gs : List Int) (f b0 b1 b : Int) (n : Nat) : gN xs ys gs (f + b) b0 b1 n = gN xs ys gs f b0 b1 n := by
  rw [gN, gN, gG_sh, List.length_map]
theorem gr_shF {xs ys : List Nat} {gs : List Int} {f b0 b1 b : Int} {n q : Nat} (h : q < gN xs ys gs f b0 b1 n) :
    (gF xs ys gs (f + b) b0 b1 n).getD (q * 3) 0 = (gF xs ys gs f b0 b1 n).getD (q * 3) 0 + b ∧ (gF xs ys gs (f + b) b0 b1 n).getD (q * 3 + 1) 0 = (gF xs ys gs f b0 b1 n).getD (q * 3 + 1) 0 + b ∧ (gF xs ys gs (f + b) b0 b1 n).getD (q * 3 + 2) 0 = (gF xs ys gs f b0 b1 n).getD (q * 3 + 2) 0 := by
  obtain ⟨h1, h2, h3⟩ := fl3_at (gG xs ys gs f b0 b1 n) q h
  have h' : q < gN xs ys gs (f + b) b0 b1 n := by rw [gr_shN]; exact h
  obtain ⟨k1, k2, k3⟩ := fl3_at (gG xs ys gs (f + b) b0 b1 n) q h'
  rw [gF, gF, h1, h2, h3, k1, k2, k3, gG_sh]
  have e : ((gG xs ys gs f b0 b1 n).map (sh3 b)).getD q (0, 0, 0) = sh3 b ((gG xs ys gs f b0 b1 n).getD q (0, 0, 0)) := by
    have h : q < (gG xs ys gs f b0 b1 n).length := h
    rw [List.getD_eq_getElem?_getD, List.getD_eq_getElem?_getD, List.getElem?_map, List.getElem?_eq_getElem h]; rfl
  rw [e]
  exact ⟨rfl, rfl, rfl⟩
/-- The places of a growth are small numbers. -/
theorem gr_small {xs ys : List Nat} {gs : List Int} {f b0 b1 : Int} {n q : Nat} (h : q < gN xs ys gs f b0 b1 n) :
    f ≤ (gF xs ys gs f b0 b1 n).getD (q * 3) 0 ∧ (gF xs ys gs f b0 b1 n).getD (q * 3) 0 ≤ f + n ∧ f ≤ (gF xs ys gs f b0 b1 n).getD (q * 3 + 1) 0 ∧ (gF xs ys gs f b0 b1 n).getD (q * 3 + 1) 0 ≤ f + n := by
  obtain ⟨g, g1, g2, g3, _⟩ := gF_at xs ys gs f b0 b1 n h
  rw [g2, g3]
  have hm : pr2 g ∈ sG (gB xs ys gs b0 b1) f n := by rw [← gG_pr]; exact List.mem_map.2 ⟨g, g1, rfl⟩
  obtain ⟨a, b, h1, h2, h3, h4, _⟩ := (sG_inv (gB xs ys gs b0 b1) f n).snd _ hm
  have h3 : g.1 = f + (a : Int) := h3
  have h4 : g.2.1 = f + (b : Int) := h4
  omega
end
end Qq
end
section
/- Runs moved; small runs; runs compared. -/
open Go Go.Vm Go.Proofs Sp
namespace Sp
noncomputable section
/-- The first so many samples are small. -/
def smS (xs : List Nat) (s : Nat) : Prop := ∀ j, j < s → fGt (xs.getD j 0) 1148846080 = false ∧ fLt (xs.getD j 0) 3296329728 = false
noncomputable def isSr (xs : List Nat) (hs : List Int) (e1 e2 e3 e4 : List Value) : Prop := e1 = flts xs ∧ e3 = flts xs ∧ e2 = ints hs ∧ e4 = ints hs
instance (xs : List Nat) (s : Nat) : Decidable (smS xs s) := inferInstanceAs (Decidable (∀ j, j < s → fGt (xs.getD j 0) 1148846080 = false ∧ fLt (xs.getD j 0) 3296329728 = false))
end
end Sp
namespace Qq
noncomputable section
noncomputable def hsCl2 : Hs Try.prog where
  op y := if y = 302 then some (hAe Try.prog true) else none
  nd y := if y = 101 then some (hNil Try.prog) else none
  rn := [.slot 0 2]
theorem cl20_t (d : Nat) (m : Bool) (w : Bool) (K : Value → Heap → Prop) :
    (fnP Try.prog c0 hsCl2 (21 : FuncId) [Value.slice (some { block := (0 : Nat), off := (0 : Nat) }) (0 : Nat) d] [some (AObj.row [] (2 : Nat) m w true)] K) =
    (∀ (x : Bool), Is (x = true → (0 : Nat) = (0 : Nat)) → br x (K (Value.slice (some { block := (1 : Nat), off := (0 : Nat) }) (0 : Nat) (0 : Nat)) (some (AObj.row [] (2 : Nat) m w true) :: some (AObj.row [] (2 : Nat) true true true) :: noH)) (Is ((0 : Nat) = (0 : Nat) ∧ (∀ (v : Value), v ∈ [] → atom v = true) ∧ (0 : Nat) ≤ (140737488355328 : Nat) ∧ (0 : Nat) ≤ (9223372036854775807 : Nat)) ∧ K (Value.slice (some { block := (1 : Nat), off := (0 : Nat) }) (0 : Nat) (0 : Nat)) (some (AObj.row [] (2 : Nat) m w true) :: some (AObj.row [] (2 : Nat) true true true) :: noH))) := by kernel_rfl
theorem cl21_t (es : List Value) (k : Nat) (d : Nat) (m : Bool) (w : Bool) (K : Value → Heap → Prop) :
    (fnP Try.prog c0 hsCl2 (21 : FuncId) [Value.slice (some { block := (0 : Nat), off := (0 : Nat) }) (k + (1 : Nat)) d] [some (AObj.row es (2 : Nat) m w true)] K) =
    (∀ (x : Bool), Is (x = true → k + (1 : Nat) = (0 : Nat)) → br x (K (Value.slice (some { block := (1 : Nat), off := (0 : Nat) }) (0 : Nat) (0 : Nat)) (some (AObj.row es (2 : Nat) m w true) :: some (AObj.row [] (2 : Nat) true true true) :: noH)) (Is (List.length es = (k + (1 : Nat)) * (2 : Nat) ∧ (∀ (v : Value), v ∈ es → atom v = true) ∧ (k + (1 : Nat)) * (16 : Nat) ≤ (140737488355328 : Nat) ∧ k + (1 : Nat) ≤ (9223372036854775807 : Nat)) ∧ K (Value.slice (some { block := (1 : Nat), off := (0 : Nat) }) (k + (1 : Nat)) (0 : Nat)) (some (AObj.row es (2 : Nat) m w true) :: some (AObj.row es (2 : Nat) true true true) :: noH))) := by kernel_rfl
noncomputable def orcCl2 : OrcV
  | [.slice (some ⟨0, 0, none⟩) k _d], [some (.row es 2 m w true)] => some (.slice (some ⟨1, 0, none⟩) k 0, [some (.row es 2 m w true), some (.row es 2 true true true)], es.length = k * 2 ∧ Sp.atoms es ∧ k ≤ 100000)
  | _, _ => none
theorem okCl2 : OkV Try.prog 21 orcCl2 := by
  intro args H ret H' vc h hv
  unfold orcCl2 at h
  split at h
  · rename_i k d es m w
    cases h
    obtain ⟨h1, h2, h3⟩ := hv
    match k with
    | 0 =>
      have e0 : es = [] := List.eq_nil_of_length_eq_zero (by omega)
      subst e0
      refine fnP_res hm c0_ok (hs := hsCl2) ?_
      rw [cl20_t]
      exact fun x _ => br_of (fun _ => ⟨by first | trivial | rfl, by first | trivial | rfl⟩) (fun _ => ⟨⟨by first | trivial | rfl, fun v hv => (by cases hv), by omega, by omega⟩, by first | trivial | rfl, by first | trivial | rfl⟩)
    | k + 1 =>
      refine fnP_res hm c0_ok (hs := hsCl2) ?_
      rw [cl21_t]
      refine fun x hx => br_of (fun hb => ?_) (fun _ => ⟨⟨h1, h2, by omega, by omega⟩, by first | trivial | rfl, by first | trivial | rfl⟩)
      have := hx.out hb
      omega
  · cases h
noncomputable def zfl (n : Nat) : List Value := flts (List.replicate n 0)
theorem zfl_ok (n : Nat) : Sp.zeroCells (.float .f32 0) (n * 1) (zfl n) := by
  unfold Sp.zeroCells zfl zrow
  refine List.ext_getElem? fun i => ?_
  by_cases hi : i < n
  · simp [flts, Value.cells, hi, Nat.mod_one]
  · rw [List.getElem?_eq_none (by simp; omega), List.getElem?_eq_none (by simp [flts]; omega)]
noncomputable def hsMv (xs : List Nat) (hs : List Int) : Hs Try.prog where
  op y := if y = 603 then some (hMk Try.prog zfl) else if y = 704 then some (hCp Try.prog) else if y = 101 then some (hCa Try.prog 19 (orcCrP xs hs) (okCrP xs hs)) else if y = 802 then some (hCa Try.prog 21 orcCl2 okCl2) else none
  sm := true
  au := auCalls []
theorem mv_t (nm : ByteArray) (f : Int) (by' : Int) (n : Nat) (c : Nat) (k : Nat) (d : Nat) (xs : List Nat) (hs : List Int) (K : Value → Heap → Prop) :
    (fnP Try.prog cA2 (hsMv xs hs) (7 : FuncId) [Value.agg (List.toArray (runA nm f (0 : Nat) n c (1 : Nat) k d)), Value.int IntKind.i64 by'] (hp2r xs hs true true true true []) K) =
    (Is (isRun xs hs n k (flts xs) (ints hs)) ∧ br (fi [runE nm f xs n hs, wi by' (-100000000 : Int) (100000000 : Int), wi (IntKind.wrap IntKind.i64 (f + by')) (0 : Int) (IntKind.wrap IntKind.i64 ((100000000 : Int) - (↑n : Int)))] != (0 : Int)) (K (Value.tuple #[Value.agg #[Value.string { data := #[] }, Value.int IntKind.i64 (0 : Int), Value.slice none (0 : Nat) (0 : Nat), Value.slice none (0 : Nat) (0 : Nat)], Value.int IntKind.i64 (fi [runE nm f xs n hs, wi by' (-100000000 : Int) (100000000 : Int), wi (IntKind.wrap IntKind.i64 (f + by')) (0 : Int) (IntKind.wrap IntKind.i64 ((100000000 : Int) - (↑n : Int)))])]) (some (AObj.row (flts xs) (1 : Nat) true true true) :: some (AObj.row (ints hs) (2 : Nat) true true true) :: noH)) (Is ((↑n : Int) = (↑n : Int) ∧ (0 : Int) ≤ (↑n : Int) ∧ (↑n : Int) ≤ (9223372036854775807 : Int) ∧ (4 : Int) * (↑n : Int) ≤ (281474976710656 : Int) ∧ zeroCells (Value.float FloatKind.f32 (0 : Nat)) (Int.toNat (↑n : Int) * (1 : Nat)) (zfl (Int.toNat (↑n : Int)))) ∧ Is (n = Int.toNat (↑n : Int) ∧ List.length (zfl (Int.toNat (↑n : Int))) = Int.toNat (↑n : Int) * (1 : Nat) ∧ List.length (flts xs) = Int.toNat (↑n : Int) * (1 : Nat) ∧ atoms (flts xs)) ∧ Is (List.length (ints hs) = k * (2 : Nat) ∧ atoms (ints hs) ∧ k ≤ (100000 : Nat)) ∧ K (Value.tuple #[Value.agg #[Value.string nm, Value.int IntKind.i64 (IntKind.wrap IntKind.i64 (f + by')), Value.slice (some { block := (2 : Nat), off := (0 : Nat) }) (Int.toNat (↑n : Int)) (0 : Nat), Value.slice (some { block := (3 : Nat), off := (0 : Nat) }) k (0 : Nat)], Value.int IntKind.i64 (0 : Int)]) (some (AObj.row (flts xs) (1 : Nat) true true true) :: some (AObj.row (ints hs) (2 : Nat) true true true) :: some (AObj.row (flts xs) (1 : Nat) true true true) :: some (AObj.row (ints hs) (2 : Nat) true true true) :: noH))) := by kernel_rfl
noncomputable def hsFo (xs : List Nat) (hs : List Int) : Hs Try.prog where
  au := auCalls [(22, hCa Try.prog 22 (orcOwR xs hs) (okOwR xs hs))]
theorem fo_t (nm : ByteArray) (f : Int) (n : Nat) (c : Nat) (k : Nat) (d : Nat) (xs : List Nat) (hs : List Int) (K : Value → Heap → Prop) :
    (fnP Try.prog c0 (hsFo xs hs) (8 : FuncId) [Value.agg (List.toArray (runA nm f (0 : Nat) n c (1 : Nat) k d))] (hp2r xs hs false false false false []) K) =
    (Is (isRun xs hs n k (flts xs) (ints hs)) ∧ K (Value.agg #[Value.string nm, Value.int IntKind.i64 f, Value.slice (some { block := (2 : Nat), off := (0 : Nat) }) n (0 : Nat), Value.slice (some { block := (3 : Nat), off := (0 : Nat) }) k (0 : Nat)]) (some (AObj.row (flts xs) (1 : Nat) false false true) :: some (AObj.row (ints hs) (2 : Nat) false false true) :: some (AObj.row (flts xs) (1 : Nat) true true true) :: some (AObj.row (ints hs) (2 : Nat) true true true) :: noH)) := by kernel_rfl
theorem owT_t (nm : ByteArray) (f : Int) (n : Nat) (c : Nat) (k : Nat) (d : Nat) (xs : List Nat) (hs : List Int) (K : Value → Heap → Prop) :
    (fnP Try.prog c0 hsOw (22 : FuncId) [Value.agg (List.toArray (runA nm f (0 : Nat) n c (1 : Nat) k d))] (hp2r xs hs true true true true []) K) =
    (Is (List.length (flts xs) = n * (1 : Nat) ∧ (∀ (v : Value), v ∈ flts xs → atom v = true) ∧ n * (4 : Nat) ≤ (140737488355328 : Nat) ∧ n ≤ (9223372036854775807 : Nat)) ∧ Is (List.length (ints hs) = k * (2 : Nat) ∧ (∀ (v : Value), v ∈ ints hs → atom v = true) ∧ k * (16 : Nat) ≤ (140737488355328 : Nat) ∧ k ≤ (9223372036854775807 : Nat)) ∧ K (Value.agg #[Value.string nm, Value.int IntKind.i64 f, Value.slice (some { block := (2 : Nat), off := (0 : Nat) }) n (0 : Nat), Value.slice (some { block := (3 : Nat), off := (0 : Nat) }) k (0 : Nat)]) (some (AObj.row (flts xs) (1 : Nat) true true true) :: some (AObj.row (ints hs) (2 : Nat) true true true) :: some (AObj.row (flts xs) (1 : Nat) true true true) :: some (AObj.row (ints hs) (2 : Nat) true true true) :: noH)) := by kernel_rfl
noncomputable def lpFs (n c : Nat) (xs : List Nat) (hs : List Int) : Lp where
  σ := Nat
  E s := slots 38 [(1, .float .f32 1148846080), (22, .slice (some ⟨0, 0, none⟩) n c), (23, .int .i64 (Int.ofNat n)), (24, .int .i64 (Int.ofNat s))]
  Hp _ := hp2r xs hs false false false false []
  I s := s ≤ n ∧ smS xs s
  m s := n - s
noncomputable def hsFs (n c : Nat) (xs : List Nat) (hs : List Int) : Hs Try.prog where
  op y := if y = 500 then some (hIa Try.prog) else if y = 501 then some (hLd Try.prog (xF xs)) else none
  lp _ := some (lpFs n c xs hs)
  cl _ := keep 38 [1, 22, 23, 24]
  au := auF [(16, hCa Try.prog 16 (orcShR xs hs) (okShR xs hs)), (9, hCa Try.prog 9 (orcCrR xs hs) (okCrR xs hs))]
theorem fs_t (nm : ByteArray) (f : Int) (n : Nat) (c : Nat) (k : Nat) (d : Nat) (xs : List Nat) (hs : List Int) (K : Value → Heap → Prop) :
    (fnP Try.prog c0 (hsFs n c xs hs) (4 : FuncId) [Value.agg (List.toArray (runA nm f (0 : Nat) n c (1 : Nat) k d)), Value.float FloatKind.f32 (1148846080 : Nat)] (hp2r xs hs false false false false []) K) =
    (Is (isRn1 xs hs (flts xs) (ints hs)) ∧ br (!shB nm n k) (K (Value.bool false) (some (AObj.row (flts xs) (1 : Nat) false false true) :: some (AObj.row (ints hs) (2 : Nat) false false true) :: noH)) (Is (isRun xs hs n k (flts xs) (ints hs)) ∧ br (runE nm f xs n hs != (0 : Int)) (K (Value.bool false) (some (AObj.row (flts xs) (1 : Nat) false false true) :: some (AObj.row (ints hs) (2 : Nat) false false true) :: noH)) (br (decide ((40 : Int) < (↑n : Int))) (K (Value.bool false) (some (AObj.row (flts xs) (1 : Nat) false false true) :: some (AObj.row (ints hs) (2 : Nat) false false true) :: noH)) ((∃ (s : Nat), Is (s ≤ n ∧ smS xs s) ∧ [poi, Value.float FloatKind.f32 (1148846080 : Nat), poi, poi, poi, poi, poi, poi, poi, poi, poi, poi, poi, poi, poi, poi, poi, poi, poi, poi, poi, poi, Value.slice (some { block := (0 : Nat), off := (0 : Nat) }) n c, Value.int IntKind.i64 (↑n : Int), Value.int IntKind.i64 (0 : Int), poi, poi, poi, poi, poi, poi, poi, poi, poi, poi, poi, poi, poi] = [poi, Value.float FloatKind.f32 (1148846080 : Nat), poi, poi, poi, poi, poi, poi, poi, poi, poi, poi, poi, poi, poi, poi, poi, poi, poi, poi, poi, poi, Value.slice (some { block := (0 : Nat), off := (0 : Nat) }) n c, Value.int IntKind.i64 (↑n : Int), Value.int IntKind.i64 (↑s : Int), poi, poi, poi, poi, poi, poi, poi, poi, poi, poi, poi, poi, poi] ∧ some (AObj.row (flts xs) (1 : Nat) false false true) :: some (AObj.row (ints hs) (2 : Nat) false false true) :: noH = some (AObj.row (flts xs) (1 : Nat) false false true) :: some (AObj.row (ints hs) (2 : Nat) false false true) :: noH) ∧ ∀ (s : Nat), Is (s ≤ n ∧ smS xs s) → br (decide ((↑s : Int) < (↑n : Int))) (Is ((0 : Int) ≤ (↑s : Int) ∧ (↑s : Int) < (↑n : Int)) ∧ Is ((flts xs)[(0 : Nat) + Int.toNat (↑s : Int) * (1 : Nat)]? = some (Value.float FloatKind.f32 (List.getD xs ((0 : Nat) + Int.toNat (↑s : Int) * (1 : Nat)) (0 : Nat)))) ∧ Is True ∧ br (fGt (List.getD xs ((0 : Nat) + Int.toNat (↑s : Int) * (1 : Nat)) (0 : Nat)) (1148846080 : Nat)) (K (Value.bool false) (some (AObj.row (flts xs) (1 : Nat) false false true) :: some (AObj.row (ints hs) (2 : Nat) false false true) :: noH)) (Is True ∧ br (fLt (List.getD xs ((0 : Nat) + Int.toNat (↑s : Int) * (1 : Nat)) (0 : Nat)) (3296329728 : Nat)) (K (Value.bool false) (some (AObj.row (flts xs) (1 : Nat) false false true) :: some (AObj.row (ints hs) (2 : Nat) false false true) :: noH)) (∃ (s' : Nat), Is (s' ≤ n ∧ smS xs s') ∧ Is (n - s' < n - s) ∧ [poi, Value.float FloatKind.f32 (1148846080 : Nat), poi, poi, poi, poi, poi, poi, poi, poi, poi, poi, poi, poi, poi, poi, poi, poi, poi, poi, poi, poi, Value.slice (some { block := (0 : Nat), off := (0 : Nat) }) n c, Value.int IntKind.i64 (↑n : Int), Value.int IntKind.i64 (IntKind.wrap IntKind.i64 ((↑s : Int) + (1 : Int))), poi, poi, poi, poi, poi, poi, poi, poi, poi, poi, poi, poi, poi] = [poi, Value.float FloatKind.f32 (1148846080 : Nat), poi, poi, poi, poi, poi, poi, poi, poi, poi, poi, poi, poi, poi, poi, poi, poi, poi, poi, poi, poi, Value.slice (some { block := (0 : Nat), off := (0 : Nat) }) n c, Value.int IntKind.i64 (↑n : Int), Value.int IntKind.i64 (↑s' : Int), poi, poi, poi, poi, poi, poi, poi, poi, poi, poi, poi, poi, poi] ∧ some (AObj.row (flts xs) (1 : Nat) false false true) :: some (AObj.row (ints hs) (2 : Nat) false false true) :: noH = some (AObj.row (flts xs) (1 : Nat) false false true) :: some (AObj.row (ints hs) (2 : Nat) false false true) :: noH))) (K (Value.bool true) (some (AObj.row (flts xs) (1 : Nat) false false true) :: some (AObj.row (ints hs) (2 : Nat) false false true) :: noH)))))) := by kernel_rfl
theorem sh_t (nm1 : ByteArray) (nm2 : ByteArray) (f : Int) (g : Int) (n : Nat) (c : Nat) (k : Nat) (d : Nat) (m : Nat) (c2 : Nat) (k2 : Nat) (d2 : Nat) (xs : List Nat) (ys : List Nat) (hs : List Int) (gs : List Int) (K : Value → Heap → Prop) :
    (fnP Try.prog c0 h0 (5 : FuncId) [Value.agg (List.toArray (runA nm1 f (0 : Nat) n c (1 : Nat) k d)), Value.agg (List.toArray (runA nm2 g (2 : Nat) m c2 (3 : Nat) k2 d2))] [some (AObj.row (flts xs) (1 : Nat) false false true), some (AObj.row (ints hs) (2 : Nat) false false true), some (AObj.row (flts ys) (1 : Nat) false false true), some (AObj.row (ints gs) (2 : Nat) false false true)] K) =
    (br (f == g) (K (Value.bool ((↑n : Int) == (↑m : Int))) (some (AObj.row (flts xs) (1 : Nat) false false true) :: some (AObj.row (ints hs) (2 : Nat) false false true) :: some (AObj.row (flts ys) (1 : Nat) false false true) :: some (AObj.row (ints gs) (2 : Nat) false false true) :: noH)) (K (Value.bool false) (some (AObj.row (flts xs) (1 : Nat) false false true) :: some (AObj.row (ints hs) (2 : Nat) false false true) :: some (AObj.row (flts ys) (1 : Nat) false false true) :: some (AObj.row (ints gs) (2 : Nat) false false true) :: noH))) := by kernel_rfl
noncomputable def fV (xs : List Nat) (b : Bool) : Option AObj := some (.row (flts xs) 1 b b true)
noncomputable def lpSs (xs : List Nat) (n c d : Nat) : Lp where
  σ := Nat
  E s := slots 26 [(0, .slice (some ⟨0, 0, none⟩) n c), (1, .slice (some ⟨1, 0, none⟩) n d), (5, .int .i64 (Int.ofNat s))]
  Hp _ := [fV xs true, fV xs false]
  I s := s ≤ n
  m s := n - s
noncomputable def hsSsm (xs : List Nat) (n c d : Nat) : Hs Try.prog where
  op y := if [602, 606].contains y then some (hIa Try.prog) else if [603, 607].contains y then some (hLd Try.prog (xF xs)) else none
  lp _ := some (lpSs xs n c d)
  cl _ := keep 26 [0, 1, 5]
  au := auF []
theorem ss_t (xs : List Nat) (n : Nat) (c : Nat) (d : Nat) (K : Value → Heap → Prop) :
    (fnP Try.prog c0 (hsSsm xs n c d) (33 : FuncId) [Value.slice (some { block := (0 : Nat), off := (0 : Nat) }) n c, Value.slice (some { block := (1 : Nat), off := (0 : Nat) }) n d] [fV xs true, fV xs false] K) =
    (br ((↑n : Int) != (↑n : Int)) (K (Value.bool false) (some (AObj.row (flts xs) (1 : Nat) true true true) :: some (AObj.row (flts xs) (1 : Nat) false false true) :: noH)) ((∃ (s : Nat), Is (s ≤ n) ∧ [Value.slice (some { block := (0 : Nat), off := (0 : Nat) }) n c, Value.slice (some { block := (1 : Nat), off := (0 : Nat) }) n d, poi, poi, poi, Value.int IntKind.i64 (0 : Int), poi, poi, poi, poi, poi, poi, poi, poi, poi, poi, poi, poi, poi, poi, poi, poi, poi, poi, poi, poi] = [Value.slice (some { block := (0 : Nat), off := (0 : Nat) }) n c, Value.slice (some { block := (1 : Nat), off := (0 : Nat) }) n d, poi, poi, poi, Value.int IntKind.i64 (↑s : Int), poi, poi, poi, poi, poi, poi, poi, poi, poi, poi, poi, poi, poi, poi, poi, poi, poi, poi, poi, poi] ∧ some (AObj.row (flts xs) (1 : Nat) true true true) :: some (AObj.row (flts xs) (1 : Nat) false false true) :: noH = some (AObj.row (flts xs) (1 : Nat) true true true) :: some (AObj.row (flts xs) (1 : Nat) false false true) :: noH) ∧ ∀ (s : Nat), Is (s ≤ n) → br (decide ((↑s : Int) < (↑n : Int))) (Is ((0 : Int) ≤ (↑s : Int) ∧ (↑s : Int) < (↑n : Int)) ∧ Is ((flts xs)[(0 : Nat) + Int.toNat (↑s : Int) * (1 : Nat)]? = some (Value.float FloatKind.f32 (List.getD xs ((0 : Nat) + Int.toNat (↑s : Int) * (1 : Nat)) (0 : Nat)))) ∧ Is ((0 : Int) ≤ (↑s : Int) ∧ (↑s : Int) < (↑n : Int)) ∧ Is ((flts xs)[(0 : Nat) + Int.toNat (↑s : Int) * (1 : Nat)]? = some (Value.float FloatKind.f32 (List.getD xs ((0 : Nat) + Int.toNat (↑s : Int) * (1 : Nat)) (0 : Nat)))) ∧ Is True ∧ br (fNe (List.getD xs ((0 : Nat) + Int.toNat (↑s : Int) * (1 : Nat)) (0 : Nat)) (List.getD xs ((0 : Nat) + Int.toNat (↑s : Int) * (1 : Nat)) (0 : Nat))) (K (Value.bool false) (some (AObj.row (flts xs) (1 : Nat) true true true) :: some (AObj.row (flts xs) (1 : Nat) false false true) :: noH)) (∃ (s' : Nat), Is (s' ≤ n) ∧ Is (n - s' < n - s) ∧ [Value.slice (some { block := (0 : Nat), off := (0 : Nat) }) n c, Value.slice (some { block := (1 : Nat), off := (0 : Nat) }) n d, poi, poi, poi, Value.int IntKind.i64 (IntKind.wrap IntKind.i64 ((↑s : Int) + (1 : Int))), poi, poi, poi, poi, poi, poi, poi, poi, poi, poi, poi, poi, poi, poi, poi, poi, poi, poi, poi, poi] = [Value.slice (some { block := (0 : Nat), off := (0 : Nat) }) n c, Value.slice (some { block := (1 : Nat), off := (0 : Nat) }) n d, poi, poi, poi, Value.int IntKind.i64 (↑s' : Int), poi, poi, poi, poi, poi, poi, poi, poi, poi, poi, poi, poi, poi, poi, poi, poi, poi, poi, poi, poi] ∧ some (AObj.row (flts xs) (1 : Nat) true true true) :: some (AObj.row (flts xs) (1 : Nat) false false true) :: noH = some (AObj.row (flts xs) (1 : Nat) true true true) :: some (AObj.row (flts xs) (1 : Nat) false false true) :: noH)) (K (Value.bool true) (some (AObj.row (flts xs) (1 : Nat) true true true) :: some (AObj.row (flts xs) (1 : Nat) false false true) :: noH)))) := by kernel_rfl
noncomputable def lpFi (p q : Int) (L : List Int) (n c : Nat) : Lp where
  σ := Nat
  E s := slots 26 [(2, .pointer (some ⟨1, 0, none⟩)), (7, .slice (some ⟨0, 0, none⟩) n c), (8, .int .i64 (Int.ofNat n)), (9, .int .i64 (Int.ofNat s))]
  Hp _ := [some (.row (ints L) 2 true true true), some (.row [.int .i64 p, .int .i64 q] 0 false true true)]
  I s := s ≤ n ∧ ∀ j, j < s → ¬ (L.getD (j * 2) 0 ≤ p ∧ q ≤ L.getD (j * 2 + 1) 0)
  m s := n - s
noncomputable def hsFi (p q : Int) (L : List Int) (n c : Nat) : Hs Try.prog where
  op y := if y = 300 then some (hIa Try.prog) else if y = 301 then some (hLd Try.prog (z2 L)) else none
  lp _ := some (lpFi p q L n c)
  cl _ := keep 26 [2, 7, 8, 9]
  au := au0 Try.prog
theorem fi_t (p : Int) (q : Int) (L : List Int) (n : Nat) (c : Nat) (K : Value → Heap → Prop) :
    (fnP Try.prog c0 (hsFi p q L n c) (15 : FuncId) [Value.agg #[Value.int IntKind.i64 p, Value.int IntKind.i64 q], Value.slice (some { block := (0 : Nat), off := (0 : Nat) }) n c] [some (AObj.row (ints L) (2 : Nat) true true true)] K) =
    ((∃ (s : Nat), Is (s ≤ n ∧ ∀ (j : Nat), j < s → ¬(List.getD L (j * (2 : Nat)) (0 : Int) ≤ p ∧ q ≤ List.getD L (j * (2 : Nat) + (1 : Nat)) (0 : Int))) ∧ [poi, poi, Value.pointer (some { block := (1 : Nat), off := (0 : Nat) }), poi, poi, poi, poi, Value.slice (some { block := (0 : Nat), off := (0 : Nat) }) n c, Value.int IntKind.i64 (↑n : Int), Value.int IntKind.i64 (0 : Int), poi, poi, poi, poi, poi, poi, poi, poi, poi, poi, poi, poi, poi, poi, poi, poi] = [poi, poi, Value.pointer (some { block := (1 : Nat), off := (0 : Nat) }), poi, poi, poi, poi, Value.slice (some { block := (0 : Nat), off := (0 : Nat) }) n c, Value.int IntKind.i64 (↑n : Int), Value.int IntKind.i64 (↑s : Int), poi, poi, poi, poi, poi, poi, poi, poi, poi, poi, poi, poi, poi, poi, poi, poi] ∧ some (AObj.row (ints L) (2 : Nat) true true true) :: some (AObj.row [Value.int IntKind.i64 p, Value.int IntKind.i64 q] (0 : Nat) false true (List.all [Value.int IntKind.i64 p, Value.int IntKind.i64 q] atom)) :: noH = some (AObj.row (ints L) (2 : Nat) true true true) :: some (AObj.row [Value.int IntKind.i64 p, Value.int IntKind.i64 q] (0 : Nat) false true true) :: noH) ∧ ∀ (s : Nat), Is (s ≤ n ∧ ∀ (j : Nat), j < s → ¬(List.getD L (j * (2 : Nat)) (0 : Int) ≤ p ∧ q ≤ List.getD L (j * (2 : Nat) + (1 : Nat)) (0 : Int))) → br (decide ((↑s : Int) < (↑n : Int))) (Is ((0 : Int) ≤ (↑s : Int) ∧ (↑s : Int) < (↑n : Int)) ∧ Is ((if (0 : Nat) + Int.toNat (↑s : Int) * (2 : Nat) + (2 : Nat) ≤ List.length (ints L) then some (Value.agg (List.toArray (List.take (2 : Nat) (List.drop ((0 : Nat) + Int.toNat (↑s : Int) * (2 : Nat)) (ints L))))) else none) = some (Value.agg #[Value.int IntKind.i64 (List.getD L ((0 : Nat) + Int.toNat (↑s : Int) * (2 : Nat)) (0 : Int)), Value.int IntKind.i64 (List.getD L ((0 : Nat) + Int.toNat (↑s : Int) * (2 : Nat) + (1 : Nat)) (0 : Int))])) ∧ br (decide (List.getD L ((0 : Nat) + Int.toNat (↑s : Int) * (2 : Nat)) (0 : Int) ≤ p)) (br (decide (q ≤ List.getD L ((0 : Nat) + Int.toNat (↑s : Int) * (2 : Nat) + (1 : Nat)) (0 : Int))) (K (Value.bool true) (some (AObj.row (ints L) (2 : Nat) true true true) :: noH)) (∃ (s' : Nat), Is (s' ≤ n ∧ ∀ (j : Nat), j < s' → ¬(List.getD L (j * (2 : Nat)) (0 : Int) ≤ p ∧ q ≤ List.getD L (j * (2 : Nat) + (1 : Nat)) (0 : Int))) ∧ Is (n - s' < n - s) ∧ [poi, poi, Value.pointer (some { block := (1 : Nat), off := (0 : Nat) }), poi, poi, poi, poi, Value.slice (some { block := (0 : Nat), off := (0 : Nat) }) n c, Value.int IntKind.i64 (↑n : Int), Value.int IntKind.i64 (IntKind.wrap IntKind.i64 ((↑s : Int) + (1 : Int))), poi, poi, poi, poi, poi, poi, poi, poi, poi, poi, poi, poi, poi, poi, poi, poi] = [poi, poi, Value.pointer (some { block := (1 : Nat), off := (0 : Nat) }), poi, poi, poi, poi, Value.slice (some { block := (0 : Nat), off := (0 : Nat) }) n c, Value.int IntKind.i64 (↑n : Int), Value.int IntKind.i64 (↑s' : Int), poi, poi, poi, poi, poi, poi, poi, poi, poi, poi, poi, poi, poi, poi, poi, poi] ∧ some (AObj.row (ints L) (2 : Nat) true true true) :: some (AObj.row [Value.int IntKind.i64 p, Value.int IntKind.i64 q] (0 : Nat) false true true) :: noH = some (AObj.row (ints L) (2 : Nat) true true true) :: some (AObj.row [Value.int IntKind.i64 p, Value.int IntKind.i64 q] (0 : Nat) false true true) :: noH)) (∃ (s' : Nat), Is (s' ≤ n ∧ ∀ (j : Nat), j < s' → ¬(List.getD L (j * (2 : Nat)) (0 : Int) ≤ p ∧ q ≤ List.getD L (j * (2 : Nat) + (1 : Nat)) (0 : Int))) ∧ Is (n - s' < n - s) ∧ [poi, poi, Value.pointer (some { block := (1 : Nat), off := (0 : Nat) }), poi, poi, poi, poi, Value.slice (some { block := (0 : Nat), off := (0 : Nat) }) n c, Value.int IntKind.i64 (↑n : Int), Value.int IntKind.i64 (IntKind.wrap IntKind.i64 ((↑s : Int) + (1 : Int))), poi, poi, poi, poi, poi, poi, poi, poi, poi, poi, poi, poi, poi, poi, poi, poi] = [poi, poi, Value.pointer (some { block := (1 : Nat), off := (0 : Nat) }), poi, poi, poi, poi, Value.slice (some { block := (0 : Nat), off := (0 : Nat) }) n c, Value.int IntKind.i64 (↑n : Int), Value.int IntKind.i64 (↑s' : Int), poi, poi, poi, poi, poi, poi, poi, poi, poi, poi, poi, poi, poi, poi, poi, poi] ∧ some (AObj.row (ints L) (2 : Nat) true true true) :: some (AObj.row [Value.int IntKind.i64 p, Value.int IntKind.i64 q] (0 : Nat) false true true) :: noH = some (AObj.row (ints L) (2 : Nat) true true true) :: some (AObj.row [Value.int IntKind.i64 p, Value.int IntKind.i64 q] (0 : Nat) false true true) :: noH)) (K (Value.bool false) (some (AObj.row (ints L) (2 : Nat) true true true) :: noH))) := by kernel_rfl
theorem move_runE {nm : ByteArray} {f g : Int} {xs : List Nat} {n : Nat} {hs : List Int} (h : runE nm f xs n hs = 0) (h0 : 0 ≤ g) (h1 : g + n ≤ 100000000) : runE nm g xs n hs = 0 := by
  obtain ⟨a1, a2, a3, a4, a5, a6, a7⟩ := run_zero h
  rw [runE, a1, wi_zero.2 (show 0 ≤ g ∧ g ≤ 100000000 by omega), decide_eq_false (show ¬ (4096 : Int) < n by omega), a5, decide_eq_false (show ¬ (100000000 : Int) < g + n by omega), a6, a7]
  rfl
noncomputable def orcMv (xs : List Nat) (hs : List Int) : OrcV
  | [.agg ⟨[.string nm, .int .i64 f, .slice (some ⟨0, 0, none⟩) n _, .slice (some ⟨1, 0, none⟩) k _]⟩, .int .i64 b], [some (.row e1 1 true true true), some (.row e2 2 true true true)] =>
    some (.tuple #[.agg #[.string nm, .int .i64 (f + b), .slice (some ⟨2, 0, none⟩) n 0, .slice (some ⟨3, 0, none⟩) k 0], .int .i64 0], [some (.row e1 1 true true true), some (.row e2 2 true true true), fR xs, some (.row (ints hs) 2 true true true)],
      isRun xs hs n k e1 e2 ∧ runE nm f xs n hs = 0 ∧ b.natAbs ≤ 1000 ∧ 0 ≤ f + b ∧ f + b + n ≤ 100000000)
  | _, _ => none
theorem okMv (xs : List Nat) (hs : List Int) : OkV Try.prog 7 (orcMv xs hs) := by
  intro args H ret H' vc h hv
  unfold orcMv at h
  split at h
  · rename_i nm f n c k d b e1 e2
    cases h
    obtain ⟨hr, he, h1, h2, h3⟩ := hv
    obtain ⟨rfl, rfl, hn, h9, hk, hk9⟩ := hr
    refine fnP_res hm cA2_ok (hs := hsMv xs hs) ?_
    show fnP Try.prog cA2 (hsMv xs hs) 7 [.agg (runA nm f 0 n c 1 k d).toArray, .int .i64 b] (hp2r xs hs true true true true []) _
    rw [mv_t]
    obtain ⟨a1, a2, a3, a4, a5, a6, a7⟩ := run_zero he
    rw [wrap_eq (x := f + b) (by omega) (by omega), wrap_eq (x := 100000000 - (n : Int)) (by omega) (by omega)]
    have e0 : fi [runE nm f xs n hs, wi b (-100000000) 100000000, wi (f + b) 0 (100000000 - (n : Int))] = 0 := by
      rw [he, wi_zero.2 (show -100000000 ≤ b ∧ b ≤ 100000000 by omega), wi_zero.2 (show 0 ≤ f + b ∧ f + b ≤ 100000000 - (n : Int) by omega)]; rfl
    rw [e0]
    simp only [Int.toNat_natCast]
    exact ⟨⟨rfl, rfl, hn, h9, hk, hk9⟩, br_of (fun h => by cases h) (fun _ => ⟨⟨by first | trivial | rfl, by omega, by omega, by omega, zfl_ok n⟩, ⟨by first | trivial | rfl, by simp [zfl, flts], by rw [flts_len]; omega, flts_atom xs⟩, ⟨by rw [ints_len]; exact hk, fun v hv => by obtain ⟨x, _, rfl⟩ := List.mem_map.1 hv; rfl, hk9⟩, by first | trivial | rfl, by first | trivial | rfl⟩)⟩
  · cases h
theorem okFo (xs : List Nat) (hs : List Int) : OkV Try.prog 8 (orcOwR xs hs) := by
  intro args H ret H' vc h hv
  unfold orcOwR at h
  split at h
  · rename_i nm f n c k d e1 e2
    cases h
    obtain ⟨rfl, rfl, h1, h2, h3, h4⟩ := hv
    refine fnP_res hm c0_ok (hs := hsFo xs hs) ?_
    show fnP Try.prog c0 (hsFo xs hs) 8 [.agg (runA nm f 0 n c 1 k d).toArray] (hp2r xs hs false false false false []) _
    rw [fo_t]
    exact ⟨⟨rfl, rfl, h1, h2, h3, h4⟩, by first | trivial | rfl, by first | trivial | rfl⟩
  · cases h
noncomputable def orcOwT (xs : List Nat) (hs : List Int) : OrcV
  | [.agg ⟨[.string nm, .int .i64 f, .slice (some ⟨0, 0, none⟩) n _, .slice (some ⟨1, 0, none⟩) k _]⟩], [some (.row e1 1 true true true), some (.row e2 2 true true true)] =>
    some (.agg #[.string nm, .int .i64 f, .slice (some ⟨2, 0, none⟩) n 0, .slice (some ⟨3, 0, none⟩) k 0], [some (.row e1 1 true true true), some (.row e2 2 true true true), fR xs, some (.row (ints hs) 2 true true true)], isRun xs hs n k e1 e2)
  | _, _ => none
theorem okOwT (xs : List Nat) (hs : List Int) : OkV Try.prog 22 (orcOwT xs hs) := by
  intro args H ret H' vc h hv
  unfold orcOwT at h
  split at h
  · rename_i nm f n c k d e1 e2
    cases h
    obtain ⟨rfl, rfl, h1, h2, h3, h4⟩ := hv
    refine fnP_res hm c0_ok (hs := hsOw) ?_
    show fnP Try.prog c0 hsOw 22 [.agg (runA nm f 0 n c 1 k d).toArray] (hp2r xs hs true true true true []) _
    rw [owT_t]
    exact ⟨⟨by rw [flts_len]; omega, flts_atom xs, by omega, by omega⟩, ⟨by rw [ints_len]; omega, fun v hv => by obtain ⟨x, _, rfl⟩ := List.mem_map.1 hv; rfl, by omega, by omega⟩, by first | trivial | rfl, by first | trivial | rfl⟩
  · cases h
noncomputable def hsFoT (xs : List Nat) (hs : List Int) : Hs Try.prog where
  au := auCalls [(22, hCa Try.prog 22 (orcOwT xs hs) (okOwT xs hs))]
theorem foT_t (nm : ByteArray) (f : Int) (n : Nat) (c : Nat) (k : Nat) (d : Nat) (xs : List Nat) (hs : List Int) (K : Value → Heap → Prop) :
    (fnP Try.prog c0 (hsFoT xs hs) (8 : FuncId) [Value.agg (List.toArray (runA nm f (0 : Nat) n c (1 : Nat) k d))] (hp2r xs hs true true true true []) K) =
    (Is (isRun xs hs n k (flts xs) (ints hs)) ∧ K (Value.agg #[Value.string nm, Value.int IntKind.i64 f, Value.slice (some { block := (2 : Nat), off := (0 : Nat) }) n (0 : Nat), Value.slice (some { block := (3 : Nat), off := (0 : Nat) }) k (0 : Nat)]) (some (AObj.row (flts xs) (1 : Nat) true true true) :: some (AObj.row (ints hs) (2 : Nat) true true true) :: some (AObj.row (flts xs) (1 : Nat) true true true) :: some (AObj.row (ints hs) (2 : Nat) true true true) :: noH)) := by kernel_rfl
theorem okFoT (xs : List Nat) (hs : List Int) : OkV Try.prog 8 (orcOwT xs hs) := by
  intro args H ret H' vc h hv
  unfold orcOwT at h
  split at h
  · rename_i nm f n c k d e1 e2
    cases h
    obtain ⟨rfl, rfl, h1, h2, h3, h4⟩ := hv
    refine fnP_res hm c0_ok (hs := hsFoT xs hs) ?_
    show fnP Try.prog c0 (hsFoT xs hs) 8 [.agg (runA nm f 0 n c 1 k d).toArray] (hp2r xs hs true true true true []) _
    rw [foT_t]
    exact ⟨⟨rfl, rfl, h1, h2, h3, h4⟩, by first | trivial | rfl, by first | trivial | rfl⟩
  · cases h
noncomputable def smB (nm : ByteArray) (f : Int) (xs : List Nat) (n : Nat) (hs : List Int) (k : Nat) : Bool :=
  shB nm n k && (decide (runE nm f xs n hs = 0) && (decide (n ≤ 40) && decide (smS xs n)))
theorem smS_more {xs : List Nat} {s : Nat} (h : smS xs s) (h1 : fGt (xs.getD s 0) 1148846080 = false) (h2 : fLt (xs.getD s 0) 3296329728 = false) : smS xs (s + 1) := fun j hj => by
  rcases Nat.lt_succ_iff_lt_or_eq.1 hj with h' | rfl
  · exact h j h'
  · exact ⟨h1, h2⟩
noncomputable def orcFs (xs : List Nat) (hs : List Int) : OrcV
  | [.agg ⟨[.string nm, .int .i64 f, .slice (some ⟨0, 0, none⟩) n _, .slice (some ⟨1, 0, none⟩) k _]⟩, .float .f32 1148846080], [some (.row e1 1 false false true), some (.row e2 2 false false true)] =>
    some (.bool (smB nm f xs n hs k), [some (.row e1 1 false false true), some (.row e2 2 false false true)], e1 = flts xs ∧ e2 = ints hs ∧ xs.length = n ∧ hs.length = k * 2)
  | _, _ => none
set_option maxRecDepth 100000 in
theorem okFs (xs : List Nat) (hs : List Int) : OkV Try.prog 4 (orcFs xs hs) := by
  intro args H ret H' vc h hv
  unfold orcFs at h
  split at h
  · rename_i nm f n c k d e1 e2
    cases h
    obtain ⟨rfl, rfl, hn, hk⟩ := hv
    refine fnP_res hm c0_ok (hs := hsFs n c xs hs) ?_
    show fnP Try.prog c0 (hsFs n c xs hs) 4 [.agg (runA nm f 0 n c 1 k d).toArray, .float .f32 1148846080] (hp2r xs hs false false false false []) _
    rw [fs_t]
    refine ⟨⟨rfl, rfl⟩, br_of (fun h => ?_) (fun h => ?_)⟩
    · have h : shB nm n k = false := by simpa using h
      rw [smB, h, Bool.false_and]; exact ⟨by first | trivial | rfl, by first | trivial | rfl⟩
    have h : shB nm n k = true := by simpa using h
    have hb := h
    rw [shB] at hb
    simp only [Bool.and_eq_true, Bool.or_eq_true, decide_eq_true_eq, beq_iff_eq] at hb
    obtain ⟨_, b1, b2⟩ := hb
    refine ⟨⟨rfl, rfl, hn, by omega, hk, by omega⟩, br_of (fun h2 => ?_) (fun h2 => ?_)⟩
    · have h2 : ¬ runE nm f xs n hs = 0 := by simpa using h2
      rw [smB, decide_eq_false h2, Bool.false_and, Bool.and_false]; exact ⟨by first | trivial | rfl, by first | trivial | rfl⟩
    have h2 : runE nm f xs n hs = 0 := by simpa using h2
    refine br_of (fun h3 => ?_) (fun h3 => ?_)
    · have h3 : ¬ n ≤ 40 := by have := of_decide_eq_true h3; omega
      rw [smB, decide_eq_false h3, Bool.false_and, Bool.and_false, Bool.and_false]; exact ⟨by first | trivial | rfl, by first | trivial | rfl⟩
    have h3 : n ≤ 40 := by have := of_decide_eq_false h3; omega
    have no : ¬ smS xs n → smB nm f xs n hs k = false := fun h4 => by
      rw [smB, decide_eq_false h4, Bool.and_false, Bool.and_false, Bool.and_false]
    refine ⟨⟨(0 : Nat), ⟨Nat.zero_le _, fun j hj => by omega⟩, by first | trivial | rfl, by first | trivial | rfl⟩, fun s hs' => br_of (fun hc => ?_) (fun hc => ?_)⟩
    · have hc := lt_of_dec hc
      obtain ⟨i1, i2⟩ := hs'.out
      simp only [Nat.zero_add, Nat.mul_one, Int.toNat_natCast]
      refine ⟨⟨by omega, by omega⟩, ⟨flts_at (by omega)⟩, ⟨trivial⟩, br_of (fun g1 => ?_) (fun g1 => ⟨⟨trivial⟩, br_of (fun g2 => ?_) (fun g2 => ⟨s + 1, ⟨hc, smS_more i2 g1 g2⟩, ⟨by omega⟩, by rw [up1 hc (by omega)], by first | trivial | rfl⟩)⟩)⟩
      · rw [no (fun h4 => by have := (h4 s hc).1; rw [g1] at this; cases this)]; exact ⟨by first | trivial | rfl, by first | trivial | rfl⟩
      · rw [no (fun h4 => by have := (h4 s hc).2; rw [g2] at this; cases this)]; exact ⟨by first | trivial | rfl, by first | trivial | rfl⟩
    · have hc := ge_of_dec hc
      obtain ⟨i1, i2⟩ := hs'.out
      have : s = n := by omega
      subst this
      have : smB nm f xs s hs k = true := by rw [smB, h, decide_eq_true h2, decide_eq_true h3, decide_eq_true i2]; rfl
      rw [this]; exact ⟨by first | trivial | rfl, by first | trivial | rfl⟩
  · cases h
noncomputable def orcSs1 (xs : List Nat) : OrcV
  | [.slice (some ⟨0, 0, none⟩) n _, .slice (some ⟨1, 0, none⟩) m _], [some (.row e1 1 true true true), some (.row e2 1 false false true)] =>
    some (.bool true, [some (.row e1 1 true true true), some (.row e2 1 false false true)], e1 = flts xs ∧ e2 = flts xs ∧ xs.length = n ∧ m = n ∧ n ≤ 100000 ∧ fi (xs.map sE) = 0)
  | _, _ => none
set_option maxRecDepth 100000 in
theorem okSs1 (xs : List Nat) : OkV Try.prog 33 (orcSs1 xs) := by
  intro args H ret H' vc h hv
  unfold orcSs1 at h
  split at h
  · rename_i n c m d e1 e2
    cases h
    obtain ⟨rfl, rfl, h1, rfl, h4, h5⟩ := hv
    refine fnP_res hm c0_ok (hs := hsSsm xs m c d) ?_
    show fnP Try.prog c0 (hsSsm xs m c d) 33 [.slice (some ⟨0, 0, none⟩) m _, .slice (some ⟨1, 0, none⟩) m _] [fV xs true, fV xs false] _
    rw [ss_t]
    refine br_of (fun h => by simp at h) (fun _ => ⟨⟨(0 : Nat), ⟨by omega⟩, by first | trivial | rfl, by first | trivial | rfl⟩, fun s hs' => br_of (fun hc => ?_) (fun hc => ⟨by first | trivial | rfl, by first | trivial | rfl⟩)⟩)
    have hc := lt_of_dec hc
    simp only [Nat.zero_add, Nat.mul_one, Int.toNat_natCast]
    have hne : fNe (xs.getD s 0) (xs.getD s 0) = false := by
      rw [Fl.ne_lev (Fl.smp (smps h5 (by omega))) (Fl.smp (smps h5 (by omega)))]
      exact decide_eq_false (fun h => h rfl)
    rw [hne]
    exact ⟨⟨by omega, by omega⟩, ⟨flts_at (by omega)⟩, ⟨by omega, by omega⟩, ⟨flts_at (by omega)⟩, ⟨trivial⟩, br_of (fun h => by cases h) (fun _ => ⟨s + 1, ⟨hc⟩, ⟨by omega⟩, by rw [up1 hc (by omega)], by first | trivial | rfl⟩)⟩
  · cases h
noncomputable def hsSr (xs : List Nat) : Hs Try.prog where
  au := auCalls [(33, hCa Try.prog 33 (orcSs1 xs) (okSs1 xs)), (17, hCa Try.prog 17 orcSameX same_okX)]
theorem sr_t (nm1 : ByteArray) (nm2 : ByteArray) (f : Int) (g : Int) (n : Nat) (c : Nat) (k : Nat) (d : Nat) (m : Nat) (c2 : Nat) (k2 : Nat) (d2 : Nat) (xs : List Nat) (hs : List Int) (K : Value → Heap → Prop) :
    (fnP Try.prog c0 (hsSr xs) (11 : FuncId) [Value.agg (List.toArray (runA nm1 f (0 : Nat) n c (1 : Nat) k d)), Value.agg (List.toArray (runA nm2 g (2 : Nat) m c2 (3 : Nat) k2 d2))] [fV xs true, some (AObj.row (ints hs) (2 : Nat) true true true), fV xs false, some (AObj.row (ints hs) (2 : Nat) false false true)] K) =
    (br (ByteArray.toList nm1 == ByteArray.toList nm2) (br (f == g) (Is (flts xs = flts xs ∧ flts xs = flts xs ∧ List.length xs = n ∧ m = n ∧ n ≤ (100000 : Nat) ∧ fi (List.map sE xs) = (0 : Int)) ∧ Is (k = k2 ∧ ints hs = ints hs ∧ k ≤ (100000 : Nat) ∧ isInts (ints hs) k) ∧ K (Value.bool true) (some (AObj.row (flts xs) (1 : Nat) true true true) :: some (AObj.row (ints hs) (2 : Nat) true true true) :: some (AObj.row (flts xs) (1 : Nat) false false true) :: some (AObj.row (ints hs) (2 : Nat) false false true) :: noH)) (K (Value.bool false) (some (AObj.row (flts xs) (1 : Nat) true true true) :: some (AObj.row (ints hs) (2 : Nat) true true true) :: some (AObj.row (flts xs) (1 : Nat) false false true) :: some (AObj.row (ints hs) (2 : Nat) false false true) :: noH))) (K (Value.bool false) (some (AObj.row (flts xs) (1 : Nat) true true true) :: some (AObj.row (ints hs) (2 : Nat) true true true) :: some (AObj.row (flts xs) (1 : Nat) false false true) :: some (AObj.row (ints hs) (2 : Nat) false false true) :: noH))) := by kernel_rfl
theorem inS_no {L : List Int} {n : Nat} {p q : Int} (h : ∀ j, j < n → ¬ (L.getD (j * 2) 0 ≤ p ∧ q ≤ L.getD (j * 2 + 1) 0)) : ¬ inS L n p q := fun ⟨j, h1, h2⟩ => h j h1 h2
noncomputable def orcFin (L : List Int) : OrcV
  | [.agg ⟨[.int .i64 p, .int .i64 q]⟩, .slice (some ⟨0, 0, none⟩) n _], [some (.row e1 2 true true true)] =>
    some (.bool true, [some (.row e1 2 true true true)], e1 = ints L ∧ L.length = n * 2 ∧ n ≤ 100000 ∧ inS L n p q)
  | _, _ => none
set_option maxRecDepth 100000 in
theorem okFin (L : List Int) : OkV Try.prog 15 (orcFin L) := by
  intro args H ret H' vc h hv
  unfold orcFin at h
  split at h
  · rename_i p q n c e1
    cases h
    obtain ⟨rfl, h1, h2, h3⟩ := hv
    refine fnP_res hm c0_ok (hs := hsFi p q L n c) ?_
    rw [fi_t]
    refine ⟨⟨(0 : Nat), ⟨by omega, fun j hj => by omega⟩, by first | trivial | rfl, by first | trivial | rfl⟩, fun s hs' => br_of (fun hc => ?_) (fun hc => ?_)⟩
    · have hc := lt_of_dec hc
      obtain ⟨i1, i2⟩ := hs'.out
      simp only [Nat.zero_add, Int.toNat_natCast]
      have next : ¬ (L.getD (s * 2) 0 ≤ p ∧ q ≤ L.getD (s * 2 + 1) 0) → ∀ j, j < s + 1 → ¬ (L.getD (j * 2) 0 ≤ p ∧ q ≤ L.getD (j * 2 + 1) 0) := fun h j hj => by
        rcases Nat.lt_succ_iff_lt_or_eq.1 hj with h' | rfl
        · exact i2 j h'
        · exact h
      refine ⟨⟨by omega, by omega⟩, ⟨by rw [ints_len, if_pos (by omega), ints_pair (by omega)]⟩, br_of (fun g1 => br_of (fun g2 => ⟨by first | trivial | rfl, by first | trivial | rfl⟩) (fun g2 => ?_)) (fun g1 => ?_)⟩
      · exact ⟨s + 1, ⟨hc, next fun h => of_decide_eq_false g2 h.2⟩, ⟨by omega⟩, by rw [up1 hc (by omega)], by first | trivial | rfl⟩
      · exact ⟨s + 1, ⟨hc, next fun h => of_decide_eq_false g1 h.1⟩, ⟨by omega⟩, by rw [up1 hc (by omega)], by first | trivial | rfl⟩
    · have hc := ge_of_dec hc
      obtain ⟨i1, i2⟩ := hs'.out
      exact absurd h3 (inS_no fun j hj => i2 j (by omega))
  · cases h
noncomputable def orcSr (xs : List Nat) (hs : List Int) : OrcV
  | [.agg ⟨[.string nm1, .int .i64 f, .slice (some ⟨0, 0, none⟩) n _, .slice (some ⟨1, 0, none⟩) k _]⟩, .agg ⟨[.string nm2, .int .i64 g, .slice (some ⟨2, 0, none⟩) m _, .slice (some ⟨3, 0, none⟩) k2 _]⟩], [some (.row e1 1 true true true), some (.row e2 2 true true true), some (.row e3 1 false false true), some (.row e4 2 false false true)] =>
    some (.bool true, [some (.row e1 1 true true true), some (.row e2 2 true true true), some (.row e3 1 false false true), some (.row e4 2 false false true)], isSr xs hs e1 e2 e3 e4 ∧ nm2 = nm1 ∧ g = f ∧ m = n ∧ k2 = k ∧ hs.length = k * 2 ∧ k ≤ 100000 ∧ xs.length = n ∧ n ≤ 100000 ∧ fi (xs.map sE) = 0)
  | _, _ => none
theorem okSr (xs : List Nat) (hs : List Int) : OkV Try.prog 11 (orcSr xs hs) := by
  intro args H ret H' vc h hv
  unfold orcSr at h
  split at h
  · rename_i nm1 f n c k d nm2 g m c2 k2 d2 e1 e2 e3 e4
    cases h
    obtain ⟨⟨rfl, rfl, rfl, rfl⟩, rfl, rfl, rfl, rfl, hk, hk9, hn, h9, hx⟩ := hv
    refine fnP_res hm c0_ok (hs := hsSr xs) ?_
    show fnP Try.prog c0 (hsSr xs) 11 [.agg (runA nm2 g 0 m _ 1 k2 _).toArray, .agg (runA nm2 g 2 m _ 3 k2 _).toArray] [fV xs true, some (.row (ints hs) 2 true true true), fV xs false, some (.row (ints hs) 2 false false true)] _
    rw [sr_t, beq_self_eq_true, beq_self_eq_true]
    exact br_of (fun _ => br_of (fun _ => ⟨⟨by first | trivial | rfl, by first | trivial | rfl, hn, by first | trivial | rfl, h9, hx⟩, ⟨by first | trivial | rfl, by first | trivial | rfl, hk9, hs, by first | trivial | rfl, hk⟩, by first | trivial | rfl, by first | trivial | rfl⟩) (fun h => by cases h)) (fun h => by cases h)
  · cases h
end
end Qq
end
