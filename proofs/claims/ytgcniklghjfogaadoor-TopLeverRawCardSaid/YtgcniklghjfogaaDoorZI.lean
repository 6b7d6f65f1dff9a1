/- Parts of the proof: LD, VN, LE. -/
import Derived.Test.YtgcniklghjfogaaDoorZH
import Derived.Test.YtgcniklghjfogaaDoorZD
import Derived.Test.YtgcniklghjfogaaDoorZC
section
/- Turned, Offset, second differences. -/
open Go Go.Vm Go.Proofs Sp
namespace Qq
noncomputable section
noncomputable def hsTn (xs : List Nat) : Hs Tryd.prog where
  au := auCalls [(17, hCa Tryd.prog 17 (orcSg xs) (okSg xs)), (18, hCa Tryd.prog 18 (orcMt xs) (okMt xs)), (22, hCa Tryd.prog 22 (orcRf (xs.map tuO)) (okRf (xs.map tuO)))]
theorem tn_t (xs : List Nat) (n : Nat) (c : Nat) (K : Value → Heap → Prop) :
    (fnP Tryd.prog c0 (hsTn xs) (8 : FuncId) [Value.slice (some { block := (0 : Nat), off := (0 : Nat) }) n c] [fR xs] K) =
    (Is (flts xs = flts xs ∧ List.length xs = n ∧ n ≤ (100000 : Nat)) ∧ br (sgE xs n != (0 : Int)) (K (Value.tuple #[Value.slice none (0 : Nat) (0 : Nat), Value.int IntKind.i64 (sgE xs n)]) (some (AObj.row (flts xs) (1 : Nat) true true true) :: noH)) (Is (flts xs = flts xs ∧ List.length xs = n ∧ n ≤ (100000 : Nat) ∧ allS xs) ∧ Is (flts (List.map tuO xs) = flts (List.map tuO xs) ∧ List.length (List.map tuO xs) = n ∧ n ≤ (100000 : Nat)) ∧ K (Value.tuple #[Value.slice (some { block := (1 : Nat), off := (0 : Nat) }) n (0 : Nat), Value.int IntKind.i64 (0 : Int)]) (some (AObj.row (flts xs) (1 : Nat) true true true) :: some (AObj.row (flts (rvL (List.map tuO xs))) (1 : Nat) true true true) :: noH))) := by kernel_rfl
noncomputable def hsOf (xs ys : List Nat) : Hs Tryd.prog where
  op y := if y = 101 then some (hCa Tryd.prog 17 (orcSg xs) (okSg xs)) else if y = 103 then some (hCa Tryd.prog 17 (orcSg ys) (okSg ys)) else if y = 401 then some (hCa Tryd.prog 27 (orcWs xs) (okWs xs))
    else if y = 402 then some (hCa Tryd.prog 26 (orcTo (xs.map lev)) (okTo (xs.map lev))) else if y = 404 then some (hCa Tryd.prog 27 (orcWs ys) (okWs ys)) else if y = 405 then some (hCa Tryd.prog 26 (orcTo (ys.map lev)) (okTo (ys.map lev))) else none
  au := auCalls [(25, hCa Tryd.prog 25 orcRnd okRnI), (20, hCa Tryd.prog 20 orcPt okPt)]
theorem of_t (xs : List Nat) (ys : List Nat) (n : Nat) (c : Nat) (m : Nat) (d : Nat) (K : Value → Heap → Prop) :
    (fnP Tryd.prog ci2 (hsOf xs ys) (9 : FuncId) [Value.slice (some { block := (0 : Nat), off := (0 : Nat) }) n c, Value.slice (some { block := (1 : Nat), off := (0 : Nat) }) m d] [fR xs, fR ys] K) =
    (Is (flts xs = flts xs ∧ List.length xs = n ∧ n ≤ (100000 : Nat)) ∧ Is (flts ys = flts ys ∧ List.length ys = m ∧ m ≤ (100000 : Nat)) ∧ br (fi [sgE xs n, sgE ys m, wh ((↑n : Int) != (↑m : Int)) (2 : Int), wh ((↑n : Int) == (0 : Int)) (12 : Int)] != (0 : Int)) (K (Value.tuple #[Value.float FloatKind.f32 (0 : Nat), Value.int IntKind.i64 (fi [sgE xs n, sgE ys m, wh ((↑n : Int) != (↑m : Int)) (2 : Int), wh ((↑n : Int) == (0 : Int)) (12 : Int)])]) (some (AObj.row (flts xs) (1 : Nat) true true true) :: some (AObj.row (flts ys) (1 : Nat) true true true) :: noH)) (Is (flts xs = flts xs ∧ List.length xs = n ∧ n ≤ (100000 : Nat) ∧ allS xs) ∧ Is (ints (List.map lev xs) = ints (List.map lev xs) ∧ List.length (List.map lev xs) = n ∧ n ≤ (100000 : Nat) ∧ fewI (List.map lev xs)) ∧ Is (flts ys = flts ys ∧ List.length ys = m ∧ m ≤ (100000 : Nat) ∧ allS ys) ∧ Is (ints (List.map lev ys) = ints (List.map lev ys) ∧ List.length (List.map lev ys) = m ∧ m ≤ (100000 : Nat) ∧ fewI (List.map lev ys)) ∧ Is ((0 : Int) < IntKind.wrap IntKind.i64 ((2 : Int) * (↑n : Int)) ∧ IntKind.wrap IntKind.i64 ((2 : Int) * (↑n : Int)) ≤ (1000000000 : Int) ∧ (-1000000000000000000 : Int) ≤ IntKind.wrap IntKind.i64 (su (fun (j : Nat) => List.getD (List.map lev xs) j (0 : Int)) n + su (fun (j : Nat) => List.getD (List.map lev ys) j (0 : Int)) m) ∧ IntKind.wrap IntKind.i64 (su (fun (j : Nat) => List.getD (List.map lev xs) j (0 : Int)) n + su (fun (j : Nat) => List.getD (List.map lev ys) j (0 : Int)) m) ≤ (1000000000000000000 : Int)) ∧ Is (Int.natAbs (rnd (IntKind.wrap IntKind.i64 (su (fun (j : Nat) => List.getD (List.map lev xs) j (0 : Int)) n + su (fun (j : Nat) => List.getD (List.map lev ys) j (0 : Int)) m)) (IntKind.wrap IntKind.i64 ((2 : Int) * (↑n : Int)))) ≤ (16384 : Nat)) ∧ K (Value.tuple #[Value.float FloatKind.f32 (smO (rnd (IntKind.wrap IntKind.i64 (su (fun (j : Nat) => List.getD (List.map lev xs) j (0 : Int)) n + su (fun (j : Nat) => List.getD (List.map lev ys) j (0 : Int)) m)) (IntKind.wrap IntKind.i64 ((2 : Int) * (↑n : Int))))), Value.int IntKind.i64 (0 : Int)]) (some (AObj.row (flts xs) (1 : Nat) true true true) :: some (AObj.row (flts ys) (1 : Nat) true true true) :: noH))) := by kernel_rfl
noncomputable def lpBn0 (l : List Int) (n c : Nat) : Lp where
  σ := Nat
  E _ := slots 37 [(0, .slice (some ⟨0, 0, none⟩) n c), (3, .slice (some ⟨1, 0, none⟩) 0 0)]
  Hp _ := [oneR l, oneR []]
  I s := s = 0
  m _ := 0
noncomputable def lpBn (l : List Int) (n c : Nat) : Lp where
  σ := Nat
  E k := slots 37 [(0, .slice (some ⟨0, 0, none⟩) n c), (3, .slice (some ⟨1, 0, none⟩) k 0), (11, .int .i64 (Int.ofNat (n - 2))), (12, .int .i64 (Int.ofNat k))]
  Hp k := [oneR l, oneR (bnL l k)]
  I k := k ≤ n - 2
  m k := n - k
noncomputable def hsBn (l : List Int) (n c : Nat) : Hs Tryd.prog where
  op y := if y = 600 then some (hGl Tryd.prog) else if y = 906 then some (hIa Tryd.prog) else if y = 907 then some (hLd Tryd.prog (zI l)) else if y = 1103 then some (hAp Tryd.prog) else none
  cut y := if y = 2 then some (lpBn0 l n c) else none
  lp y := if y = 3 then some (lpBn l n c) else none
  cl y := if y = 2 then keep 37 [0, 3] else if y = 7 then keep 37 [0, 3, 4, 5, 11, 12, 15, 16] else keep 37 [0, 3, 11, 12]
  nl y := if y = 2 then [.slot 3 1] else []
  au := au0 Tryd.prog
theorem bn_t (l : List Int) (n : Nat) (c : Nat) (K : Value → Heap → Prop) :
    (fnP Tryd.prog c0 (hsBn l n c) (33 : FuncId) [Value.slice (some { block := (0 : Nat), off := (0 : Nat) }) n c] [oneR l] K) =
    ((∃ (s : Nat), Is (s = (0 : Nat)) ∧ [Value.slice (some { block := (0 : Nat), off := (0 : Nat) }) n c, poi, poi, Value.slice (some { block := (1 : Nat), off := (0 : Nat) }) (0 : Nat) (0 : Nat), poi, poi, poi, poi, poi, poi, poi, poi, poi, poi, poi, poi, poi, poi, poi, poi, poi, poi, poi, poi, poi, poi, poi, poi, poi, poi, poi, poi, poi, poi, poi, poi, poi] = [Value.slice (some { block := (0 : Nat), off := (0 : Nat) }) n c, poi, poi, Value.slice (some { block := (1 : Nat), off := (0 : Nat) }) (0 : Nat) (0 : Nat), poi, poi, poi, poi, poi, poi, poi, poi, poi, poi, poi, poi, poi, poi, poi, poi, poi, poi, poi, poi, poi, poi, poi, poi, poi, poi, poi, poi, poi, poi, poi, poi, poi] ∧ some (AObj.row (ints l) (1 : Nat) true true true) :: some (AObj.row [] (1 : Nat) true true true) :: noH = some (AObj.row (ints l) (1 : Nat) true true true) :: some (AObj.row [] (1 : Nat) true true true) :: noH) ∧ ∀ (s : Nat), Is (s = (0 : Nat)) → (∃ (s : Nat), Is (s ≤ n - (2 : Nat)) ∧ [Value.slice (some { block := (0 : Nat), off := (0 : Nat) }) n c, poi, poi, Value.slice (some { block := (1 : Nat), off := (0 : Nat) }) (0 : Nat) (0 : Nat), poi, poi, poi, poi, poi, poi, poi, Value.int IntKind.i64 (if IntKind.wrap IntKind.i64 ((↑n : Int) - (2 : Int)) > (0 : Int) then IntKind.wrap IntKind.i64 ((↑n : Int) - (2 : Int)) else (0 : Int)), Value.int IntKind.i64 (0 : Int), poi, poi, poi, poi, poi, poi, poi, poi, poi, poi, poi, poi, poi, poi, poi, poi, poi, poi, poi, poi, poi, poi, poi, poi] = [Value.slice (some { block := (0 : Nat), off := (0 : Nat) }) n c, poi, poi, Value.slice (some { block := (1 : Nat), off := (0 : Nat) }) s (0 : Nat), poi, poi, poi, poi, poi, poi, poi, Value.int IntKind.i64 (↑(n - (2 : Nat)) : Int), Value.int IntKind.i64 (↑s : Int), poi, poi, poi, poi, poi, poi, poi, poi, poi, poi, poi, poi, poi, poi, poi, poi, poi, poi, poi, poi, poi, poi, poi, poi] ∧ some (AObj.row (ints l) (1 : Nat) true true true) :: some (AObj.row [] (1 : Nat) true true true) :: noH = some (AObj.row (ints l) (1 : Nat) true true true) :: some (AObj.row (ints (bnL l s)) (1 : Nat) true true true) :: noH) ∧ ∀ (s : Nat), Is (s ≤ n - (2 : Nat)) → br (decide ((↑s : Int) < (↑(n - (2 : Nat)) : Int))) (Is (some (0 : Nat) = some (0 : Nat)) ∧ Is ((0 : Int) ≤ IntKind.wrap IntKind.i64 ((↑s : Int) + (0 : Int)) ∧ IntKind.wrap IntKind.i64 ((↑s : Int) + (0 : Int)) < (↑n : Int)) ∧ Is ((ints l)[(0 : Nat) + Int.toNat (IntKind.wrap IntKind.i64 ((↑s : Int) + (0 : Int))) * (1 : Nat)]? = some (Value.int IntKind.i64 (List.getD l ((0 : Nat) + Int.toNat (IntKind.wrap IntKind.i64 ((↑s : Int) + (0 : Int))) * (1 : Nat)) (0 : Int)))) ∧ Is ((0 : Int) ≤ IntKind.wrap IntKind.i64 ((↑s : Int) + (1 : Int)) ∧ IntKind.wrap IntKind.i64 ((↑s : Int) + (1 : Int)) < (↑n : Int)) ∧ Is ((ints l)[(0 : Nat) + Int.toNat (IntKind.wrap IntKind.i64 ((↑s : Int) + (1 : Int))) * (1 : Nat)]? = some (Value.int IntKind.i64 (List.getD l ((0 : Nat) + Int.toNat (IntKind.wrap IntKind.i64 ((↑s : Int) + (1 : Int))) * (1 : Nat)) (0 : Int)))) ∧ Is ((0 : Int) ≤ IntKind.wrap IntKind.i64 ((↑s : Int) + (2 : Int)) ∧ IntKind.wrap IntKind.i64 ((↑s : Int) + (2 : Int)) < (↑n : Int)) ∧ Is ((ints l)[(0 : Nat) + Int.toNat (IntKind.wrap IntKind.i64 ((↑s : Int) + (2 : Int))) * (1 : Nat)]? = some (Value.int IntKind.i64 (List.getD l ((0 : Nat) + Int.toNat (IntKind.wrap IntKind.i64 ((↑s : Int) + (2 : Int))) * (1 : Nat)) (0 : Int)))) ∧ Is (List.length (ints (bnL l s)) = s * (1 : Nat) ∧ (s + (1 : Nat)) * (8 : Nat) ≤ (140737488355328 : Nat) ∧ s + (1 : Nat) ≤ (9223372036854775807 : Nat)) ∧ ∃ (s' : Nat), Is (s' ≤ n - (2 : Nat)) ∧ Is (n - s' < n - s) ∧ [Value.slice (some { block := (0 : Nat), off := (0 : Nat) }) n c, poi, poi, Value.slice (some { block := (1 : Nat), off := (0 : Nat) }) (s + (1 : Nat)) (0 : Nat), poi, poi, poi, poi, poi, poi, poi, Value.int IntKind.i64 (↑(n - (2 : Nat)) : Int), Value.int IntKind.i64 (IntKind.wrap IntKind.i64 ((↑s : Int) + (1 : Int))), poi, poi, poi, poi, poi, poi, poi, poi, poi, poi, poi, poi, poi, poi, poi, poi, poi, poi, poi, poi, poi, poi, poi, poi] = [Value.slice (some { block := (0 : Nat), off := (0 : Nat) }) n c, poi, poi, Value.slice (some { block := (1 : Nat), off := (0 : Nat) }) s' (0 : Nat), poi, poi, poi, poi, poi, poi, poi, Value.int IntKind.i64 (↑(n - (2 : Nat)) : Int), Value.int IntKind.i64 (↑s' : Int), poi, poi, poi, poi, poi, poi, poi, poi, poi, poi, poi, poi, poi, poi, poi, poi, poi, poi, poi, poi, poi, poi, poi, poi] ∧ some (AObj.row (ints l) (1 : Nat) true true true) :: some (AObj.row (ints (bnL l s) ++ [Value.int IntKind.i64 (IntKind.wrap IntKind.i64 (IntKind.wrap IntKind.i64 (IntKind.wrap IntKind.i64 ((0 : Int) + IntKind.wrap IntKind.i64 ((1 : Int) * List.getD l ((0 : Nat) + Int.toNat (IntKind.wrap IntKind.i64 ((↑s : Int) + (0 : Int))) * (1 : Nat)) (0 : Int))) + IntKind.wrap IntKind.i64 ((-2 : Int) * List.getD l ((0 : Nat) + Int.toNat (IntKind.wrap IntKind.i64 ((↑s : Int) + (1 : Int))) * (1 : Nat)) (0 : Int))) + IntKind.wrap IntKind.i64 ((1 : Int) * List.getD l ((0 : Nat) + Int.toNat (IntKind.wrap IntKind.i64 ((↑s : Int) + (2 : Int))) * (1 : Nat)) (0 : Int))))]) (1 : Nat) true true (List.all [Value.int IntKind.i64 (IntKind.wrap IntKind.i64 (IntKind.wrap IntKind.i64 (IntKind.wrap IntKind.i64 ((0 : Int) + IntKind.wrap IntKind.i64 ((1 : Int) * List.getD l ((0 : Nat) + Int.toNat (IntKind.wrap IntKind.i64 ((↑s : Int) + (0 : Int))) * (1 : Nat)) (0 : Int))) + IntKind.wrap IntKind.i64 ((-2 : Int) * List.getD l ((0 : Nat) + Int.toNat (IntKind.wrap IntKind.i64 ((↑s : Int) + (1 : Int))) * (1 : Nat)) (0 : Int))) + IntKind.wrap IntKind.i64 ((1 : Int) * List.getD l ((0 : Nat) + Int.toNat (IntKind.wrap IntKind.i64 ((↑s : Int) + (2 : Int))) * (1 : Nat)) (0 : Int))))] atom)) :: noH = some (AObj.row (ints l) (1 : Nat) true true true) :: some (AObj.row (ints (bnL l s')) (1 : Nat) true true true) :: noH) (K (Value.slice (some { block := (1 : Nat), off := (0 : Nat) }) s (0 : Nat)) (some (AObj.row (ints l) (1 : Nat) true true true) :: some (AObj.row (ints (bnL l s)) (1 : Nat) true true true) :: noH))) := by kernel_rfl
theorem sg_zero {xs : List Nat} {n : Nat} (h : n ≤ 4096) (hx : allS xs) : sgE xs n = 0 := by
  rw [sgE, if_neg (by omega)]; exact hx
theorem levs_at {xs : List Nat} {i : Nat} (h : i < xs.length) : (xs.map lev).getD i 0 = lev (xs.getD i 0) := by
  rw [List.getD_eq_getElem?_getD, List.getD_eq_getElem?_getD, List.getElem?_map, List.getElem?_eq_getElem h]; rfl
theorem levs_few {xs : List Nat} (hx : allS xs) : fewI (xs.map lev) := fun i hi => by
  rw [List.length_map] at hi
  rw [levs_at hi]
  exact lev_few (smps hx hi)
noncomputable def orcTn (xs : List Nat) : OrcV
  | [.slice (some ⟨0, 0, none⟩) n _], [some (.row e1 1 true true true)] => some (.tuple #[.slice (some ⟨1, 0, none⟩) n 0, .int .i64 0], [some (.row e1 1 true true true), fR (rvL (xs.map tuO))], e1 = flts xs ∧ xs.length = n ∧ n ≤ 4096 ∧ allS xs)
  | _, _ => none
theorem okTn (xs : List Nat) : OkV Tryd.prog 8 (orcTn xs) := by
  intro args H ret H' vc h hv
  unfold orcTn at h
  split at h
  · rename_i n c e1
    cases h
    obtain ⟨rfl, h1, h2, h3⟩ := hv
    refine fnP_res hm c0_ok (hs := hsTn xs) ?_
    show fnP Tryd.prog c0 (hsTn xs) 8 [.slice (some ⟨0, 0, none⟩) n _] [fR xs] _
    rw [tn_t, sg_zero h2 h3]
    exact ⟨⟨by first | trivial | rfl, h1, by omega⟩, br_of (fun h => by cases h) (fun _ => ⟨⟨by first | trivial | rfl, h1, by omega, h3⟩, ⟨by first | trivial | rfl, by rw [List.length_map]; exact h1, by omega⟩, by first | trivial | rfl, by first | trivial | rfl⟩)⟩
  · cases h
/-- What two signals tell of an offset. -/
noncomputable def ofT (xs ys : List Nat) (n : Nat) : Int := rnd (su (fun j => (xs.map lev).getD j 0) n + su (fun j => (ys.map lev).getD j 0) n) (2 * n)
noncomputable def orcOfs (xs ys : List Nat) : OrcV
  | [.slice (some ⟨0, 0, none⟩) n _, .slice (some ⟨1, 0, none⟩) m _], [some (.row e1 1 true true true), some (.row e2 1 true true true)] =>
    some (.tuple #[.float .f32 (smO (ofT xs ys n)), .int .i64 0], [some (.row e1 1 true true true), some (.row e2 1 true true true)], e1 = flts xs ∧ e2 = flts ys ∧ xs.length = n ∧ ys.length = n ∧ m = n ∧ 0 < n ∧ n ≤ 4096 ∧ allS xs ∧ allS ys ∧ (ofT xs ys n).natAbs ≤ 16384)
  | _, _ => none
theorem okOfs (xs ys : List Nat) : OkV Tryd.prog 9 (orcOfs xs ys) := by
  intro args H ret H' vc h hv
  unfold orcOfs at h
  split at h
  · rename_i n c m d e1 e2
    cases h
    obtain ⟨rfl, rfl, h1, h2, rfl, h4, h5, h6, h7, h8⟩ := hv
    refine fnP_res hm ci2_ok (hs := hsOf xs ys) ?_
    show fnP Tryd.prog ci2 (hsOf xs ys) 9 [.slice (some ⟨0, 0, none⟩) m _, .slice (some ⟨1, 0, none⟩) m _] [fR xs, fR ys] _
    have f1 := levs_few h6
    have f2 := levs_few h7
    have b1 := su_bd (g := fun j => (xs.map lev).getD j 0) (B := 16384) (n := m) (fun i hi => f1 i (by rw [List.length_map]; omega))
    have b2 := su_bd (g := fun j => (ys.map lev).getD j 0) (B := 16384) (n := m) (fun i hi => f2 i (by rw [List.length_map]; omega))
    have e0 : fi [sgE xs m, sgE ys m, wh ((m : Int) != (m : Int)) 2, wh ((m : Int) == 0) 12] = 0 := by
      rw [sg_zero h5 h6, sg_zero h5 h7, bne_self_eq_false, show ((m : Int) == 0) = false from beq_eq_false_iff_ne.2 (by omega)]; rfl
    rw [of_t, e0, wrap_eq (x := 2 * (m : Int)) (by omega) (by omega), wrap_eq (x := su (fun j => (xs.map lev).getD j 0) m + su (fun j => (ys.map lev).getD j 0) m) (by omega) (by omega)]
    exact ⟨⟨by first | trivial | rfl, h1, by omega⟩, ⟨by first | trivial | rfl, h2, by omega⟩, br_of (fun h => by cases h) (fun _ => ⟨⟨by first | trivial | rfl, h1, by omega, h6⟩, ⟨by first | trivial | rfl, by rw [List.length_map]; exact h1, by omega, f1⟩, ⟨by first | trivial | rfl, h2, by omega, h7⟩, ⟨by first | trivial | rfl, by rw [List.length_map]; exact h2, by omega, f2⟩, ⟨by omega, by omega, by omega, by omega⟩, ⟨h8⟩, by first | trivial | rfl, by first | trivial | rfl⟩)⟩
  · cases h
theorem bnL_len (l : List Int) (m : Nat) : (bnL l m).length = m := by rw [bnL, List.length_map, List.length_range]
theorem bnL_more (l : List Int) (m : Nat) : bnL l (m + 1) = bnL l m ++ [bnD l m] := by
  rw [bnL, List.range_succ, List.map_append]; rfl
theorem bnL_at (l : List Int) {m i : Nat} (h : i < m) : (bnL l m).getD i 0 = bnD l i := rngI_at h
noncomputable def orcBn (l : List Int) : OrcV
  | [.slice (some ⟨0, 0, none⟩) n _], [some (.row e1 1 true true true)] => some (.slice (some ⟨1, 0, none⟩) (n - 2) 0, [some (.row e1 1 true true true), oneR (bnL l (n - 2))], e1 = ints l ∧ l.length = n ∧ 2 ≤ n ∧ n ≤ 4096 ∧ fewI l)
  | _, _ => none
set_option maxRecDepth 100000 in
theorem okBn (l : List Int) : OkV Tryd.prog 33 (orcBn l) := by
  intro args H ret H' vc h hv
  unfold orcBn at h
  split at h
  · rename_i n c e1
    cases h
    obtain ⟨rfl, h1, h2, h3, h4⟩ := hv
    refine fnP_res hm c0_ok (hs := hsBn l n c) ?_
    show fnP Tryd.prog c0 (hsBn l n _) 33 [.slice (some ⟨0, 0, none⟩) n _] [oneR l] _
    rw [bn_t]
    have e2 : IntKind.wrap .i64 ((n : Int) - 2) = ((n - 2 : Nat) : Int) := by rw [wrap_eq (by omega) (by omega)]; omega
    rw [e2]
    have e3 : (if ((n - 2 : Nat) : Int) > 0 then ((n - 2 : Nat) : Int) else 0) = ((n - 2 : Nat) : Int) := by split <;> omega
    rw [e3]
    refine ⟨⟨(0 : Nat), ⟨rfl⟩, by first | trivial | rfl, by first | trivial | rfl⟩, fun _ _ => ⟨⟨(0 : Nat), ⟨by omega⟩, by first | trivial | rfl, by first | trivial | rfl⟩, fun s hs' => br_of (fun hc => ?_) (fun hc => ?_)⟩⟩
    · have hc := lt_of_dec hc
      have w0 : IntKind.wrap .i64 ((s : Int) + 0) = ((s : Nat) : Int) := by rw [wrap_eq (by omega) (by omega)]; omega
      have w1 : IntKind.wrap .i64 ((s : Int) + 1) = ((s + 1 : Nat) : Int) := by rw [wrap_eq (by omega) (by omega)]; omega
      have w2 : IntKind.wrap .i64 ((s : Int) + 2) = ((s + 2 : Nat) : Int) := by rw [wrap_eq (by omega) (by omega)]; omega
      have q0 := h4 s (by omega)
      have q1 := h4 (s + 1) (by omega)
      have q2 := h4 (s + 2) (by omega)
      rw [w0, w1, w2]
      simp only [Nat.zero_add, Nat.mul_one, Int.toNat_natCast]
      have e : IntKind.wrap .i64 (IntKind.wrap .i64 (IntKind.wrap .i64 (0 + IntKind.wrap .i64 (1 * l.getD s 0)) + IntKind.wrap .i64 (-2 * l.getD (s + 1) 0)) + IntKind.wrap .i64 (1 * l.getD (s + 2) 0)) = bnD l s := by
        rw [bnD, wrap_eq (x := 1 * l.getD s 0) (by omega) (by omega), wrap_eq (x := -2 * l.getD (s + 1) 0) (by omega) (by omega), wrap_eq (x := 1 * l.getD (s + 2) 0) (by omega) (by omega), wrap_eq (x := 0 + 1 * l.getD s 0) (by omega) (by omega), wrap_eq (x := 0 + 1 * l.getD s 0 + -2 * l.getD (s + 1) 0) (by omega) (by omega), wrap_eq (by omega) (by omega)]
        omega
      rw [e]
      refine ⟨⟨by first | trivial | rfl⟩, ⟨by omega, by omega⟩, ⟨zint_at (by omega)⟩, ⟨by omega, by omega⟩, ⟨zint_at (by omega)⟩, ⟨by omega, by omega⟩, ⟨zint_at (by omega)⟩, ⟨by rw [ints_len, bnL_len], by omega, by omega⟩, s + 1, ⟨hc⟩, ⟨by omega⟩, by first | trivial | rfl, ?_⟩
      rw [bnL_more, ← ints_app]; rfl
    · have hc := ge_of_dec hc
      have : s = n - 2 := by have := hs'.out; omega
      subst this
      exact ⟨by first | trivial | rfl, by first | trivial | rfl⟩
  · cases h
noncomputable def hsBe (xs : List Nat) (n : Nat) : Hs Tryd.prog where
  au := auCalls [(17, hCa Tryd.prog 17 (orcSg xs) (okSg xs)), (32, hCa Tryd.prog 32 (orcCt xs) (okCt xs)), (27, hCa Tryd.prog 27 (orcWs xs) (okWs xs)), (33, hCa Tryd.prog 33 (orcBn (xs.map lev)) (okBn (xs.map lev))), (29, hCa Tryd.prog 29 (orcPs (bnL (xs.map lev) (n - 2))) (okPs (bnL (xs.map lev) (n - 2))))]
theorem be_t (xs : List Nat) (n : Nat) (c : Nat) (K : Value → Heap → Prop) :
    (fnP Tryd.prog ci2 (hsBe xs n) (12 : FuncId) [Value.slice (some { block := (0 : Nat), off := (0 : Nat) }) n c] [fR xs] K) =
    (Is (flts xs = flts xs ∧ List.length xs = n ∧ n ≤ (100000 : Nat)) ∧ Is (flts xs = flts xs) ∧ br (fi [sgE xs n, wh (decide ((↑n : Int) < (2 : Int))) (16 : Int)] != (0 : Int)) (K (Value.tuple #[Value.slice none (0 : Nat) (0 : Nat), Value.int IntKind.i64 (fi [sgE xs n, wh (decide ((↑n : Int) < (2 : Int))) (16 : Int)])]) (some (AObj.row (flts xs) (1 : Nat) true true true) :: noH)) (Is (flts xs = flts xs ∧ List.length xs = n ∧ n ≤ (100000 : Nat) ∧ allS xs) ∧ Is (ints (List.map lev xs) = ints (List.map lev xs) ∧ List.length (List.map lev xs) = n ∧ (2 : Nat) ≤ n ∧ n ≤ (4096 : Nat) ∧ fewI (List.map lev xs)) ∧ Is (ints (bnL (List.map lev xs) (n - (2 : Nat))) = ints (bnL (List.map lev xs) (n - (2 : Nat))) ∧ List.length (bnL (List.map lev xs) (n - (2 : Nat))) = n - (2 : Nat) ∧ n - (2 : Nat) ≤ (100000 : Nat) ∧ fewI (bnL (List.map lev xs) (n - (2 : Nat)))) ∧ K (Value.tuple #[Value.slice (some { block := (1 : Nat), off := (0 : Nat) }) (n - (2 : Nat)) (0 : Nat), Value.int IntKind.i64 (0 : Int)]) (some (AObj.row (flts xs) (1 : Nat) true true true) :: some (AObj.row (flts (List.map smO (bnL (List.map lev xs) (n - (2 : Nat))))) (1 : Nat) true true true) :: noH))) := by kernel_rfl
noncomputable def orcBe (xs : List Nat) : OrcV
  | [.slice (some ⟨0, 0, none⟩) n _], [some (.row e1 1 true true true)] => some (.tuple #[.slice (some ⟨1, 0, none⟩) (n - 2) 0, .int .i64 0], [some (.row e1 1 true true true), fR ((bnL (xs.map lev) (n - 2)).map smO)], e1 = flts xs ∧ xs.length = n ∧ 2 ≤ n ∧ n ≤ 4096 ∧ allS xs ∧ fewI (bnL (xs.map lev) (n - 2)))
  | _, _ => none
theorem okBe (xs : List Nat) : OkV Tryd.prog 12 (orcBe xs) := by
  intro args H ret H' vc h hv
  unfold orcBe at h
  split at h
  · rename_i n c e1
    cases h
    obtain ⟨rfl, h1, h2, h3, h4, h5⟩ := hv
    refine fnP_res hm ci2_ok (hs := hsBe xs n) ?_
    show fnP Tryd.prog ci2 (hsBe xs n) 12 [.slice (some ⟨0, 0, none⟩) n _] [fR xs] _
    have e0 : fi [sgE xs n, wh (decide ((n : Int) < 2)) 16] = 0 := by
      rw [sg_zero h3 h4, decide_eq_false (show ¬ (n : Int) < 2 by omega)]; rfl
    rw [be_t, e0]
    exact ⟨⟨by first | trivial | rfl, h1, by omega⟩, ⟨by first | trivial | rfl⟩, br_of (fun h => by cases h) (fun _ => ⟨⟨by first | trivial | rfl, h1, by omega, h4⟩, ⟨by first | trivial | rfl, by rw [List.length_map]; exact h1, h2, h3, levs_few h4⟩, ⟨by first | trivial | rfl, bnL_len _ _, by omega, h5⟩, by first | trivial | rfl, by first | trivial | rfl⟩)⟩
  · cases h
end
end Qq
end
section
/- A struct that is built with a nil list: the list is made one like any other. -/
namespace Sp
open Go
/-- A list is another one and a third one behind it. -/
def apEq (g a b : List Value) : Prop := g = a ++ b
end Sp
namespace Go.Vm
noncomputable section
def fBn (P : Program) (off es : Nat) (o : Oper) (env : List Value) (H : Heap) : Option (Out × Prop) :=
  match o.op with
  | .build t ps =>
    match evBuild P env t ps with
    | some ⟨.agg xs, [], D, []⟩ =>
      match emp (xs.toList.getD off poi) with
      | true => some (⟨.agg (xs.toList.set off (lv H)).toArray, [(H.length, lo es)], D, [H.length]⟩, True)
      | false => none
    | _ => none
  | _ => none
def hBn (P : Program) (off es : Nat) : Hint P where
  fn := fBn P off es
  ok := by
    intro o env H out vc h _
    unfold fBn at h
    split at h
    · rename_i t ps ho
      split at h
      · rename_i xs D hb
        split at h
        · rename_i hemp
          cases h
          have h0 := build_ok (H := H) ho hb
          intro F A ψ env1 H1 a w hr he hD hnu K Q hK
          refine h0 F A ψ env1 H1 a w hr he hD (by simp) K Q fun ψ1 a1 w1 hr1 => ?_
          have hA : (fun id => A id ∨ id ∈ ([] : List Nat)) = A := by funext id; simp
          rw [hA] at hr1
          have hn : ¬ A H.length := hnu _ (by simp)
          have hag := mono_new (ψ := ψ1) (g := ⟨0, 0, 0, es⟩) hn
          refine hK (upd ψ1 H.length ⟨0, 0, 0, es⟩) a1 w1 ?_
          have hA2 : (fun id => A id ∨ id ∈ [H.length]) = fun id => A id ∨ id = H.length := by funext id; simp
          simp only [] at hA2 ⊢
          rw [hA2]
          have hh : HRel F (fun id => A id ∨ id = H.length) (upd ψ1 H.length ⟨0, 0, 0, es⟩) (ap H1 [(H.length, lo es)]) w1 := hr1.heap.void hn es true true true
          cases hd : o.dst with
          | none =>
            rw [hd] at hr1
            exact ⟨fun i => (hr1.slot i).mono hag, hr1.len, hr1.defers, hh⟩
          | some d =>
            rw [hd] at hr1
            have e : put env1 (some d) (.agg (xs.toList.set off (lv H)).toArray) = st (put env1 (some d) (.agg xs)) d (.agg (xs.toList.set off (lv H)).toArray) := by
              rw [put_some, put_some, st_eq, List.set_set]
            have hlen := hr1.len
            refine ⟨fun i => ?_, by rw [e, st_eq]; simpa using hlen, hr1.defers, hh⟩
            rw [e]
            by_cases hlt : d < env1.length
            · refine slot_turn (hr := hr1) hag ?_ i
              have hs := hr1.slot d
              rw [put_some] at hs
              have hg : (env1.set d (.agg xs)).getD d poi = .agg xs := by simp [List.getD_eq_getElem?_getD, hlt]
              rw [hg] at hs
              obtain ⟨ys, e1, hsz, h1, hh⟩ := hs.agg_inv
              rw [e1]
              refine .agg _ _ (by simpa using hsz) h1 fun j => ?_
              have e2 : (xs.toList.set off (lv H)).toArray.getD j poi = (xs.toList.set off (lv H)).getD j poi := by simp [Array.getD_eq_getD_getElem?, List.getD_eq_getElem?_getD]
              have e3 : ∀ j, xs.toList.getD j poi = xs.getD j poi := fun j => by simp [Array.getD_eq_getD_getElem?, List.getD_eq_getElem?_getD]
              rw [e2, setl_get j hemp]
              split
              · rename_i e; subst e
                have := hh j
                rw [← e3] at this
                exact emp_list hemp this (.inr rfl)
              · rw [e3]; exact (hh j).mono hag
            · have hge : env1.length ≤ d := Nat.le_of_not_lt hlt
              rw [put_some, List.set_eq_of_length_le hge, st_eq, List.set_eq_of_length_le hge]
              have := hr1.slot i
              rw [put_some, List.set_eq_of_length_le hge] at this
              exact this.mono hag
        · cases h
      · cases h
    · cases h
/-- A list put behind a few elements that are known. -/
def fAn (P : Program) (g : List Value) (o : Oper) (env : List Value) (H : Heap) : Option (Out × Prop) :=
  match o.op with
  | .call ⟨.builtin .append, args, ts⟩ =>
    match args.toList, ts.toList with
    | [x, y], [t, tx] =>
      match P.underlying t, P.underlying tx with
      | some (.slice elem), some (.slice _) =>
        match P.info? elem with
        | some ie =>
          match ie.zero, ev env y, evOld H ie.size (ev env x), capOf (ev env x) with
          | some z, .slice (some ⟨jd, 0, none⟩) n _, some (len, olds, D'), some cap =>
            match rd H jd with
            | some (.row src _ _ _ true) =>
              if Nat.beq z.cells.size ie.size && Nat.blt 0 ie.size && olds.all atom && !Nat.beq (capV (ev env x)) big then
                some (⟨.slice (some ⟨H.length, 0, none⟩) (len + n) 0, [(H.length, some (.row g ie.size true true true))], D' ++ [jd], [H.length]⟩,
                  Sp.apEq g olds src ∧ src.length = n * ie.size ∧ (∀ v ∈ src, atom v = true) ∧ 0 < n ∧ cap < len + n ∧ (len + n) * ie.bytes ≤ 140737488355328 ∧ len + n ≤ 9223372036854775807)
              else none
            | _ => none
          | _, _, _, _ => none
        | none => none
      | _, _ => none
    | _, _ => none
  | _ => none
def hAn (P : Program) (g : List Value) : Hint P where
  fn := fAn P g
  ok := by
    intro o env H out vc h hv
    unfold fAn at h
    split at h
    · rename_i args ts ho
      split at h
      · rename_i x y t tx hargs hts
        have ho' : o.op = .call ⟨.builtin .append, #[x, y], ts⟩ := by
          rw [ho, args_list hargs]
        split at h
        · rename_i elem e2 hu hux
          split at h
          · rename_i ie hie
            split at h
            · rename_i z jd n c len olds D' cap hz hy hold hcap
              split at h
              · rename_i src es m rw hrd
                split at h
                · rename_i hc
                  simp only [Bool.and_eq_true] at hc
                  obtain ⟨⟨⟨c1, c2⟩, c3⟩, c4⟩ := hc
                  have c1 := Nat.eq_of_beq_eq_true c1
                  have c2 : 0 < ie.size := blt_lt c2
                  have c4 : capV (ev env x) ≠ big := fun e => by rw [e] at c4; revert c4; decide
                  cases h
                  obtain ⟨v0, v1, v2, v3, v4, v5, v6⟩ := hv
                  have v0 : g = olds ++ src := v0
                  subst v0
                  have hsrc : evSrc P H ie.size tx (ev env y) = some (n, src, [jd]) := by
                    simp only [evSrc, hux, hy, hrd]
                    rw [if_pos (by omega), List.drop_zero, List.take_of_length_le (by omega)]
                  have hat : (olds ++ src).all atom = true := by
                    rw [List.all_append, c3, Bool.true_and]
                    exact List.all_eq_true.2 v2
                  refine append_ok (nid := H.length) ho' ?_
                  unfold evAppend
                  simp only [hts, hu, hie, hz, hsrc, hold, hcap]
                  rw [if_neg (by omega), if_pos ⟨v5, v6, c1, c2, c4⟩, if_neg (by omega), hat]
                · cases h
              · cases h
            · cases h
          · cases h
        · cases h
      · cases h
    · cases h
end
end Go.Vm
end
section
/- Channels; corrected; felt and freed. -/
open Go Go.Vm Go.Proofs Sp
namespace Sp
noncomputable section
/-- Second differences as they are felt at speeds, the first k of them. -/
noncomputable def feD (l sp : List Int) (k i : Nat) : Int := if i < k then bnD l i * (sp.getD i 0 * sp.getD i 0) else bnD l i
noncomputable def feL (l sp : List Int) (m k : Nat) : List Int := (List.range m).map (feD l sp k)
noncomputable def frD (l sp : List Int) (i : Nat) : Int := rnd (l.getD i 0) (sp.getD i 0 * sp.getD i 0)
noncomputable def frL (l sp : List Int) (k : Nat) : List Int := (List.range k).map (frD l sp)
/-- The error of a channel. -/
noncomputable def ccE (nm : ByteArray) (o : Nat) (a b : Int) : Int := fi [wh (!nameB nm) 8, sE o, wi a 1 1000, wi b 1 1000]
noncomputable def coO (o x : Nat) : Int := lev x - lev o
end
end Sp
namespace Qq
noncomputable section
noncomputable def i3 : List (Nat × Orc) := (39, orcName) :: (38, orcSm1) :: i2
theorem i3_all : ∀ p ∈ i3, Ok Tryd.prog p.1 p.2 := all_cons okName (all_cons okSm1 i2_all)
noncomputable def ci3 : CallF := ctx Tryd.prog i3
theorem ci3_ok : CallOK Tryd.prog ci3 := ctx_ok hm i3_all
noncomputable def chA (nm : ByteArray) (o : Nat) (a b : Int) : List Value := [.string nm, .float .f32 o, .int .i64 a, .int .i64 b]
theorem cc_t (nm : ByteArray) (o : Nat) (a : Int) (b : Int) (K : Value → Heap → Prop) :
    (fnP Tryd.prog ci3 h0 (28 : FuncId) [Value.agg (List.toArray (chA nm o a b))] [] K) =
    (K (Value.int IntKind.i64 (fi [wh (!nameB nm) (8 : Int), sE o, wi a (1 : Int) (1000 : Int), wi b (1 : Int) (1000 : Int)])) noH) := by kernel_rfl
noncomputable def chR (nm : ByteArray) (o : Nat) : Option AObj := some (.row (chA nm o 1 1) 0 false true true)
noncomputable def hsC1 : Hs Tryd.prog where
  au := auCalls [(21, hCa Tryd.prog 21 orcWl okWl), (25, hCa Tryd.prog 25 orcRnd okRnI)]
theorem c1_t (nm : ByteArray) (o : Nat) (x : Nat) (K : Value → Heap → Prop) :
    (fnP Tryd.prog c0 hsC1 (31 : FuncId) [Value.float FloatKind.f32 x, Value.pointer (some { block := (0 : Nat), off := (0 : Nat) })] [chR nm o] K) =
    (Is (sE x = (0 : Int)) ∧ Is (sE o = (0 : Int)) ∧ Is ((0 : Int) < (1 : Int) ∧ (1 : Int) ≤ (1000000000 : Int) ∧ (-1000000000000000000 : Int) ≤ IntKind.wrap IntKind.i64 (IntKind.wrap IntKind.i64 (lev x - lev o) * (1 : Int)) ∧ IntKind.wrap IntKind.i64 (IntKind.wrap IntKind.i64 (lev x - lev o) * (1 : Int)) ≤ (1000000000000000000 : Int)) ∧ K (Value.int IntKind.i64 (rnd (IntKind.wrap IntKind.i64 (IntKind.wrap IntKind.i64 (lev x - lev o) * (1 : Int))) (1 : Int))) (some (AObj.row [Value.string nm, Value.float FloatKind.f32 o, Value.int IntKind.i64 (1 : Int), Value.int IntKind.i64 (1 : Int)] (0 : Nat) false true true) :: noH)) := by kernel_rfl
noncomputable def orcCc : OrcV
  | [.agg ⟨[.string nm, .float .f32 o, .int .i64 a, .int .i64 b]⟩], [] => some (.int .i64 (ccE nm o a b), [], True)
  | _, _ => none
theorem okCc : OkV Tryd.prog 28 orcCc := by
  intro args H ret H' vc h hv
  unfold orcCc at h
  split at h
  · rename_i nm o a b
    cases h
    refine fnP_res hm ci3_ok (hs := h0) ?_
    show fnP Tryd.prog ci3 h0 28 [.agg (chA nm o a b).toArray] [] _
    rw [cc_t]
    exact ⟨by first | trivial | rfl, by first | trivial | rfl⟩
  · cases h
noncomputable def orcC1 : OrcV
  | [.float .f32 x, .pointer (some ⟨0, 0, none⟩)], [some (.row [.string nm, .float .f32 o, .int .i64 1, .int .i64 1] 0 false true true)] => some (.int .i64 (coO o x), [chR nm o], sE x = 0 ∧ sE o = 0)
  | _, _ => none
theorem okC1 : OkV Tryd.prog 31 orcC1 := by
  intro args H ret H' vc h hv
  unfold orcC1 at h
  split at h
  · rename_i x nm o
    cases h
    obtain ⟨h1, h2⟩ := hv
    have f1 := lev_few h1
    have f2 := lev_few h2
    refine fnP_res hm c0_ok (hs := hsC1) ?_
    show fnP Tryd.prog c0 hsC1 31 _ [chR nm o] _
    have e1 : IntKind.wrap .i64 (lev x - lev o) = lev x - lev o := wrap_eq (by omega) (by omega)
    have e2 : IntKind.wrap .i64 ((lev x - lev o) * 1) = lev x - lev o := by rw [Int.mul_one, e1]
    have e3 : rnd (lev x - lev o) 1 = coO o x := by
      have := rnd_whole (o := lev x - lev o) (b := 1) (by omega)
      rwa [Int.mul_one] at this
    rw [c1_t, e1, e2, e3]
    exact ⟨⟨h1⟩, ⟨h2⟩, ⟨by omega, by omega, by omega, by omega⟩, by first | trivial | rfl, by first | trivial | rfl⟩
  · cases h
noncomputable def fnC : Value := .func (.func 31) #[] #[.pointer (some ⟨1, 0, none⟩)]
noncomputable def lpMc0 (l : List Nat) (nm : ByteArray) (o : Nat) (n c : Nat) : Lp where
  σ := Nat
  E _ := slots 22 [(0, .slice (some ⟨0, 0, none⟩) n c), (1, fnC), (5, .slice (some ⟨2, 0, none⟩) 0 0)]
  Hp _ := [fR l, chR nm o, oneR []]
  I s := s = 0
  m _ := 0
noncomputable def lpMc (l : List Nat) (nm : ByteArray) (o : Nat) (n c : Nat) : Lp where
  σ := Nat
  E i := slots 22 [(1, fnC), (5, .slice (some ⟨2, 0, none⟩) i 0), (8, .slice (some ⟨0, 0, none⟩) n c), (9, .int .i64 (Int.ofNat n)), (10, .int .i64 (Int.ofNat i))]
  Hp i := [fR l, chR nm o, oneR ((l.take i).map (coO o))]
  I i := i ≤ n
  m i := n - i
noncomputable def hsMc (l : List Nat) (nm : ByteArray) (o : Nat) (n c : Nat) : Hs Tryd.prog where
  op y := if y = 400 then some (hIa Tryd.prog) else if y = 401 then some (hLd Tryd.prog (xF l)) else if y = 503 then some (hCa Tryd.prog 31 orcC1 okC1) else if y = 505 then some (hAp Tryd.prog) else none
  cut y := if y = 2 then some (lpMc0 l nm o n c) else none
  lp _ := some (lpMc l nm o n c)
  cl y := if y = 2 then keep 22 [0, 1, 5] else keep 22 [1, 5, 8, 9, 10]
  nl y := if y = 2 then [.slot 5 1] else []
  au := au0 Tryd.prog
theorem mc_t (l : List Nat) (nm : ByteArray) (o : Nat) (n : Nat) (c : Nat) (K : Value → Heap → Prop) :
    (fnP Tryd.prog c0 (hsMc l nm o n c) (30 : FuncId) [Value.slice (some { block := (0 : Nat), off := (0 : Nat) }) n c, fnC] [fR l, chR nm o] K) =
    ((∃ (s : Nat), Is (s = (0 : Nat)) ∧ [Value.slice (some { block := (0 : Nat), off := (0 : Nat) }) n c, Value.func (Fn.func (31 : Nat)) #[] #[Value.pointer (some { block := (1 : Nat), off := (0 : Nat) })], poi, poi, poi, Value.slice (some { block := (2 : Nat), off := (0 : Nat) }) (0 : Nat) (0 : Nat), poi, poi, poi, poi, poi, poi, poi, poi, poi, poi, poi, poi, poi, poi, poi, poi] = [Value.slice (some { block := (0 : Nat), off := (0 : Nat) }) n c, Value.func (Fn.func (31 : Nat)) #[] #[Value.pointer (some { block := (1 : Nat), off := (0 : Nat) })], poi, poi, poi, Value.slice (some { block := (2 : Nat), off := (0 : Nat) }) (0 : Nat) (0 : Nat), poi, poi, poi, poi, poi, poi, poi, poi, poi, poi, poi, poi, poi, poi, poi, poi] ∧ some (AObj.row (flts l) (1 : Nat) true true true) :: some (AObj.row [Value.string nm, Value.float FloatKind.f32 o, Value.int IntKind.i64 (1 : Int), Value.int IntKind.i64 (1 : Int)] (0 : Nat) false true true) :: some (AObj.row [] (1 : Nat) true true true) :: noH = some (AObj.row (flts l) (1 : Nat) true true true) :: some (AObj.row [Value.string nm, Value.float FloatKind.f32 o, Value.int IntKind.i64 (1 : Int), Value.int IntKind.i64 (1 : Int)] (0 : Nat) false true true) :: some (AObj.row [] (1 : Nat) true true true) :: noH) ∧ ∀ (s : Nat), Is (s = (0 : Nat)) → (∃ (s : Nat), Is (s ≤ n) ∧ [poi, Value.func (Fn.func (31 : Nat)) #[] #[Value.pointer (some { block := (1 : Nat), off := (0 : Nat) })], poi, poi, poi, Value.slice (some { block := (2 : Nat), off := (0 : Nat) }) (0 : Nat) (0 : Nat), poi, poi, Value.slice (some { block := (0 : Nat), off := (0 : Nat) }) n c, Value.int IntKind.i64 (↑n : Int), Value.int IntKind.i64 (0 : Int), poi, poi, poi, poi, poi, poi, poi, poi, poi, poi, poi] = [poi, Value.func (Fn.func (31 : Nat)) #[] #[Value.pointer (some { block := (1 : Nat), off := (0 : Nat) })], poi, poi, poi, Value.slice (some { block := (2 : Nat), off := (0 : Nat) }) s (0 : Nat), poi, poi, Value.slice (some { block := (0 : Nat), off := (0 : Nat) }) n c, Value.int IntKind.i64 (↑n : Int), Value.int IntKind.i64 (↑s : Int), poi, poi, poi, poi, poi, poi, poi, poi, poi, poi, poi] ∧ some (AObj.row (flts l) (1 : Nat) true true true) :: some (AObj.row [Value.string nm, Value.float FloatKind.f32 o, Value.int IntKind.i64 (1 : Int), Value.int IntKind.i64 (1 : Int)] (0 : Nat) false true true) :: some (AObj.row [] (1 : Nat) true true true) :: noH = some (AObj.row (flts l) (1 : Nat) true true true) :: some (AObj.row [Value.string nm, Value.float FloatKind.f32 o, Value.int IntKind.i64 (1 : Int), Value.int IntKind.i64 (1 : Int)] (0 : Nat) false true true) :: some (AObj.row (ints (List.map (coO o) (List.take s l))) (1 : Nat) true true true) :: noH) ∧ ∀ (s : Nat), Is (s ≤ n) → br (decide ((↑s : Int) < (↑n : Int))) (Is ((0 : Int) ≤ (↑s : Int) ∧ (↑s : Int) < (↑n : Int)) ∧ Is ((flts l)[(0 : Nat) + Int.toNat (↑s : Int) * (1 : Nat)]? = some (Value.float FloatKind.f32 (List.getD l ((0 : Nat) + Int.toNat (↑s : Int) * (1 : Nat)) (0 : Nat)))) ∧ Is (sE (List.getD l ((0 : Nat) + Int.toNat (↑s : Int) * (1 : Nat)) (0 : Nat)) = (0 : Int) ∧ sE o = (0 : Int)) ∧ Is (List.length (ints (List.map (coO o) (List.take s l))) = s * (1 : Nat) ∧ (s + (1 : Nat)) * (8 : Nat) ≤ (140737488355328 : Nat) ∧ s + (1 : Nat) ≤ (9223372036854775807 : Nat)) ∧ ∃ (s' : Nat), Is (s' ≤ n) ∧ Is (n - s' < n - s) ∧ [poi, Value.func (Fn.func (31 : Nat)) #[] #[Value.pointer (some { block := (1 : Nat), off := (0 : Nat) })], poi, poi, poi, Value.slice (some { block := (2 : Nat), off := (0 : Nat) }) (s + (1 : Nat)) (0 : Nat), poi, poi, Value.slice (some { block := (0 : Nat), off := (0 : Nat) }) n c, Value.int IntKind.i64 (↑n : Int), Value.int IntKind.i64 (IntKind.wrap IntKind.i64 ((↑s : Int) + (1 : Int))), poi, poi, poi, poi, poi, poi, poi, poi, poi, poi, poi] = [poi, Value.func (Fn.func (31 : Nat)) #[] #[Value.pointer (some { block := (1 : Nat), off := (0 : Nat) })], poi, poi, poi, Value.slice (some { block := (2 : Nat), off := (0 : Nat) }) s' (0 : Nat), poi, poi, Value.slice (some { block := (0 : Nat), off := (0 : Nat) }) n c, Value.int IntKind.i64 (↑n : Int), Value.int IntKind.i64 (↑s' : Int), poi, poi, poi, poi, poi, poi, poi, poi, poi, poi, poi] ∧ some (AObj.row (flts l) (1 : Nat) true true true) :: some (AObj.row [Value.string nm, Value.float FloatKind.f32 o, Value.int IntKind.i64 (1 : Int), Value.int IntKind.i64 (1 : Int)] (0 : Nat) false true true) :: some (AObj.row (ints (List.map (coO o) (List.take s l)) ++ [Value.int IntKind.i64 (coO o (List.getD l ((0 : Nat) + Int.toNat (↑s : Int) * (1 : Nat)) (0 : Nat)))]) (1 : Nat) true true (List.all [Value.int IntKind.i64 (coO o (List.getD l ((0 : Nat) + Int.toNat (↑s : Int) * (1 : Nat)) (0 : Nat)))] atom)) :: noH = some (AObj.row (flts l) (1 : Nat) true true true) :: some (AObj.row [Value.string nm, Value.float FloatKind.f32 o, Value.int IntKind.i64 (1 : Int), Value.int IntKind.i64 (1 : Int)] (0 : Nat) false true true) :: some (AObj.row (ints (List.map (coO o) (List.take s' l))) (1 : Nat) true true true) :: noH) (K (Value.slice (some { block := (2 : Nat), off := (0 : Nat) }) s (0 : Nat)) (some (AObj.row (flts l) (1 : Nat) true true true) :: some (AObj.row [Value.string nm, Value.float FloatKind.f32 o, Value.int IntKind.i64 (1 : Int), Value.int IntKind.i64 (1 : Int)] (0 : Nat) false true true) :: some (AObj.row (ints (List.map (coO o) (List.take s l))) (1 : Nat) true true true) :: noH))) := by kernel_rfl
set_option maxRecDepth 100000 in
theorem mc_ok {l : List Nat} {nm : ByteArray} {o n c : Nat} (hn : l.length = n) (h9 : n ≤ 100000) (hx : allS l) (ho : sE o = 0) :
    SmallRes Tryd.prog 30 [.slice (some ⟨0, 0, none⟩) n c, fnC] [fR l, chR nm o] (.slice (some ⟨2, 0, none⟩) n 0) [fR l, chR nm o, oneR (l.map (coO o))] := by
  refine fnP_res hm c0_ok (hs := hsMc l nm o n c) ?_
  rw [mc_t]
  refine ⟨⟨(0 : Nat), ⟨rfl⟩, by first | trivial | rfl, by first | trivial | rfl⟩, fun _ _ => ⟨⟨(0 : Nat), ⟨by omega⟩, by first | trivial | rfl, by first | trivial | rfl⟩, fun s hs' => br_of (fun hc => ?_) (fun hc => ?_)⟩⟩
  · have hc := lt_of_dec hc
    simp only [Nat.zero_add, Nat.mul_one, Int.toNat_natCast]
    refine ⟨⟨by omega, by omega⟩, ⟨flts_at (by omega)⟩, ⟨smps hx (by omega), ho⟩, ⟨by rw [ints_len, List.length_map, List.length_take]; omega, by omega, by omega⟩, s + 1, ⟨hc⟩, ⟨by omega⟩, ?_, ?_⟩
    · rw [up1 hc (by omega)]
    · rw [take_oneF (by omega), List.map_append, ← ints_app]; rfl
  · have hc := ge_of_dec hc
    have : s = n := by have := hs'.out; omega
    subst this
    rw [← hn, List.take_length]
    exact ⟨by first | trivial | rfl, by first | trivial | rfl⟩
noncomputable def orcMc (l : List Nat) : OrcV
  | [.slice (some ⟨0, 0, none⟩) n _, .func (.func 31) ⟨[]⟩ ⟨[.pointer (some ⟨1, 0, none⟩)]⟩], [some (.row e1 1 true true true), some (.row [.string nm, .float .f32 o, .int .i64 1, .int .i64 1] 0 false true true)] =>
    some (.slice (some ⟨2, 0, none⟩) n 0, [some (.row e1 1 true true true), chR nm o, oneR (l.map (coO o))], e1 = flts l ∧ l.length = n ∧ n ≤ 100000 ∧ allS l ∧ sE o = 0)
  | _, _ => none
theorem okMc (l : List Nat) : OkV Tryd.prog 30 (orcMc l) := by
  intro args H ret H' vc h hv
  unfold orcMc at h
  split at h
  · cases h
    obtain ⟨rfl, h1, h2, h3, h4⟩ := hv
    exact mc_ok h1 h2 h3 h4
  · cases h
noncomputable def hsCo (xs : List Nat) (o : Nat) : Hs Tryd.prog where
  au := auCalls [(28, hCa Tryd.prog 28 orcCc okCc), (17, hCa Tryd.prog 17 (orcSg xs) (okSg xs)), (30, hCa Tryd.prog 30 (orcMc xs) (okMc xs)), (29, hCa Tryd.prog 29 (orcPs (xs.map (coO o))) (okPs (xs.map (coO o))))]
theorem co_t (xs : List Nat) (nm : ByteArray) (o : Nat) (n : Nat) (c : Nat) (K : Value → Heap → Prop) :
    (fnP Tryd.prog ci2 (hsCo xs o) (10 : FuncId) [Value.agg (List.toArray (chA nm o (1 : Int) (1 : Int))), Value.slice (some { block := (0 : Nat), off := (0 : Nat) }) n c] [fR xs] K) =
    (Is True ∧ Is (flts xs = flts xs ∧ List.length xs = n ∧ n ≤ (100000 : Nat)) ∧ br (fi [ccE nm o (1 : Int) (1 : Int), sgE xs n] != (0 : Int)) (K (Value.tuple #[Value.slice none (0 : Nat) (0 : Nat), Value.int IntKind.i64 (fi [ccE nm o (1 : Int) (1 : Int), sgE xs n])]) (some (AObj.row (flts xs) (1 : Nat) true true true) :: noH)) (Is (flts xs = flts xs ∧ List.length xs = n ∧ n ≤ (100000 : Nat) ∧ allS xs ∧ sE o = (0 : Int)) ∧ Is (ints (List.map (coO o) xs) = ints (List.map (coO o) xs) ∧ List.length (List.map (coO o) xs) = n ∧ n ≤ (100000 : Nat) ∧ fewI (List.map (coO o) xs)) ∧ K (Value.tuple #[Value.slice (some { block := (1 : Nat), off := (0 : Nat) }) n (0 : Nat), Value.int IntKind.i64 (0 : Int)]) (some (AObj.row (flts xs) (1 : Nat) true true true) :: some (AObj.row (flts (List.map smO (List.map (coO o) xs))) (1 : Nat) true true true) :: noH))) := by kernel_rfl
/- Felt. -/
noncomputable def lpFe (xs : List Nat) (sp : List Int) (n m d : Nat) : Lp where
  σ := Nat
  E k := slots 55 [(1, .slice (some ⟨1, 0, none⟩) m d), (7, .slice (some ⟨2, 0, none⟩) (n - 2) 0), (31, .int .i64 (Int.ofNat (n - 2))), (32, .int .i64 (Int.ofNat k))]
  Hp k := [fR xs, oneR sp, oneR (feL (xs.map lev) sp (n - 2) k)]
  I k := k ≤ n - 2
  m k := n - k
noncomputable def hsFe (xs : List Nat) (sp : List Int) (n m d : Nat) : Hs Tryd.prog where
  op y := if [802, 806, 810, 814].contains y then some (hIa Tryd.prog) else if y = 803 then some (hLd Tryd.prog (zI (bnL (xs.map lev) (n - 2)))) else if [807, 811].contains y then some (hLd Tryd.prog (zI sp)) else if y = 815 then some (hSp Tryd.prog) else none
  lp _ := some (lpFe xs sp n m d)
  cl _ := keep 55 [1, 7, 31, 32]
  au := auCalls [(17, hCa Tryd.prog 17 (orcSg xs) (okSg xs)), (34, hCa Tryd.prog 34 (orcSps sp) (okSps sp)), (32, hCa Tryd.prog 32 (orcCt xs) (okCt xs)), (27, hCa Tryd.prog 27 (orcWs xs) (okWs xs)), (33, hCa Tryd.prog 33 (orcBn (xs.map lev)) (okBn (xs.map lev))),
    (29, hCa Tryd.prog 29 (orcPs (feL (xs.map lev) sp (n - 2) (n - 2))) (okPs (feL (xs.map lev) sp (n - 2) (n - 2))))]
theorem fe_t (xs : List Nat) (sp : List Int) (n : Nat) (c : Nat) (m : Nat) (d : Nat) (K : Value → Heap → Prop) :
    (fnP Tryd.prog ci2 (hsFe xs sp n m d) (13 : FuncId) [Value.slice (some { block := (0 : Nat), off := (0 : Nat) }) n c, Value.slice (some { block := (1 : Nat), off := (0 : Nat) }) m d] [fR xs, oneR sp] K) =
    (Is (flts xs = flts xs ∧ List.length xs = n ∧ n ≤ (100000 : Nat)) ∧ Is (ints sp = ints sp ∧ List.length sp = m ∧ m ≤ (100000 : Nat)) ∧ Is (flts xs = flts xs) ∧ br (fi [sgE xs n, spsE sp m, wh (decide ((↑n : Int) < (2 : Int))) (16 : Int), wh ((↑m : Int) != IntKind.wrap IntKind.i64 ((↑n : Int) - (2 : Int))) (2 : Int)] != (0 : Int)) (K (Value.tuple #[Value.slice none (0 : Nat) (0 : Nat), Value.int IntKind.i64 (fi [sgE xs n, spsE sp m, wh (decide ((↑n : Int) < (2 : Int))) (16 : Int), wh ((↑m : Int) != IntKind.wrap IntKind.i64 ((↑n : Int) - (2 : Int))) (2 : Int)])]) (some (AObj.row (flts xs) (1 : Nat) true true true) :: some (AObj.row (ints sp) (1 : Nat) true true true) :: noH)) (Is (flts xs = flts xs ∧ List.length xs = n ∧ n ≤ (100000 : Nat) ∧ allS xs) ∧ Is (ints (List.map lev xs) = ints (List.map lev xs) ∧ List.length (List.map lev xs) = n ∧ (2 : Nat) ≤ n ∧ n ≤ (4096 : Nat) ∧ fewI (List.map lev xs)) ∧ (∃ (s : Nat), Is (s ≤ n - (2 : Nat)) ∧ [poi, Value.slice (some { block := (1 : Nat), off := (0 : Nat) }) m d, poi, poi, poi, poi, poi, Value.slice (some { block := (2 : Nat), off := (0 : Nat) }) (n - (2 : Nat)) (0 : Nat), poi, poi, poi, poi, poi, poi, poi, poi, poi, poi, poi, poi, poi, poi, poi, poi, poi, poi, poi, poi, poi, poi, poi, Value.int IntKind.i64 (↑(n - (2 : Nat)) : Int), Value.int IntKind.i64 (0 : Int), poi, poi, poi, poi, poi, poi, poi, poi, poi, poi, poi, poi, poi, poi, poi, poi, poi, poi, poi, poi, poi, poi] = [poi, Value.slice (some { block := (1 : Nat), off := (0 : Nat) }) m d, poi, poi, poi, poi, poi, Value.slice (some { block := (2 : Nat), off := (0 : Nat) }) (n - (2 : Nat)) (0 : Nat), poi, poi, poi, poi, poi, poi, poi, poi, poi, poi, poi, poi, poi, poi, poi, poi, poi, poi, poi, poi, poi, poi, poi, Value.int IntKind.i64 (↑(n - (2 : Nat)) : Int), Value.int IntKind.i64 (↑s : Int), poi, poi, poi, poi, poi, poi, poi, poi, poi, poi, poi, poi, poi, poi, poi, poi, poi, poi, poi, poi, poi, poi] ∧ some (AObj.row (flts xs) (1 : Nat) true true true) :: some (AObj.row (ints sp) (1 : Nat) true true true) :: some (AObj.row (ints (bnL (List.map lev xs) (n - (2 : Nat)))) (1 : Nat) true true true) :: noH = some (AObj.row (flts xs) (1 : Nat) true true true) :: some (AObj.row (ints sp) (1 : Nat) true true true) :: some (AObj.row (ints (feL (List.map lev xs) sp (n - (2 : Nat)) s)) (1 : Nat) true true true) :: noH) ∧ ∀ (s : Nat), Is (s ≤ n - (2 : Nat)) → br (decide ((↑s : Int) < (↑(n - (2 : Nat)) : Int))) (Is ((0 : Int) ≤ (↑s : Int) ∧ (↑s : Int) < (↑(n - (2 : Nat)) : Int)) ∧ Is ((ints (feL (List.map lev xs) sp (n - (2 : Nat)) s))[(0 : Nat) + Int.toNat (↑s : Int) * (1 : Nat)]? = some (Value.int IntKind.i64 (List.getD (bnL (List.map lev xs) (n - (2 : Nat))) ((0 : Nat) + Int.toNat (↑s : Int) * (1 : Nat)) (0 : Int)))) ∧ Is ((0 : Int) ≤ (↑s : Int) ∧ (↑s : Int) < (↑m : Int)) ∧ Is ((ints sp)[(0 : Nat) + Int.toNat (↑s : Int) * (1 : Nat)]? = some (Value.int IntKind.i64 (List.getD sp ((0 : Nat) + Int.toNat (↑s : Int) * (1 : Nat)) (0 : Int)))) ∧ Is ((0 : Int) ≤ (↑s : Int) ∧ (↑s : Int) < (↑m : Int)) ∧ Is ((ints sp)[(0 : Nat) + Int.toNat (↑s : Int) * (1 : Nat)]? = some (Value.int IntKind.i64 (List.getD sp ((0 : Nat) + Int.toNat (↑s : Int) * (1 : Nat)) (0 : Int)))) ∧ Is ((0 : Int) ≤ (↑s : Int) ∧ (↑s : Int) < (↑(n - (2 : Nat)) : Int)) ∧ Is ((0 : Nat) + Int.toNat (↑s : Int) * (1 : Nat) + List.length [Value.int IntKind.i64 (IntKind.wrap IntKind.i64 (List.getD (bnL (List.map lev xs) (n - (2 : Nat))) ((0 : Nat) + Int.toNat (↑s : Int) * (1 : Nat)) (0 : Int) * IntKind.wrap IntKind.i64 (List.getD sp ((0 : Nat) + Int.toNat (↑s : Int) * (1 : Nat)) (0 : Int) * List.getD sp ((0 : Nat) + Int.toNat (↑s : Int) * (1 : Nat)) (0 : Int))))] ≤ List.length (ints (feL (List.map lev xs) sp (n - (2 : Nat)) s))) ∧ ∃ (s' : Nat), Is (s' ≤ n - (2 : Nat)) ∧ Is (n - s' < n - s) ∧ [poi, Value.slice (some { block := (1 : Nat), off := (0 : Nat) }) m d, poi, poi, poi, poi, poi, Value.slice (some { block := (2 : Nat), off := (0 : Nat) }) (n - (2 : Nat)) (0 : Nat), poi, poi, poi, poi, poi, poi, poi, poi, poi, poi, poi, poi, poi, poi, poi, poi, poi, poi, poi, poi, poi, poi, poi, Value.int IntKind.i64 (↑(n - (2 : Nat)) : Int), Value.int IntKind.i64 (IntKind.wrap IntKind.i64 ((↑s : Int) + (1 : Int))), poi, poi, poi, poi, poi, poi, poi, poi, poi, poi, poi, poi, poi, poi, poi, poi, poi, poi, poi, poi, poi, poi] = [poi, Value.slice (some { block := (1 : Nat), off := (0 : Nat) }) m d, poi, poi, poi, poi, poi, Value.slice (some { block := (2 : Nat), off := (0 : Nat) }) (n - (2 : Nat)) (0 : Nat), poi, poi, poi, poi, poi, poi, poi, poi, poi, poi, poi, poi, poi, poi, poi, poi, poi, poi, poi, poi, poi, poi, poi, Value.int IntKind.i64 (↑(n - (2 : Nat)) : Int), Value.int IntKind.i64 (↑s' : Int), poi, poi, poi, poi, poi, poi, poi, poi, poi, poi, poi, poi, poi, poi, poi, poi, poi, poi, poi, poi, poi, poi] ∧ some (AObj.row (flts xs) (1 : Nat) true true true) :: some (AObj.row (ints sp) (1 : Nat) true true true) :: some (AObj.row (putL (ints (feL (List.map lev xs) sp (n - (2 : Nat)) s)) ((0 : Nat) + Int.toNat (↑s : Int) * (1 : Nat)) [Value.int IntKind.i64 (IntKind.wrap IntKind.i64 (List.getD (bnL (List.map lev xs) (n - (2 : Nat))) ((0 : Nat) + Int.toNat (↑s : Int) * (1 : Nat)) (0 : Int) * IntKind.wrap IntKind.i64 (List.getD sp ((0 : Nat) + Int.toNat (↑s : Int) * (1 : Nat)) (0 : Int) * List.getD sp ((0 : Nat) + Int.toNat (↑s : Int) * (1 : Nat)) (0 : Int))))]) (1 : Nat) true true (true && List.all [Value.int IntKind.i64 (IntKind.wrap IntKind.i64 (List.getD (bnL (List.map lev xs) (n - (2 : Nat))) ((0 : Nat) + Int.toNat (↑s : Int) * (1 : Nat)) (0 : Int) * IntKind.wrap IntKind.i64 (List.getD sp ((0 : Nat) + Int.toNat (↑s : Int) * (1 : Nat)) (0 : Int) * List.getD sp ((0 : Nat) + Int.toNat (↑s : Int) * (1 : Nat)) (0 : Int))))] atom)) :: noH = some (AObj.row (flts xs) (1 : Nat) true true true) :: some (AObj.row (ints sp) (1 : Nat) true true true) :: some (AObj.row (ints (feL (List.map lev xs) sp (n - (2 : Nat)) s')) (1 : Nat) true true true) :: noH) (Is (ints (feL (List.map lev xs) sp (n - (2 : Nat)) s) = ints (feL (List.map lev xs) sp (n - (2 : Nat)) (n - (2 : Nat))) ∧ List.length (feL (List.map lev xs) sp (n - (2 : Nat)) (n - (2 : Nat))) = n - (2 : Nat) ∧ n - (2 : Nat) ≤ (100000 : Nat) ∧ fewI (feL (List.map lev xs) sp (n - (2 : Nat)) (n - (2 : Nat)))) ∧ K (Value.tuple #[Value.slice (some { block := (2 : Nat), off := (0 : Nat) }) (n - (2 : Nat)) (0 : Nat), Value.int IntKind.i64 (0 : Int)]) (some (AObj.row (flts xs) (1 : Nat) true true true) :: some (AObj.row (ints sp) (1 : Nat) true true true) :: some (AObj.row (flts (List.map smO (feL (List.map lev xs) sp (n - (2 : Nat)) (n - (2 : Nat))))) (1 : Nat) true true true) :: noH)))) := by kernel_rfl
/- Freed. -/
noncomputable def lpFr0 (xs : List Nat) (sp : List Int) (n c m d : Nat) : Lp where
  σ := Nat
  E _ := slots 52 [(0, .slice (some ⟨0, 0, none⟩) n c), (1, .slice (some ⟨1, 0, none⟩) m d), (7, .slice (some ⟨2, 0, none⟩) 0 0)]
  Hp _ := [fR xs, oneR sp, oneR []]
  I k := k = 0
  m _ := 0
noncomputable def lpFr (xs : List Nat) (sp : List Int) (n m d : Nat) : Lp where
  σ := Nat
  E k := slots 52 [(1, .slice (some ⟨1, 0, none⟩) m d), (7, .slice (some ⟨2, 0, none⟩) k 0), (26, .slice (some ⟨3, 0, none⟩) n 0), (27, .int .i64 (Int.ofNat n)), (28, .int .i64 (Int.ofNat k))]
  Hp k := [fR xs, oneR sp, oneR (frL (xs.map lev) sp k), oneR (xs.map lev)]
  I k := k ≤ n
  m k := n - k
noncomputable def hsFr (xs : List Nat) (sp : List Int) (n c m d : Nat) : Hs Tryd.prog where
  op y := if [701, 804, 808].contains y then some (hIa Tryd.prog) else if y = 702 then some (hLd Tryd.prog (zI (xs.map lev))) else if [805, 809].contains y then some (hLd Tryd.prog (zI sp)) else if y = 813 then some (hAp Tryd.prog) else none
  cut y := if y = 5 then some (lpFr0 xs sp n c m d) else none
  lp _ := some (lpFr xs sp n m d)
  cl y := if y = 5 then keep 52 [0, 1, 7] else keep 52 [1, 7, 26, 27, 28]
  nl y := if y = 5 then [.slot 7 1] else []
  au := auCalls [(17, hCa Tryd.prog 17 (orcSg xs) (okSg xs)), (34, hCa Tryd.prog 34 (orcSps sp) (okSps sp)), (27, hCa Tryd.prog 27 (orcWs xs) (okWs xs)), (25, hCa Tryd.prog 25 orcRnd okRnI),
    (29, hCa Tryd.prog 29 (orcPs (frL (xs.map lev) sp n)) (okPs (frL (xs.map lev) sp n)))]
theorem fr_t (xs : List Nat) (sp : List Int) (n : Nat) (c : Nat) (m : Nat) (d : Nat) (K : Value → Heap → Prop) :
    (fnP Tryd.prog ci2 (hsFr xs sp n c m d) (14 : FuncId) [Value.slice (some { block := (0 : Nat), off := (0 : Nat) }) n c, Value.slice (some { block := (1 : Nat), off := (0 : Nat) }) m d] [fR xs, oneR sp] K) =
    (Is (flts xs = flts xs ∧ List.length xs = n ∧ n ≤ (100000 : Nat)) ∧ Is (ints sp = ints sp ∧ List.length sp = m ∧ m ≤ (100000 : Nat)) ∧ br (fi [sgE xs n, spsE sp m, wh ((↑m : Int) != (↑n : Int)) (2 : Int)] != (0 : Int)) (K (Value.tuple #[Value.slice none (0 : Nat) (0 : Nat), Value.int IntKind.i64 (fi [sgE xs n, spsE sp m, wh ((↑m : Int) != (↑n : Int)) (2 : Int)])]) (some (AObj.row (flts xs) (1 : Nat) true true true) :: some (AObj.row (ints sp) (1 : Nat) true true true) :: noH)) ((∃ (s : Nat), Is (s = (0 : Nat)) ∧ [Value.slice (some { block := (0 : Nat), off := (0 : Nat) }) n c, Value.slice (some { block := (1 : Nat), off := (0 : Nat) }) m d, poi, poi, poi, poi, poi, Value.slice (some { block := (2 : Nat), off := (0 : Nat) }) (0 : Nat) (0 : Nat), poi, poi, poi, poi, poi, poi, poi, poi, poi, poi, poi, poi, poi, poi, poi, poi, poi, poi, poi, poi, poi, poi, poi, poi, poi, poi, poi, poi, poi, poi, poi, poi, poi, poi, poi, poi, poi, poi, poi, poi, poi, poi, poi, poi] = [Value.slice (some { block := (0 : Nat), off := (0 : Nat) }) n c, Value.slice (some { block := (1 : Nat), off := (0 : Nat) }) m d, poi, poi, poi, poi, poi, Value.slice (some { block := (2 : Nat), off := (0 : Nat) }) (0 : Nat) (0 : Nat), poi, poi, poi, poi, poi, poi, poi, poi, poi, poi, poi, poi, poi, poi, poi, poi, poi, poi, poi, poi, poi, poi, poi, poi, poi, poi, poi, poi, poi, poi, poi, poi, poi, poi, poi, poi, poi, poi, poi, poi, poi, poi, poi, poi] ∧ some (AObj.row (flts xs) (1 : Nat) true true true) :: some (AObj.row (ints sp) (1 : Nat) true true true) :: some (AObj.row [] (1 : Nat) true true true) :: noH = some (AObj.row (flts xs) (1 : Nat) true true true) :: some (AObj.row (ints sp) (1 : Nat) true true true) :: some (AObj.row [] (1 : Nat) true true true) :: noH) ∧ ∀ (s : Nat), Is (s = (0 : Nat)) → Is (flts xs = flts xs ∧ List.length xs = n ∧ n ≤ (100000 : Nat) ∧ allS xs) ∧ (∃ (s : Nat), Is (s ≤ n) ∧ [poi, Value.slice (some { block := (1 : Nat), off := (0 : Nat) }) m d, poi, poi, poi, poi, poi, Value.slice (some { block := (2 : Nat), off := (0 : Nat) }) (0 : Nat) (0 : Nat), poi, poi, poi, poi, poi, poi, poi, poi, poi, poi, poi, poi, poi, poi, poi, poi, poi, poi, Value.slice (some { block := (3 : Nat), off := (0 : Nat) }) n (0 : Nat), Value.int IntKind.i64 (↑n : Int), Value.int IntKind.i64 (0 : Int), poi, poi, poi, poi, poi, poi, poi, poi, poi, poi, poi, poi, poi, poi, poi, poi, poi, poi, poi, poi, poi, poi, poi] = [poi, Value.slice (some { block := (1 : Nat), off := (0 : Nat) }) m d, poi, poi, poi, poi, poi, Value.slice (some { block := (2 : Nat), off := (0 : Nat) }) s (0 : Nat), poi, poi, poi, poi, poi, poi, poi, poi, poi, poi, poi, poi, poi, poi, poi, poi, poi, poi, Value.slice (some { block := (3 : Nat), off := (0 : Nat) }) n (0 : Nat), Value.int IntKind.i64 (↑n : Int), Value.int IntKind.i64 (↑s : Int), poi, poi, poi, poi, poi, poi, poi, poi, poi, poi, poi, poi, poi, poi, poi, poi, poi, poi, poi, poi, poi, poi, poi] ∧ some (AObj.row (flts xs) (1 : Nat) true true true) :: some (AObj.row (ints sp) (1 : Nat) true true true) :: some (AObj.row [] (1 : Nat) true true true) :: some (AObj.row (ints (List.map lev xs)) (1 : Nat) true true true) :: noH = some (AObj.row (flts xs) (1 : Nat) true true true) :: some (AObj.row (ints sp) (1 : Nat) true true true) :: some (AObj.row (ints (frL (List.map lev xs) sp s)) (1 : Nat) true true true) :: some (AObj.row (ints (List.map lev xs)) (1 : Nat) true true true) :: noH) ∧ ∀ (s : Nat), Is (s ≤ n) → br (decide ((↑s : Int) < (↑n : Int))) (Is ((0 : Int) ≤ (↑s : Int) ∧ (↑s : Int) < (↑n : Int)) ∧ Is ((ints (List.map lev xs))[(0 : Nat) + Int.toNat (↑s : Int) * (1 : Nat)]? = some (Value.int IntKind.i64 (List.getD (List.map lev xs) ((0 : Nat) + Int.toNat (↑s : Int) * (1 : Nat)) (0 : Int)))) ∧ Is ((0 : Int) ≤ (↑s : Int) ∧ (↑s : Int) < (↑m : Int)) ∧ Is ((ints sp)[(0 : Nat) + Int.toNat (↑s : Int) * (1 : Nat)]? = some (Value.int IntKind.i64 (List.getD sp ((0 : Nat) + Int.toNat (↑s : Int) * (1 : Nat)) (0 : Int)))) ∧ Is ((0 : Int) ≤ (↑s : Int) ∧ (↑s : Int) < (↑m : Int)) ∧ Is ((ints sp)[(0 : Nat) + Int.toNat (↑s : Int) * (1 : Nat)]? = some (Value.int IntKind.i64 (List.getD sp ((0 : Nat) + Int.toNat (↑s : Int) * (1 : Nat)) (0 : Int)))) ∧ Is ((0 : Int) < IntKind.wrap IntKind.i64 (List.getD sp ((0 : Nat) + Int.toNat (↑s : Int) * (1 : Nat)) (0 : Int) * List.getD sp ((0 : Nat) + Int.toNat (↑s : Int) * (1 : Nat)) (0 : Int)) ∧ IntKind.wrap IntKind.i64 (List.getD sp ((0 : Nat) + Int.toNat (↑s : Int) * (1 : Nat)) (0 : Int) * List.getD sp ((0 : Nat) + Int.toNat (↑s : Int) * (1 : Nat)) (0 : Int)) ≤ (1000000000 : Int) ∧ (-1000000000000000000 : Int) ≤ List.getD (List.map lev xs) ((0 : Nat) + Int.toNat (↑s : Int) * (1 : Nat)) (0 : Int) ∧ List.getD (List.map lev xs) ((0 : Nat) + Int.toNat (↑s : Int) * (1 : Nat)) (0 : Int) ≤ (1000000000000000000 : Int)) ∧ Is (List.length (ints (frL (List.map lev xs) sp s)) = s * (1 : Nat) ∧ (s + (1 : Nat)) * (8 : Nat) ≤ (140737488355328 : Nat) ∧ s + (1 : Nat) ≤ (9223372036854775807 : Nat)) ∧ ∃ (s' : Nat), Is (s' ≤ n) ∧ Is (n - s' < n - s) ∧ [poi, Value.slice (some { block := (1 : Nat), off := (0 : Nat) }) m d, poi, poi, poi, poi, poi, Value.slice (some { block := (2 : Nat), off := (0 : Nat) }) (s + (1 : Nat)) (0 : Nat), poi, poi, poi, poi, poi, poi, poi, poi, poi, poi, poi, poi, poi, poi, poi, poi, poi, poi, Value.slice (some { block := (3 : Nat), off := (0 : Nat) }) n (0 : Nat), Value.int IntKind.i64 (↑n : Int), Value.int IntKind.i64 (IntKind.wrap IntKind.i64 ((↑s : Int) + (1 : Int))), poi, poi, poi, poi, poi, poi, poi, poi, poi, poi, poi, poi, poi, poi, poi, poi, poi, poi, poi, poi, poi, poi, poi] = [poi, Value.slice (some { block := (1 : Nat), off := (0 : Nat) }) m d, poi, poi, poi, poi, poi, Value.slice (some { block := (2 : Nat), off := (0 : Nat) }) s' (0 : Nat), poi, poi, poi, poi, poi, poi, poi, poi, poi, poi, poi, poi, poi, poi, poi, poi, poi, poi, Value.slice (some { block := (3 : Nat), off := (0 : Nat) }) n (0 : Nat), Value.int IntKind.i64 (↑n : Int), Value.int IntKind.i64 (↑s' : Int), poi, poi, poi, poi, poi, poi, poi, poi, poi, poi, poi, poi, poi, poi, poi, poi, poi, poi, poi, poi, poi, poi, poi] ∧ some (AObj.row (flts xs) (1 : Nat) true true true) :: some (AObj.row (ints sp) (1 : Nat) true true true) :: some (AObj.row (ints (frL (List.map lev xs) sp s) ++ [Value.int IntKind.i64 (rnd (List.getD (List.map lev xs) ((0 : Nat) + Int.toNat (↑s : Int) * (1 : Nat)) (0 : Int)) (IntKind.wrap IntKind.i64 (List.getD sp ((0 : Nat) + Int.toNat (↑s : Int) * (1 : Nat)) (0 : Int) * List.getD sp ((0 : Nat) + Int.toNat (↑s : Int) * (1 : Nat)) (0 : Int))))]) (1 : Nat) true true (List.all [Value.int IntKind.i64 (rnd (List.getD (List.map lev xs) ((0 : Nat) + Int.toNat (↑s : Int) * (1 : Nat)) (0 : Int)) (IntKind.wrap IntKind.i64 (List.getD sp ((0 : Nat) + Int.toNat (↑s : Int) * (1 : Nat)) (0 : Int) * List.getD sp ((0 : Nat) + Int.toNat (↑s : Int) * (1 : Nat)) (0 : Int))))] atom)) :: some (AObj.row (ints (List.map lev xs)) (1 : Nat) true true true) :: noH = some (AObj.row (flts xs) (1 : Nat) true true true) :: some (AObj.row (ints sp) (1 : Nat) true true true) :: some (AObj.row (ints (frL (List.map lev xs) sp s')) (1 : Nat) true true true) :: some (AObj.row (ints (List.map lev xs)) (1 : Nat) true true true) :: noH) (Is (ints (frL (List.map lev xs) sp s) = ints (frL (List.map lev xs) sp n) ∧ List.length (frL (List.map lev xs) sp n) = s ∧ s ≤ (100000 : Nat) ∧ fewI (frL (List.map lev xs) sp n)) ∧ K (Value.tuple #[Value.slice (some { block := (2 : Nat), off := (0 : Nat) }) s (0 : Nat), Value.int IntKind.i64 (0 : Int)]) (some (AObj.row (flts xs) (1 : Nat) true true true) :: some (AObj.row (ints sp) (1 : Nat) true true true) :: some (AObj.row (flts (List.map smO (frL (List.map lev xs) sp n))) (1 : Nat) true true true) :: noH)))) := by kernel_rfl
noncomputable def orcCo (xs : List Nat) (o : Nat) : OrcV
  | [.agg ⟨[.string nm, .float .f32 o', .int .i64 1, .int .i64 1]⟩, .slice (some ⟨0, 0, none⟩) n _], [some (.row e1 1 true true true)] =>
    some (.tuple #[.slice (some ⟨1, 0, none⟩) n 0, .int .i64 0], [some (.row e1 1 true true true), fR ((xs.map (coO o)).map smO)], e1 = flts xs ∧ xs.length = n ∧ n ≤ 4096 ∧ allS xs ∧ o' = o ∧ sE o = 0 ∧ nameB nm = true ∧ fewI (xs.map (coO o)))
  | _, _ => none
theorem okCo (xs : List Nat) (o : Nat) : OkV Tryd.prog 10 (orcCo xs o) := by
  intro args H ret H' vc h hv
  unfold orcCo at h
  split at h
  · rename_i nm o' n c e1
    cases h
    obtain ⟨rfl, h1, h2, h3, rfl, h4, h5, h6⟩ := hv
    refine fnP_res hm ci2_ok (hs := hsCo xs o') ?_
    show fnP Tryd.prog ci2 (hsCo xs o') 10 [.agg (chA nm o' 1 1).toArray, .slice (some ⟨0, 0, none⟩) n _] [fR xs] _
    have e0 : ccE nm o' 1 1 = 0 := by rw [ccE, h5, h4]; decide
    rw [co_t, e0, sg_zero h2 h3]
    exact ⟨⟨trivial⟩, ⟨by first | trivial | rfl, h1, by omega⟩, br_of (fun h => by cases h) (fun _ => ⟨⟨by first | trivial | rfl, h1, by omega, h3, h4⟩, ⟨by first | trivial | rfl, by rw [List.length_map]; exact h1, by omega, h6⟩, by first | trivial | rfl, by first | trivial | rfl⟩)⟩
  · cases h
/-- All speeds are valid. -/
def okSp (sp : List Int) : Prop := ∀ i, i < sp.length → 1 ≤ sp.getD i 0 ∧ sp.getD i 0 ≤ 100
theorem sps_zero {sp : List Int} {m : Nat} (h : m ≤ 4096) (hs : okSp sp) : spsE sp m = 0 := by
  rw [spsE, if_neg (by omega)]
  refine fi_zero.2 fun x hx => ?_
  obtain ⟨v, hv, rfl⟩ := List.mem_map.1 hx
  obtain ⟨i, hi, rfl⟩ := List.mem_iff_getElem.1 hv
  have := hs i hi
  rw [List.getD_eq_getElem?_getD, List.getElem?_eq_getElem hi] at this
  exact wi_zero.2 this
theorem sq_in {a : Int} (h : 1 ≤ a ∧ a ≤ 100) : 1 ≤ a * a ∧ a * a ≤ 10000 := by
  have h1 : 0 < a * a := Int.mul_pos (by omega) (by omega)
  have h2 := (abs_mulR (a := a) (b := a) (A := 100) (B := 100) (by omega) (by omega) (by omega) (by omega)).2
  omega
theorem put_int {g : Nat → Int} {n i : Nat} {x : Int} (h : i < n) : putL (ints ((List.range n).map g)) i [.int .i64 x] = ints ((List.range n).map fun k => if k = i then x else g k) := by
  rw [put_set (by rw [ints_len, List.length_map, List.length_range]; exact h), ← set_range, ints, ints, List.map_set]
theorem feL_zero (l sp : List Int) (m : Nat) : feL l sp m 0 = bnL l m := List.map_congr_left fun i _ => by rw [feD, if_neg (by omega)]
theorem feL_len (l sp : List Int) (m k : Nat) : (feL l sp m k).length = m := by rw [feL, List.length_map, List.length_range]
theorem feL_more {l sp : List Int} {m k : Nat} : ((List.range m).map fun i => if i = k then bnD l k * (sp.getD k 0 * sp.getD k 0) else feD l sp k i) = feL l sp m (k + 1) := by
  refine List.map_congr_left fun i _ => ?_
  by_cases h : i = k
  · subst h; rw [if_pos rfl, feD, if_pos (by omega)]
  · rw [if_neg h, feD, feD]
    by_cases h2 : i < k
    · rw [if_pos h2, if_pos (by omega)]
    · rw [if_neg h2, if_neg (by omega)]
noncomputable def orcFe (xs : List Nat) (sp : List Int) : OrcV
  | [.slice (some ⟨0, 0, none⟩) n _, .slice (some ⟨1, 0, none⟩) m _], [some (.row e1 1 true true true), some (.row e2 1 true true true)] =>
    some (.tuple #[.slice (some ⟨2, 0, none⟩) m 0, .int .i64 0], [some (.row e1 1 true true true), some (.row e2 1 true true true), fR ((feL (xs.map lev) sp m m).map smO)],
      e1 = flts xs ∧ e2 = ints sp ∧ xs.length = n ∧ sp.length = m ∧ n = m + 2 ∧ n ≤ 4096 ∧ allS xs ∧ okSp sp ∧ fewI (feL (xs.map lev) sp m m))
  | _, _ => none
set_option maxRecDepth 100000 in
theorem okFe (xs : List Nat) (sp : List Int) : OkV Tryd.prog 13 (orcFe xs sp) := by
  intro args H ret H' vc h hv
  unfold orcFe at h
  split at h
  · rename_i n c m d e1 e2
    cases h
    obtain ⟨rfl, rfl, h1, h2, rfl, h4, h5, h6, h7⟩ := hv
    refine fnP_res hm ci2_ok (hs := hsFe xs sp (m + 2) m d) ?_
    show fnP Tryd.prog ci2 (hsFe xs sp (m + 2) m _) 13 [.slice (some ⟨0, 0, none⟩) (m + 2) _, .slice (some ⟨1, 0, none⟩) m _] [fR xs, oneR sp] _
    have hf := levs_few h5
    have hl : (xs.map lev).length = m + 2 := by rw [List.length_map]; exact h1
    have w : IntKind.wrap .i64 (((m + 2 : Nat) : Int) - 2) = (m : Int) := by rw [wrap_eq (by omega) (by omega)]; omega
    have e0 : fi [sgE xs (m + 2), spsE sp m, wh (decide (((m + 2 : Nat) : Int) < 2)) 16, wh ((m : Int) != (m : Int)) 2] = 0 := by
      rw [sg_zero h4 h5, sps_zero (by omega) h6, decide_eq_false (show ¬ ((m + 2 : Nat) : Int) < 2 by omega), bne_self_eq_false]; rfl
    rw [fe_t, w, e0]
    refine ⟨⟨by first | trivial | rfl, h1, by omega⟩, ⟨by first | trivial | rfl, h2, by omega⟩, ⟨by first | trivial | rfl⟩, br_of (fun h => by cases h) (fun _ => ⟨⟨by first | trivial | rfl, h1, by omega, h5⟩, ⟨by first | trivial | rfl, hl, by omega, h4, hf⟩, ?_⟩)⟩
    rw [show m + 2 - 2 = m from rfl]
    refine ⟨⟨(0 : Nat), ⟨by omega⟩, by first | trivial | rfl, by rw [feL_zero]; first | done | trivial | rfl⟩, fun s hs' => br_of (fun hc => ?_) (fun hc => ?_)⟩
    · have hc := lt_of_dec hc
      simp only [Nat.zero_add, Nat.mul_one, Int.toNat_natCast]
      have q0 := hf s (by omega)
      have q1 := hf (s + 1) (by omega)
      have q2 := hf (s + 2) (by omega)
      have qs := sq_in (h6 s (by omega))
      have qb : -65536 ≤ bnD (xs.map lev) s ∧ bnD (xs.map lev) s ≤ 65536 := by rw [bnD]; omega
      have qm := abs_mulR (a := bnD (xs.map lev) s) (b := sp.getD s 0 * sp.getD s 0) (A := 65536) (B := 10000) qb.1 qb.2 (by omega) (by omega)
      rw [bnL_at _ hc, wrap_eq (x := sp.getD s 0 * sp.getD s 0) (by omega) (by omega), wrap_eq (x := bnD (xs.map lev) s * (sp.getD s 0 * sp.getD s 0)) (by omega) (by omega)]
      have hg : (ints (feL (xs.map lev) sp m s))[s]? = some (.int .i64 (bnD (xs.map lev) s)) := by
        rw [zint_at (by rw [feL_len]; exact hc), feL, rngI_at hc, feD, if_neg (by omega)]
      rw [feL, put_int hc, feL_more, ← feL]
      exact ⟨⟨by omega, by omega⟩, ⟨hg⟩, ⟨by omega, by omega⟩, ⟨zint_at (by omega)⟩, ⟨by omega, by omega⟩, ⟨zint_at (by omega)⟩, ⟨by omega, by omega⟩, ⟨by rw [ints_len, feL_len]; simp only [List.length_cons, List.length_nil]; omega⟩, s + 1, ⟨hc⟩, ⟨by omega⟩, by rw [up1 hc (by omega)], by first | trivial | rfl⟩
    · have hc := ge_of_dec hc
      have : s = m := by have := hs'.out; omega
      subst this
      exact ⟨⟨by first | trivial | rfl, feL_len _ _ _ _, by omega, h7⟩, by first | trivial | rfl, by first | trivial | rfl⟩
  · cases h
theorem frL_len (l sp : List Int) (k : Nat) : (frL l sp k).length = k := by rw [frL, List.length_map, List.length_range]
theorem frL_more (l sp : List Int) (k : Nat) : frL l sp (k + 1) = frL l sp k ++ [frD l sp k] := by
  rw [frL, List.range_succ, List.map_append]; rfl
noncomputable def orcFr (xs : List Nat) (sp : List Int) : OrcV
  | [.slice (some ⟨0, 0, none⟩) n _, .slice (some ⟨1, 0, none⟩) m _], [some (.row e1 1 true true true), some (.row e2 1 true true true)] =>
    some (.tuple #[.slice (some ⟨2, 0, none⟩) n 0, .int .i64 0], [some (.row e1 1 true true true), some (.row e2 1 true true true), fR ((frL (xs.map lev) sp n).map smO)],
      e1 = flts xs ∧ e2 = ints sp ∧ xs.length = n ∧ sp.length = m ∧ m = n ∧ n ≤ 4096 ∧ allS xs ∧ okSp sp ∧ fewI (frL (xs.map lev) sp n))
  | _, _ => none
set_option maxRecDepth 100000 in
theorem okFr (xs : List Nat) (sp : List Int) : OkV Tryd.prog 14 (orcFr xs sp) := by
  intro args H ret H' vc h hv
  unfold orcFr at h
  split at h
  · rename_i n c m d e1 e2
    cases h
    obtain ⟨rfl, rfl, h1, h2, rfl, h4, h5, h6, h7⟩ := hv
    refine fnP_res hm ci2_ok (hs := hsFr xs sp m c m d) ?_
    show fnP Tryd.prog ci2 (hsFr xs sp m _ m _) 14 [.slice (some ⟨0, 0, none⟩) m _, .slice (some ⟨1, 0, none⟩) m _] [fR xs, oneR sp] _
    have hf := levs_few h5
    have hl : (xs.map lev).length = m := by rw [List.length_map]; exact h1
    have e0 : fi [sgE xs m, spsE sp m, wh ((m : Int) != (m : Int)) 2] = 0 := by
      rw [sg_zero h4 h5, sps_zero (by omega) h6, bne_self_eq_false]; rfl
    rw [fr_t, e0]
    refine ⟨⟨by first | trivial | rfl, h1, by omega⟩, ⟨by first | trivial | rfl, h2, by omega⟩, br_of (fun h => by cases h) (fun _ => ⟨⟨(0 : Nat), ⟨rfl⟩, by first | trivial | rfl, by first | trivial | rfl⟩, fun _ _ => ⟨⟨by first | trivial | rfl, h1, by omega, h5⟩, ⟨(0 : Nat), ⟨by omega⟩, by first | trivial | rfl, by first | trivial | rfl⟩, fun s hs' => br_of (fun hc => ?_) (fun hc => ?_)⟩⟩)⟩
    · have hc := lt_of_dec hc
      simp only [Nat.zero_add, Nat.mul_one, Int.toNat_natCast]
      have q0 := hf s (by omega)
      have qs := sq_in (h6 s (by omega))
      rw [wrap_eq (x := sp.getD s 0 * sp.getD s 0) (by omega) (by omega)]
      refine ⟨⟨by omega, by omega⟩, ⟨zint_at (by omega)⟩, ⟨by omega, by omega⟩, ⟨zint_at (by omega)⟩, ⟨by omega, by omega⟩, ⟨zint_at (by omega)⟩, ⟨by omega, by omega, by omega, by omega⟩, ⟨by rw [ints_len, frL_len], by omega, by omega⟩, s + 1, ⟨hc⟩, ⟨by omega⟩, by rw [up1 hc (by omega)], ?_⟩
      rw [frL_more, ← ints_app]; rfl
    · have hc := ge_of_dec hc
      have : s = m := by have := hs'.out; omega
      subst this
      exact ⟨⟨by first | trivial | rfl, frL_len _ _ _, by omega, h7⟩, by first | trivial | rfl, by first | trivial | rfl⟩
  · cases h
end
end Qq
end
