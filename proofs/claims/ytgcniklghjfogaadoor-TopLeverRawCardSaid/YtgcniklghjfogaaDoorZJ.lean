/- Parts of the proof: LF, VL, LG, LI, VmAH. -/
import Derived.Test.YtgcniklghjfogaaDoorZI
import Derived.Test.YtgcniklghjfogaaDoorZK
import Derived.Test.YtgcniklghjfogaaDoorZC
section
/- The index of a signal; samples compared. -/
open Go Go.Vm Go.Proofs Sp
namespace Sp
noncomputable section
noncomputable def sgnl : ByteArray := ⟨#[115, 105, 103, 110, 97, 108]⟩
end
end Sp
namespace Qq
noncomputable section
/-- The index of a signal. -/
noncomputable def ixS (xs : List Nat) : Int := ixG (fun j => lev (xs.getD j 0)) xs.length
noncomputable def fV (xs : List Nat) (b : Bool) : Option AObj := some (.row (flts xs) 1 b b true)
noncomputable def lpLx (xs : List Nat) (b : Bool) (v : Int) : Lp where
  σ := Nat
  E _ := slots 28 [(4, .slice (some ⟨1, 0, none⟩) 1 0), (5, .int .i64 0)]
  Hp _ := [fV xs b, oneR [v]]
  I s := s = 0
  m _ := 0
noncomputable def hsLx (xs : List Nat) (b : Bool) (v : Int) : Hs Tryd.prog where
  op y := if y = 102 then some (hAe Tryd.prog true) else if y = 103 then some (hBn Tryd.prog 3 2) else none
  cut y := if y = 2 then some (lpLx xs b v) else none
  cl _ := keep 28 [4, 5]
  au := auCalls [(16, hCa Tryd.prog 16 (orcIdV xs []) (okIdV xs []))]
theorem lxT_t (xs : List Nat) (n : Nat) (c : Nat) (v : Int) (K : Value → Heap → Prop) :
    (fnP Tryd.prog c0 (hsLx xs true v) (7 : FuncId) [Value.slice (some { block := (0 : Nat), off := (0 : Nat) }) n c] [fV xs true] K) =
    ((Is (List.length (flts xs) = n * (1 : Nat) ∧ (∀ (v : Value), v ∈ flts xs → atom v = true) ∧ n * (4 : Nat) ≤ (140737488355328 : Nat) ∧ n ≤ (9223372036854775807 : Nat)) ∧ Is True ∧ Is (isRun xs [] n (0 : Nat) (flts xs) []) ∧ ∃ (s : Nat), Is (s = (0 : Nat)) ∧ [poi, poi, poi, poi, Value.slice (some { block := (1 : Nat), off := (0 : Nat) }) (List.length (iL { data := #[(115 : UInt8), (105 : UInt8), (103 : UInt8), (110 : UInt8), (97 : UInt8), (108 : UInt8)] } (10 : Int) xs n [] (↑n : Int))) (0 : Nat), Value.int IntKind.i64 (cwE { data := #[(115 : UInt8), (105 : UInt8), (103 : UInt8), (110 : UInt8), (97 : UInt8), (108 : UInt8)] } (10 : Int) xs n [] (↑n : Int)), poi, poi, poi, poi, poi, poi, poi, poi, poi, poi, poi, poi, poi, poi, poi, poi, poi, poi, poi, poi, poi, poi] = [poi, poi, poi, poi, Value.slice (some { block := (1 : Nat), off := (0 : Nat) }) (1 : Nat) (0 : Nat), Value.int IntKind.i64 (0 : Int), poi, poi, poi, poi, poi, poi, poi, poi, poi, poi, poi, poi, poi, poi, poi, poi, poi, poi, poi, poi, poi, poi] ∧ some (AObj.row (flts xs) (1 : Nat) true true true) :: some (AObj.row (ints (iL { data := #[(115 : UInt8), (105 : UInt8), (103 : UInt8), (110 : UInt8), (97 : UInt8), (108 : UInt8)] } (10 : Int) xs n [] (↑n : Int))) (1 : Nat) true true true) :: noH = some (AObj.row (flts xs) (1 : Nat) true true true) :: some (AObj.row [Value.int IntKind.i64 v] (1 : Nat) true true true) :: noH) ∧ ∀ (s : Nat), Is (s = (0 : Nat)) → K (Value.tuple #[Value.int IntKind.i64 v, Value.bool true]) (some (AObj.row (flts xs) (1 : Nat) true true true) :: noH)) := by kernel_rfl
theorem lxF_t (xs : List Nat) (n : Nat) (c : Nat) (v : Int) (K : Value → Heap → Prop) :
    (fnP Tryd.prog c0 (hsLx xs false v) (7 : FuncId) [Value.slice (some { block := (0 : Nat), off := (0 : Nat) }) n c] [fV xs false] K) =
    ((Is (List.length (flts xs) = n * (1 : Nat) ∧ (∀ (v : Value), v ∈ flts xs → atom v = true) ∧ n * (4 : Nat) ≤ (140737488355328 : Nat) ∧ n ≤ (9223372036854775807 : Nat)) ∧ Is True ∧ Is (isRun xs [] n (0 : Nat) (flts xs) []) ∧ ∃ (s : Nat), Is (s = (0 : Nat)) ∧ [poi, poi, poi, poi, Value.slice (some { block := (1 : Nat), off := (0 : Nat) }) (List.length (iL { data := #[(115 : UInt8), (105 : UInt8), (103 : UInt8), (110 : UInt8), (97 : UInt8), (108 : UInt8)] } (10 : Int) xs n [] (↑n : Int))) (0 : Nat), Value.int IntKind.i64 (cwE { data := #[(115 : UInt8), (105 : UInt8), (103 : UInt8), (110 : UInt8), (97 : UInt8), (108 : UInt8)] } (10 : Int) xs n [] (↑n : Int)), poi, poi, poi, poi, poi, poi, poi, poi, poi, poi, poi, poi, poi, poi, poi, poi, poi, poi, poi, poi, poi, poi] = [poi, poi, poi, poi, Value.slice (some { block := (1 : Nat), off := (0 : Nat) }) (1 : Nat) (0 : Nat), Value.int IntKind.i64 (0 : Int), poi, poi, poi, poi, poi, poi, poi, poi, poi, poi, poi, poi, poi, poi, poi, poi, poi, poi, poi, poi, poi, poi] ∧ some (AObj.row (flts xs) (1 : Nat) false false true) :: some (AObj.row (ints (iL { data := #[(115 : UInt8), (105 : UInt8), (103 : UInt8), (110 : UInt8), (97 : UInt8), (108 : UInt8)] } (10 : Int) xs n [] (↑n : Int))) (1 : Nat) true true true) :: noH = some (AObj.row (flts xs) (1 : Nat) false false true) :: some (AObj.row [Value.int IntKind.i64 v] (1 : Nat) true true true) :: noH) ∧ ∀ (s : Nat), Is (s = (0 : Nat)) → K (Value.tuple #[Value.int IntKind.i64 v, Value.bool true]) (some (AObj.row (flts xs) (1 : Nat) false false true) :: noH)) := by kernel_rfl
/- The reference's check of samples, at rows of one's own. -/
noncomputable def lpCs (xs : List Nat) (n c : Nat) : Lp where
  σ := Nat
  E s := slots 19 [(0, .slice (some ⟨0, 0, none⟩) n c), (3, .int .i64 (Int.ofNat s))]
  Hp _ := [fR xs]
  I s := s ≤ n ∧ fi ((xs.drop s).map sE) = fi (xs.map sE)
  m s := n - s
noncomputable def hsCs (xs : List Nat) (n c : Nat) : Hs Tryd.prog where
  op y := if y = 402 then some (hIa Tryd.prog) else if y = 403 then some (hLd Tryd.prog (xF xs)) else none
  lp _ := some (lpCs xs n c)
  cl _ := keep 19 [0, 3]
  au := au0 Tryd.prog
theorem cs_t (xs : List Nat) (n : Nat) (c : Nat) (K : Value → Heap → Prop) :
    (fnP Tryd.prog csr4 (hsCs xs n c) (5 : FuncId) [Value.slice (some { block := (0 : Nat), off := (0 : Nat) }) n c] [fR xs] K) =
    ((∃ (s : Nat), Is (s ≤ n ∧ fi (List.map sE (List.drop s xs)) = fi (List.map sE xs)) ∧ [Value.slice (some { block := (0 : Nat), off := (0 : Nat) }) n c, poi, poi, Value.int IntKind.i64 (0 : Int), poi, poi, poi, poi, poi, poi, poi, poi, poi, poi, poi, poi, poi, poi, poi] = [Value.slice (some { block := (0 : Nat), off := (0 : Nat) }) n c, poi, poi, Value.int IntKind.i64 (↑s : Int), poi, poi, poi, poi, poi, poi, poi, poi, poi, poi, poi, poi, poi, poi, poi] ∧ some (AObj.row (flts xs) (1 : Nat) true true true) :: noH = some (AObj.row (flts xs) (1 : Nat) true true true) :: noH) ∧ ∀ (s : Nat), Is (s ≤ n ∧ fi (List.map sE (List.drop s xs)) = fi (List.map sE xs)) → br (decide ((↑s : Int) < (↑n : Int))) (Is ((0 : Int) ≤ (↑s : Int) ∧ (↑s : Int) < (↑n : Int)) ∧ Is ((flts xs)[(0 : Nat) + Int.toNat (↑s : Int) * (1 : Nat)]? = some (Value.float FloatKind.f32 (List.getD xs ((0 : Nat) + Int.toNat (↑s : Int) * (1 : Nat)) (0 : Nat)))) ∧ br (sE (List.getD xs ((0 : Nat) + Int.toNat (↑s : Int) * (1 : Nat)) (0 : Nat)) != (0 : Int)) (K (Value.int IntKind.i64 (sE (List.getD xs ((0 : Nat) + Int.toNat (↑s : Int) * (1 : Nat)) (0 : Nat)))) (some (AObj.row (flts xs) (1 : Nat) true true true) :: noH)) (∃ (s' : Nat), Is (s' ≤ n ∧ fi (List.map sE (List.drop s' xs)) = fi (List.map sE xs)) ∧ Is (n - s' < n - s) ∧ [Value.slice (some { block := (0 : Nat), off := (0 : Nat) }) n c, poi, poi, Value.int IntKind.i64 (IntKind.wrap IntKind.i64 ((↑s : Int) + (1 : Int))), poi, poi, poi, poi, poi, poi, poi, poi, poi, poi, poi, poi, poi, poi, poi] = [Value.slice (some { block := (0 : Nat), off := (0 : Nat) }) n c, poi, poi, Value.int IntKind.i64 (↑s' : Int), poi, poi, poi, poi, poi, poi, poi, poi, poi, poi, poi, poi, poi, poi, poi] ∧ some (AObj.row (flts xs) (1 : Nat) true true true) :: noH = some (AObj.row (flts xs) (1 : Nat) true true true) :: noH)) (K (Value.int IntKind.i64 (0 : Int)) (some (AObj.row (flts xs) (1 : Nat) true true true) :: noH))) := by kernel_rfl
/- Samples compared. -/
noncomputable def lpSs (xs ys : List Nat) (n c m d : Nat) (b : Bool) : Lp where
  σ := Nat
  E s := slots 26 [(0, .slice (some ⟨0, 0, none⟩) n c), (1, .slice (some ⟨1, 0, none⟩) m d), (5, .int .i64 (Int.ofNat s))]
  Hp _ := [fR xs, fV ys b]
  I s := s ≤ n
  m s := n - s
noncomputable def hsSsm (xs ys : List Nat) (n c m d : Nat) (b : Bool) : Hs Tryd.prog where
  op y := if [602, 606].contains y then some (hIa Tryd.prog) else if y = 603 then some (hLd Tryd.prog (xF xs)) else if y = 607 then some (hLd Tryd.prog (xF ys)) else none
  lp _ := some (lpSs xs ys n c m d b)
  cl _ := keep 26 [0, 1, 5]
  au := auF []
theorem ssF_t (xs : List Nat) (ys : List Nat) (n : Nat) (c : Nat) (m : Nat) (d : Nat) (K : Value → Heap → Prop) :
    (fnP Tryd.prog c0 (hsSsm xs ys n c m d false) (11 : FuncId) [Value.slice (some { block := (0 : Nat), off := (0 : Nat) }) n c, Value.slice (some { block := (1 : Nat), off := (0 : Nat) }) m d] [fR xs, fV ys false] K) =
    (br ((↑n : Int) != (↑m : Int)) (K (Value.bool false) (some (AObj.row (flts xs) (1 : Nat) true true true) :: some (AObj.row (flts ys) (1 : Nat) false false true) :: noH)) ((∃ (s : Nat), Is (s ≤ n) ∧ [Value.slice (some { block := (0 : Nat), off := (0 : Nat) }) n c, Value.slice (some { block := (1 : Nat), off := (0 : Nat) }) m d, poi, poi, poi, Value.int IntKind.i64 (0 : Int), poi, poi, poi, poi, poi, poi, poi, poi, poi, poi, poi, poi, poi, poi, poi, poi, poi, poi, poi, poi] = [Value.slice (some { block := (0 : Nat), off := (0 : Nat) }) n c, Value.slice (some { block := (1 : Nat), off := (0 : Nat) }) m d, poi, poi, poi, Value.int IntKind.i64 (↑s : Int), poi, poi, poi, poi, poi, poi, poi, poi, poi, poi, poi, poi, poi, poi, poi, poi, poi, poi, poi, poi] ∧ some (AObj.row (flts xs) (1 : Nat) true true true) :: some (AObj.row (flts ys) (1 : Nat) false false true) :: noH = some (AObj.row (flts xs) (1 : Nat) true true true) :: some (AObj.row (flts ys) (1 : Nat) false false true) :: noH) ∧ ∀ (s : Nat), Is (s ≤ n) → br (decide ((↑s : Int) < (↑n : Int))) (Is ((0 : Int) ≤ (↑s : Int) ∧ (↑s : Int) < (↑n : Int)) ∧ Is ((flts xs)[(0 : Nat) + Int.toNat (↑s : Int) * (1 : Nat)]? = some (Value.float FloatKind.f32 (List.getD xs ((0 : Nat) + Int.toNat (↑s : Int) * (1 : Nat)) (0 : Nat)))) ∧ Is ((0 : Int) ≤ (↑s : Int) ∧ (↑s : Int) < (↑m : Int)) ∧ Is ((flts ys)[(0 : Nat) + Int.toNat (↑s : Int) * (1 : Nat)]? = some (Value.float FloatKind.f32 (List.getD ys ((0 : Nat) + Int.toNat (↑s : Int) * (1 : Nat)) (0 : Nat)))) ∧ Is True ∧ br (fNe (List.getD xs ((0 : Nat) + Int.toNat (↑s : Int) * (1 : Nat)) (0 : Nat)) (List.getD ys ((0 : Nat) + Int.toNat (↑s : Int) * (1 : Nat)) (0 : Nat))) (K (Value.bool false) (some (AObj.row (flts xs) (1 : Nat) true true true) :: some (AObj.row (flts ys) (1 : Nat) false false true) :: noH)) (∃ (s' : Nat), Is (s' ≤ n) ∧ Is (n - s' < n - s) ∧ [Value.slice (some { block := (0 : Nat), off := (0 : Nat) }) n c, Value.slice (some { block := (1 : Nat), off := (0 : Nat) }) m d, poi, poi, poi, Value.int IntKind.i64 (IntKind.wrap IntKind.i64 ((↑s : Int) + (1 : Int))), poi, poi, poi, poi, poi, poi, poi, poi, poi, poi, poi, poi, poi, poi, poi, poi, poi, poi, poi, poi] = [Value.slice (some { block := (0 : Nat), off := (0 : Nat) }) n c, Value.slice (some { block := (1 : Nat), off := (0 : Nat) }) m d, poi, poi, poi, Value.int IntKind.i64 (↑s' : Int), poi, poi, poi, poi, poi, poi, poi, poi, poi, poi, poi, poi, poi, poi, poi, poi, poi, poi, poi, poi] ∧ some (AObj.row (flts xs) (1 : Nat) true true true) :: some (AObj.row (flts ys) (1 : Nat) false false true) :: noH = some (AObj.row (flts xs) (1 : Nat) true true true) :: some (AObj.row (flts ys) (1 : Nat) false false true) :: noH)) (K (Value.bool true) (some (AObj.row (flts xs) (1 : Nat) true true true) :: some (AObj.row (flts ys) (1 : Nat) false false true) :: noH)))) := by kernel_rfl
theorem ssT_t (xs : List Nat) (ys : List Nat) (n : Nat) (c : Nat) (m : Nat) (d : Nat) (K : Value → Heap → Prop) :
    (fnP Tryd.prog c0 (hsSsm xs ys n c m d true) (11 : FuncId) [Value.slice (some { block := (0 : Nat), off := (0 : Nat) }) n c, Value.slice (some { block := (1 : Nat), off := (0 : Nat) }) m d] [fR xs, fV ys true] K) =
    (br ((↑n : Int) != (↑m : Int)) (K (Value.bool false) (some (AObj.row (flts xs) (1 : Nat) true true true) :: some (AObj.row (flts ys) (1 : Nat) true true true) :: noH)) ((∃ (s : Nat), Is (s ≤ n) ∧ [Value.slice (some { block := (0 : Nat), off := (0 : Nat) }) n c, Value.slice (some { block := (1 : Nat), off := (0 : Nat) }) m d, poi, poi, poi, Value.int IntKind.i64 (0 : Int), poi, poi, poi, poi, poi, poi, poi, poi, poi, poi, poi, poi, poi, poi, poi, poi, poi, poi, poi, poi] = [Value.slice (some { block := (0 : Nat), off := (0 : Nat) }) n c, Value.slice (some { block := (1 : Nat), off := (0 : Nat) }) m d, poi, poi, poi, Value.int IntKind.i64 (↑s : Int), poi, poi, poi, poi, poi, poi, poi, poi, poi, poi, poi, poi, poi, poi, poi, poi, poi, poi, poi, poi] ∧ some (AObj.row (flts xs) (1 : Nat) true true true) :: some (AObj.row (flts ys) (1 : Nat) true true true) :: noH = some (AObj.row (flts xs) (1 : Nat) true true true) :: some (AObj.row (flts ys) (1 : Nat) true true true) :: noH) ∧ ∀ (s : Nat), Is (s ≤ n) → br (decide ((↑s : Int) < (↑n : Int))) (Is ((0 : Int) ≤ (↑s : Int) ∧ (↑s : Int) < (↑n : Int)) ∧ Is ((flts xs)[(0 : Nat) + Int.toNat (↑s : Int) * (1 : Nat)]? = some (Value.float FloatKind.f32 (List.getD xs ((0 : Nat) + Int.toNat (↑s : Int) * (1 : Nat)) (0 : Nat)))) ∧ Is ((0 : Int) ≤ (↑s : Int) ∧ (↑s : Int) < (↑m : Int)) ∧ Is ((flts ys)[(0 : Nat) + Int.toNat (↑s : Int) * (1 : Nat)]? = some (Value.float FloatKind.f32 (List.getD ys ((0 : Nat) + Int.toNat (↑s : Int) * (1 : Nat)) (0 : Nat)))) ∧ Is True ∧ br (fNe (List.getD xs ((0 : Nat) + Int.toNat (↑s : Int) * (1 : Nat)) (0 : Nat)) (List.getD ys ((0 : Nat) + Int.toNat (↑s : Int) * (1 : Nat)) (0 : Nat))) (K (Value.bool false) (some (AObj.row (flts xs) (1 : Nat) true true true) :: some (AObj.row (flts ys) (1 : Nat) true true true) :: noH)) (∃ (s' : Nat), Is (s' ≤ n) ∧ Is (n - s' < n - s) ∧ [Value.slice (some { block := (0 : Nat), off := (0 : Nat) }) n c, Value.slice (some { block := (1 : Nat), off := (0 : Nat) }) m d, poi, poi, poi, Value.int IntKind.i64 (IntKind.wrap IntKind.i64 ((↑s : Int) + (1 : Int))), poi, poi, poi, poi, poi, poi, poi, poi, poi, poi, poi, poi, poi, poi, poi, poi, poi, poi, poi, poi] = [Value.slice (some { block := (0 : Nat), off := (0 : Nat) }) n c, Value.slice (some { block := (1 : Nat), off := (0 : Nat) }) m d, poi, poi, poi, Value.int IntKind.i64 (↑s' : Int), poi, poi, poi, poi, poi, poi, poi, poi, poi, poi, poi, poi, poi, poi, poi, poi, poi, poi, poi, poi] ∧ some (AObj.row (flts xs) (1 : Nat) true true true) :: some (AObj.row (flts ys) (1 : Nat) true true true) :: noH = some (AObj.row (flts xs) (1 : Nat) true true true) :: some (AObj.row (flts ys) (1 : Nat) true true true) :: noH)) (K (Value.bool true) (some (AObj.row (flts xs) (1 : Nat) true true true) :: some (AObj.row (flts ys) (1 : Nat) true true true) :: noH)))) := by kernel_rfl
theorem name_sgnl : nameB sgnl = true := by decide +kernel
theorem sg_run {xs : List Nat} {n : Nat} (hn : xs.length = n) (h1 : n ≤ 4096) (hx : allS xs) : runE sgnl 10 xs n [] = 0 := by
  have hx : fi (xs.map sE) = 0 := hx
  rw [runE, name_sgnl, hx, decide_eq_false (show ¬ (4096 : Int) < n by omega), decide_eq_false (show ¬ (100000000 : Int) < 10 + n by omega)]
  rfl
theorem sg_cw {xs : List Nat} {n : Nat} (hn : xs.length = n) (h0 : 2 ≤ n) (h1 : n ≤ 256) (hx : allS xs) : cwE sgnl 10 xs n [] (n : Int) = 0 := by
  rw [cwE, sg_run hn (by omega) hx, wi_zero.2 (show 2 ≤ (n : Int) ∧ (n : Int) ≤ 256 by omega)]; rfl
theorem sg_iL {xs : List Nat} {n : Nat} (hn : xs.length = n) (h0 : 2 ≤ n) (h1 : n ≤ 256) (hx : allS xs) : iL sgnl 10 xs n [] (n : Int) = [ixS xs] := by
  subst hn
  rw [iL_some (sg_cw rfl h0 h1 hx), ixL, Int.toNat_natCast, Nat.div_self (by omega)]
  show [ixM (wnM xs [] xs.length 0) (xs.length : Int)] = _
  rw [ixM_all]; rfl
theorem flts_atom (xs : List Nat) : ∀ v ∈ flts xs, atom v = true := fun v hv => by
  obtain ⟨x, _, rfl⟩ := List.mem_map.1 hv
  rfl
noncomputable def orcLxT (xs : List Nat) : OrcV
  | [.slice (some ⟨0, 0, none⟩) n _], [some (.row e1 1 true true true)] => some (.tuple #[.int .i64 (ixS xs), .bool true], [some (.row e1 1 true true true)], e1 = flts xs ∧ xs.length = n ∧ 2 ≤ n ∧ n ≤ 256 ∧ allS xs)
  | _, _ => none
theorem okLxT (xs : List Nat) : OkV Tryd.prog 7 (orcLxT xs) := by
  intro args H ret H' vc h hv
  unfold orcLxT at h
  split at h
  · rename_i n c e1
    cases h
    obtain ⟨rfl, h1, h2, h3, h4⟩ := hv
    refine fnP_res hm c0_ok (hs := hsLx xs true (ixS xs)) ?_
    show fnP Tryd.prog c0 (hsLx xs true (ixS xs)) 7 [.slice (some ⟨0, 0, none⟩) n _] [fV xs true] _
    have e1 := sg_cw h1 h2 h3 h4
    have e2 := sg_iL h1 h2 h3 h4
    unfold sgnl at e1 e2
    rw [lxT_t, e1, e2]
    exact ⟨⟨⟨by rw [flts_len]; omega, flts_atom xs, by omega, by omega⟩, ⟨trivial⟩, ⟨by first | trivial | rfl, by first | trivial | rfl, h1, by omega, by first | trivial | rfl, by omega⟩, (0 : Nat), ⟨rfl⟩, by first | trivial | rfl, by first | trivial | rfl⟩, fun _ _ => ⟨by first | trivial | rfl, by first | trivial | rfl⟩⟩
  · cases h
noncomputable def orcLxF (xs : List Nat) : OrcV
  | [.slice (some ⟨0, 0, none⟩) n _], [some (.row e1 1 false false true)] => some (.tuple #[.int .i64 (ixS xs), .bool true], [some (.row e1 1 false false true)], e1 = flts xs ∧ xs.length = n ∧ 2 ≤ n ∧ n ≤ 256 ∧ allS xs)
  | _, _ => none
theorem okLxF (xs : List Nat) : OkV Tryd.prog 7 (orcLxF xs) := by
  intro args H ret H' vc h hv
  unfold orcLxF at h
  split at h
  · rename_i n c e1
    cases h
    obtain ⟨rfl, h1, h2, h3, h4⟩ := hv
    refine fnP_res hm c0_ok (hs := hsLx xs false (ixS xs)) ?_
    show fnP Tryd.prog c0 (hsLx xs false (ixS xs)) 7 [.slice (some ⟨0, 0, none⟩) n _] [fV xs false] _
    have e1 := sg_cw h1 h2 h3 h4
    have e2 := sg_iL h1 h2 h3 h4
    unfold sgnl at e1 e2
    rw [lxF_t, e1, e2]
    exact ⟨⟨⟨by rw [flts_len]; omega, flts_atom xs, by omega, by omega⟩, ⟨trivial⟩, ⟨by first | trivial | rfl, by first | trivial | rfl, h1, by omega, by first | trivial | rfl, by omega⟩, (0 : Nat), ⟨rfl⟩, by first | trivial | rfl, by first | trivial | rfl⟩, fun _ _ => ⟨by first | trivial | rfl, by first | trivial | rfl⟩⟩
  · cases h
set_option maxRecDepth 100000 in
theorem cs_ok {xs : List Nat} {n c : Nat} (hn : xs.length = n) (h9 : n ≤ 100000) :
    SmallRes Tryd.prog 5 [.slice (some ⟨0, 0, none⟩) n c] [fR xs] (.int .i64 (fi (xs.map sE))) [fR xs] := by
  refine fnP_res hm csr4_ok (hs := hsCs xs n c) ?_
  rw [cs_t]
  refine ⟨⟨(0 : Nat), ⟨by omega, by rw [List.drop_zero]⟩, by first | trivial | rfl, by first | trivial | rfl⟩, fun s hs' => br_of (fun hc => ?_) (fun hc => ?_)⟩
  · have hc := lt_of_dec hc
    obtain ⟨i1, i2⟩ := hs'.out
    have e := fi_one (l := xs.map sE) (i := s) (by rw [List.length_map]; omega)
    rw [map_getD (by omega)] at e
    rw [List.map_drop, e] at i2
    simp only [Nat.zero_add, Nat.mul_one, Int.toNat_natCast]
    refine ⟨⟨by omega, by omega⟩, ⟨flts_at (by omega)⟩, br_of (fun h => ?_) (fun h => ⟨s + 1, ⟨hc, ?_⟩, ⟨by omega⟩, by rw [up1 hc (by omega)], by first | trivial | rfl⟩)⟩
    · rw [if_pos (by simpa using h)] at i2
      rw [← i2]
      exact ⟨by first | trivial | rfl, by first | trivial | rfl⟩
    · rw [if_neg (by simpa using h)] at i2
      rw [List.map_drop]
      exact i2
  · have hc := ge_of_dec hc
    obtain ⟨i1, i2⟩ := hs'.out
    rw [List.drop_eq_nil_of_le (by omega)] at i2
    rw [← i2]
    exact ⟨by first | trivial | rfl, by first | trivial | rfl⟩
noncomputable def orcCsT (xs : List Nat) : OrcV
  | [.slice (some ⟨0, 0, none⟩) n _], [some (.row e1 1 true true true)] => some (.int .i64 (fi (xs.map sE)), [some (.row e1 1 true true true)], e1 = flts xs ∧ xs.length = n ∧ n ≤ 100000)
  | _, _ => none
theorem okCsT (xs : List Nat) : OkV Tryd.prog 5 (orcCsT xs) := by
  intro args H ret H' vc h hv
  unfold orcCsT at h
  split at h
  · cases h
    obtain ⟨rfl, h1, h2⟩ := hv
    exact cs_ok h1 h2
  · cases h
/-- Two signals have the same integers. -/
def sameL (xs ys : List Nat) : Prop := ∀ i, i < xs.length → lev (xs.getD i 0) = lev (ys.getD i 0)
noncomputable def orcSsT (xs ys : List Nat) : OrcV
  | [.slice (some ⟨0, 0, none⟩) n _, .slice (some ⟨1, 0, none⟩) m _], [some (.row e1 1 true true true), some (.row e2 1 true true true)] =>
    some (.bool true, [some (.row e1 1 true true true), some (.row e2 1 true true true)], e1 = flts xs ∧ e2 = flts ys ∧ xs.length = n ∧ ys.length = n ∧ m = n ∧ n ≤ 100000 ∧ allS xs ∧ allS ys ∧ sameL xs ys)
  | _, _ => none
set_option maxRecDepth 100000 in
theorem okSsT (xs ys : List Nat) : OkV Tryd.prog 11 (orcSsT xs ys) := by
  intro args H ret H' vc h hv
  unfold orcSsT at h
  split at h
  · rename_i n c m d e1 e2
    cases h
    obtain ⟨rfl, rfl, h1, h2, rfl, h4, h5, h6, h7⟩ := hv
    refine fnP_res hm c0_ok (hs := hsSsm xs ys m c m d true) ?_
    show fnP Tryd.prog c0 (hsSsm xs ys m _ m _ true) 11 [.slice (some ⟨0, 0, none⟩) m _, .slice (some ⟨1, 0, none⟩) m _] [fR xs, fV ys true] _
    rw [ssT_t]
    refine br_of (fun h => by simp at h) (fun _ => ⟨⟨(0 : Nat), ⟨by omega⟩, by first | trivial | rfl, by first | trivial | rfl⟩, fun s hs' => br_of (fun hc => ?_) (fun hc => ⟨by first | trivial | rfl, by first | trivial | rfl⟩)⟩)
    have hc := lt_of_dec hc
    simp only [Nat.zero_add, Nat.mul_one, Int.toNat_natCast]
    have hne : fNe (xs.getD s 0) (ys.getD s 0) = false := by
      rw [Fl.ne_lev (Fl.smp (smps h5 (by omega))) (Fl.smp (smps h6 (by omega)))]
      exact decide_eq_false (fun h => h (h7 s (by omega)))
    rw [hne]
    exact ⟨⟨by omega, by omega⟩, ⟨flts_at (by omega)⟩, ⟨by omega, by omega⟩, ⟨flts_at (by omega)⟩, ⟨trivial⟩, br_of (fun h => by cases h) (fun _ => ⟨s + 1, ⟨hc⟩, ⟨by omega⟩, by rw [up1 hc (by omega)], by first | trivial | rfl⟩)⟩
  · cases h
noncomputable def orcSsF (xs ys : List Nat) : OrcV
  | [.slice (some ⟨0, 0, none⟩) n _, .slice (some ⟨1, 0, none⟩) m _], [some (.row e1 1 true true true), some (.row e2 1 false false true)] =>
    some (.bool true, [some (.row e1 1 true true true), some (.row e2 1 false false true)], e1 = flts xs ∧ e2 = flts ys ∧ xs.length = n ∧ ys.length = n ∧ m = n ∧ n ≤ 100000 ∧ allS xs ∧ allS ys ∧ sameL xs ys)
  | _, _ => none
set_option maxRecDepth 100000 in
theorem okSsF (xs ys : List Nat) : OkV Tryd.prog 11 (orcSsF xs ys) := by
  intro args H ret H' vc h hv
  unfold orcSsF at h
  split at h
  · rename_i n c m d e1 e2
    cases h
    obtain ⟨rfl, rfl, h1, h2, rfl, h4, h5, h6, h7⟩ := hv
    refine fnP_res hm c0_ok (hs := hsSsm xs ys m c m d false) ?_
    show fnP Tryd.prog c0 (hsSsm xs ys m _ m _ false) 11 [.slice (some ⟨0, 0, none⟩) m _, .slice (some ⟨1, 0, none⟩) m _] [fR xs, fV ys false] _
    rw [ssF_t]
    refine br_of (fun h => by simp at h) (fun _ => ⟨⟨(0 : Nat), ⟨by omega⟩, by first | trivial | rfl, by first | trivial | rfl⟩, fun s hs' => br_of (fun hc => ?_) (fun hc => ⟨by first | trivial | rfl, by first | trivial | rfl⟩)⟩)
    have hc := lt_of_dec hc
    simp only [Nat.zero_add, Nat.mul_one, Int.toNat_natCast]
    have hne : fNe (xs.getD s 0) (ys.getD s 0) = false := by
      rw [Fl.ne_lev (Fl.smp (smps h5 (by omega))) (Fl.smp (smps h6 (by omega)))]
      exact decide_eq_false (fun h => h (h7 s (by omega)))
    rw [hne]
    exact ⟨⟨by omega, by omega⟩, ⟨flts_at (by omega)⟩, ⟨by omega, by omega⟩, ⟨flts_at (by omega)⟩, ⟨trivial⟩, br_of (fun h => by cases h) (fun _ => ⟨s + 1, ⟨hc⟩, ⟨by omega⟩, by rw [up1 hc (by omega)], by first | trivial | rfl⟩)⟩
  · cases h
end
end Qq
end
section
/- A row that may be longer than its cells: what holds of it holds of one that is not. -/
namespace Go.Vm
noncomputable section
def AObj.loose : AObj → AObj
  | .row c es _ rw fl => .row c es true rw fl
  | o => o
def looseH (H : Heap) : Heap := H.map (Option.map AObj.loose)
theorem rd_loose : ∀ (H : Heap) (j : Nat), rd (looseH H) j = (rd H j).map AObj.loose
  | [], j => by cases j <;> rfl
  | x :: r, 0 => by cases x <;> rfl
  | x :: r, j + 1 => rd_loose r j
theorem HRel.loose {P : Program} {F : Fr P} {A : Nat → Prop} {ψ : Nat → Gh} {H : Heap} {w : World} (h : HRel F A ψ H w) : HRel F A ψ (looseH H) w := by
  have look : ∀ {j o}, rd (looseH H) j = some o → ∃ o', rd H j = some o' ∧ o = o'.loose ∧ o.rw = o'.rw ∧ o.vd = o'.vd := fun {j o} hj => by
    rw [rd_loose] at hj
    obtain ⟨o', h1, h2⟩ := Option.map_eq_some_iff.1 hj
    subst h2
    refine ⟨o', h1, rfl, ?_, ?_⟩
    · cases o' <;> rfl
    · cases o' with
      | row c es m rw fl => cases c <;> rfl
      | iter => rfl
      | smap => rfl
  refine ⟨fun j o hj => ?_, fun i j oi oj hi hj hij hrw hvi hvj => ?_, h.fr, fun j o hj hrw hv => ?_, h.old⟩
  · obtain ⟨o', a1, rfl, a3, a4⟩ := look hj
    obtain ⟨h1, h2, h3⟩ := h.live j o' a1
    refine ⟨h1, ?_, fun hv => ?_⟩
    · cases o' <;> exact h2
    · obtain ⟨k1, k2⟩ := h3 (by rw [← a4]; exact hv)
      refine ⟨k1, ?_⟩
      cases o' with
      | row c es m rw fl =>
        obtain ⟨arr, el, fz, q1, q2, q3, q4, q5⟩ := k2
        refine ⟨arr, el, fz, q1, q2, q3, fun hr => ?_, q5⟩
        obtain ⟨r1, r2, r3, r4⟩ := q4 hr
        exact ⟨r1, r2, r3, fun hm => by cases hm⟩
      | iter => exact k2
      | smap => exact k2
  · obtain ⟨oi', a1, _, a3, a4⟩ := look hi
    obtain ⟨oj', b1, _, b3, b4⟩ := look hj
    exact h.inj i j oi' oj' a1 b1 hij (by rw [← a3]; exact hrw) (by rw [← a4]; exact hvi) (by rw [← b4]; exact hvj)
  · obtain ⟨o', a1, _, a3, a4⟩ := look hj
    exact h.own j o' a1 (by rw [← a3]; exact hrw) (by rw [← a4]; exact hv)
theorem SmallRes.loose {P : Program} {f : FuncId} {args : List Value} {H H' : Heap} {ret : Value} (h : SmallRes P f args (looseH H) ret H') : SmallRes P f args H ret H' :=
  fun F A ψ w args' hh hb hA hψ hl => h F A ψ w args' hh.loose (fun id hi => by rw [looseH, List.length_map]; exact hb id hi) hA hψ hl
end
end Go.Vm
end
section
/- Signals by their integers; the fixed example. -/
open Go Go.Vm Go.Proofs Sp
namespace Qq
noncomputable section
theorem map_at {f : Nat → Nat} {xs : List Nat} {i : Nat} (h : i < xs.length) : (xs.map f).getD i 0 = f (xs.getD i 0) := by
  rw [List.getD_eq_getElem?_getD, List.getD_eq_getElem?_getD, List.getElem?_map, List.getElem?_eq_getElem h]; rfl
theorem mapI_at {f : Int → Nat} {l : List Int} {i : Nat} (h : i < l.length) : (l.map f).getD i 0 = f (l.getD i 0) := by
  rw [List.getD_eq_getElem?_getD, List.getD_eq_getElem?_getD, List.getElem?_map, List.getElem?_eq_getElem h]; rfl
theorem rvL_len (xs : List Nat) : (rvL xs).length = xs.length := by rw [rvL, List.length_map, List.length_range]
theorem rvL_at {xs : List Nat} {i : Nat} (h : i < xs.length) : (rvL xs).getD i 0 = xs.getD (xs.length - 1 - i) 0 := rng_at h
/-- A signal, told by its integers. -/
structure Sg (xs : List Nat) (n : Nat) (g : Nat → Int) : Prop where
  len : xs.length = n
  ok : ∀ i, i < n → sE (xs.getD i 0) = 0 ∧ lev (xs.getD i 0) = g i
theorem allS_of {xs : List Nat} (h : ∀ i, i < xs.length → sE (xs.getD i 0) = 0) : allS xs := by
  refine fi_zero.2 fun v hv => ?_
  obtain ⟨x, hx, rfl⟩ := List.mem_map.1 hv
  obtain ⟨i, hi, rfl⟩ := List.mem_iff_getElem.1 hx
  have := h i hi
  rwa [List.getD_eq_getElem?_getD, List.getElem?_eq_getElem hi] at this
theorem Sg.all {xs : List Nat} {n : Nat} {g : Nat → Int} (h : Sg xs n g) : allS xs := allS_of fun i hi => (h.ok i (by rw [h.len] at hi; exact hi)).1
theorem Sg.of {xs : List Nat} (h : allS xs) : Sg xs xs.length fun i => lev (xs.getD i 0) := ⟨rfl, fun _ hi => ⟨smps h hi, rfl⟩⟩
theorem Sg.ext {xs : List Nat} {n : Nat} {g k : Nat → Int} (h : Sg xs n g) (e : ∀ i, i < n → g i = k i) : Sg xs n k := ⟨h.len, fun i hi => ⟨(h.ok i hi).1, (h.ok i hi).2.trans (e i hi)⟩⟩
theorem Sg.ix {xs : List Nat} {n : Nat} {g : Nat → Int} (h : Sg xs n g) : ixS xs = ixG g n := by
  rw [ixS, h.len]
  exact ixG_ext fun i hi => (h.ok i hi).2
theorem Sg.few {xs : List Nat} {n : Nat} {g : Nat → Int} (h : Sg xs n g) {i : Nat} (hi : i < n) : (g i).natAbs ≤ 16384 := by
  rw [← (h.ok i hi).2]; exact lev_few (h.ok i hi).1
theorem Sg.levs {xs : List Nat} {n : Nat} {g : Nat → Int} (h : Sg xs n g) {i : Nat} (hi : i < n) : (xs.map lev).getD i 0 = g i := by
  rw [levs_at (by rw [h.len]; exact hi), (h.ok i hi).2]
/-- Turned. -/
theorem Sg.turn {xs : List Nat} {n : Nat} {g : Nat → Int} (h : Sg xs n g) : Sg (rvL (xs.map tuO)) n fun i => -g (n - 1 - i) := by
  have hl : (xs.map tuO).length = n := by rw [List.length_map, h.len]
  refine ⟨by rw [rvL_len, hl], fun i hi => ?_⟩
  rw [rvL_at (by omega), hl, map_at (by rw [h.len]; omega), tuO]
  obtain ⟨h1, h2⟩ := h.ok (n - 1 - i) (by omega)
  have hf := h.few (i := n - 1 - i) (by omega)
  rw [h2]
  obtain ⟨e1, e2⟩ := Fl.lev_sm (n := -g (n - 1 - i)) (by omega)
  exact ⟨e2, e1⟩
/-- Made of integers. -/
theorem Sg.mk' {l : List Int} {n : Nat} {g : Nat → Int} (hl : l.length = n) (hg : ∀ i, i < n → l.getD i 0 = g i) (hf : ∀ i, i < n → (g i).natAbs ≤ 16384) : Sg (l.map smO) n g := by
  refine ⟨by rw [List.length_map, hl], fun i hi => ?_⟩
  rw [mapI_at (by omega), hg i hi]
  obtain ⟨e1, e2⟩ := Fl.lev_sm (hf i hi)
  exact ⟨e2, e1⟩
/-- With an offset. -/
theorem Sg.add {xs : List Nat} {n : Nat} {g : Nat → Int} {o : Nat} (h : Sg xs n g) (ho : sE o = 0) (hf : ∀ i, i < n → (g i + lev o).natAbs ≤ 16384) : Sg (xs.map fun x => fAdd x o) n fun i => g i + lev o := by
  refine ⟨by rw [List.length_map, h.len], fun i hi => ?_⟩
  rw [map_at (f := fun x => fAdd x o) (by rw [h.len]; exact hi)]
  obtain ⟨h1, h2⟩ := h.ok i hi
  obtain ⟨_, e1, e2⟩ := Fl.add_ok (Fl.smp h1) (Fl.smp ho) (by rw [h2]; exact hf i hi)
  exact ⟨e2, by rw [e1, h2]⟩
/- The fixed example. -/
noncomputable def exL : List Nat := [1065353216, 1073741824, 1077936128, 1082130432]
noncomputable def exR : Option AObj := some (.row (flts exL) 1 false true true)
noncomputable def exB : List Nat := (bnL (exL.map lev) 2).map smO
theorem ex_ok : (sE 1065353216 = 0 ∧ lev 1065353216 = 16) ∧ (sE 1073741824 = 0 ∧ lev 1073741824 = 32) ∧ (sE 1077936128 = 0 ∧ lev 1077936128 = 48) ∧ (sE 1082130432 = 0 ∧ lev 1082130432 = 64) := by decide +kernel
theorem ex_sg : Sg exL 4 fun i => 16 * ((i : Int) + 1) := by
  obtain ⟨h1, h2, h3, h4⟩ := ex_ok
  refine ⟨rfl, fun i hi => ?_⟩
  match i, hi with
  | 0, _ => exact h1
  | 1, _ => exact h2
  | 2, _ => exact h3
  | 3, _ => exact h4
theorem ex_bn : Sg exB 2 fun _ => 0 := by
  refine Sg.mk' (bnL_len _ _) (fun i hi => ?_) (fun i hi => by decide)
  rw [bnL_at _ hi, bnD, ex_sg.levs (by omega), ex_sg.levs (by omega), ex_sg.levs (by omega)]
  omega
noncomputable def orcE1 : OrcV
  | [.slice (some ⟨0, 0, none⟩) n _], [some (.row e1 1 false true true)] => some (.tuple #[.int .i64 320, .bool true], [some (.row e1 1 true true true)], e1 = flts exL ∧ n = 4)
  | _, _ => none
theorem ex_320 : ixS exL = 320 := by rw [ex_sg.ix]; decide +kernel
theorem okE1 : OkV Tryd.prog 7 orcE1 := by
  intro args H ret H' vc h hv
  unfold orcE1 at h
  split at h
  · rename_i n c e1
    cases h
    obtain ⟨rfl, rfl⟩ := hv
    refine SmallRes.loose ?_
    rw [← ex_320]
    exact okLxT exL _ _ _ _ _ rfl ⟨rfl, rfl, by decide, by decide, ex_sg.all⟩
  · cases h
noncomputable def orcE2 : OrcV
  | [.slice (some ⟨0, 0, none⟩) n _], [some (.row e1 1 false true true)] => some (.tuple #[.slice (some ⟨1, 0, none⟩) 4 0, .int .i64 0], [some (.row e1 1 true true true), fR (rvL (exL.map tuO))], e1 = flts exL ∧ n = 4)
  | _, _ => none
theorem okE2 : OkV Tryd.prog 8 orcE2 := by
  intro args H ret H' vc h hv
  unfold orcE2 at h
  split at h
  · rename_i n c e1
    cases h
    obtain ⟨rfl, rfl⟩ := hv
    refine SmallRes.loose ?_
    exact okTn exL _ _ _ _ _ rfl ⟨rfl, rfl, by decide, ex_sg.all⟩
  · cases h
noncomputable def orcE3 : OrcV
  | [.slice (some ⟨0, 0, none⟩) n _], [some (.row e1 1 false true true)] => some (.tuple #[.slice (some ⟨1, 0, none⟩) 2 0, .int .i64 0], [some (.row e1 1 true true true), fR exB], e1 = flts exL ∧ n = 4)
  | _, _ => none
theorem okE3 : OkV Tryd.prog 12 orcE3 := by
  intro args H ret H' vc h hv
  unfold orcE3 at h
  split at h
  · rename_i n c e1
    cases h
    obtain ⟨rfl, rfl⟩ := hv
    refine SmallRes.loose ?_
    refine okBe exL _ _ _ _ _ rfl ⟨rfl, rfl, by decide, by decide, ex_sg.all, fun i hi => ?_⟩
    rw [bnL_len] at hi
    rw [bnL_at _ hi, bnD, ex_sg.levs (by omega), ex_sg.levs (by omega), ex_sg.levs (by omega)]
    omega
  · cases h
noncomputable def hsL4 : Hs Tryd.prog where
  op y := if y = 101 then some (hCa Tryd.prog 7 orcE1 okE1) else if y = 601 then some (hCa Tryd.prog 7 (orcLxT (rvL (exL.map tuO))) (okLxT _)) else if y = 701 then some (hCa Tryd.prog 7 (orcLxT exB) (okLxT _)) else none
  au := auCalls [(8, hCa Tryd.prog 8 orcE2 okE2), (12, hCa Tryd.prog 12 orcE3 okE3)]
theorem l4_t (K : Value → Heap → Prop) :
    (fnP Tryd.prog c0 hsL4 (4 : FuncId) [] [] K) =
    (Is ([Value.float FloatKind.f32 (1065353216 : Nat), Value.float FloatKind.f32 (1073741824 : Nat), Value.float FloatKind.f32 (1077936128 : Nat), Value.float FloatKind.f32 (1082130432 : Nat)] = [Value.float FloatKind.f32 (1065353216 : Nat), Value.float FloatKind.f32 (1073741824 : Nat), Value.float FloatKind.f32 (1077936128 : Nat), Value.float FloatKind.f32 (1082130432 : Nat)] ∧ (4 : Nat) = (4 : Nat)) ∧ Is ([Value.float FloatKind.f32 (1065353216 : Nat), Value.float FloatKind.f32 (1073741824 : Nat), Value.float FloatKind.f32 (1077936128 : Nat), Value.float FloatKind.f32 (1082130432 : Nat)] = [Value.float FloatKind.f32 (1065353216 : Nat), Value.float FloatKind.f32 (1073741824 : Nat), Value.float FloatKind.f32 (1077936128 : Nat), Value.float FloatKind.f32 (1082130432 : Nat)] ∧ (4 : Nat) = (4 : Nat)) ∧ Is ([Value.float FloatKind.f32 (1065353216 : Nat), Value.float FloatKind.f32 (1073741824 : Nat), Value.float FloatKind.f32 (1077936128 : Nat), Value.float FloatKind.f32 (1082130432 : Nat)] = [Value.float FloatKind.f32 (1065353216 : Nat), Value.float FloatKind.f32 (1073741824 : Nat), Value.float FloatKind.f32 (1077936128 : Nat), Value.float FloatKind.f32 (1082130432 : Nat)] ∧ (4 : Nat) = (4 : Nat)) ∧ Is ([Value.float FloatKind.f32 (3229614080 : Nat), Value.float FloatKind.f32 (3225419776 : Nat), Value.float FloatKind.f32 (3221225472 : Nat), Value.float FloatKind.f32 (3212836864 : Nat)] = [Value.float FloatKind.f32 (3229614080 : Nat), Value.float FloatKind.f32 (3225419776 : Nat), Value.float FloatKind.f32 (3221225472 : Nat), Value.float FloatKind.f32 (3212836864 : Nat)] ∧ (4 : Nat) = (4 : Nat) ∧ (2 : Nat) ≤ (4 : Nat) ∧ (4 : Nat) ≤ (256 : Nat) ∧ allS [(3229614080 : Nat), (3225419776 : Nat), (3221225472 : Nat), (3212836864 : Nat)]) ∧ Is ([Value.float FloatKind.f32 (0 : Nat), Value.float FloatKind.f32 (0 : Nat)] = [Value.float FloatKind.f32 (0 : Nat), Value.float FloatKind.f32 (0 : Nat)] ∧ (2 : Nat) = (2 : Nat) ∧ (2 : Nat) ≤ (2 : Nat) ∧ (2 : Nat) ≤ (256 : Nat) ∧ allS [(0 : Nat), (0 : Nat)]) ∧ K (Value.bool true) noH) := by kernel_rfl
theorem ex_a1 : fi (([3229614080, 3225419776, 3221225472, 3212836864] : List Nat).map sE) = 0 := by decide +kernel
theorem ex_a2 : fi (([0, 0] : List Nat).map sE) = 0 := by decide +kernel
theorem l4_ok : SmallRes Tryd.prog 4 [] [] (.bool true) [] := by
  refine fnP_res hm c0_ok (hs := hsL4) ?_
  rw [l4_t]
  exact ⟨⟨by first | trivial | rfl, by first | trivial | rfl⟩, ⟨by first | trivial | rfl, by first | trivial | rfl⟩, ⟨by first | trivial | rfl, by first | trivial | rfl⟩, ⟨by first | trivial | rfl, by first | trivial | rfl, by decide, by decide, ex_a1⟩, ⟨by first | trivial | rfl, by first | trivial | rfl, by decide, by decide, ex_a2⟩, by first | trivial | rfl, by first | trivial | rfl⟩
noncomputable def orcL4 : Orc
  | [], [] => some (.bool true, [])
  | _, _ => none
theorem okL4 : Ok Tryd.prog 4 orcL4 := by
  intro args H ret H' h
  unfold orcL4 at h
  split at h
  · cases h; exact l4_ok
  · cases h
end
end Qq
end
section
/- What the law comes by, plain. -/
open Go Go.Vm Go.Proofs Sp
namespace Sp
noncomputable section
/-- A signal of which the index is told. -/
def lxOk (e : List Value) (n : Nat) (v : Int) : Prop := ∃ xs, e = flts xs ∧ xs.length = n ∧ 2 ≤ n ∧ n ≤ 256 ∧ Qq.allS xs ∧ Qq.ixS xs = v
noncomputable def u8s (us : List Int) : List Value := us.map (.int .u8)
noncomputable def uI (us : List Int) (off : Nat) : Value := .int .u8 (us.getD off 0)
/-- None of them is above 10, nor below -10. -/
def tenB (ys : List Nat) (n : Nat) : Prop := ∀ i, i < n → fGt (ys.getD i 0) 1092616192 = false ∧ fLt (ys.getD i 0) 3240099840 = false
noncomputable def adO (o x : Nat) : Nat := fAdd x o
noncomputable def spO (u : Int) : Int := 1 + u.tmod 4
end
end Sp
namespace Qq
noncomputable section
theorem Sg.told {xs : List Nat} {n : Nat} {g : Nat → Int} (h : Sg xs n g) (h0 : 2 ≤ n) (h1 : n ≤ 256) : lxOk (flts xs) n (ixG g n) := ⟨xs, rfl, h.len, h0, h1, h.all, h.ix⟩
theorem Sg.same {xs ys : List Nat} {n : Nat} {g : Nat → Int} (h : Sg xs n g) (k : Sg ys n g) : sameL xs ys := fun i hi => by
  rw [h.len] at hi
  rw [(h.ok i hi).2, (k.ok i hi).2]
/-- All that is needed of what the law comes by. -/
structure Ft (xs : List Nat) (us : List Int) (o n m : Nat) (bk th hr rt ag : List Nat) (ix : Int) (fd : Nat) (be : List Nat) (sp : List Int) (fe fr : List Nat) (ix2 : Int) : Prop where
  i0 : lxOk (flts xs) n ix
  ebk : rvL (xs.map tuO) = bk
  lbk : bk.length = n
  abk : allS bk
  pa : ∀ i, i < n → fAddOk (xs.getD i 0) o
  pb : ∀ i, i < n → fAddOk (bk.getD i 0) o
  eth : xs.map (adO o) = th
  ehr : bk.map (adO o) = hr
  lth : th.length = n
  lhr : hr.length = n
  ath : allS th
  ahr : allS hr
  oft : (ofT th hr n).natAbs ≤ 16384
  efd : smO (ofT th hr n) = fd
  nfd : fNe fd o = false
  sfd : sE fd = 0
  fco : fewI (hr.map (coO fd))
  ert : (hr.map (coO fd)).map smO = rt
  lrt : rt.length = n
  art : allS rt
  eag : rvL (rt.map tuO) = ag
  lag : ag.length = n
  aag : allS ag
  sag : sameL ag xs
  i1 : lxOk (flts bk) n ix
  i2 : lxOk (flts th) n ix
  i3 : lxOk (flts hr) n ix
  i4 : lxOk (flts rt) n ix
  fbe : fewI (bnL (xs.map lev) m)
  ebe : (bnL (xs.map lev) m).map smO = be
  lbe : be.length = m
  abe : allS be
  esp : us.map spO = sp
  lsp : sp.length = m
  osp : okSp sp
  ffe : fewI (feL (xs.map lev) sp m m)
  efe : (feL (xs.map lev) sp m m).map smO = fe
  lfe : fe.length = m
  afe : allS fe
  ffr : fewI (frL (fe.map lev) sp m)
  efr : (frL (fe.map lev) sp m).map smO = fr
  lfr : fr.length = m
  afr : allS fr
  sfr : sameL fr be
  i5 : lxOk (flts be) m ix2
  i6 : lxOk (flts fr) m ix2
theorem sp_in {u : Int} (h : 0 ≤ u ∧ u < 256) : 1 ≤ spO u ∧ spO u ≤ 4 := by
  rw [spO, Int.tmod_eq_emod_of_nonneg h.1]
  omega
theorem fewI_of {l : List Int} {n : Nat} (hl : l.length = n) {g : Nat → Int} (hg : ∀ i, i < n → l.getD i 0 = g i) (hf : ∀ i, i < n → (g i).natAbs ≤ 16384) : fewI l := fun i hi => by
  rw [hl] at hi
  rw [hg i hi]; exact hf i hi
/-- What the law comes by, is as it is to be. -/
theorem ft_ok {xs : List Nat} {us : List Int} {o n m : Nat} (hn : xs.length = n) (hm : us.length = m) (hu : ∀ i, i < m → 0 ≤ us.getD i 0 ∧ us.getD i 0 < 256) (h4 : 4 ≤ n) (h24 : n ≤ 24) (hnm : n = m + 2) (hx : allS xs) (ho : sE o = 0) (ht : tenB (o :: xs) (1 + n)) :
    ∃ (bk th hr rt ag : List Nat) (ix : Int) (fd : Nat) (be : List Nat) (sp : List Int) (fe fr : List Nat) (ix2 : Int), Ft xs us o n m bk th hr rt ag ix fd be sp fe fr ix2 := by
  -- the integers
  have h0 : Sg xs n fun i => lev (xs.getD i 0) := by have := Sg.of hx; rwa [hn] at this
  generalize hg : (fun i => lev (xs.getD i 0)) = g at h0
  have hgi : ∀ i, i < n → (g i).natAbs ≤ 160 := fun i hi => by
    obtain ⟨t1, t2⟩ := ht (i + 1) (by omega)
    have e : (o :: xs).getD (i + 1) 0 = xs.getD i 0 := rfl
    rw [e] at t1 t2
    rw [← hg]
    exact Fl.lev_10 (Fl.smp (smps hx (by omega))) t1 t2
  have hoo : (lev o).natAbs ≤ 160 := by
    obtain ⟨t1, t2⟩ := ht 0 (by omega)
    exact Fl.lev_10 (Fl.smp ho) t1 t2
  -- turned
  have b0 := h0.turn
  have hb0 : ∀ i, i < n → (-g (n - 1 - i)).natAbs ≤ 160 := fun i hi => by have := hgi (n - 1 - i) (by omega); omega
  -- with the offset
  have t0 : Sg (xs.map (adO o)) n fun i => g i + lev o := h0.add ho fun i hi => by have := hgi i hi; omega
  have r0 : Sg ((rvL (xs.map tuO)).map (adO o)) n fun i => -g (n - 1 - i) + lev o := b0.add ho fun i hi => by have := hb0 i hi; omega
  have pa : ∀ i, i < n → fAddOk (xs.getD i 0) o := fun i hi => by
    obtain ⟨q1, q2⟩ := h0.ok i hi
    exact (Fl.add_ok (Fl.smp q1) (Fl.smp ho) (by rw [q2]; have := hgi i hi; omega)).1
  have pb : ∀ i, i < n → fAddOk ((rvL (xs.map tuO)).getD i 0) o := fun i hi => by
    obtain ⟨q1, q2⟩ := b0.ok i hi
    exact (Fl.add_ok (Fl.smp q1) (Fl.smp ho) (by rw [q2]; have := hb0 i hi; omega)).1
  -- the offset found
  have of0 : ofT (xs.map (adO o)) ((rvL (xs.map tuO)).map (adO o)) n = lev o := by
    have e1 : su (fun j => ((xs.map (adO o)).map lev).getD j 0) n = su (fun i => g i + lev o) n := su_ext fun i hi => t0.levs hi
    have e2 : su (fun j => (((rvL (xs.map tuO)).map (adO o)).map lev).getD j 0) n = su (fun i => -g (n - 1 - i) + lev o) n := su_ext fun i hi => r0.levs hi
    rw [ofT, e1, e2, su_both]
    have e3 : 2 * ((n : Int) * lev o) = lev o * (2 * (n : Int)) := by rw [← Int.mul_assoc, Int.mul_comm]
    rw [e3]
    exact rnd_whole (by omega)
  obtain ⟨d1, d2⟩ := Fl.lev_sm (n := lev o) (by omega)
  have nfd : fNe (smO (lev o)) o = false := by
    rw [Fl.ne_lev (Fl.smp d2) (Fl.smp ho), d1]
    exact decide_eq_false (fun h => h rfl)
  -- corrected
  have c0 : ∀ i, i < n → (((rvL (xs.map tuO)).map (adO o)).map (coO (smO (lev o)))).getD i 0 = -g (n - 1 - i) := fun i hi => by
    have hl : i < ((rvL (xs.map tuO)).map (adO o)).length := by rw [r0.len]; exact hi
    rw [List.getD_eq_getElem?_getD, List.getElem?_map, List.getElem?_eq_getElem hl]
    have e := (r0.ok i hi).2
    rw [List.getD_eq_getElem?_getD, List.getElem?_eq_getElem hl] at e
    show lev _ - lev (smO (lev o)) = _
    rw [d1]
    have e : lev (((rvL (xs.map tuO)).map (adO o))[i]) = -g (n - 1 - i) + lev o := e
    rw [e]; omega
  have lc : (((rvL (xs.map tuO)).map (adO o)).map (coO (smO (lev o)))).length = n := by rw [List.length_map, r0.len]
  have k0 := Sg.mk' lc c0 fun i hi => by have := hb0 i hi; omega
  have a0 := k0.turn
  have a1 : Sg (rvL (((((rvL (xs.map tuO)).map (adO o)).map (coO (smO (lev o)))).map smO).map tuO)) n g := a0.ext fun i hi => by
    rw [Int.neg_neg, show n - 1 - (n - 1 - i) = i by omega]
  -- second differences
  have bd : ∀ i, i < m → bnD (xs.map lev) i = g i - 2 * g (i + 1) + g (i + 2) := fun i hi => by
    rw [bnD, h0.levs (by omega), h0.levs (by omega), h0.levs (by omega)]
  have bb : ∀ i, i < m → (bnD (xs.map lev) i).natAbs ≤ 640 := fun i hi => by
    have q0 := hgi i (by omega)
    have q1 := hgi (i + 1) (by omega)
    have q2 := hgi (i + 2) (by omega)
    rw [bd i hi]; omega
  have be0 : Sg ((bnL (xs.map lev) m).map smO) m (bnD (xs.map lev)) := Sg.mk' (bnL_len _ _) (fun i hi => bnL_at _ hi) fun i hi => by have := bb i hi; omega
  -- speeds
  have lsp : (us.map spO).length = m := by rw [List.length_map, hm]
  have hsp : ∀ i, i < m → 1 ≤ (us.map spO).getD i 0 ∧ (us.map spO).getD i 0 ≤ 4 := fun i hi => by
    have e : (us.map spO).getD i 0 = spO (us.getD i 0) := by
      rw [List.getD_eq_getElem?_getD, List.getD_eq_getElem?_getD, List.getElem?_map, List.getElem?_eq_getElem (by omega)]; rfl
    rw [e]; exact sp_in (hu i hi)
  have osp : okSp (us.map spO) := fun i hi => by have := hsp i (by omega); omega
  have hsq : ∀ i, i < m → 1 ≤ (us.map spO).getD i 0 * (us.map spO).getD i 0 ∧ (us.map spO).getD i 0 * (us.map spO).getD i 0 ≤ 16 := fun i hi => by
    obtain ⟨q1, q2⟩ := hsp i hi
    have p1 : 0 < (us.map spO).getD i 0 * (us.map spO).getD i 0 := Int.mul_pos (by omega) (by omega)
    have p2 := (abs_mulR (a := (us.map spO).getD i 0) (b := (us.map spO).getD i 0) (A := 4) (B := 4) (by omega) (by omega) (by omega) (by omega)).2
    omega
  -- felt
  have fd0 : ∀ i, i < m → (feL (xs.map lev) (us.map spO) m m).getD i 0 = bnD (xs.map lev) i * ((us.map spO).getD i 0 * (us.map spO).getD i 0) := fun i hi => by
    rw [feL, rngI_at hi, feD, if_pos hi]
  have fb : ∀ i, i < m → (bnD (xs.map lev) i * ((us.map spO).getD i 0 * (us.map spO).getD i 0)).natAbs ≤ 16384 := fun i hi => by
    have q1 := bb i hi
    obtain ⟨q2, q3⟩ := hsq i hi
    have := abs_mulR (a := bnD (xs.map lev) i) (b := (us.map spO).getD i 0 * (us.map spO).getD i 0) (A := 640) (B := 16) (by omega) (by omega) (by omega) (by omega)
    omega
  have fe0 := Sg.mk' (feL_len (xs.map lev) (us.map spO) m m) fd0 fb
  -- freed
  have fr1 : ∀ i, i < m → (frL (((feL (xs.map lev) (us.map spO) m m).map smO).map lev) (us.map spO) m).getD i 0 = bnD (xs.map lev) i := fun i hi => by
    rw [frL, rngI_at hi, frD, fe0.levs hi]
    exact rnd_whole (by have := hsq i hi; omega)
  have fr0 := Sg.mk' (frL_len (((feL (xs.map lev) (us.map spO) m m).map smO).map lev) (us.map spO) m) fr1 fun i hi => by have := bb i hi; omega
  refine ⟨_, _, _, _, _, ixG g n, smO (lev o), _, _, _, _, ixG (bnD (xs.map lev)) m,
    { i0 := h0.told (by omega) (by omega), ebk := rfl, lbk := b0.len, abk := b0.all, pa := pa, pb := pb, eth := rfl, ehr := rfl, lth := t0.len, lhr := r0.len, ath := t0.all, ahr := r0.all,
      oft := by rw [of0]; omega, efd := by rw [of0], nfd := nfd, sfd := d2, fco := fewI_of lc c0 fun i hi => by have := hb0 i hi; omega, ert := rfl, lrt := k0.len, art := k0.all,
      eag := rfl, lag := a1.len, aag := a1.all, sag := a1.same h0,
      i1 := by have := b0.told (by omega) (by omega); rwa [ixG_turn] at this,
      i2 := by have := t0.told (by omega) (by omega); rwa [ixG_add] at this,
      i3 := by have := r0.told (by omega) (by omega); rwa [ixG_add (fun i => -g (n - 1 - i)), ixG_turn] at this,
      i4 := by have := k0.told (by omega) (by omega); rwa [ixG_turn] at this,
      fbe := fewI_of (bnL_len _ _) (fun i hi => bnL_at _ hi) fun i hi => by have := bb i hi; omega, ebe := rfl, lbe := be0.len, abe := be0.all,
      esp := rfl, lsp := lsp, osp := osp, ffe := fewI_of (feL_len _ _ _ _) fd0 fb, efe := rfl, lfe := fe0.len, afe := fe0.all,
      ffr := fewI_of (frL_len _ _ _) fr1 fun i hi => by have := bb i hi; omega, efr := rfl, lfr := fr0.len, afr := fr0.all, sfr := fr0.same be0,
      i5 := be0.told (by omega) (by omega), i6 := fr0.told (by omega) (by omega) }⟩
end
end Qq
end
section
/- Slots by a list in order: one pass. -/
namespace Go.Vm
noncomputable section
def slotsG : Nat → Nat → List (Nat × Value) → List Value
  | 0, _, _ => []
  | n + 1, _, [] => poi :: slotsG n 0 []
  | n + 1, i, (t, v) :: r => match Nat.beq t i with
    | true => v :: slotsG n (i + 1) r
    | false => poi :: slotsG n (i + 1) ((t, v) :: r)
/-- Slots: the pairs lie in order. -/
def slotsF (n : Nat) (l : List (Nat × Value)) : List Value := slotsG n 0 l
def keepG : Nat → Nat → List Nat → List Bool
  | 0, _, _ => []
  | n + 1, _, [] => true :: keepG n 0 []
  | n + 1, i, t :: r => match Nat.beq t i with
    | true => false :: keepG n (i + 1) r
    | false => true :: keepG n (i + 1) (t :: r)
def keepF (n : Nat) (l : List Nat) : List Bool := keepG n 0 l
end
end Go.Vm
end
