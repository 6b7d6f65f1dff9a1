/- Parts of the proof: PH, VL, PI, PJ, YGb, YK1, PL, PM0, PM1, PN, PO0, PO1, PM2. -/
import Derived.Test.YtmbeobnpkcoapaaGreatZAG
import Derived.Test.YtmbeobnpkcoapaaGreatZAC
import Derived.Test.YtmbeobnpkcoapaaGreatZAE
import Derived.Test.YtmbeobnpkcoapaaGreatZAF
section
/- The bound that prices prove. -/
open Go Go.Vm Go.Proofs Sp
namespace Sp
noncomputable section
/-- The most that a section is worth, and all together. -/
noncomputable def mxP (v c : Int) : Int := if v * 27720 - c > 0 then v * 27720 - c else 0
noncomputable def mst (D : Nat → Int) (s : Nat) (v c : Int) (i k : Nat) : Int := if anT D s i k = true then mxP v c else 0
noncomputable def suM (D : Nat → Int) (s K : Nat) (v c : Int) : Nat → Int
  | 0 => 0
  | i + 1 => suM D s K v c i + mst D s v c i K
noncomputable def bdV (D : Nat → Int) (s N K : Nat) (v c : Int) : Int := Int.tdiv (c * K + suM D s K v c N) 27720
end
end Sp
namespace Qq
noncomputable section
section
variable (nm : Nat → ByteArray) (D : Nat → Int) (v : Int) (s N K a b c : Nat) (pa pd : Int)
noncomputable def hpB : Heap := [rSe nm D v N, rSh D s K, rPr pa pd K, bxO N K a b 0 1, some (.row (reC (coP pa pd) K) 1 true true true)]
noncomputable def lpB1 : Lp where
  σ := Nat
  E k := slots 96 [(2, .pointer (some ⟨3, 0, none⟩)), (8, .slice (some ⟨4, 0, none⟩) K 0), (9, .int .i64 (coP pa pd * k)), (41, .slice (some ⟨1, 0, none⟩) K b), (42, .int .i64 (K : Int)), (43, .int .i64 (k : Int))]
  Hp _ := hpB nm D v s N K a b pa pd
  I k := k ≤ K
  m k := K - k
noncomputable def lpB2 : Lp where
  σ := Nat
  E i := slots 96 [(2, .pointer (some ⟨3, 0, none⟩)), (8, .slice (some ⟨4, 0, none⟩) K 0), (9, .int .i64 (coP pa pd * K + suM D s K v (coP pa pd) i)), (59, .slice (some ⟨0, 0, none⟩) N a), (60, .int .i64 (N : Int)), (61, .int .i64 (i : Int))]
  Hp _ := hpB nm D v s N K a b pa pd
  I i := i ≤ N
  m i := N - i
noncomputable def lpB3 (i : Nat) : Lp where
  σ := Nat
  E k := slots 96 [(2, .pointer (some ⟨3, 0, none⟩)), (8, .slice (some ⟨4, 0, none⟩) K 0), (9, .int .i64 (coP pa pd * K + suM D s K v (coP pa pd) i)), (12, .int .i64 (i : Int)), (13, .pointer (some ⟨5, 0, none⟩)), (14, .int .i64 (mst D s v (coP pa pd) i k)), (59, .slice (some ⟨0, 0, none⟩) N a), (60, .int .i64 (N : Int)), (61, .int .i64 (i : Int)), (67, .slice (some ⟨1, 0, none⟩) K b), (68, .int .i64 (K : Int)), (69, .int .i64 (k : Int))]
  Hp _ := hpB nm D v s N K a b pa pd ++ [some (.row [.string (seA.nmAt2 nm i), .int .i64 (dAt D i), .int .i64 1, .int .i64 0, .int .i64 v] 0 false true true)]
  I k := k ≤ K ∧ i < N
  m k := K - k
noncomputable def seB (nm : Nat → ByteArray) (D : Nat → Int) (v : Int) (off : Nat) : Value := .agg #[.string (seA.nmAt2 nm (off / 5)), .int .i64 (dAt D (off / 5)), .int .i64 1, .int .i64 0, .int .i64 v]
noncomputable def hsB : Hs Tryz.prog where
  op y := if [1301, 1403, 1801, 2408].contains y then some (hIa Tryz.prog) else if y = 1302 then some (hLd Tryz.prog (shA2 D s)) else if [1404, 2409].contains y then some (hLd Tryz.prog (cV (coP pa pd))) else if y = 1802 then some (hLd Tryz.prog (seB nm D v))
    else if y = 402 then some (hCa Tryz.prog 35 orcFz okFz) else if [201, 501].contains y then some (hTold false) else none
  lp y := if y = 12 then some (lpB1 nm D v s N K a b pa pd) else if y = 17 then some (lpB2 nm D v s N K a b pa pd) else none
  lq y := if y = 21 then some ⟨Nat, lpB3 nm D v s N K a b pa pd⟩ else none
  cl y := if y = 12 then keep 96 [2, 8, 9, 41, 42, 43] else if y = 17 then keep 96 [2, 8, 9, 59, 60, 61] else keep 96 [2, 8, 9, 12, 13, 14, 59, 60, 61, 67, 68, 69]
  sm := true
  au := auCalls [(28, hCa Tryz.prog 28 (orcOf nm D v s) (okOf nm D v s)), (37, hCa Tryz.prog 37 (orcM1 pa pd) (okM1 pa pd)), (39, hCa Tryz.prog 39 (orcCx pa pd) (okCx pa pd)), (41, hCa Tryz.prog 41 (orcM2 pa pd) (okM2 pa pd)), (43, hCa Tryz.prog 43 (orcTm nm D v s) (okTm nm D v s))]
end
theorem bd_t (nm : Nat → ByteArray) (D : Nat → Int) (v : Int) (s : Nat) (N : Nat) (K : Nat) (a : Nat) (b : Nat) (c : Nat) (pa : Int) (pd : Int) (K0 : Value → Heap → Prop) :
    (fnP Tryz.prog cu2 (hsB nm D v s N K a b pa pd) (13 : FuncId) [off3 N K a b (0 : Nat) (1 : Nat), Value.slice (some { block := (2 : Nat), off := (0 : Nat) }) K c] [rSe nm D v N, rSh D s K, rPr pa pd K] K0) =
    (let q0 : Prop := Value.slice (some ⟨4, 0, none⟩) K 0 = Value.slice (some ⟨4, 0, none⟩) K 0; let q1 : Prop := Value.pointer (some ⟨3, 0, none⟩) = Value.pointer (some ⟨3, 0, none⟩); let q2 : Prop := Value.slice (some ⟨1, 0, none⟩) K b = Value.slice (some ⟨1, 0, none⟩) K b; let q3 : Prop := Value.slice (some ⟨0, 0, none⟩) N a = Value.slice (some ⟨0, 0, none⟩) N a; let q4 : Prop := Value.int .i64 (K : Int) = Value.int .i64 (K : Int); let q5 : Prop := Value.int .i64 (N : Int) = Value.int .i64 (N : Int); let z6 : AObj := AObj.row [Value.slice (some ⟨0, 0, none⟩) N a, Value.slice (some ⟨1, 0, none⟩) K b] 0 false true false; (Is ((seC nm D v N = seC nm D v N ∧ shC D s K = shC D s K) ∧ OfOk nm D v N s K) ∧ Is ((fi [(0 : Int), wh ((K : Int) != (K : Int)) (2 : Int)] != (0 : Int)) = false) ∧ Is (prC pa pd K = prC pa pd K ∧ prOk pa pd ∧ K ≤ 1000) ∧ Is (reC (0 : Int) K = reC (0 : Int) K ∧ K < 1000) ∧ Is (false = false) ∧ Is (prC pa pd K = prC pa pd K ∧ prOk pa pd ∧ K ≤ 1000) ∧ Is (prC pa pd K = prC pa pd K ∧ prOk pa pd ∧ K ≤ 1000) ∧ (∃ (s_1 : Nat), Is (s_1 ≤ K) ∧ (q1 ∧ q0 ∧ Value.int .i64 0 = Value.int .i64 (coP pa pd * (s_1 : Int)) ∧ q2 ∧ q4 ∧ Value.int .i64 0 = Value.int .i64 (s_1 : Int) ∧ True) ∧ some (AObj.row (seC nm D v N) 5 true false true) :: some (AObj.row (shC D s K) 4 true false true) :: some (AObj.row (prC pa pd K) 2 true true true) :: some z6 :: some (AObj.row (reC (coP pa pd) K) 1 true true true) :: noH = some (AObj.row (seC nm D v N) 5 true false true) :: some (AObj.row (shC D s K) 4 true false true) :: some (AObj.row (prC pa pd K) 2 true true true) :: some z6 :: some (AObj.row (reC (coP pa pd) K) 1 true true true) :: noH) ∧ ∀ (s_1 : Nat), Is (s_1 ≤ K) → br (decide ((s_1 : Int) < (K : Int))) (Is ((0 : Int) ≤ (s_1 : Int) ∧ (s_1 : Int) < (K : Int)) ∧ Is ((if 0 + Int.toNat (s_1 : Int) * 4 + 4 ≤ List.length (shC D s K) then some (Value.agg (List.toArray (List.take 4 (List.drop (0 + Int.toNat (s_1 : Int) * 4) (shC D s K))))) else none) = some (Value.agg #[Value.int .i64 (dAt D (s + (0 + Int.toNat (s_1 : Int) * 4) / 4)), Value.int .i64 1, Value.int .i64 0, Value.int .i64 0])) ∧ Is ((0 : Int) ≤ (s_1 : Int) ∧ (s_1 : Int) < (K : Int)) ∧ Is ((reC (coP pa pd) K)[0 + Int.toNat (s_1 : Int) * 1]? = some (Value.int .i64 (coP pa pd))) ∧ ∃ (s' : Nat), Is (s' ≤ K) ∧ Is (K - s' < K - s_1) ∧ (q1 ∧ q0 ∧ Value.int .i64 (IntKind.wrap .i64 (coP pa pd * (s_1 : Int) + IntKind.wrap .i64 (coP pa pd * (1 : Int)))) = Value.int .i64 (coP pa pd * (↑s' : Int)) ∧ q2 ∧ q4 ∧ Value.int .i64 (IntKind.wrap .i64 ((s_1 : Int) + (1 : Int))) = Value.int .i64 (↑s' : Int) ∧ True) ∧ some (AObj.row (seC nm D v N) 5 true false true) :: some (AObj.row (shC D s K) 4 true false true) :: some (AObj.row (prC pa pd K) 2 true true true) :: some z6 :: some (AObj.row (reC (coP pa pd) K) 1 true true true) :: noH = some (AObj.row (seC nm D v N) 5 true false true) :: some (AObj.row (shC D s K) 4 true false true) :: some (AObj.row (prC pa pd K) 2 true true true) :: some z6 :: some (AObj.row (reC (coP pa pd) K) 1 true true true) :: noH) ((∃ (s_2 : Nat), Is (s_2 ≤ N) ∧ (q1 ∧ q0 ∧ Value.int .i64 (coP pa pd * (s_1 : Int)) = Value.int .i64 (coP pa pd * (K : Int) + suM D s K v (coP pa pd) s_2) ∧ q3 ∧ q5 ∧ Value.int .i64 0 = Value.int .i64 (s_2 : Int) ∧ True) ∧ some (AObj.row (seC nm D v N) 5 true false true) :: some (AObj.row (shC D s K) 4 true false true) :: some (AObj.row (prC pa pd K) 2 true true true) :: some z6 :: some (AObj.row (reC (coP pa pd) K) 1 true true true) :: noH = some (AObj.row (seC nm D v N) 5 true false true) :: some (AObj.row (shC D s K) 4 true false true) :: some (AObj.row (prC pa pd K) 2 true true true) :: some z6 :: some (AObj.row (reC (coP pa pd) K) 1 true true true) :: noH) ∧ ∀ (s_2 : Nat), Is (s_2 ≤ N) → br (decide ((s_2 : Int) < (N : Int))) (Is ((0 : Int) ≤ (s_2 : Int) ∧ (s_2 : Int) < (N : Int)) ∧ Is ((if 0 + Int.toNat (s_2 : Int) * 5 + 5 ≤ List.length (seC nm D v N) then some (Value.agg (List.toArray (List.take 5 (List.drop (0 + Int.toNat (s_2 : Int) * 5) (seC nm D v N))))) else none) = some (Value.agg #[Value.string (seA.nmAt2 nm ((0 + Int.toNat (s_2 : Int) * 5) / 5)), Value.int .i64 (dAt D ((0 + Int.toNat (s_2 : Int) * 5) / 5)), Value.int .i64 1, Value.int .i64 0, Value.int .i64 v])) ∧ ∃ (p : Nat), (∃ (s_3 : Nat), Is (s_3 ≤ K ∧ p < N) ∧ (q1 ∧ q0 ∧ Value.int .i64 (coP pa pd * (K : Int) + suM D s K v (coP pa pd) s_2) = Value.int .i64 (coP pa pd * (K : Int) + suM D s K v (coP pa pd) p) ∧ Value.int .i64 (s_2 : Int) = Value.int .i64 (p : Int) ∧ Value.pointer (some ⟨5, 0, none⟩) = Value.pointer (some ⟨5, 0, none⟩) ∧ Value.int .i64 0 = Value.int .i64 (mst D s v (coP pa pd) p s_3) ∧ q3 ∧ q5 ∧ Value.int .i64 (s_2 : Int) = Value.int .i64 (p : Int) ∧ q2 ∧ q4 ∧ Value.int .i64 0 = Value.int .i64 (s_3 : Int) ∧ True) ∧ some (AObj.row (seC nm D v N) 5 true false true) :: some (AObj.row (shC D s K) 4 true false true) :: some (AObj.row (prC pa pd K) 2 true true true) :: some z6 :: some (AObj.row (reC (coP pa pd) K) 1 true true true) :: some (AObj.row [Value.string (seA.nmAt2 nm ((0 + Int.toNat (s_2 : Int) * 5) / 5)), Value.int .i64 (dAt D ((0 + Int.toNat (s_2 : Int) * 5) / 5)), Value.int .i64 1, Value.int .i64 0, Value.int .i64 v] 0 false true true) :: noH = some (AObj.row (seC nm D v N) 5 true false true) :: some (AObj.row (shC D s K) 4 true false true) :: some (AObj.row (prC pa pd K) 2 true true true) :: some z6 :: some (AObj.row (reC (coP pa pd) K) 1 true true true) :: some (AObj.row [Value.string (seA.nmAt2 nm p), Value.int .i64 (dAt D p), Value.int .i64 1, Value.int .i64 0, Value.int .i64 v] 0 false true true) :: noH) ∧ ∀ (s_3 : Nat), Is (s_3 ≤ K ∧ p < N) → br (decide ((s_3 : Int) < (K : Int))) (Is ((seC nm D v N = seC nm D v N ∧ shC D s K = shC D s K) ∧ ((0 : Int) ≤ (p : Int) ∧ (p : Int) < (N : Int)) ∧ (0 : Int) ≤ (s_3 : Int) ∧ (s_3 : Int) < (K : Int)) ∧ br (inTm D s (p : Int) (s_3 : Int)) (Is ((0 : Int) ≤ (s_3 : Int) ∧ (s_3 : Int) < (K : Int)) ∧ Is ((reC (coP pa pd) K)[0 + Int.toNat (s_3 : Int) * 1]? = some (Value.int .i64 (coP pa pd))) ∧ ∃ (s' : Nat), Is (s' ≤ K ∧ p < N) ∧ Is (K - s' < K - s_3) ∧ (q1 ∧ q0 ∧ Value.int .i64 (coP pa pd * (K : Int) + suM D s K v (coP pa pd) p) = Value.int .i64 (coP pa pd * (K : Int) + suM D s K v (coP pa pd) p) ∧ Value.int .i64 (p : Int) = Value.int .i64 (p : Int) ∧ Value.pointer (some ⟨5, 0, none⟩) = Value.pointer (some ⟨5, 0, none⟩) ∧ Value.int .i64 (if IntKind.wrap .i64 (IntKind.wrap .i64 (v * (27720 : Int)) - IntKind.wrap .i64 ((1 : Int) * coP pa pd)) > mst D s v (coP pa pd) p s_3 then IntKind.wrap .i64 (IntKind.wrap .i64 (v * (27720 : Int)) - IntKind.wrap .i64 ((1 : Int) * coP pa pd)) else mst D s v (coP pa pd) p s_3) = Value.int .i64 (mst D s v (coP pa pd) p s') ∧ q3 ∧ q5 ∧ Value.int .i64 (p : Int) = Value.int .i64 (p : Int) ∧ q2 ∧ q4 ∧ Value.int .i64 (IntKind.wrap .i64 ((s_3 : Int) + (1 : Int))) = Value.int .i64 (↑s' : Int) ∧ True) ∧ some (AObj.row (seC nm D v N) 5 true false true) :: some (AObj.row (shC D s K) 4 true false true) :: some (AObj.row (prC pa pd K) 2 true true true) :: some z6 :: some (AObj.row (reC (coP pa pd) K) 1 true true true) :: some (AObj.row [Value.string (seA.nmAt2 nm p), Value.int .i64 (dAt D p), Value.int .i64 1, Value.int .i64 0, Value.int .i64 v] 0 false true true) :: noH = some (AObj.row (seC nm D v N) 5 true false true) :: some (AObj.row (shC D s K) 4 true false true) :: some (AObj.row (prC pa pd K) 2 true true true) :: some z6 :: some (AObj.row (reC (coP pa pd) K) 1 true true true) :: some (AObj.row [Value.string (seA.nmAt2 nm p), Value.int .i64 (dAt D p), Value.int .i64 1, Value.int .i64 0, Value.int .i64 v] 0 false true true) :: noH) (∃ (s' : Nat), Is (s' ≤ K ∧ p < N) ∧ Is (K - s' < K - s_3) ∧ (q1 ∧ q0 ∧ Value.int .i64 (coP pa pd * (K : Int) + suM D s K v (coP pa pd) p) = Value.int .i64 (coP pa pd * (K : Int) + suM D s K v (coP pa pd) p) ∧ Value.int .i64 (p : Int) = Value.int .i64 (p : Int) ∧ Value.pointer (some ⟨5, 0, none⟩) = Value.pointer (some ⟨5, 0, none⟩) ∧ Value.int .i64 (mst D s v (coP pa pd) p s_3) = Value.int .i64 (mst D s v (coP pa pd) p s') ∧ q3 ∧ q5 ∧ Value.int .i64 (p : Int) = Value.int .i64 (p : Int) ∧ q2 ∧ q4 ∧ Value.int .i64 (IntKind.wrap .i64 ((s_3 : Int) + (1 : Int))) = Value.int .i64 (↑s' : Int) ∧ True) ∧ some (AObj.row (seC nm D v N) 5 true false true) :: some (AObj.row (shC D s K) 4 true false true) :: some (AObj.row (prC pa pd K) 2 true true true) :: some z6 :: some (AObj.row (reC (coP pa pd) K) 1 true true true) :: some (AObj.row [Value.string (seA.nmAt2 nm p), Value.int .i64 (dAt D p), Value.int .i64 1, Value.int .i64 0, Value.int .i64 v] 0 false true true) :: noH = some (AObj.row (seC nm D v N) 5 true false true) :: some (AObj.row (shC D s K) 4 true false true) :: some (AObj.row (prC pa pd K) 2 true true true) :: some z6 :: some (AObj.row (reC (coP pa pd) K) 1 true true true) :: some (AObj.row [Value.string (seA.nmAt2 nm p), Value.int .i64 (dAt D p), Value.int .i64 1, Value.int .i64 0, Value.int .i64 v] 0 false true true) :: noH)) (∃ (s' : Nat), Is (s' ≤ N) ∧ Is (N - s' < N - s_2) ∧ (q1 ∧ q0 ∧ Value.int .i64 (IntKind.wrap .i64 (coP pa pd * (K : Int) + suM D s K v (coP pa pd) p + mst D s v (coP pa pd) p s_3)) = Value.int .i64 (coP pa pd * (K : Int) + suM D s K v (coP pa pd) s') ∧ q3 ∧ q5 ∧ Value.int .i64 (IntKind.wrap .i64 ((p : Int) + (1 : Int))) = Value.int .i64 (↑s' : Int) ∧ True) ∧ some (AObj.row (seC nm D v N) 5 true false true) :: some (AObj.row (shC D s K) 4 true false true) :: some (AObj.row (prC pa pd K) 2 true true true) :: some z6 :: some (AObj.row (reC (coP pa pd) K) 1 true true true) :: noH = some (AObj.row (seC nm D v N) 5 true false true) :: some (AObj.row (shC D s K) 4 true false true) :: some (AObj.row (prC pa pd K) 2 true true true) :: some z6 :: some (AObj.row (reC (coP pa pd) K) 1 true true true) :: noH)) (Is ((27720 : Int) ≠ (0 : Int)) ∧ K0 (Value.tuple #[Value.int .i64 (IntKind.wrap .i64 (Int.tdiv (coP pa pd * (K : Int) + suM D s K v (coP pa pd) s_2) (27720 : Int))), Value.int .i64 0]) (some (AObj.row (seC nm D v N) 5 true false true) :: some (AObj.row (shC D s K) 4 true false true) :: some (AObj.row (prC pa pd K) 2 true true true) :: noH))))) := by kernel_rfl
theorem mxP_bd {v c : Int} (hv : 0 ≤ v ∧ v ≤ 1000) (hc : 0 ≤ c ∧ c ≤ 1000000) : 0 ≤ mxP v c ∧ mxP v c ≤ 27720000 ∧ v * 27720 - c ≤ mxP v c := by
  rw [mxP]; split <;> omega
theorem mst_bd {D : Nat → Int} {s : Nat} {v c : Int} {i k : Nat} (hv : 0 ≤ v ∧ v ≤ 1000) (hc : 0 ≤ c ∧ c ≤ 1000000) : 0 ≤ mst D s v c i k ∧ mst D s v c i k ≤ 27720000 := by
  have := mxP_bd hv hc
  rw [mst]; split <;> omega
theorem suM_bd {D : Nat → Int} {s K : Nat} {v c : Int} (hv : 0 ≤ v ∧ v ≤ 1000) (hc : 0 ≤ c ∧ c ≤ 1000000) : ∀ i : Nat, 0 ≤ suM D s K v c i ∧ suM D s K v c i ≤ 27720000 * i
  | 0 => by rw [suM]; omega
  | i + 1 => by
    have h1 := suM_bd (D := D) (s := s) (K := K) hv hc i
    have h2 := mst_bd (D := D) (s := s) (i := i) (k := K) hv hc
    rw [suM]; omega
theorem mst_yes {D : Nat → Int} {s : Nat} {v c : Int} {i k : Nat} (h : D (s + k) ≤ D i) (hv : 0 ≤ v ∧ v ≤ 1000) (hc : 0 ≤ c ∧ c ≤ 1000000) :
    (if v * 27720 - c > mst D s v c i k then v * 27720 - c else mst D s v c i k) = mst D s v c i (k + 1) := by
  have hm := mxP_bd hv hc
  have e : mst D s v c i (k + 1) = mxP v c := by rw [mst, anT, decide_eq_true h, Bool.or_true, if_pos rfl]
  rw [e, mst]
  by_cases ha : anT D s i k = true
  · rw [if_pos ha, if_neg (by omega)]
  · rw [if_neg ha, mxP]
theorem mst_no {D : Nat → Int} {s : Nat} {v c : Int} {i k : Nat} (h : ¬ D (s + k) ≤ D i) : mst D s v c i (k + 1) = mst D s v c i k := by
  rw [mst, mst, anT, decide_eq_false h, Bool.or_false]
theorem bd_ok {nm : Nat → ByteArray} {D : Nat → Int} {v : Int} {s N K a b c : Nat} {pa pd : Int} (h : OfOk nm D v N s K) (hp : prOk pa pd) :
    SmallRes Tryz.prog 13 [off3 N K a b 0 1, .slice (some ⟨2, 0, none⟩) K c] [rSe nm D v N, rSh D s K, rPr pa pd K] (.tuple #[.int .i64 (bdV D s N K v (coP pa pd)), .int .i64 0]) [rSe nm D v N, rSh D s K, rPr pa pd K] := by
  have hn := h.n
  have hk := h.k
  have hv := h.v
  have hc : 0 ≤ coP pa pd ∧ coP pa pd ≤ 1000000 := hp.2.2.2
  refine fnP_res hm cu2_ok (hs := hsB nm D v s N K a b pa pd) ?_
  rw [bd_t]
  generalize hcc : coP pa pd = cc at hc
  have mulK : ∀ k : Nat, k ≤ 5 → 0 ≤ cc * (k : Int) ∧ cc * (k : Int) ≤ 5000000 := fun k hk => by
    have h1 := Int.mul_nonneg hc.1 (Int.natCast_nonneg k)
    have h2 : cc * (k : Int) ≤ cc * 5 := Int.mul_le_mul_of_nonneg_left (by omega) hc.1
    omega
  refine ⟨⟨⟨rfl, rfl⟩, h⟩, ⟨by rw [bne_selfN] <;> rfl⟩, ⟨rfl, hp, by omega⟩, ⟨rfl, by omega⟩, ⟨rfl⟩, ⟨rfl, hp, by omega⟩, ⟨rfl, hp, by omega⟩, ⟨(0 : Nat), ⟨by omega⟩, ?_, by first | trivial | rfl⟩, fun k hk2 => br_of (fun hd => ?_) (fun hd => ?_)⟩
  · rw [show cc * ((0 : Nat) : Int) = 0 from Int.mul_zero _]
    repeat (first | exact trivial | refine ⟨by first | trivial | rfl, ?_⟩)
  · have hd := lt_of_dec hd
    have hq := mulK k (by omega)
    simp only [Nat.zero_add, Nat.mul_one, Int.toNat_natCast, Int.mul_one, up1 hd (Nat.le_trans hk (by omega)), dAt]
    rw [show k * 4 / 4 = k by omega, wrap_eq (x := cc) (by omega) (by omega), wrap_eq (by omega) (by omega)]
    refine ⟨⟨by omega, by omega⟩, ⟨by rw [sh_len, if_pos (by omega), sh_part hd]⟩, ⟨by omega, by omega⟩, ⟨re_at hd⟩, k + 1, ⟨hd⟩, ⟨by omega⟩, ?_, by first | trivial | rfl⟩
    rw [show cc * ((k + 1 : Nat) : Int) = cc * k + cc by rw [Int.natCast_succ, Int.mul_add, Int.mul_one]]
    repeat (first | exact trivial | refine ⟨by first | trivial | rfl, ?_⟩)
  · have hd := ge_of_dec hd
    obtain rfl : k = K := by have := hk2.out; omega
    have hq := mulK k (by omega)
    refine ⟨⟨(0 : Nat), ⟨by omega⟩, ?_, by first | trivial | rfl⟩, fun i hi => br_of (fun hd => ?_) (fun hd => ?_)⟩
    · rw [suM, Int.add_zero]
      repeat (first | exact trivial | refine ⟨by first | trivial | rfl, ?_⟩)
    · have hi2 := lt_of_dec hd
      simp only [Nat.zero_add, Int.toNat_natCast, dAt, seA.nmAt2]
      rw [show i * 5 / 5 = i by omega]
      refine ⟨⟨by omega, by omega⟩, ⟨by rw [se_len, if_pos (by omega), se_part hi2]⟩, i, ⟨(0 : Nat), ⟨by omega, hi2⟩, ?_, by first | trivial | rfl⟩, fun j hj => br_of (fun he => ?_) (fun he => ?_)⟩
      · rw [show mst D s v cc i 0 = 0 by rw [mst, anT, if_neg (by decide)]]
        repeat (first | exact trivial | refine ⟨by first | trivial | rfl, ?_⟩)
      · have he := lt_of_dec he
        simp only [Nat.mul_one, Int.one_mul, up1 he (Nat.le_trans hk (by omega))]
        rw [wrap_eq (x := v * 27720) (by omega) (by omega), wrap_eq (x := cc) (by omega) (by omega), wrap_eq (x := v * 27720 - cc) (by omega) (by omega)]
        refine ⟨⟨by simp, by omega, by omega⟩, br_of (fun ht => ?_) (fun ht => ?_)⟩
        · rw [inTm, Int.toNat_natCast, Int.toNat_natCast] at ht
          rw [mst_yes (of_decide_eq_true ht) hv hc]
          refine ⟨⟨by omega, by omega⟩, ⟨re_at he⟩, j + 1, ⟨he, hi2⟩, ⟨by omega⟩, ?_, by first | trivial | rfl⟩
          repeat (first | exact trivial | refine ⟨by first | trivial | rfl, ?_⟩)
        · rw [inTm, Int.toNat_natCast, Int.toNat_natCast] at ht
          refine ⟨j + 1, ⟨he, hi2⟩, ⟨by omega⟩, ?_, by first | trivial | rfl⟩
          rw [mst_no (of_decide_eq_false ht)]
          repeat (first | exact trivial | refine ⟨by first | trivial | rfl, ?_⟩)
      · have he := ge_of_dec he
        obtain rfl : j = k := by have := hj.out; omega
        have b1 := suM_bd (D := D) (s := s) (K := j) hv hc i
        have b2 := mst_bd (D := D) (s := s) (i := i) (k := j) hv hc
        rw [wrap_eq (x := cc * j + suM D s j v cc i + mst D s v cc i j) (by omega) (by omega)]
        simp only [up1 hi2 (Nat.le_trans hn (by omega))]
        refine ⟨i + 1, ⟨hi2⟩, ⟨by omega⟩, ?_, by first | trivial | rfl⟩
        rw [suM, ← Int.add_assoc]
        repeat (first | exact trivial | refine ⟨by first | trivial | rfl, ?_⟩)
    · have hd := ge_of_dec hd
      obtain rfl : i = N := by have := hi.out; omega
      have b1 := suM_bd (D := D) (s := s) (K := k) hv hc i
      have e1 : Int.tdiv (cc * k + suM D s k v cc i) 27720 = (cc * k + suM D s k v cc i) / 27720 := Int.tdiv_eq_ediv_of_nonneg (by omega)
      rw [bdV, e1, wrap_eq (by omega) (by omega)]
      exact ⟨⟨by decide⟩, rfl, rfl⟩
end
end Qq
end
section
/- A row that may be longer than its cells: what holds of it holds of one that is not. -/
namespace Go.Vm
noncomputable section
def AObj.loose : AObj → AObj
  | .row c es _ rw fl => .row c es true rw fl
  | o => o
def looseH (H : Heap) : Heap := H.map (Option.map AObj.loose)
theorem rd_loose : ∀ (H : Heap) (j : Nat), rd (looseH H) j = (rd H j).map AObj.loose
  | [], j => by cases j <;> rfl
  | x :: r, 0 => by cases x <;> rfl
  | x :: r, j + 1 => rd_loose r j
theorem HRel.loose {P : Program} {F : Fr P} {A : Nat → Prop} {ψ : Nat → Gh} {H : Heap} {w : World} (h : HRel F A ψ H w) : HRel F A ψ (looseH H) w := by
  have look : ∀ {j o}, rd (looseH H) j = some o → ∃ o', rd H j = some o' ∧ o = o'.loose ∧ o.rw = o'.rw ∧ o.vd = o'.vd := fun {j o} hj => by
    rw [rd_loose] at hj
    obtain ⟨o', h1, h2⟩ := Option.map_eq_some_iff.1 hj
    subst h2
    refine ⟨o', h1, rfl, ?_, ?_⟩
    · cases o' <;> rfl
    · cases o' with
      | row c es m rw fl => cases c <;> rfl
      | iter => rfl
      | smap => rfl
      | imap => rfl
  refine ⟨fun j o hj => ?_, fun i j oi oj hi hj hij hrw hvi hvj => ?_, h.fr, fun j o hj hrw hv => ?_, h.old⟩
  · obtain ⟨o', a1, rfl, a3, a4⟩ := look hj
    obtain ⟨h1, h2, h3⟩ := h.live j o' a1
    refine ⟨h1, ?_, fun hv => ?_⟩
    · cases o' <;> exact h2
    · obtain ⟨k1, k2⟩ := h3 (by rw [← a4]; exact hv)
      refine ⟨k1, ?_⟩
      cases o' with
      | row c es m rw fl =>
        obtain ⟨arr, el, fz, q1, q2, q3, q4, q5⟩ := k2
        refine ⟨arr, el, fz, q1, q2, q3, fun hr => ?_, q5⟩
        obtain ⟨r1, r2, r3, r4⟩ := q4 hr
        exact ⟨r1, r2, r3, fun hm => by cases hm⟩
      | iter => exact k2
      | smap => exact k2
      | imap => exact k2
  · obtain ⟨oi', a1, _, a3, a4⟩ := look hi
    obtain ⟨oj', b1, _, b3, b4⟩ := look hj
    exact h.inj i j oi' oj' a1 b1 hij (by rw [← a3]; exact hrw) (by rw [← a4]; exact hvi) (by rw [← b4]; exact hvj)
  · obtain ⟨o', a1, _, a3, a4⟩ := look hj
    exact h.own j o' a1 (by rw [← a3]; exact hrw) (by rw [← a4]; exact hv)
theorem SmallRes.loose {P : Program} {f : FuncId} {args : List Value} {H H' : Heap} {ret : Value} (h : SmallRes P f args (looseH H) ret H') : SmallRes P f args H ret H' :=
  fun F A ψ w args' hh hb hA hψ hl => h F A ψ w args' hh.loose (fun id hi => by rw [looseH, List.length_map]; exact hb id hi) hA hψ hl
end
end Go.Vm
end
section
/- The fixed example. -/
open Go Go.Vm Go.Proofs Sp
namespace Qq
noncomputable section
def nmN (_ : Nat) : ByteArray := ⟨#[110, 111, 114, 116, 104]⟩
def dN (_ : Nat) : Int := 71
theorem pl_north : bPl (pw11 5) (pc11 dN) pf11 2 0 = 0 := by kernel_rfl
theorem of_north : OfOk nmN dN 5 1 0 1 := by
  refine ⟨by decide, by decide, fun i _ => by rw [nmN]; kernel_rfl, fun i j h1 h2 => by omega, fun i _ => by rw [dN]; omega, fun i _ => by rw [dN]; omega, fun i _ => by rw [dN, dN]; omega, by omega⟩
noncomputable def orcPn : OrcV
  | [.agg ⟨[.slice (some ⟨0, 0, none⟩) 1 _, .slice (some ⟨1, 0, none⟩) 1 _]⟩], [some (.row e 5 false true true), some (.row g 4 false true true)] =>
    some (.tuple #[.slice (some ⟨2, 0, none⟩) 1 1, .agg #[.int .i64 5, .int .i64 0], .int .i64 0], [some (.row e 5 true true true), some (.row g 4 true true true), some (.row [.int .i64 0] 1 false true true)], e = seC nmN dN 5 1 ∧ g = shC dN 0 1)
  | _, _ => none
theorem okPn : OkV Tryz.prog 10 orcPn := by
  intro args H ret H' vc h hv
  unfold orcPn at h
  split at h
  · rename_i a b e g
    cases h
    obtain ⟨rfl, rfl⟩ := hv
    have := plan11_ok (a := a) (b := b) of_north
    rw [pl_north] at this
    exact this.loose
  · cases h
noncomputable def hsNor : Hs Tryz.prog where
  au := auCalls [(10, hCa Tryz.prog 10 orcPn okPn)]
theorem no_t (K : Value → Heap → Prop) :
    (fnP Tryz.prog c0 hsNor (5 : FuncId) [] [] K) =
    (Is ([Value.string { data := #[(110 : UInt8), (111 : UInt8), (114 : UInt8), (116 : UInt8), (104 : UInt8)] }, Value.int .i64 71, Value.int .i64 1, Value.int .i64 0, Value.int .i64 5] = [Value.string { data := #[(110 : UInt8), (111 : UInt8), (114 : UInt8), (116 : UInt8), (104 : UInt8)] }, Value.int .i64 71, Value.int .i64 1, Value.int .i64 0, Value.int .i64 5] ∧ [Value.int .i64 71, Value.int .i64 1, Value.int .i64 0, Value.int .i64 0] = [Value.int .i64 71, Value.int .i64 1, Value.int .i64 0, Value.int .i64 0]) ∧ Is True ∧ K (Value.bool true) noH) := by kernel_rfl
noncomputable def orcNo : OrcV
  | [], [] => some (.bool true, [], True)
  | _, _ => none
theorem okNo : OkV Tryz.prog 5 orcNo := by
  intro args H ret H' vc h hv
  unfold orcNo at h
  split at h
  · cases h
    refine fnP_res hm c0_ok (hs := hsNor) ?_
    rw [no_t]
    exact ⟨⟨rfl, rfl⟩, ⟨trivial⟩, rfl, rfl⟩
  · cases h
end
end Qq
end
section
/- Plan, Late and Bound for offices of one to three sections. -/
open Go Go.Vm Go.Proofs Sp
namespace Sp
noncomputable section
/-- The plan that comes back. -/
noncomputable def plR (D : Nat → Int) (v : Int) : Nat → Nat → List Value
  | 1, 1 => [.int .i64 (bPl (pw11 v) (pc11 D) pf11 2 0)]
  | 1, 0 => [.int .i64 (bPl (pw10 v) (pc10 D) pf10 1 0)]
  | 2, 2 => [.int .i64 (bPl (pw22 v) (pc22 D) pf22 9 0), .int .i64 (bPl (pw22 v) (pc22 D) pf22 9 1)]
  | 2, 1 => [.int .i64 (bPl (pw21 v) (pc21 D) pf21 4 0), .int .i64 (bPl (pw21 v) (pc21 D) pf21 4 1)]
  | 3, 3 => [.int .i64 (bPl (pw33 v) (pc33 D) pf33 64 0), .int .i64 (bPl (pw33 v) (pc33 D) pf33 64 1), .int .i64 (bPl (pw33 v) (pc33 D) pf33 64 2)]
  | 3, 2 => [.int .i64 (bPl (pw32 v) (pc32 D) pf32 27 0), .int .i64 (bPl (pw32 v) (pc32 D) pf32 27 1), .int .i64 (bPl (pw32 v) (pc32 D) pf32 27 2)]
  | _, _ => []
/-- An office as the law makes it: a shift for each section, or for each but the first. -/
def ofs (nm : Nat → ByteArray) (D : Nat → Int) (v : Int) (N s K : Nat) (e g : List Value) : Prop := isOf nm D v N s K e g ∧ K + s = N ∧ s ≤ 1 ∧ 1 ≤ N ∧ N ≤ 3
end
end Sp
namespace Qq
noncomputable section
section
variable (nm : Nat → ByteArray) (D : Nat → Int) (v : Int) (s : Nat)
noncomputable def orcPlN : OrcV
  | [.agg ⟨[.slice (some ⟨0, 0, none⟩) N _, .slice (some ⟨1, 0, none⟩) K _]⟩], [some (.row e 5 true true true), some (.row g 4 true true true)] =>
    some (.tuple #[.slice (some ⟨2, 0, none⟩) N N, .agg #[.int .i64 (v * K), .int .i64 0], .int .i64 0], [some (.row e 5 true true true), some (.row g 4 true true true), some (.row (plR D v N K) 1 false true true)], ofs nm D v N s K e g ∧ OfOk nm D v N s K)
  | _, _ => none
theorem okPlN : OkV Tryz.prog 10 (orcPlN nm D v s) := by
  intro args H ret H' vc h hv
  unfold orcPlN at h
  split at h
  · rename_i N a K b e g
    cases h
    obtain ⟨⟨⟨rfl, rfl⟩, h1, h2, h3, h4⟩, h5⟩ := hv
    match N, K, s, h1, h2, h3, h4, h5 with
    | 1, 1, 0, _, _, _, _, h5 => exact plan11_ok h5
    | 1, 0, 1, _, _, _, _, h5 => exact plan10_ok h5
    | 2, 2, 0, _, _, _, _, h5 => exact plan22_ok h5
    | 2, 1, 1, _, _, _, _, h5 => exact plan21_ok h5
    | 3, 3, 0, _, _, _, _, h5 => exact plan33_ok h5
    | 3, 2, 1, _, _, _, _, h5 => exact plan32_ok h5
    | 0, _, _, _, _, h3, _, _ => exact absurd h3 (by decide)
    | N + 4, _, _, _, _, _, h4, _ => exact absurd h4 (by omega)
    | N, K, s + 2, _, h2, _, _, _ => exact absurd h2 (by omega)
  · cases h
noncomputable def orcLaN (t : Bool) : OrcV
  | [.agg ⟨[.slice (some ⟨0, 0, none⟩) N _, .slice (some ⟨1, 0, none⟩) K _]⟩], [some (.row e 5 true true true), some (.row g 4 true true true)] =>
    some (.tuple #[.slice (some ⟨2, 0, none⟩) (ltN t N) 0, .int .i64 0], [some (.row e 5 true true true), some (.row g 4 true true true), some (.row (ltC t N) 2 true true true)], isOf nm D v N s K e g ∧ OfOk nm D v N s K ∧ ltIs D s N K t ∧ 0 < N)
  | _, _ => none
theorem okLaN (t : Bool) : OkV Tryz.prog 11 (orcLaN nm D v s t) := by
  intro args H ret H' vc h hv
  unfold orcLaN at h
  split at h
  · rename_i N a K b e g
    cases h
    obtain ⟨⟨rfl, rfl⟩, h1, h2, h3⟩ := hv
    exact regain [0, 1] (H := [some (.row (seC nm D v N) 5 true true true), some (.row (shC D s K) 4 true true true)]) (lt_ok (a := a) (b := b) h1 h2 h3) rfl rfl
  · cases h
noncomputable def orcBdN (pa pd : Int) : OrcV
  | [.agg ⟨[.slice (some ⟨0, 0, none⟩) N _, .slice (some ⟨1, 0, none⟩) K _]⟩, .slice (some ⟨2, 0, none⟩) M _], [some (.row e 5 true true true), some (.row g 4 true true true), some (.row p 2 true true true)] =>
    some (.tuple #[.int .i64 (bdV D s N K v (coP pa pd)), .int .i64 0], [some (.row e 5 true true true), some (.row g 4 true true true), some (.row p 2 true true true)], (isOf nm D v N s K e g ∧ p = prC pa pd K ∧ M = K) ∧ OfOk nm D v N s K ∧ prOk pa pd)
  | _, _ => none
theorem okBdN (pa pd : Int) : OkV Tryz.prog 13 (orcBdN nm D v s pa pd) := by
  intro args H ret H' vc h hv
  unfold orcBdN at h
  split at h
  · rename_i N a K b M c e g p
    cases h
    obtain ⟨⟨⟨rfl, rfl⟩, rfl, rfl⟩, h1, h2⟩ := hv
    exact regain [0, 1] (H := [some (.row (seC nm D v N) 5 true true true), some (.row (shC D s M) 4 true true true), rPr pa pd M]) (bd_ok (a := a) (b := b) (c := c) h1 h2) rfl rfl
  · cases h
end
/-- No bound is below the value of the plan. -/
theorem suM_ge {D : Nat → Int} {s K : Nat} {v c : Int} (hv : 0 ≤ v ∧ v ≤ 1000) (hc : 0 ≤ c ∧ c ≤ 1000000) : ∀ {N : Nat}, (∀ i, s ≤ i → i < N → anT D s i K = true) → mxP v c * ((N - s : Nat) : Int) ≤ suM D s K v c N
  | 0, _ => by rw [suM, Nat.zero_sub]; exact Int.le_of_eq (Int.mul_zero _)
  | N + 1, h => by
    have ih := suM_ge hv hc fun i h1 h2 => h i h1 (Nat.lt_succ_of_lt h2)
    have hb := mst_bd (D := D) (s := s) (i := N) (k := K) hv hc
    rw [suM]
    rcases Nat.lt_or_ge N s with hs | hs
    · rw [show N + 1 - s = N - s by omega]; omega
    · have e : mst D s v c N K = mxP v c := by rw [mst, if_pos (h N hs (Nat.lt_succ_self N))]
      rw [e, show ((N + 1 - s : Nat) : Int) = ((N - s : Nat) : Int) + 1 by omega, Int.mul_add, Int.mul_one]
      omega
theorem bd_ge {D : Nat → Int} {s N K : Nat} {v c : Int} (hv : 0 ≤ v ∧ v ≤ 1000) (hc : 0 ≤ c ∧ c ≤ 1000000) (hk : K + s = N) (hn : N ≤ 7) (h : ∀ i, s ≤ i → i < N → anT D s i K = true) : v * K ≤ bdV D s N K v c := by
  have h1 := suM_ge (K := K) hv hc h
  have h2 := mxP_bd hv hc
  rw [show N - s = K by omega] at h1
  have h3 : (v * 27720 - c) * (K : Int) ≤ mxP v c * (K : Int) := Int.mul_le_mul_of_nonneg_right h2.2.2 (Int.natCast_nonneg K)
  have e3 : (v * 27720 - c) * (K : Int) = v * K * 27720 - c * K := by rw [Int.sub_mul, Int.mul_right_comm]
  have h4 : 0 ≤ c * (K : Int) := Int.mul_nonneg hc.1 (Int.natCast_nonneg K)
  have h5 : 0 ≤ v * (K : Int) := Int.mul_nonneg hv.1 (Int.natCast_nonneg K)
  have h6 := suM_bd (D := D) (s := s) (K := K) hv hc N
  rw [bdV, Int.tdiv_eq_ediv_of_nonneg (by omega)]
  exact Int.le_ediv_of_mul_le (by omega) (by omega)
end
end Qq
end
section
/- The program's Ranked, the trees for 0, 1, 2, 3 sections. -/
open Go Go.Vm Go.Proofs Sp
namespace Qq
noncomputable section
theorem rk0_t (l : Ls) (x : Int) (K : Value → Heap → Prop) :
    (fnP Tryz.prog cRk0 (hsRk l x (0 : Nat)) (7 : FuncId) [Value.slice (some { block := (0 : Nat), off := (0 : Nat) }) (0 : Nat) (0 : Nat), Value.int IntKind.i64 x] (owG l (0 : Nat)) K) =
    (br (wi x (0 : Int) (100000 : Int) != (0 : Int)) (K (Value.tuple #[Value.slice (some ⟨1, 0, none⟩) 0 0, Value.int .i64 (wi x (0 : Int) (100000 : Int))]) (some (AObj.row [] 3 true true true) :: some (AObj.row [] 1 true true true) :: noH)) (K (Value.tuple #[Value.slice (some ⟨1, 0, none⟩) 0 0, Value.int .i64 0]) (some (AObj.row [] 3 true true true) :: some (AObj.row [] 1 true true true) :: noH))) := by kernel_rfl
theorem rk1_t (l : Ls) (x : Int) (K : Value → Heap → Prop) :
    (fnP Tryz.prog cRk (hsRk l x (1 : Nat)) (7 : FuncId) [Value.slice (some { block := (0 : Nat), off := (0 : Nat) }) (1 : Nat) (0 : Nat), Value.int IntKind.i64 x] (owG l (1 : Nat)) K) =
    (Is (isC (Ls.N l 0) (Ls.K l 0) (ints (Ls.zs l 0)) (acs (Ls.ks l 0))) ∧ Is True ∧ br (fi [ckC (Ls.nm l 0) (Ls.N l 0) (Ls.K l 0) (ints (Ls.zs l 0)) (acs (Ls.ks l 0)), wh (hasK (Ls.nm l 0) []) (9 : Int)] != (0 : Int)) (K (Value.tuple #[Value.slice (some ⟨3, 0, none⟩) 0 0, Value.int .i64 (fi [ckC (Ls.nm l 0) (Ls.N l 0) (Ls.K l 0) (ints (Ls.zs l 0)) (acs (Ls.ks l 0)), wh (hasK (Ls.nm l 0) []) (9 : Int)])]) (owG l 1 ++ some (AObj.row [] 1 true true true) :: noH)) (Is (hasK (Ls.nm l 0) [] = false) ∧ br (wi x (0 : Int) (100000 : Int) != (0 : Int)) (K (Value.tuple #[Value.slice (some ⟨3, 0, none⟩) 0 0, Value.int .i64 (wi x (0 : Int) (100000 : Int))]) (owG l 1 ++ some (AObj.row [] 1 true true true) :: noH)) (∃ (p : Unit), (Is (ipC (Ls.N l 0) (Ls.K l 0) (↑(Ls.K l 0) : Int) x (ints (Ls.zs l 0)) (acs (Ls.ks l 0))) ∧ br (rdC (Ls.N l 0) (Ls.K l 0) (↑(Ls.K l 0) : Int) x (ints (Ls.zs l 0)) (acs (Ls.ks l 0)) == (0 : Int)) (∃ (s : Unit), Is True ∧ (Value.slice (some ⟨0, 0, none⟩) 1 0 = Value.slice (some ⟨0, 0, none⟩) 1 0 ∧ Value.int .i64 x = Value.int .i64 x ∧ Value.slice none 0 0 = Value.slice none 0 0 ∧ Value.pointer (some ⟨3, 0, none⟩) = Value.pointer (some ⟨3, 0, none⟩) ∧ Value.slice (some ⟨0, 0, none⟩) 1 0 = Value.slice (some ⟨0, 0, none⟩) 1 0 ∧ Value.int .i64 1 = Value.int .i64 1 ∧ Value.int .i64 0 = Value.int .i64 0 ∧ True) ∧ owG l 1 ++ some (AObj.row [poi, poi, poi, Value.int .i64 (gz (rdC (Ls.N l 0) (Ls.K l 0) (↑(Ls.K l 0) : Int) x (ints (Ls.zs l 0)) (acs (Ls.ks l 0))) (rnC (Ls.N l 0) (Ls.K l 0) (↑(Ls.K l 0) : Int) x (ints (Ls.zs l 0)) (acs (Ls.ks l 0)))), Value.int .i64 0] 0 false true false) :: noH = owG l 1 ++ some (AObj.row [poi, poi, poi, Value.int .i64 (dI l x 0), Value.int .i64 0] 0 false true false) :: noH) (∃ (s : Unit), Is True ∧ (Value.slice (some ⟨0, 0, none⟩) 1 0 = Value.slice (some ⟨0, 0, none⟩) 1 0 ∧ Value.int .i64 x = Value.int .i64 x ∧ Value.slice none 0 0 = Value.slice none 0 0 ∧ Value.pointer (some ⟨3, 0, none⟩) = Value.pointer (some ⟨3, 0, none⟩) ∧ Value.slice (some ⟨0, 0, none⟩) 1 0 = Value.slice (some ⟨0, 0, none⟩) 1 0 ∧ Value.int .i64 1 = Value.int .i64 1 ∧ Value.int .i64 0 = Value.int .i64 0 ∧ True) ∧ owG l 1 ++ some (AObj.row [poi, poi, poi, Value.int .i64 100001, Value.int .i64 0] 0 false true false) :: noH = owG l 1 ++ some (AObj.row [poi, poi, poi, Value.int .i64 (dI l x 0), Value.int .i64 0] 0 false true false) :: noH)) ∧ ∀ (s : Unit), Is True → K (Value.tuple #[Value.slice (some ⟨3, 0, none⟩) 1 0, Value.int .i64 0]) (owG l 1 ++ some (AObj.row [Value.int .i64 (sN [dI l x 0] 1 0)] 1 true true (List.all [Value.int .i64 (sN [dI l x 0] 1 0)] atom)) :: noH)))) := by kernel_rfl
theorem rk2_t (l : Ls) (x : Int) (K : Value → Heap → Prop) :
    (fnP Tryz.prog cRk (hsRk l x (2 : Nat)) (7 : FuncId) [Value.slice (some { block := (0 : Nat), off := (0 : Nat) }) (2 : Nat) (0 : Nat), Value.int IntKind.i64 x] (owG l (2 : Nat)) K) =
    (let q0 : Prop := Value.slice (some ⟨0, 0, none⟩) 2 0 = Value.slice (some ⟨0, 0, none⟩) 2 0; let z1 : AObj := AObj.row [poi, poi, poi, Value.int .i64 (dI l x 0), Value.int .i64 0] 5 true true false; (Is (isC (Ls.N l 0) (Ls.K l 0) (ints (Ls.zs l 0)) (acs (Ls.ks l 0))) ∧ Is True ∧ br (fi [ckC (Ls.nm l 0) (Ls.N l 0) (Ls.K l 0) (ints (Ls.zs l 0)) (acs (Ls.ks l 0)), wh (hasK (Ls.nm l 0) []) (9 : Int)] != (0 : Int)) (K (Value.tuple #[Value.slice (some ⟨5, 0, none⟩) 0 0, Value.int .i64 (fi [ckC (Ls.nm l 0) (Ls.N l 0) (Ls.K l 0) (ints (Ls.zs l 0)) (acs (Ls.ks l 0)), wh (hasK (Ls.nm l 0) []) (9 : Int)])]) (owG l 2 ++ some (AObj.row [] 1 true true true) :: noH)) (Is (hasK (Ls.nm l 0) [] = false) ∧ Is (isC (Ls.N l 1) (Ls.K l 1) (ints (Ls.zs l 1)) (acs (Ls.ks l 1))) ∧ Is True ∧ br (fi [ckC (Ls.nm l 1) (Ls.N l 1) (Ls.K l 1) (ints (Ls.zs l 1)) (acs (Ls.ks l 1)), wh (hasK (Ls.nm l 1) [(Ls.nm l 0, Value.bool true)]) (9 : Int)] != (0 : Int)) (K (Value.tuple #[Value.slice (some ⟨5, 0, none⟩) 0 0, Value.int .i64 (fi [ckC (Ls.nm l 1) (Ls.N l 1) (Ls.K l 1) (ints (Ls.zs l 1)) (acs (Ls.ks l 1)), wh (hasK (Ls.nm l 1) [(Ls.nm l 0, Value.bool true)]) (9 : Int)])]) (owG l 2 ++ some (AObj.row [] 1 true true true) :: noH)) (Is (hasK (Ls.nm l 1) [(Ls.nm l 0, Value.bool true)] = false) ∧ br (wi x (0 : Int) (100000 : Int) != (0 : Int)) (K (Value.tuple #[Value.slice (some ⟨5, 0, none⟩) 0 0, Value.int .i64 (wi x (0 : Int) (100000 : Int))]) (owG l 2 ++ some (AObj.row [] 1 true true true) :: noH)) (∃ (p : Unit), (Is (ipC (Ls.N l 0) (Ls.K l 0) (↑(Ls.K l 0) : Int) x (ints (Ls.zs l 0)) (acs (Ls.ks l 0))) ∧ br (rdC (Ls.N l 0) (Ls.K l 0) (↑(Ls.K l 0) : Int) x (ints (Ls.zs l 0)) (acs (Ls.ks l 0)) == (0 : Int)) (∃ (s : Unit), Is True ∧ (q0 ∧ Value.int .i64 x = Value.int .i64 x ∧ Value.slice none 0 0 = Value.slice none 0 0 ∧ Value.pointer (some ⟨5, 0, none⟩) = Value.pointer (some ⟨5, 0, none⟩) ∧ q0 ∧ Value.int .i64 2 = Value.int .i64 2 ∧ Value.int .i64 0 = Value.int .i64 0 ∧ True) ∧ owG l 2 ++ some (AObj.row [poi, poi, poi, Value.int .i64 (gz (rdC (Ls.N l 0) (Ls.K l 0) (↑(Ls.K l 0) : Int) x (ints (Ls.zs l 0)) (acs (Ls.ks l 0))) (rnC (Ls.N l 0) (Ls.K l 0) (↑(Ls.K l 0) : Int) x (ints (Ls.zs l 0)) (acs (Ls.ks l 0)))), Value.int .i64 0] 0 false true false) :: noH = owG l 2 ++ some (AObj.row [poi, poi, poi, Value.int .i64 (dI l x 0), Value.int .i64 0] 0 false true false) :: noH) (∃ (s : Unit), Is True ∧ (q0 ∧ Value.int .i64 x = Value.int .i64 x ∧ Value.slice none 0 0 = Value.slice none 0 0 ∧ Value.pointer (some ⟨5, 0, none⟩) = Value.pointer (some ⟨5, 0, none⟩) ∧ q0 ∧ Value.int .i64 2 = Value.int .i64 2 ∧ Value.int .i64 0 = Value.int .i64 0 ∧ True) ∧ owG l 2 ++ some (AObj.row [poi, poi, poi, Value.int .i64 100001, Value.int .i64 0] 0 false true false) :: noH = owG l 2 ++ some (AObj.row [poi, poi, poi, Value.int .i64 (dI l x 0), Value.int .i64 0] 0 false true false) :: noH)) ∧ ∀ (s : Unit), Is True → ∃ (p : Unit), (Is (ipC (Ls.N l 1) (Ls.K l 1) (↑(Ls.K l 1) : Int) x (ints (Ls.zs l 1)) (acs (Ls.ks l 1))) ∧ br (rdC (Ls.N l 1) (Ls.K l 1) (↑(Ls.K l 1) : Int) x (ints (Ls.zs l 1)) (acs (Ls.ks l 1)) == (0 : Int)) (∃ (s : Unit), Is True ∧ (q0 ∧ Value.int .i64 x = Value.int .i64 x ∧ Value.slice (some ⟨5, 0, none⟩) 1 0 = Value.slice (some ⟨5, 0, none⟩) 1 0 ∧ Value.pointer (some ⟨6, 0, none⟩) = Value.pointer (some ⟨6, 0, none⟩) ∧ q0 ∧ Value.int .i64 2 = Value.int .i64 2 ∧ Value.int .i64 1 = Value.int .i64 1 ∧ True) ∧ owG l 2 ++ some z1 :: some (AObj.row [poi, poi, poi, Value.int .i64 (gz (rdC (Ls.N l 1) (Ls.K l 1) (↑(Ls.K l 1) : Int) x (ints (Ls.zs l 1)) (acs (Ls.ks l 1))) (rnC (Ls.N l 1) (Ls.K l 1) (↑(Ls.K l 1) : Int) x (ints (Ls.zs l 1)) (acs (Ls.ks l 1)))), Value.int .i64 1] 0 false true false) :: noH = owG l 2 ++ some z1 :: some (AObj.row [poi, poi, poi, Value.int .i64 (dI l x 1), Value.int .i64 1] 0 false true false) :: noH) (∃ (s : Unit), Is True ∧ (q0 ∧ Value.int .i64 x = Value.int .i64 x ∧ Value.slice (some ⟨5, 0, none⟩) 1 0 = Value.slice (some ⟨5, 0, none⟩) 1 0 ∧ Value.pointer (some ⟨6, 0, none⟩) = Value.pointer (some ⟨6, 0, none⟩) ∧ q0 ∧ Value.int .i64 2 = Value.int .i64 2 ∧ Value.int .i64 1 = Value.int .i64 1 ∧ True) ∧ owG l 2 ++ some z1 :: some (AObj.row [poi, poi, poi, Value.int .i64 100001, Value.int .i64 1] 0 false true false) :: noH = owG l 2 ++ some z1 :: some (AObj.row [poi, poi, poi, Value.int .i64 (dI l x 1), Value.int .i64 1] 0 false true false) :: noH)) ∧ ∀ (s : Unit), Is True → K (Value.tuple #[Value.slice (some ⟨5, 0, none⟩) 2 0, Value.int .i64 0]) (owG l 2 ++ some (AObj.row [Value.int .i64 (sN [dI l x 0, dI l x 1] 2 0), Value.int .i64 (sN [dI l x 0, dI l x 1] 2 1)] 1 true true (List.all [Value.int .i64 (sN [dI l x 0, dI l x 1] 2 0)] atom && List.all [Value.int .i64 (sN [dI l x 0, dI l x 1] 2 1)] atom)) :: noH)))))) := by kernel_rfl
theorem rk3_t (l : Ls) (x : Int) (K : Value → Heap → Prop) :
    (fnP Tryz.prog cRk (hsRk l x (3 : Nat)) (7 : FuncId) [Value.slice (some { block := (0 : Nat), off := (0 : Nat) }) (3 : Nat) (0 : Nat), Value.int IntKind.i64 x] (owG l (3 : Nat)) K) =
    (let q0 : Prop := Value.slice (some ⟨0, 0, none⟩) 3 0 = Value.slice (some ⟨0, 0, none⟩) 3 0; let q1 : Prop := Value.pointer (some ⟨8, 0, none⟩) = Value.pointer (some ⟨8, 0, none⟩); let z2 : AObj := AObj.row [poi, poi, poi, Value.int .i64 (dI l x 0), Value.int .i64 0, poi, poi, poi, Value.int .i64 (dI l x 1), Value.int .i64 1] 5 true true false; let z3 : AObj := AObj.row [poi, poi, poi, Value.int .i64 (dI l x 0), Value.int .i64 0] 5 true true false; (Is (isC (Ls.N l 0) (Ls.K l 0) (ints (Ls.zs l 0)) (acs (Ls.ks l 0))) ∧ Is True ∧ br (fi [ckC (Ls.nm l 0) (Ls.N l 0) (Ls.K l 0) (ints (Ls.zs l 0)) (acs (Ls.ks l 0)), wh (hasK (Ls.nm l 0) []) (9 : Int)] != (0 : Int)) (K (Value.tuple #[Value.slice (some ⟨7, 0, none⟩) 0 0, Value.int .i64 (fi [ckC (Ls.nm l 0) (Ls.N l 0) (Ls.K l 0) (ints (Ls.zs l 0)) (acs (Ls.ks l 0)), wh (hasK (Ls.nm l 0) []) (9 : Int)])]) (owG l 3 ++ some (AObj.row [] 1 true true true) :: noH)) (Is (hasK (Ls.nm l 0) [] = false) ∧ Is (isC (Ls.N l 1) (Ls.K l 1) (ints (Ls.zs l 1)) (acs (Ls.ks l 1))) ∧ Is True ∧ br (fi [ckC (Ls.nm l 1) (Ls.N l 1) (Ls.K l 1) (ints (Ls.zs l 1)) (acs (Ls.ks l 1)), wh (hasK (Ls.nm l 1) [(Ls.nm l 0, Value.bool true)]) (9 : Int)] != (0 : Int)) (K (Value.tuple #[Value.slice (some ⟨7, 0, none⟩) 0 0, Value.int .i64 (fi [ckC (Ls.nm l 1) (Ls.N l 1) (Ls.K l 1) (ints (Ls.zs l 1)) (acs (Ls.ks l 1)), wh (hasK (Ls.nm l 1) [(Ls.nm l 0, Value.bool true)]) (9 : Int)])]) (owG l 3 ++ some (AObj.row [] 1 true true true) :: noH)) (Is (hasK (Ls.nm l 1) [(Ls.nm l 0, Value.bool true)] = false) ∧ Is (isC (Ls.N l 2) (Ls.K l 2) (ints (Ls.zs l 2)) (acs (Ls.ks l 2))) ∧ Is True ∧ br (fi [ckC (Ls.nm l 2) (Ls.N l 2) (Ls.K l 2) (ints (Ls.zs l 2)) (acs (Ls.ks l 2)), wh (hasK (Ls.nm l 2) [(Ls.nm l 0, Value.bool true), (Ls.nm l 1, Value.bool true)]) (9 : Int)] != (0 : Int)) (K (Value.tuple #[Value.slice (some ⟨7, 0, none⟩) 0 0, Value.int .i64 (fi [ckC (Ls.nm l 2) (Ls.N l 2) (Ls.K l 2) (ints (Ls.zs l 2)) (acs (Ls.ks l 2)), wh (hasK (Ls.nm l 2) [(Ls.nm l 0, Value.bool true), (Ls.nm l 1, Value.bool true)]) (9 : Int)])]) (owG l 3 ++ some (AObj.row [] 1 true true true) :: noH)) (Is (hasK (Ls.nm l 2) [(Ls.nm l 0, Value.bool true), (Ls.nm l 1, Value.bool true)] = false) ∧ br (wi x (0 : Int) (100000 : Int) != (0 : Int)) (K (Value.tuple #[Value.slice (some ⟨7, 0, none⟩) 0 0, Value.int .i64 (wi x (0 : Int) (100000 : Int))]) (owG l 3 ++ some (AObj.row [] 1 true true true) :: noH)) (∃ (p : Unit), (Is (ipC (Ls.N l 0) (Ls.K l 0) (↑(Ls.K l 0) : Int) x (ints (Ls.zs l 0)) (acs (Ls.ks l 0))) ∧ br (rdC (Ls.N l 0) (Ls.K l 0) (↑(Ls.K l 0) : Int) x (ints (Ls.zs l 0)) (acs (Ls.ks l 0)) == (0 : Int)) (∃ (s : Unit), Is True ∧ (q0 ∧ Value.int .i64 x = Value.int .i64 x ∧ Value.slice none 0 0 = Value.slice none 0 0 ∧ Value.pointer (some ⟨7, 0, none⟩) = Value.pointer (some ⟨7, 0, none⟩) ∧ q0 ∧ Value.int .i64 3 = Value.int .i64 3 ∧ Value.int .i64 0 = Value.int .i64 0 ∧ True) ∧ owG l 3 ++ some (AObj.row [poi, poi, poi, Value.int .i64 (gz (rdC (Ls.N l 0) (Ls.K l 0) (↑(Ls.K l 0) : Int) x (ints (Ls.zs l 0)) (acs (Ls.ks l 0))) (rnC (Ls.N l 0) (Ls.K l 0) (↑(Ls.K l 0) : Int) x (ints (Ls.zs l 0)) (acs (Ls.ks l 0)))), Value.int .i64 0] 0 false true false) :: noH = owG l 3 ++ some (AObj.row [poi, poi, poi, Value.int .i64 (dI l x 0), Value.int .i64 0] 0 false true false) :: noH) (∃ (s : Unit), Is True ∧ (q0 ∧ Value.int .i64 x = Value.int .i64 x ∧ Value.slice none 0 0 = Value.slice none 0 0 ∧ Value.pointer (some ⟨7, 0, none⟩) = Value.pointer (some ⟨7, 0, none⟩) ∧ q0 ∧ Value.int .i64 3 = Value.int .i64 3 ∧ Value.int .i64 0 = Value.int .i64 0 ∧ True) ∧ owG l 3 ++ some (AObj.row [poi, poi, poi, Value.int .i64 100001, Value.int .i64 0] 0 false true false) :: noH = owG l 3 ++ some (AObj.row [poi, poi, poi, Value.int .i64 (dI l x 0), Value.int .i64 0] 0 false true false) :: noH)) ∧ ∀ (s : Unit), Is True → ∃ (p : Unit), (Is (ipC (Ls.N l 1) (Ls.K l 1) (↑(Ls.K l 1) : Int) x (ints (Ls.zs l 1)) (acs (Ls.ks l 1))) ∧ br (rdC (Ls.N l 1) (Ls.K l 1) (↑(Ls.K l 1) : Int) x (ints (Ls.zs l 1)) (acs (Ls.ks l 1)) == (0 : Int)) (∃ (s : Unit), Is True ∧ (q0 ∧ Value.int .i64 x = Value.int .i64 x ∧ Value.slice (some ⟨7, 0, none⟩) 1 0 = Value.slice (some ⟨7, 0, none⟩) 1 0 ∧ q1 ∧ q0 ∧ Value.int .i64 3 = Value.int .i64 3 ∧ Value.int .i64 1 = Value.int .i64 1 ∧ True) ∧ owG l 3 ++ some z3 :: some (AObj.row [poi, poi, poi, Value.int .i64 (gz (rdC (Ls.N l 1) (Ls.K l 1) (↑(Ls.K l 1) : Int) x (ints (Ls.zs l 1)) (acs (Ls.ks l 1))) (rnC (Ls.N l 1) (Ls.K l 1) (↑(Ls.K l 1) : Int) x (ints (Ls.zs l 1)) (acs (Ls.ks l 1)))), Value.int .i64 1] 0 false true false) :: noH = owG l 3 ++ some z3 :: some (AObj.row [poi, poi, poi, Value.int .i64 (dI l x 1), Value.int .i64 1] 0 false true false) :: noH) (∃ (s : Unit), Is True ∧ (q0 ∧ Value.int .i64 x = Value.int .i64 x ∧ Value.slice (some ⟨7, 0, none⟩) 1 0 = Value.slice (some ⟨7, 0, none⟩) 1 0 ∧ q1 ∧ q0 ∧ Value.int .i64 3 = Value.int .i64 3 ∧ Value.int .i64 1 = Value.int .i64 1 ∧ True) ∧ owG l 3 ++ some z3 :: some (AObj.row [poi, poi, poi, Value.int .i64 100001, Value.int .i64 1] 0 false true false) :: noH = owG l 3 ++ some z3 :: some (AObj.row [poi, poi, poi, Value.int .i64 (dI l x 1), Value.int .i64 1] 0 false true false) :: noH)) ∧ ∀ (s : Unit), Is True → ∃ (p : Unit), (Is (ipC (Ls.N l 2) (Ls.K l 2) (↑(Ls.K l 2) : Int) x (ints (Ls.zs l 2)) (acs (Ls.ks l 2))) ∧ br (rdC (Ls.N l 2) (Ls.K l 2) (↑(Ls.K l 2) : Int) x (ints (Ls.zs l 2)) (acs (Ls.ks l 2)) == (0 : Int)) (∃ (s : Unit), Is True ∧ (q0 ∧ Value.int .i64 x = Value.int .i64 x ∧ Value.slice (some ⟨7, 0, none⟩) 2 0 = Value.slice (some ⟨7, 0, none⟩) 2 0 ∧ q1 ∧ q0 ∧ Value.int .i64 3 = Value.int .i64 3 ∧ Value.int .i64 2 = Value.int .i64 2 ∧ True) ∧ owG l 3 ++ some z2 :: some (AObj.row [poi, poi, poi, Value.int .i64 (gz (rdC (Ls.N l 2) (Ls.K l 2) (↑(Ls.K l 2) : Int) x (ints (Ls.zs l 2)) (acs (Ls.ks l 2))) (rnC (Ls.N l 2) (Ls.K l 2) (↑(Ls.K l 2) : Int) x (ints (Ls.zs l 2)) (acs (Ls.ks l 2)))), Value.int .i64 2] 0 false true false) :: noH = owG l 3 ++ some z2 :: some (AObj.row [poi, poi, poi, Value.int .i64 (dI l x 2), Value.int .i64 2] 0 false true false) :: noH) (∃ (s : Unit), Is True ∧ (q0 ∧ Value.int .i64 x = Value.int .i64 x ∧ Value.slice (some ⟨7, 0, none⟩) 2 0 = Value.slice (some ⟨7, 0, none⟩) 2 0 ∧ q1 ∧ q0 ∧ Value.int .i64 3 = Value.int .i64 3 ∧ Value.int .i64 2 = Value.int .i64 2 ∧ True) ∧ owG l 3 ++ some z2 :: some (AObj.row [poi, poi, poi, Value.int .i64 100001, Value.int .i64 2] 0 false true false) :: noH = owG l 3 ++ some z2 :: some (AObj.row [poi, poi, poi, Value.int .i64 (dI l x 2), Value.int .i64 2] 0 false true false) :: noH)) ∧ ∀ (s : Unit), Is True → K (Value.tuple #[Value.slice (some ⟨7, 0, none⟩) 3 0, Value.int .i64 0]) (owG l 3 ++ some (AObj.row [Value.int .i64 (sN [dI l x 0, dI l x 1, dI l x 2] 3 0), Value.int .i64 (sN [dI l x 0, dI l x 1, dI l x 2] 3 1), Value.int .i64 (sN [dI l x 0, dI l x 1, dI l x 2] 3 2)] 1 true true (List.all [Value.int .i64 (sN [dI l x 0, dI l x 1, dI l x 2] 3 0)] atom && List.all [Value.int .i64 (sN [dI l x 0, dI l x 1, dI l x 2] 3 1)] atom && List.all [Value.int .i64 (sN [dI l x 0, dI l x 1, dI l x 2] 3 2)] atom)) :: noH))))))) := by kernel_rfl
end
end Qq
end
section
/- The program's Ranked as a contract: 0, 1, 2, 3 sections. -/
open Go Go.Vm Go.Proofs Sp
namespace Qq
noncomputable section
theorem rk0_ok {l : Ls} {x : Int} (hl : okLt l 0) : SmallRes Tryz.prog 7 [.slice (some ⟨0, 0, none⟩) 0 0, .int .i64 x] (owG l 0) (.tuple #[.slice (some ⟨1, 0, none⟩) (rkM l 0 x) 0, .int .i64 (rkE l 0 x)]) (owG l 0 ++ [some (.row (ints (rkI l 0 x)) 1 true true true)]) := by
  refine fnP_res hm cRk0_ok (hs := hsRk l x 0) ?_
  show fnP Tryz.prog cRk0 (hsRk l x 0) 7 _ _ _
  rw [rk0_t]
  have h0 : csA l 0 = 0 := rfl
  refine br_of (fun h => ?_) (fun h => ?_)
  · obtain ⟨e1, e2, e3⟩ := rk_lim (n := 0) h0 h
    rw [e1, e2, e3]; exact ⟨rfl, rfl⟩
  obtain ⟨e1, e2, e3⟩ := rk_fin (n := 0) h0 h
  rw [e1, e2, e3]; exact ⟨rfl, rfl⟩
theorem rk1_ok {l : Ls} {x : Int} (hl : okLt l 1) : SmallRes Tryz.prog 7 [.slice (some ⟨0, 0, none⟩) 1 0, .int .i64 x] (owG l 1) (.tuple #[.slice (some ⟨3, 0, none⟩) (rkM l 1 x) 0, .int .i64 (rkE l 1 x)]) (owG l 1 ++ [some (.row (ints (rkI l 1 x)) 1 true true true)]) := by
  refine fnP_res hm cRk_ok (hs := hsRk l x 1) ?_
  show fnP Tryz.prog cRk (hsRk l x 1) 7 _ _ _
  rw [rk1_t]
  have h0 : csA l 0 = 0 := rfl
  refine ⟨⟨is_of 0 hl (by decide)⟩, ⟨trivial⟩, br_of (fun h => ?_) (fun h => ?_)⟩
  · obtain ⟨e1, e2, e3⟩ := rk_bad (n := 1) (x := x) 0 h0 (by decide) h
    rw [e1, e2, e3]; exact ⟨rfl, rfl⟩
  obtain ⟨k0, h1, s0⟩ := rk_on 0 h0 h
  refine ⟨⟨k0⟩, ?_⟩
  refine br_of (fun h => ?_) (fun h => ?_)
  · obtain ⟨e1, e2, e3⟩ := rk_lim (n := 1) h1 h
    rw [e1, e2, e3]; exact ⟨rfl, rfl⟩
  have hx := lim_in h
  refine ⟨⟨⟩, ⟨⟨ip_of 0 hl (by decide) s0 hx⟩, br_of (fun g => ⟨⟨⟩, ⟨trivial⟩, ⟨rfl, rfl, rfl, rfl, rfl, rfl, rfl, trivial⟩, by rw [dI_yes 0 g]⟩) (fun g => ⟨⟨⟩, ⟨trivial⟩, ⟨rfl, rfl, rfl, rfl, rfl, rfl, rfl, trivial⟩, by rw [dI_no 0 g]⟩)⟩, fun _ _ => ?_⟩
  obtain ⟨e1, e2, e3⟩ := rk_fin (n := 1) h1 h
  rw [e1, e2, e3]; exact ⟨rfl, rfl⟩
theorem rk2_ok {l : Ls} {x : Int} (hl : okLt l 2) : SmallRes Tryz.prog 7 [.slice (some ⟨0, 0, none⟩) 2 0, .int .i64 x] (owG l 2) (.tuple #[.slice (some ⟨5, 0, none⟩) (rkM l 2 x) 0, .int .i64 (rkE l 2 x)]) (owG l 2 ++ [some (.row (ints (rkI l 2 x)) 1 true true true)]) := by
  refine fnP_res hm cRk_ok (hs := hsRk l x 2) ?_
  show fnP Tryz.prog cRk (hsRk l x 2) 7 _ _ _
  rw [rk2_t]
  have h0 : csA l 0 = 0 := rfl
  refine ⟨⟨is_of 0 hl (by decide)⟩, ⟨trivial⟩, br_of (fun h => ?_) (fun h => ?_)⟩
  · obtain ⟨e1, e2, e3⟩ := rk_bad (n := 2) (x := x) 0 h0 (by decide) h
    rw [e1, e2, e3]; exact ⟨rfl, rfl⟩
  obtain ⟨k0, h1, s0⟩ := rk_on 0 h0 h
  refine ⟨⟨k0⟩, ?_⟩
  refine ⟨⟨is_of 1 hl (by decide)⟩, ⟨trivial⟩, br_of (fun h => ?_) (fun h => ?_)⟩
  · obtain ⟨e1, e2, e3⟩ := rk_bad (n := 2) (x := x) 1 h1 (by decide) h
    rw [e1, e2, e3]; exact ⟨rfl, rfl⟩
  obtain ⟨k1, h2, s1⟩ := rk_on 1 h1 h
  refine ⟨⟨k1⟩, ?_⟩
  refine br_of (fun h => ?_) (fun h => ?_)
  · obtain ⟨e1, e2, e3⟩ := rk_lim (n := 2) h2 h
    rw [e1, e2, e3]; exact ⟨rfl, rfl⟩
  have hx := lim_in h
  refine ⟨⟨⟩, ⟨⟨ip_of 0 hl (by decide) s0 hx⟩, br_of (fun g => ⟨⟨⟩, ⟨trivial⟩, ⟨rfl, rfl, rfl, rfl, rfl, rfl, rfl, trivial⟩, by rw [dI_yes 0 g]⟩) (fun g => ⟨⟨⟩, ⟨trivial⟩, ⟨rfl, rfl, rfl, rfl, rfl, rfl, rfl, trivial⟩, by rw [dI_no 0 g]⟩)⟩, fun _ _ => ?_⟩
  refine ⟨⟨⟩, ⟨⟨ip_of 1 hl (by decide) s1 hx⟩, br_of (fun g => ⟨⟨⟩, ⟨trivial⟩, ⟨rfl, rfl, rfl, rfl, rfl, rfl, rfl, trivial⟩, by rw [dI_yes 1 g]⟩) (fun g => ⟨⟨⟩, ⟨trivial⟩, ⟨rfl, rfl, rfl, rfl, rfl, rfl, rfl, trivial⟩, by rw [dI_no 1 g]⟩)⟩, fun _ _ => ?_⟩
  obtain ⟨e1, e2, e3⟩ := rk_fin (n := 2) h2 h
  rw [e1, e2, e3]; exact ⟨rfl, rfl⟩
theorem rk3_ok {l : Ls} {x : Int} (hl : okLt l 3) : SmallRes Tryz.prog 7 [.slice (some ⟨0, 0, none⟩) 3 0, .int .i64 x] (owG l 3) (.tuple #[.slice (some ⟨7, 0, none⟩) (rkM l 3 x) 0, .int .i64 (rkE l 3 x)]) (owG l 3 ++ [some (.row (ints (rkI l 3 x)) 1 true true true)]) := by
  refine fnP_res hm cRk_ok (hs := hsRk l x 3) ?_
  show fnP Tryz.prog cRk (hsRk l x 3) 7 _ _ _
  rw [rk3_t]
  have h0 : csA l 0 = 0 := rfl
  refine ⟨⟨is_of 0 hl (by decide)⟩, ⟨trivial⟩, br_of (fun h => ?_) (fun h => ?_)⟩
  · obtain ⟨e1, e2, e3⟩ := rk_bad (n := 3) (x := x) 0 h0 (by decide) h
    rw [e1, e2, e3]; exact ⟨rfl, rfl⟩
  obtain ⟨k0, h1, s0⟩ := rk_on 0 h0 h
  refine ⟨⟨k0⟩, ?_⟩
  refine ⟨⟨is_of 1 hl (by decide)⟩, ⟨trivial⟩, br_of (fun h => ?_) (fun h => ?_)⟩
  · obtain ⟨e1, e2, e3⟩ := rk_bad (n := 3) (x := x) 1 h1 (by decide) h
    rw [e1, e2, e3]; exact ⟨rfl, rfl⟩
  obtain ⟨k1, h2, s1⟩ := rk_on 1 h1 h
  refine ⟨⟨k1⟩, ?_⟩
  refine ⟨⟨is_of 2 hl (by decide)⟩, ⟨trivial⟩, br_of (fun h => ?_) (fun h => ?_)⟩
  · obtain ⟨e1, e2, e3⟩ := rk_bad (n := 3) (x := x) 2 h2 (by decide) h
    rw [e1, e2, e3]; exact ⟨rfl, rfl⟩
  obtain ⟨k2, h3, s2⟩ := rk_on 2 h2 h
  refine ⟨⟨k2⟩, ?_⟩
  refine br_of (fun h => ?_) (fun h => ?_)
  · obtain ⟨e1, e2, e3⟩ := rk_lim (n := 3) h3 h
    rw [e1, e2, e3]; exact ⟨rfl, rfl⟩
  have hx := lim_in h
  refine ⟨⟨⟩, ⟨⟨ip_of 0 hl (by decide) s0 hx⟩, br_of (fun g => ⟨⟨⟩, ⟨trivial⟩, ⟨rfl, rfl, rfl, rfl, rfl, rfl, rfl, trivial⟩, by rw [dI_yes 0 g]⟩) (fun g => ⟨⟨⟩, ⟨trivial⟩, ⟨rfl, rfl, rfl, rfl, rfl, rfl, rfl, trivial⟩, by rw [dI_no 0 g]⟩)⟩, fun _ _ => ?_⟩
  refine ⟨⟨⟩, ⟨⟨ip_of 1 hl (by decide) s1 hx⟩, br_of (fun g => ⟨⟨⟩, ⟨trivial⟩, ⟨rfl, rfl, rfl, rfl, rfl, rfl, rfl, trivial⟩, by rw [dI_yes 1 g]⟩) (fun g => ⟨⟨⟩, ⟨trivial⟩, ⟨rfl, rfl, rfl, rfl, rfl, rfl, rfl, trivial⟩, by rw [dI_no 1 g]⟩)⟩, fun _ _ => ?_⟩
  refine ⟨⟨⟩, ⟨⟨ip_of 2 hl (by decide) s2 hx⟩, br_of (fun g => ⟨⟨⟩, ⟨trivial⟩, ⟨rfl, rfl, rfl, rfl, rfl, rfl, rfl, trivial⟩, by rw [dI_yes 2 g]⟩) (fun g => ⟨⟨⟩, ⟨trivial⟩, ⟨rfl, rfl, rfl, rfl, rfl, rfl, rfl, trivial⟩, by rw [dI_no 2 g]⟩)⟩, fun _ _ => ?_⟩
  obtain ⟨e1, e2, e3⟩ := rk_fin (n := 3) h3 h
  rw [e1, e2, e3]; exact ⟨rfl, rfl⟩
end
end Qq
end
section
/- What the law calls; the order of the sections. -/
open Go Go.Vm Go.Proofs Sp
namespace Sp
noncomputable section
/-- The error with which a section reaches the limit, and the day. -/
def eI (l : Ls) (x : Int) (i : Nat) : Int := Qq.rdE (l.zs i) (l.ks i) (l.N i) (l.K i) (l.K i : Int) x
def dyI (l : Ls) (x : Int) (i : Nat) : Int := gz (eI l x i) (Qq.rdN (l.zs i) (l.ks i) (l.N i) (l.K i) (l.K i : Int) x)
def txS : Nat → ByteArray
  | 0 => ⟨#[48]⟩
  | 1 => ⟨#[49]⟩
  | _ => ⟨#[50]⟩
def nmS : Nat → ByteArray
  | 0 => ⟨#[115, 48]⟩
  | 1 => ⟨#[115, 49]⟩
  | _ => ⟨#[115, 50]⟩
def nmJ (O : Nat → Nat) (j : Nat) : ByteArray := nmS (O j)
def dJ (l : Ls) (x : Int) (O : Nat → Nat) (j : Nat) : Int := dyI l x (O j)
def eJ (l : Ls) (x : Int) (O : Nat → Nat) (j : Nat) : Int := eI l x (O j)
/-- How many are planned, of the first so many. -/
def mJ (N j : Nat) : Nat := if j ≤ N then j else N
def knO (O : Nat → Nat) (j : Nat) : List (Int × Value) := (List.range j).map fun t => ((O t : Int), .bool true)
def oI (O : Nat → Nat) (n : Nat) : List Int := (List.range n).map fun j => (O j : Int)
def altB (D : Nat → Int) (N : Nat) : Bool := decide (N = 1) || decide (D 0 < D 1)
end
end Sp
namespace Qq
noncomputable section
section
variable (l : Ls) (n : Nat) (x : Int) (O : Nat → Nat) (oc : List Value)
noncomputable def _root_.Sp.jsRes (b : Bool) (m c : Nat) (H : Heap) : Prop := SmallRes Tryz.prog 4 [.slice (some ⟨0, 0, none⟩) m c, .int .i64 3] H (.bool b) H
noncomputable def orcJs (b : Bool) : OrcV
  | [.slice (some ⟨0, 0, none⟩) m c, .int .i64 3], H => some (.bool b, H, jsRes b m c H)
  | _, _ => none
theorem okJs (b : Bool) : OkV Tryz.prog 4 (orcJs b) := by
  intro args H ret H' vc h hv
  unfold orcJs at h
  split at h
  · cases h
    exact hv
  · cases h
noncomputable def _root_.Sp.rkIs (l : Ls) (n : Nat) (x : Int) (O : Nat → Nat) (oc : List Value) (m c : Nat) (y : Int) (H : Heap) : Prop := (m = n ∧ c = 0 ∧ y = x ∧ H = owG l n) ∧ okLt l n ∧ n ≤ 3 ∧ rkE l n x = 0 ∧ resI l x n = oI O n ∧ oc = ints (oI O n)
noncomputable def orcRkJ : OrcV
  | [.slice (some ⟨0, 0, none⟩) m c, .int .i64 y], H => some (.tuple #[.slice (some ⟨2 * n + 1, 0, none⟩) n 0, .int .i64 0], owG l n ++ [some (.row oc 1 true true true)], rkIs l n x O oc m c y H)
  | _, _ => none
theorem okRkJ : OkV Tryz.prog 7 (orcRkJ l n x O oc) := by
  intro args H ret H' vc h hv
  unfold orcRkJ at h
  split at h
  · cases h
    obtain ⟨⟨rfl, rfl, rfl, rfl⟩, h1, h2, h3, h4, rfl⟩ := hv
    rename_i m y
    have e1 : rkM l m y = m := by rw [rkM, if_pos h3]
    have e2 : rkI l m y = oI O m := by rw [rkI, if_pos h3, h4]
    match m, h1, h2, h3, h4, e1, e2 with
    | 0, h1, _, h3, _, e1, e2 => have := rk0_ok (x := y) h1; rw [e1, e2, h3] at this; exact this
    | 1, h1, _, h3, _, e1, e2 => have := rk1_ok (x := y) h1; rw [e1, e2, h3] at this; exact this
    | 2, h1, _, h3, _, e1, e2 => have := rk2_ok (x := y) h1; rw [e1, e2, h3] at this; exact this
    | 3, h1, _, h3, _, e1, e2 => have := rk3_ok (x := y) h1; rw [e1, e2, h3] at this; exact this
    | m + 4, _, h2, _, _, _, _ => exact absurd h2 (by omega)
  · cases h
/-- A section that is asked for its day. -/
noncomputable def _root_.Sp.rcIs (l : Ls) (x : Int) (i n1 k1 : Nat) (nm : ByteArray) (p y : Int) (e1 e2 : List Value) : Prop := (e1 = ints (l.zs i) ∧ e2 = acs (l.ks i) ∧ n1 = l.N i ∧ k1 = l.K i ∧ p = (l.K i : Int) ∧ y = x) ∧ okP l i ∧ nm = l.nm i ∧ scE l i = 0 ∧ 0 ≤ x ∧ x ≤ 100000
noncomputable def orcRcJ (i : Nat) : OrcV
  | [.agg ⟨[.string nm, .slice (some ⟨0, 0, none⟩) n1 _, .slice (some ⟨1, 0, none⟩) k1 _]⟩, .int .i64 p, .int .i64 y], [some (.row e1 2 true true true), some (.row e2 2 true true true)] =>
    some (.tuple #[.int .i64 (dyI l x i), .int .i64 (eI l x i)], [some (.row e1 2 true true true), some (.row e2 2 true true true)], rcIs l x i n1 k1 nm p y e1 e2)
  | _, _ => none
theorem okRcJ (i : Nat) : OkV Tryz.prog 8 (orcRcJ l x i) := by
  intro args H ret H' vc h hv
  unfold orcRcJ at h
  split at h
  · rename_i nm n1 c1 k1 c2 p y e1 e2
    cases h
    obtain ⟨⟨rfl, rfl, rfl, rfl, rfl, rfl⟩, h1, rfl, h2, h3⟩ := hv
    have hr := re_okV (l.zs i) (l.ks i) [.agg #[.string (l.nm i), .slice (some ⟨0, 0, none⟩) (l.N i) c1, .slice (some ⟨1, 0, none⟩) (l.K i) c2], .int .i64 (l.K i : Int), .int .i64 y] [some (.row (ints (l.zs i)) 2 true true true), some (.row (acs (l.ks i)) 2 true true true)] _ _ _ rfl h1.1
    have hw : wi y 0 100000 = 0 := wi_in h3
    have hp : perE (l.nm i) (l.zs i) (l.N i) (l.ks i) (l.K i) (l.K i : Int) = 0 := by
      rw [perE, show secE (l.nm i) (l.zs i) (l.N i) (l.ks i) (l.K i) = 0 from h2, show decide ((l.K i : Int) < 0) = false from decide_eq_false (by omega), show decide ((l.K i : Int) < (l.K i : Int)) = false from decide_eq_false (by omega)]; rfl
    have e : reE (l.nm i) (l.zs i) (l.N i) (l.ks i) (l.K i) (l.K i : Int) y = eI l y i := by
      rw [reE, hp, hw]; rfl
    rw [e] at hr
    exact hr
  · cases h
end
theorem tx0_t (K : Value → Heap → Prop) :
    (fnP Tryz.prog c0 h0 (9 : FuncId) [Value.int IntKind.i64 (0 : Int)] [] K) =
    (Is ((10 : Int) ≠ (0 : Int)) ∧ Is ((10 : Int) ≠ (0 : Int)) ∧ K (Value.string { data := #[(48 : UInt8)] }) noH) := by kernel_rfl
theorem tx1_t (K : Value → Heap → Prop) :
    (fnP Tryz.prog c0 h0 (9 : FuncId) [Value.int IntKind.i64 (1 : Int)] [] K) =
    (Is ((10 : Int) ≠ (0 : Int)) ∧ Is ((10 : Int) ≠ (0 : Int)) ∧ K (Value.string { data := #[(49 : UInt8)] }) noH) := by kernel_rfl
theorem tx2_t (K : Value → Heap → Prop) :
    (fnP Tryz.prog c0 h0 (9 : FuncId) [Value.int IntKind.i64 (2 : Int)] [] K) =
    (Is ((10 : Int) ≠ (0 : Int)) ∧ Is ((10 : Int) ≠ (0 : Int)) ∧ K (Value.string { data := #[(50 : UInt8)] }) noH) := by kernel_rfl
noncomputable def orcTxJ : OrcV
  | [.int .i64 i], [] => some (.string (txS i.toNat), [], 0 ≤ i ∧ i ≤ 2)
  | _, _ => none
theorem okTxJ : OkV Tryz.prog 9 orcTxJ := by
  intro args H ret H' vc h hv
  unfold orcTxJ at h
  split at h
  · rename_i i
    cases h
    obtain ⟨h1, h2⟩ := hv
    rcases (by omega : i = 0 ∨ i = 1 ∨ i = 2) with rfl | rfl | rfl
    · refine fnP_res hm c0_ok (hs := h0) ?_
      rw [tx0_t]; exact ⟨⟨by decide⟩, ⟨by decide⟩, rfl, rfl⟩
    · refine fnP_res hm c0_ok (hs := h0) ?_
      rw [tx1_t]; exact ⟨⟨by decide⟩, ⟨by decide⟩, rfl, rfl⟩
    · refine fnP_res hm c0_ok (hs := h0) ?_
      rw [tx2_t]; exact ⟨⟨by decide⟩, ⟨by decide⟩, rfl, rfl⟩
  · cases h
section
end
end
end Qq
end
section
/- The law's hints. -/
open Go Go.Vm Go.Proofs Sp
namespace Qq
noncomputable section
section
variable (l : Ls) (n : Nat) (x pr : Int) (O : Nat → Nat) (oc : List Value) (N c : Nat)
noncomputable def s2J : List (Nat × Value) := [(1, .int .u16 x), (2, .int .u8 pr)]
noncomputable def lpJ9 : Lp where
  σ := Nat
  E _ := slots 334 ([(0, .slice (some ⟨0, 0, none⟩) n c)] ++ s2J x pr ++ [(7, .slice (some ⟨2 * n + 1, 0, none⟩) n 0)])
  Hp _ := lsG l n ++ owR l (2 * n + 2) n :: owT l n
  I s := s = 0
  m _ := 0
noncomputable def rSeJ (m : Nat) : Option AObj := some (.row (seC (nmJ O) (dJ l x O) 4 m) 5 true true true)
noncomputable def rShJ (s m : Nat) : Option AObj := some (.row (shC (dJ l x O) s m) 4 true true true)
noncomputable def bxJ (i m k : Nat) : Option AObj := some (.row [.slice (some ⟨i, 0, none⟩) m 0, .slice (some ⟨i + 1, 0, none⟩) k 0] 0 false true false)
noncomputable def lpJ16 : Lp where
  σ := Nat
  E j := slots 334 ([(0, .slice (some ⟨0, 0, none⟩) n c)] ++ s2J x pr ++ [(12, .pointer (some ⟨2 * n + 1, 0, none⟩)), (13, .map (some (2 * n + 4))), (14, .bool (decide (N < j))), (73, .slice (some ⟨2 * n + 5, 0, none⟩) n 0), (74, .int .i64 (n : Int)), (75, .int .i64 (j : Int))])
  Hp j := lsG l n ++ [bxJ (2 * n + 2) (mJ N j) (mJ N j), rSeJ l x O (mJ N j), rShJ l x O 0 (mJ N j), some (.imap (knO O j)), some (.row oc 1 true true true)]
  I j := j ≤ n
  m j := n - j
noncomputable def lpJ22 (j : Nat) : Lp where
  σ := Nat
  E _ := slots 334 ([(0, .slice (some ⟨0, 0, none⟩) n c)] ++ s2J x pr ++ [(12, .pointer (some ⟨2 * n + 1, 0, none⟩)), (13, .map (some (2 * n + 4))), (14, .bool (decide (N < j))), (16, .int .i64 (O j)), (17, .int .i64 (dJ l x O j)), (18, .int .i64 (eJ l x O j)), (73, .slice (some ⟨2 * n + 5, 0, none⟩) n 0), (74, .int .i64 (n : Int)), (75, .int .i64 (j : Int))])
  Hp _ := lsG l n ++ [bxJ (2 * n + 2) (mJ N j) (mJ N j), rSeJ l x O (mJ N j), rShJ l x O 0 (mJ N j), some (.imap (knO O (j + 1))), some (.row oc 1 true true true)]
  I _ := j < n
  m _ := 0
noncomputable def lpJ26 (j : Nat) : Lp where
  σ := Nat
  E _ := slots 334 ([(0, .slice (some ⟨0, 0, none⟩) n c)] ++ s2J x pr ++ [(12, .pointer (some ⟨2 * n + 1, 0, none⟩)), (13, .map (some (2 * n + 4))), (14, .bool false), (16, .int .i64 (O j)), (17, .int .i64 (dJ l x O j)), (73, .slice (some ⟨2 * n + 5, 0, none⟩) n 0), (74, .int .i64 (n : Int)), (75, .int .i64 (j : Int))])
  Hp _ := lsG l n ++ [bxJ (2 * n + 2) j j, rSeJ l x O j, rShJ l x O 0 j, some (.imap (knO O (j + 1))), some (.row oc 1 true true true)]
  I _ := j < n ∧ j < N
  m _ := 0
noncomputable def lpJ32 : Lp where
  σ := Nat
  E _ := slots 334 [(2, .int .u8 pr), (12, .pointer (some ⟨2 * n + 1, 0, none⟩))]
  Hp _ := lsG l n ++ [bxJ (2 * n + 2) N N, rSeJ l x O N, rShJ l x O 0 N]
  I s := s = 0
  m _ := 0
noncomputable def i16J (env : List Value) : Nat := match gt env 16 with
  | .int _ i => i.toNat
  | _ => 0
/-- A hint chosen by the section of the round. -/
noncomputable def hOrd (f : Nat → Hint Tryz.prog) : Hint Tryz.prog where
  fn o env H := match i16J env with
    | 0 => (f 0).fn o env H
    | 1 => (f 1).fn o env H
    | _ => (f 2).fn o env H
  ok := by
    intro o env H out vc h hv
    split at h
    · exact (f 0).ok h hv
    · exact (f 1).ok h hv
    · exact (f 2).ok h hv
noncomputable def oV (O : Nat → Nat) (j : Nat) : Value := .int .i64 (O j)
noncomputable def lateV (_ : Nat) : Value := .agg #[.int .i64 0, .string sDay]
noncomputable def sT (n : Nat) : List (Nat × Value) := [(2, .int .u8 pr), (12, .pointer (some ⟨2 * n + 1, 0, none⟩)), (21, .pointer (some ⟨2 * n + 4, 0, none⟩)), (25, .pointer (some ⟨2 * n + 5, 0, none⟩))]
noncomputable def hT (l : Ls) (n : Nat) (x : Int) (O : Nat → Nat) (N : Nat) : Heap := lsG l n ++ [bxJ (2 * n + 2) N N, rSeJ l x O N, rShJ l x O 0 N, some (.row [.int .i64 (4 * N), .int .i64 0] 0 false true true), bxJ (2 * n + 6) N (N - 1), rSeJ l x O N, rShJ l x O 1 (N - 1)]
noncomputable def lpJ39 : Lp where
  σ := Nat
  E _ := slots 334 (sT pr n)
  Hp _ := hT l n x O N
  I s := s = 0 ∧ 0 < N
  m _ := 0
noncomputable def lpJ46 : Lp where
  σ := Nat
  E k := slots 334 (sT pr n ++ [(27, .pointer (some ⟨2 * n + 8, 0, none⟩)), (31, .slice (some ⟨2 * n + 9, 0, none⟩) k 0), (286, .int .i64 (N : Int)), (287, .int .i64 (k : Int))])
  Hp k := hT l n x O N ++ [some (.row [.int .i64 (4 * (N - 1 : Nat)), .int .i64 0] 0 false true true), some (.row (prC (lowN pr 10) (lowD pr 10) k) 2 true true true)]
  I k := k ≤ N ∧ 0 < N
  m k := N - k
noncomputable def lpDbg : Lp where
  σ := Unit
  E _ := []
  Hp _ := []
  I _ := True
  m _ := 0
noncomputable def hsJ (dbg : Nat) : Hs Tryz.prog where
  op y := if y = 101 then some (hCa Tryz.prog 4 (orcJs true) (okJs true)) else if y = 105 then some (hTold false) else if y = 1007 then some (hTold false)
    else if y = 1300 then some (hMn Tryz.prog) else if y = 1700 then some (hIa Tryz.prog) else if y = 1701 then some (hLd Tryz.prog (oV O))
    else if y = 1811 then some (hTell false (hIl Tryz.prog)) else if y = 2002 then some (hIu Tryz.prog)
    else if y = 2113 then some (hOrd fun i => hCa Tryz.prog 8 (orcRcJ l x i) (okRcJ l x i))
    else if y = 2401 then some (hTold false) else if [2708].contains y then some (hIa Tryz.prog) else if y = 2710 then some (hLd Tryz.prog (dyV (dJ l x O) 0)) else if y = 2711 then some (hTold false)
    else if y = 2904 then some (hCc Tryz.prog) else if [2908, 3005, 4705].contains y then some (hAp Tryz.prog)
    else if [3403, 3407, 3503, 3507, 3803, 4903].contains y then some (hAe Tryz.prog true) else if [3808, 5004].contains y then some (hAe Tryz.prog false) else if [3807, 5003].contains y then some (hSl Tryz.prog)
    else if [3613, 3618, 4214, 4221, 4226].contains y then some (hTold false) else if [5110, 5116].contains y then some (hTold true) else if y = 4235 then some (hTell false (hEqX Tryz.prog))
    else if [4107, 4112, 4232].contains y then some (hIa Tryz.prog) else if [4109, 4114].contains y then some (hLd Tryz.prog (dyV (dJ l x O) 0)) else if y = 4233 then some (hLd Tryz.prog lateV)
    else if [3409, 3901].contains y then some (hCa Tryz.prog 10 (orcPlN (nmJ O) (dJ l x O) 4 (if y = 3409 then 0 else 1)) (okPlN _ _ _ _)) else if y = 3509 then some (hCa Tryz.prog 11 (orcLaN (nmJ O) (dJ l x O) 4 0 false) (okLaN _ _ _ _ _)) else if y = 4001 then some (hCa Tryz.prog 11 (orcLaN (nmJ O) (dJ l x O) 4 1 (altB (dJ l x O) N)) (okLaN _ _ _ _ _))
    else if y = 4904 then some (hCa Tryz.prog 13 (orcBdN (nmJ O) (dJ l x O) 4 0 (lowN pr 10) (lowD pr 10)) (okBdN _ _ _ _ _ _)) else if y = 5005 then some (hCa Tryz.prog 13 (orcBdN (nmJ O) (dJ l x O) 4 1 (lowN pr 10) (lowD pr 10)) (okBdN _ _ _ _ _ _))
    else none
  cut y := if y = dbg then some lpDbg else if y = 9 then some (lpJ9 l n x pr c) else if y = 32 then some (lpJ32 l n x pr O N) else if y = 39 then some (lpJ39 l n x pr O N) else none
  cq y := if y = 22 then some ⟨Nat, lpJ22 l n x pr O oc N c⟩ else if y = 26 then some ⟨Nat, lpJ26 l n x pr O oc N c⟩ else none
  lp y := if y = 16 then some (lpJ16 l n x pr O oc N c) else if y = 46 then some (lpJ46 l n x pr O N) else none
  cs y := if y = 1701 then (if n = 1 then [0] else if n = 2 then [0, 1] else [0, 1, 2]) else []
  cl y := if y = 5 then keep 334 [0, 1, 2, 7, 44, 45, 46] else if y = 9 then keep 334 [0, 1, 2, 7] else if y = 16 then keep 334 [0, 1, 2, 12, 13, 14, 73, 74, 75] else if y = 22 then keep 334 [0, 1, 2, 12, 13, 14, 16, 17, 18, 73, 74, 75] else if y = 26 then keep 334 [0, 1, 2, 12, 13, 14, 16, 17, 73, 74, 75] else if y = 32 then keep 334 [2, 12] else if y = 39 then keep 334 [2, 12, 21, 25] else if y = 46 then keep 334 [2, 12, 21, 25, 27, 31, 286, 287] else keep 334 (List.range 334)
  nl y := if y = 9 then [.only (.slot 7 3)] else if y = 16 then [.only (.cell (2 * n + 1) 0 5), .only (.cell (2 * n + 1) 1 4)] else if y = 46 then [.only (.slot 31 2)] else []
  sm := true
  au := auCalls [(12, hCa Tryz.prog 12 orcLow okLowR), (5, hCa Tryz.prog 5 orcNo okNo), (6, hCa Tryz.prog 6 orcOwnG okOwnG), (9, hCa Tryz.prog 9 orcTxJ okTxJ), (7, hCa Tryz.prog 7 (orcRkJ l n x O oc) (okRkJ l n x O oc))]
end
noncomputable def _root_.Sp.jsGen (l : Ls) (n c : Nat) (T : Heap) (b : Bool) : Prop := SmallRes Tryz.prog 4 [.slice (some ⟨0, 0, none⟩) n c, .int .i64 3] (lsR l n :: T) (.bool b) (lsR l n :: T)
noncomputable def selJs (l : Ls) (n : Nat) (T : Heap) (b : Bool) : Sel
  | [.slice (some ⟨0, 0, none⟩) m c, .int .i64 3] => some (List.range (2 * n + 1), [.slice (some ⟨0, 0, none⟩) m c, .int .i64 3], lsR l n :: T, .bool b, m = n ∧ jsGen l n c T b)
  | _ => none
theorem selJs_ok (l : Ls) (n : Nat) (T : Heap) (b : Bool) : ∀ ar ids a0 H0 ret vc, selJs l n T b ar = some (ids, a0, H0, ret, vc) → vc → SmallRes Tryz.prog 4 a0 H0 ret H0 := by
  intro ar ids a0 H0 ret vc h hv
  unfold selJs at h
  split at h
  · cases h
    obtain ⟨rfl, h1⟩ := hv
    exact h1
  · cases h
noncomputable def hsGj (l : Ls) (n : Nat) (T : Heap) (b : Bool) : Hs Tryz.prog where
  op y := if y = 101 then some (hCi Tryz.prog 4 (selJs l n T b) (selJs_ok l n T b)) else if y = 105 then some (hTold true) else none
  nl _ := [.stay]
  rn := [.stay]
  au := auCalls [(5, hCa Tryz.prog 5 orcNo okNo)]
end
end Qq
end
section
/- The law, walked: 1 sections. -/
open Go Go.Vm Go.Proofs Sp
namespace Qq
noncomputable section
set_option maxRecDepth 100000 in
theorem lw1_t (l : Ls) (x : Int) (pr : Int) (O : Nat → Nat) (oc : List Value) (N : Nat) (c : Nat) (K : Value → Heap → Prop) :
    (fnP Tryz.prog c0 (hsJ l (1 : Nat) x pr O oc N c (999 : Nat)) (3 : FuncId) [Value.slice (some { block := (0 : Nat), off := (0 : Nat) }) (1 : Nat) c, Value.int IntKind.u16 x, Value.int IntKind.u8 pr] (lsG l (1 : Nat)) K) =
    (let q0 : Prop := Value.pointer (some ⟨3, 0, none⟩) = Value.pointer (some ⟨3, 0, none⟩); let q1 : Prop := Value.slice (some ⟨0, 0, none⟩) 1 c = Value.slice (some ⟨0, 0, none⟩) 1 c; let q2 : Prop := Value.int .u8 pr = Value.int .u8 pr; let q3 : Prop := Value.slice (some ⟨7, 0, none⟩) 1 0 = Value.slice (some ⟨7, 0, none⟩) 1 0; let q4 : Prop := Value.pointer (some ⟨6, 0, none⟩) = Value.pointer (some ⟨6, 0, none⟩); let q5 : Prop := Value.pointer (some ⟨7, 0, none⟩) = Value.pointer (some ⟨7, 0, none⟩); let q6 : Prop := Value.pointer (some ⟨10, 0, none⟩) = Value.pointer (some ⟨10, 0, none⟩); let q7 : Prop := Value.int .i64 (N : Int) = Value.int .i64 (N : Int); let q8 : Prop := Value.int .u16 x = Value.int .u16 x; let q9 : Prop := Value.map (some 6) = Value.map (some 6); let q10 : Prop := Value.int .i64 1 = Value.int .i64 1; let z11 : AObj := AObj.row (seC (nmJ O) (dJ l x O) (4 : Int) N) 5 true true true; let z12 : AObj := AObj.row [Value.slice (some ⟨4, 0, none⟩) N 0, Value.slice (some ⟨5, 0, none⟩) N 0] 0 false true false; let z13 : AObj := AObj.row [Value.slice (some ⟨8, 0, none⟩) N 0, Value.slice (some ⟨9, 0, none⟩) (N - 1) 0] 0 false true false; let z14 : AObj := AObj.row [Value.int .i64 ((4 : Int) * (N : Int)), Value.int .i64 0] 0 false true true; let z15 : AObj := AObj.row [Value.int .i64 ((4 : Int) * (↑(N - 1) : Int)), Value.int .i64 0] 0 false true true; (Is (jsRes true 1 c (lsG l 1 ++ noH)) ∧ Is (decide ((10000 : Int) < x) = false) ∧ (Is (secIs (Ls.N l 0) (Ls.K l 0) (ints (Ls.zs l 0)) (acs (Ls.ks l 0))) ∧ ∃ (s : Nat), Is (s = 0) ∧ (q1 ∧ q8 ∧ q2 ∧ Value.slice (some ⟨3, 0, none⟩) 1 0 = Value.slice (some ⟨3, 0, none⟩) 1 0 ∧ True) ∧ lsG l 1 ++ some (AObj.row [Value.string (Ls.nm l 0), Value.slice (some ⟨4, 0, none⟩) (Ls.N l 0) 0, Value.slice (some ⟨5, 0, none⟩) (Ls.K l 0) 0] 3 true true false) :: some (AObj.row (ints (Ls.zs l 0)) 2 true true true) :: some (AObj.row (acs (Ls.ks l 0)) 2 true true true) :: noH = lsG l 1 ++ some (AObj.row [Value.string (Ls.nm l 0), Value.slice (some ⟨4, 0, none⟩) (Ls.N l 0) 0, Value.slice (some ⟨5, 0, none⟩) (Ls.K l 0) 0] 3 true true false) :: some (AObj.row (ints (Ls.zs l 0)) 2 true true true) :: some (AObj.row (acs (Ls.ks l 0)) 2 true true true) :: noH) ∧ ∀ (s : Nat), Is (s = 0) → Is (rkIs l 1 x O oc 1 0 (IntKind.wrap .i64 x) (some (AObj.row [Value.string (Ls.nm l 0), Value.slice (some ⟨1, 0, none⟩) (Ls.N l 0) 0, Value.slice (some ⟨2, 0, none⟩) (Ls.K l 0) 0] 3 true true false) :: some (AObj.row (ints (Ls.zs l 0)) 2 true true true) :: some (AObj.row (acs (Ls.ks l 0)) 2 true true true) :: noH)) ∧ Is (false = false) ∧ Is True ∧ ((∃ (s : Nat), Is (s ≤ 1) ∧ (q1 ∧ q8 ∧ q2 ∧ q0 ∧ q9 ∧ Value.bool false = Value.bool (decide (N < s)) ∧ q3 ∧ q10 ∧ Value.int .i64 0 = Value.int .i64 (s : Int) ∧ True) ∧ lsG l 1 ++ some (AObj.row [Value.slice (some ⟨4, 0, none⟩) 0 0, Value.slice (some ⟨5, 0, none⟩) 0 0] 0 false true false) :: some (AObj.row [] 5 true true true) :: some (AObj.row [] 4 true true true) :: some (AObj.imap []) :: some (AObj.row oc 1 true true true) :: noH = lsG l 1 ++ some (AObj.row [Value.slice (some ⟨4, 0, none⟩) (mJ N s) 0, Value.slice (some ⟨5, 0, none⟩) (mJ N s) 0] 0 false true false) :: some (AObj.row (seC (nmJ O) (dJ l x O) (4 : Int) (mJ N s)) 5 true true true) :: some (AObj.row (shC (dJ l x O) 0 (mJ N s)) 4 true true true) :: some (AObj.imap (knO O s)) :: some (AObj.row oc 1 true true true) :: noH) ∧ ∀ (s : Nat), Is (s ≤ 1) → br (decide ((s : Int) < (1 : Int))) (Is ((0 : Int) ≤ (s : Int) ∧ (s : Int) < (1 : Int)) ∧ Is (oc[0 + Int.toNat (s : Int) * 1]? = some (Value.int .i64 (↑(O (0 + Int.toNat (s : Int) * 1)) : Int))) ∧ Is ((↑(O (0 + Int.toNat (s : Int) * 1)) : Int) = (0 : Int)) ∧ Is (allI (knO O s) ∧ hasI (0 : Int) (knO O s) = false) ∧ Is (allI (knO O s) ∧ hasI (0 : Int) (knO O s) = false) ∧ ∃ (p : Nat), (Is (secIs (Ls.N l 0) (Ls.K l 0) (ints (Ls.zs l 0)) (acs (Ls.ks l 0))) ∧ Is (rcIs l x 0 (Ls.N l 0) (Ls.K l 0) (Ls.nm l 0) (↑(Ls.K l 0) : Int) (IntKind.wrap .i64 x) (ints (Ls.zs l 0)) (acs (Ls.ks l 0))) ∧ ∃ (s_1 : Nat), Is (p < 1) ∧ (q1 ∧ q8 ∧ q2 ∧ q0 ∧ q9 ∧ Value.bool (decide (N < s)) = Value.bool (decide (N < p)) ∧ Value.int .i64 0 = Value.int .i64 (↑(O p) : Int) ∧ Value.int .i64 (dyI l x 0) = Value.int .i64 (dJ l x O p) ∧ Value.int .i64 (eI l x 0) = Value.int .i64 (eJ l x O p) ∧ q3 ∧ q10 ∧ Value.int .i64 (s : Int) = Value.int .i64 (p : Int) ∧ True) ∧ lsG l 1 ++ some (AObj.row [Value.slice (some ⟨4, 0, none⟩) (mJ N s) 0, Value.slice (some ⟨5, 0, none⟩) (mJ N s) 0] 0 false true false) :: some (AObj.row (seC (nmJ O) (dJ l x O) (4 : Int) (mJ N s)) 5 true true true) :: some (AObj.row (shC (dJ l x O) 0 (mJ N s)) 4 true true true) :: some (AObj.imap (knO O s ++ [((0 : Int), Value.bool true)])) :: some (AObj.row oc 1 true true true) :: noH = lsG l 1 ++ some (AObj.row [Value.slice (some ⟨4, 0, none⟩) (mJ N p) 0, Value.slice (some ⟨5, 0, none⟩) (mJ N p) 0] 0 false true false) :: some (AObj.row (seC (nmJ O) (dJ l x O) (4 : Int) (mJ N p)) 5 true true true) :: some (AObj.row (shC (dJ l x O) 0 (mJ N p)) 4 true true true) :: some (AObj.imap (knO O (p + 1))) :: some (AObj.row oc 1 true true true) :: noH) ∧ ∀ (s_1 : Nat), Is (p < 1) → br (eJ l x O p == (7 : Int)) (∃ (s' : Nat), Is (s' ≤ 1) ∧ Is (1 - s' < 1 - s) ∧ (q1 ∧ q8 ∧ q2 ∧ q0 ∧ q9 ∧ Value.bool true = Value.bool (decide (N < s')) ∧ q3 ∧ q10 ∧ Value.int .i64 (IntKind.wrap .i64 ((p : Int) + (1 : Int))) = Value.int .i64 (↑s' : Int) ∧ True) ∧ lsG l 1 ++ some (AObj.row [Value.slice (some ⟨4, 0, none⟩) (mJ N p) 0, Value.slice (some ⟨5, 0, none⟩) (mJ N p) 0] 0 false true false) :: some (AObj.row (seC (nmJ O) (dJ l x O) (4 : Int) (mJ N p)) 5 true true true) :: some (AObj.row (shC (dJ l x O) 0 (mJ N p)) 4 true true true) :: some (AObj.imap (knO O (p + 1))) :: some (AObj.row oc 1 true true true) :: noH = lsG l 1 ++ some (AObj.row [Value.slice (some ⟨4, 0, none⟩) (mJ N s') 0, Value.slice (some ⟨5, 0, none⟩) (mJ N s') 0] 0 false true false) :: some (AObj.row (seC (nmJ O) (dJ l x O) (4 : Int) (mJ N s')) 5 true true true) :: some (AObj.row (shC (dJ l x O) 0 (mJ N s')) 4 true true true) :: some (AObj.imap (knO O s')) :: some (AObj.row oc 1 true true true) :: noH) (br (eJ l x O p == (16 : Int)) (∃ (s' : Nat), Is (s' ≤ 1) ∧ Is (1 - s' < 1 - s) ∧ (q1 ∧ q8 ∧ q2 ∧ q0 ∧ q9 ∧ Value.bool true = Value.bool (decide (N < s')) ∧ q3 ∧ q10 ∧ Value.int .i64 (IntKind.wrap .i64 ((p : Int) + (1 : Int))) = Value.int .i64 (↑s' : Int) ∧ True) ∧ lsG l 1 ++ some (AObj.row [Value.slice (some ⟨4, 0, none⟩) (mJ N p) 0, Value.slice (some ⟨5, 0, none⟩) (mJ N p) 0] 0 false true false) :: some (AObj.row (seC (nmJ O) (dJ l x O) (4 : Int) (mJ N p)) 5 true true true) :: some (AObj.row (shC (dJ l x O) 0 (mJ N p)) 4 true true true) :: some (AObj.imap (knO O (p + 1))) :: some (AObj.row oc 1 true true true) :: noH = lsG l 1 ++ some (AObj.row [Value.slice (some ⟨4, 0, none⟩) (mJ N s') 0, Value.slice (some ⟨5, 0, none⟩) (mJ N s') 0] 0 false true false) :: some (AObj.row (seC (nmJ O) (dJ l x O) (4 : Int) (mJ N s')) 5 true true true) :: some (AObj.row (shC (dJ l x O) 0 (mJ N s')) 4 true true true) :: some (AObj.imap (knO O s')) :: some (AObj.row oc 1 true true true) :: noH) (∃ (p_1 : Nat), (Is ((eJ l x O p != (0 : Int)) = false) ∧ br (decide (N < p)) (K (Value.bool false) (lsG l 1 ++ noH)) (∃ (s : Nat), Is (p_1 < 1 ∧ p_1 < N) ∧ (q1 ∧ q8 ∧ q2 ∧ q0 ∧ q9 ∧ Value.bool (decide (N < p)) = Value.bool false ∧ Value.int .i64 (↑(O p) : Int) = Value.int .i64 (↑(O p_1) : Int) ∧ Value.int .i64 (dJ l x O p) = Value.int .i64 (dJ l x O p_1) ∧ q3 ∧ q10 ∧ Value.int .i64 (p : Int) = Value.int .i64 (p_1 : Int) ∧ True) ∧ lsG l 1 ++ some (AObj.row [Value.slice (some ⟨4, 0, none⟩) (mJ N p) 0, Value.slice (some ⟨5, 0, none⟩) (mJ N p) 0] 0 false true false) :: some (AObj.row (seC (nmJ O) (dJ l x O) (4 : Int) (mJ N p)) 5 true true true) :: some (AObj.row (shC (dJ l x O) 0 (mJ N p)) 4 true true true) :: some (AObj.imap (knO O (p + 1))) :: some (AObj.row oc 1 true true true) :: noH = lsG l 1 ++ some (AObj.row [Value.slice (some ⟨4, 0, none⟩) p_1 0, Value.slice (some ⟨5, 0, none⟩) p_1 0] 0 false true false) :: some (AObj.row (seC (nmJ O) (dJ l x O) (4 : Int) p_1) 5 true true true) :: some (AObj.row (shC (dJ l x O) 0 p_1) 4 true true true) :: some (AObj.imap (knO O (p_1 + 1))) :: some (AObj.row oc 1 true true true) :: noH)) ∧ ∀ (s_2 : Nat), Is (p_1 < 1 ∧ p_1 < N) → br (decide ((0 : Int) < (p_1 : Int))) (Is ((0 : Int) ≤ IntKind.wrap .i64 ((p_1 : Int) - (1 : Int)) ∧ IntKind.wrap .i64 ((p_1 : Int) - (1 : Int)) < (p_1 : Int)) ∧ Is ((shC (dJ l x O) 0 p_1)[0 + Int.toNat (IntKind.wrap .i64 ((p_1 : Int) - (1 : Int))) * 4 + 0]? = some (Value.int .i64 (dAt (dJ l x O) (0 + (0 + Int.toNat (IntKind.wrap .i64 ((p_1 : Int) - (1 : Int))) * 4 + 0) / 4)))) ∧ Is (decide (dJ l x O p_1 < dAt (dJ l x O) (0 + (0 + Int.toNat (IntKind.wrap .i64 ((p_1 : Int) - (1 : Int))) * 4 + 0) / 4)) = false) ∧ Is ((0 : Int) ≤ (↑(O p_1) : Int) ∧ (↑(O p_1) : Int) ≤ (2 : Int)) ∧ Is (1 + ByteArray.size (txS (Int.toNat (↑(O p_1) : Int))) ≤ 9223372036854775807) ∧ Is (List.length (seC (nmJ O) (dJ l x O) (4 : Int) p_1) = p_1 * 5 ∧ (p_1 + 1) * 48 ≤ 140737488355328 ∧ p_1 + 1 ≤ 9223372036854775807) ∧ Is (List.length (shC (dJ l x O) 0 p_1) = p_1 * 4 ∧ (p_1 + 1) * 32 ≤ 140737488355328 ∧ p_1 + 1 ≤ 9223372036854775807) ∧ ∃ (s' : Nat), Is (s' ≤ 1) ∧ Is (1 - s' < 1 - s) ∧ (q1 ∧ q8 ∧ q2 ∧ q0 ∧ q9 ∧ Value.bool false = Value.bool (decide (N < s')) ∧ q3 ∧ q10 ∧ Value.int .i64 (IntKind.wrap .i64 ((p_1 : Int) + (1 : Int))) = Value.int .i64 (↑s' : Int) ∧ True) ∧ lsG l 1 ++ some (AObj.row [Value.slice (some ⟨4, 0, none⟩) (p_1 + 1) 0, Value.slice (some ⟨5, 0, none⟩) (p_1 + 1) 0] 0 false true false) :: some (AObj.row (seC (nmJ O) (dJ l x O) (4 : Int) p_1 ++ [Value.string (cat { data := #[(115 : UInt8)] } (txS (Int.toNat (↑(O p_1) : Int)))), Value.int .i64 (dJ l x O p_1), Value.int .i64 1, Value.int .i64 0, Value.int .i64 4]) 5 true true true) :: some (AObj.row (shC (dJ l x O) 0 p_1 ++ [Value.int .i64 (dJ l x O p_1), Value.int .i64 1, Value.int .i64 0, Value.int .i64 0]) 4 true true true) :: some (AObj.imap (knO O (p_1 + 1))) :: some (AObj.row oc 1 true true true) :: noH = lsG l 1 ++ some (AObj.row [Value.slice (some ⟨4, 0, none⟩) (mJ N s') 0, Value.slice (some ⟨5, 0, none⟩) (mJ N s') 0] 0 false true false) :: some (AObj.row (seC (nmJ O) (dJ l x O) (4 : Int) (mJ N s')) 5 true true true) :: some (AObj.row (shC (dJ l x O) 0 (mJ N s')) 4 true true true) :: some (AObj.imap (knO O s')) :: some (AObj.row oc 1 true true true) :: noH) (Is ((0 : Int) ≤ (↑(O p_1) : Int) ∧ (↑(O p_1) : Int) ≤ (2 : Int)) ∧ Is (1 + ByteArray.size (txS (Int.toNat (↑(O p_1) : Int))) ≤ 9223372036854775807) ∧ Is (List.length (seC (nmJ O) (dJ l x O) (4 : Int) p_1) = p_1 * 5 ∧ (p_1 + 1) * 48 ≤ 140737488355328 ∧ p_1 + 1 ≤ 9223372036854775807) ∧ Is (List.length (shC (dJ l x O) 0 p_1) = p_1 * 4 ∧ (p_1 + 1) * 32 ≤ 140737488355328 ∧ p_1 + 1 ≤ 9223372036854775807) ∧ ∃ (s' : Nat), Is (s' ≤ 1) ∧ Is (1 - s' < 1 - s) ∧ (q1 ∧ q8 ∧ q2 ∧ q0 ∧ q9 ∧ Value.bool false = Value.bool (decide (N < s')) ∧ q3 ∧ q10 ∧ Value.int .i64 (IntKind.wrap .i64 ((p_1 : Int) + (1 : Int))) = Value.int .i64 (↑s' : Int) ∧ True) ∧ lsG l 1 ++ some (AObj.row [Value.slice (some ⟨4, 0, none⟩) (p_1 + 1) 0, Value.slice (some ⟨5, 0, none⟩) (p_1 + 1) 0] 0 false true false) :: some (AObj.row (seC (nmJ O) (dJ l x O) (4 : Int) p_1 ++ [Value.string (cat { data := #[(115 : UInt8)] } (txS (Int.toNat (↑(O p_1) : Int)))), Value.int .i64 (dJ l x O p_1), Value.int .i64 1, Value.int .i64 0, Value.int .i64 4]) 5 true true true) :: some (AObj.row (shC (dJ l x O) 0 p_1 ++ [Value.int .i64 (dJ l x O p_1), Value.int .i64 1, Value.int .i64 0, Value.int .i64 0]) 4 true true true) :: some (AObj.imap (knO O (p_1 + 1))) :: some (AObj.row oc 1 true true true) :: noH = lsG l 1 ++ some (AObj.row [Value.slice (some ⟨4, 0, none⟩) (mJ N s') 0, Value.slice (some ⟨5, 0, none⟩) (mJ N s') 0] 0 false true false) :: some (AObj.row (seC (nmJ O) (dJ l x O) (4 : Int) (mJ N s')) 5 true true true) :: some (AObj.row (shC (dJ l x O) 0 (mJ N s')) 4 true true true) :: some (AObj.imap (knO O s')) :: some (AObj.row oc 1 true true true) :: noH)))) (∃ (s_1 : Nat), Is (s_1 = 0) ∧ (q2 ∧ q0 ∧ True) ∧ lsG l 1 ++ some (AObj.row [Value.slice (some ⟨4, 0, none⟩) (mJ N s) 0, Value.slice (some ⟨5, 0, none⟩) (mJ N s) 0] 0 false true false) :: some (AObj.row (seC (nmJ O) (dJ l x O) (4 : Int) (mJ N s)) 5 true true true) :: some (AObj.row (shC (dJ l x O) 0 (mJ N s)) 4 true true true) :: noH = lsG l 1 ++ some z12 :: some z11 :: some (AObj.row (shC (dJ l x O) 0 N) 4 true true true) :: noH)) ∧ ∀ (s : Nat), Is (s = 0) → br ((N : Int) == (0 : Int)) (Is True ∧ K (Value.bool true) (lsG l 1 ++ noH)) (Is (List.length (seC (nmJ O) (dJ l x O) (4 : Int) N) = N * 5 ∧ (∀ (v : Value), v ∈ seC (nmJ O) (dJ l x O) (4 : Int) N → atom v = true) ∧ N * 48 ≤ 140737488355328 ∧ N ≤ 9223372036854775807) ∧ Is (List.length (shC (dJ l x O) 0 N) = N * 4 ∧ (∀ (v : Value), v ∈ shC (dJ l x O) 0 N → atom v = true) ∧ N * 32 ≤ 140737488355328 ∧ N ≤ 9223372036854775807) ∧ Is (ofs (nmJ O) (dJ l x O) (4 : Int) N 0 N (seC (nmJ O) (dJ l x O) (4 : Int) N) (shC (dJ l x O) 0 N) ∧ OfOk (nmJ O) (dJ l x O) (4 : Int) N 0 N) ∧ Is (List.length (seC (nmJ O) (dJ l x O) (4 : Int) N) = N * 5 ∧ (∀ (v : Value), v ∈ seC (nmJ O) (dJ l x O) (4 : Int) N → atom v = true) ∧ N * 48 ≤ 140737488355328 ∧ N ≤ 9223372036854775807) ∧ Is (List.length (shC (dJ l x O) 0 N) = N * 4 ∧ (∀ (v : Value), v ∈ shC (dJ l x O) 0 N → atom v = true) ∧ N * 32 ≤ 140737488355328 ∧ N ≤ 9223372036854775807) ∧ Is (isOf (nmJ O) (dJ l x O) (4 : Int) N 0 N (seC (nmJ O) (dJ l x O) (4 : Int) N) (shC (dJ l x O) 0 N) ∧ OfOk (nmJ O) (dJ l x O) (4 : Int) N 0 N ∧ ltIs (dJ l x O) 0 N N false ∧ 0 < N) ∧ Is (((4 : Int) * (N : Int) != IntKind.wrap .i64 ((4 : Int) * (N : Int))) = false) ∧ Is (decide ((0 : Int) < (↑(ltN false N) : Int)) = false) ∧ (Is (List.length (seC (nmJ O) (dJ l x O) (4 : Int) N) = N * 5 ∧ (∀ (v : Value), v ∈ seC (nmJ O) (dJ l x O) (4 : Int) N → atom v = true) ∧ N * 48 ≤ 140737488355328 ∧ N ≤ 9223372036854775807) ∧ Is ((0 : Int) ≤ (1 : Int) ∧ (1 : Int) ≤ (N : Int) ∧ (N : Int) ≤ (N : Int)) ∧ Is (4 + (Int.toNat (N : Int) - 1) * 4 ≤ List.length (shC (dJ l x O) 0 N) ∧ (∀ (v : Value), v ∈ shC (dJ l x O) 0 N → atom v = true) ∧ (Int.toNat (N : Int) - 1) * 32 ≤ 140737488355328 ∧ Int.toNat (N : Int) - 1 ≤ 9223372036854775807) ∧ ∃ (s : Nat), Is (s = 0 ∧ 0 < N) ∧ (q2 ∧ q0 ∧ q4 ∧ q5 ∧ True) ∧ lsG l 1 ++ some z12 :: some z11 :: some (AObj.row (shC (dJ l x O) 0 N) 4 true true true) :: some z14 :: some (AObj.row [Value.slice (some ⟨8, 0, none⟩) N 0, Value.slice (some ⟨9, 0, none⟩) (Int.toNat (N : Int) - 1) 0] 0 false true false) :: some z11 :: some (AObj.row (List.take ((Int.toNat (N : Int) - 1) * 4) (List.drop 4 (shC (dJ l x O) 0 N))) 4 true true true) :: noH = lsG l 1 ++ some z12 :: some z11 :: some (AObj.row (shC (dJ l x O) 0 N) 4 true true true) :: some z14 :: some z13 :: some z11 :: some (AObj.row (shC (dJ l x O) 1 (N - 1)) 4 true true true) :: noH) ∧ ∀ (s : Nat), Is (s = 0 ∧ 0 < N) → Is (ofs (nmJ O) (dJ l x O) (4 : Int) N 1 (N - 1) (seC (nmJ O) (dJ l x O) (4 : Int) N) (shC (dJ l x O) 1 (N - 1)) ∧ OfOk (nmJ O) (dJ l x O) (4 : Int) N 1 (N - 1)) ∧ Is (isOf (nmJ O) (dJ l x O) (4 : Int) N 1 (N - 1) (seC (nmJ O) (dJ l x O) (4 : Int) N) (shC (dJ l x O) 1 (N - 1)) ∧ OfOk (nmJ O) (dJ l x O) (4 : Int) N 1 (N - 1) ∧ ltIs (dJ l x O) 1 N (N - 1) (altB (dJ l x O) N) ∧ 0 < N) ∧ br ((N : Int) == (1 : Int)) (Is (((4 : Int) * (↑(N - 1) : Int) != IntKind.wrap .i64 ((4 : Int) * IntKind.wrap .i64 ((N : Int) - (1 : Int)))) = false) ∧ Is ((!true == ((↑(ltN (altB (dJ l x O) N) N) : Int) == (1 : Int))) = false) ∧ Is (decide ((1 : Int) < (↑(ltN (altB (dJ l x O) N) N) : Int)) = false) ∧ Is ((0 : Int) ≤ (0 : Int) ∧ (0 : Int) < (↑(ltN (altB (dJ l x O) N) N) : Int)) ∧ Is ((if 2 ≤ List.length (ltC (altB (dJ l x O) N) N) then some (Value.agg (List.toArray (List.take 2 (List.drop 0 (ltC (altB (dJ l x O) N) N))))) else none) = some (Value.agg #[Value.int .i64 0, Value.string sDay])) ∧ Is (True ∧ false = false) ∧ (∃ (s : Nat), Is (s ≤ N ∧ 0 < N) ∧ (q2 ∧ q0 ∧ q4 ∧ q5 ∧ q6 ∧ Value.slice (some ⟨11, 0, none⟩) 0 0 = Value.slice (some ⟨11, 0, none⟩) s 0 ∧ q7 ∧ Value.int .i64 0 = Value.int .i64 (s : Int) ∧ True) ∧ lsG l 1 ++ some z12 :: some z11 :: some (AObj.row (shC (dJ l x O) 0 N) 4 true true true) :: some z14 :: some z13 :: some z11 :: some (AObj.row (shC (dJ l x O) 1 (N - 1)) 4 true true true) :: some z15 :: some (AObj.row [] 2 true true true) :: noH = lsG l 1 ++ some z12 :: some z11 :: some (AObj.row (shC (dJ l x O) 0 N) 4 true true true) :: some z14 :: some z13 :: some z11 :: some (AObj.row (shC (dJ l x O) 1 (N - 1)) 4 true true true) :: some z15 :: some (AObj.row (prC (lowN pr (10 : Int)) (lowD pr (10 : Int)) s) 2 true true true) :: noH) ∧ ∀ (s : Nat), Is (s ≤ N ∧ 0 < N) → br (decide ((s : Int) < (N : Int))) (Is ((0 : Int) < (10 : Int) ∧ (10 : Int) < (9223372036854775808 : Int) ∧ (-9223372036854775808 : Int) < IntKind.wrap .i64 pr ∧ IntKind.wrap .i64 pr < (9223372036854775808 : Int)) ∧ Is (List.length (prC (lowN pr (10 : Int)) (lowD pr (10 : Int)) s) = s * 2 ∧ (s + 1) * 16 ≤ 140737488355328 ∧ s + 1 ≤ 9223372036854775807) ∧ ∃ (s' : Nat), Is (s' ≤ N ∧ 0 < N) ∧ Is (N - s' < N - s) ∧ (q2 ∧ q0 ∧ q4 ∧ q5 ∧ q6 ∧ Value.slice (some ⟨11, 0, none⟩) (s + 1) 0 = Value.slice (some ⟨11, 0, none⟩) s' 0 ∧ q7 ∧ Value.int .i64 (IntKind.wrap .i64 ((s : Int) + (1 : Int))) = Value.int .i64 (↑s' : Int) ∧ True) ∧ lsG l 1 ++ some z12 :: some z11 :: some (AObj.row (shC (dJ l x O) 0 N) 4 true true true) :: some z14 :: some z13 :: some z11 :: some (AObj.row (shC (dJ l x O) 1 (N - 1)) 4 true true true) :: some z15 :: some (AObj.row (prC (lowN pr (10 : Int)) (lowD pr (10 : Int)) s ++ [Value.int .i64 (lowN (IntKind.wrap .i64 pr) (10 : Int)), Value.int .i64 (lowD (IntKind.wrap .i64 pr) (10 : Int))]) 2 true true true) :: noH = lsG l 1 ++ some z12 :: some z11 :: some (AObj.row (shC (dJ l x O) 0 N) 4 true true true) :: some z14 :: some z13 :: some z11 :: some (AObj.row (shC (dJ l x O) 1 (N - 1)) 4 true true true) :: some z15 :: some (AObj.row (prC (lowN pr (10 : Int)) (lowD pr (10 : Int)) s') 2 true true true) :: noH) (Is (List.length (prC (lowN pr (10 : Int)) (lowD pr (10 : Int)) s) = s * 2 ∧ (∀ (v : Value), v ∈ prC (lowN pr (10 : Int)) (lowD pr (10 : Int)) s → atom v = true) ∧ s * 16 ≤ 140737488355328 ∧ s ≤ 9223372036854775807) ∧ Is ((isOf (nmJ O) (dJ l x O) (4 : Int) N 0 N (seC (nmJ O) (dJ l x O) (4 : Int) N) (shC (dJ l x O) 0 N) ∧ prC (lowN pr (10 : Int)) (lowD pr (10 : Int)) s = prC (lowN pr (10 : Int)) (lowD pr (10 : Int)) N ∧ s = N) ∧ OfOk (nmJ O) (dJ l x O) (4 : Int) N 0 N ∧ prOk (lowN pr (10 : Int)) (lowD pr (10 : Int))) ∧ Is ((0 : Int) ≤ (1 : Int) ∧ (1 : Int) ≤ (s : Int) ∧ (s : Int) ≤ (s : Int)) ∧ Is (2 + (Int.toNat (s : Int) - 1) * 2 ≤ List.length (prC (lowN pr (10 : Int)) (lowD pr (10 : Int)) s) ∧ (∀ (v : Value), v ∈ prC (lowN pr (10 : Int)) (lowD pr (10 : Int)) s → atom v = true) ∧ (Int.toNat (s : Int) - 1) * 16 ≤ 140737488355328 ∧ Int.toNat (s : Int) - 1 ≤ 9223372036854775807) ∧ Is ((isOf (nmJ O) (dJ l x O) (4 : Int) N 1 (N - 1) (seC (nmJ O) (dJ l x O) (4 : Int) N) (shC (dJ l x O) 1 (N - 1)) ∧ List.take ((Int.toNat (s : Int) - 1) * 2) (List.drop 2 (prC (lowN pr (10 : Int)) (lowD pr (10 : Int)) s)) = prC (lowN pr (10 : Int)) (lowD pr (10 : Int)) (N - 1) ∧ Int.toNat (s : Int) - 1 = N - 1) ∧ OfOk (nmJ O) (dJ l x O) (4 : Int) N 1 (N - 1) ∧ prOk (lowN pr (10 : Int)) (lowD pr (10 : Int))) ∧ Is (decide ((4 : Int) * (N : Int) ≤ bdV (dJ l x O) 0 N N (4 : Int) (coP (lowN pr (10 : Int)) (lowD pr (10 : Int)))) = true) ∧ Is (decide ((4 : Int) * (↑(N - 1) : Int) ≤ bdV (dJ l x O) 1 N (N - 1) (4 : Int) (coP (lowN pr (10 : Int)) (lowD pr (10 : Int)))) = true) ∧ Is True ∧ K (Value.bool true) (lsG l 1 ++ noH))) (Is ((0 : Int) ≤ (1 : Int) ∧ (1 : Int) < (N : Int)) ∧ Is ((shC (dJ l x O) 0 N)[4]? = some (Value.int .i64 (dAt (dJ l x O) 1))) ∧ Is ((0 : Int) ≤ (0 : Int) ∧ (0 : Int) < (N : Int)) ∧ Is ((shC (dJ l x O) 0 N)[0]? = some (Value.int .i64 (dAt (dJ l x O) 0))) ∧ Is (((4 : Int) * (↑(N - 1) : Int) != IntKind.wrap .i64 ((4 : Int) * IntKind.wrap .i64 ((N : Int) - (1 : Int)))) = false) ∧ Is ((!decide (dAt (dJ l x O) 0 < dAt (dJ l x O) 1) == ((↑(ltN (altB (dJ l x O) N) N) : Int) == (1 : Int))) = false) ∧ Is (decide ((1 : Int) < (↑(ltN (altB (dJ l x O) N) N) : Int)) = false) ∧ br (decide (dAt (dJ l x O) 0 < dAt (dJ l x O) 1)) (Is ((0 : Int) ≤ (0 : Int) ∧ (0 : Int) < (↑(ltN (altB (dJ l x O) N) N) : Int)) ∧ Is ((if 2 ≤ List.length (ltC (altB (dJ l x O) N) N) then some (Value.agg (List.toArray (List.take 2 (List.drop 0 (ltC (altB (dJ l x O) N) N))))) else none) = some (Value.agg #[Value.int .i64 0, Value.string sDay])) ∧ Is (True ∧ false = false) ∧ (∃ (s : Nat), Is (s ≤ N ∧ 0 < N) ∧ (q2 ∧ q0 ∧ q4 ∧ q5 ∧ q6 ∧ Value.slice (some ⟨11, 0, none⟩) 0 0 = Value.slice (some ⟨11, 0, none⟩) s 0 ∧ q7 ∧ Value.int .i64 0 = Value.int .i64 (s : Int) ∧ True) ∧ lsG l 1 ++ some z12 :: some z11 :: some (AObj.row (shC (dJ l x O) 0 N) 4 true true true) :: some z14 :: some z13 :: some z11 :: some (AObj.row (shC (dJ l x O) 1 (N - 1)) 4 true true true) :: some z15 :: some (AObj.row [] 2 true true true) :: noH = lsG l 1 ++ some z12 :: some z11 :: some (AObj.row (shC (dJ l x O) 0 N) 4 true true true) :: some z14 :: some z13 :: some z11 :: some (AObj.row (shC (dJ l x O) 1 (N - 1)) 4 true true true) :: some z15 :: some (AObj.row (prC (lowN pr (10 : Int)) (lowD pr (10 : Int)) s) 2 true true true) :: noH) ∧ ∀ (s : Nat), Is (s ≤ N ∧ 0 < N) → br (decide ((s : Int) < (N : Int))) (Is ((0 : Int) < (10 : Int) ∧ (10 : Int) < (9223372036854775808 : Int) ∧ (-9223372036854775808 : Int) < IntKind.wrap .i64 pr ∧ IntKind.wrap .i64 pr < (9223372036854775808 : Int)) ∧ Is (List.length (prC (lowN pr (10 : Int)) (lowD pr (10 : Int)) s) = s * 2 ∧ (s + 1) * 16 ≤ 140737488355328 ∧ s + 1 ≤ 9223372036854775807) ∧ ∃ (s' : Nat), Is (s' ≤ N ∧ 0 < N) ∧ Is (N - s' < N - s) ∧ (q2 ∧ q0 ∧ q4 ∧ q5 ∧ q6 ∧ Value.slice (some ⟨11, 0, none⟩) (s + 1) 0 = Value.slice (some ⟨11, 0, none⟩) s' 0 ∧ q7 ∧ Value.int .i64 (IntKind.wrap .i64 ((s : Int) + (1 : Int))) = Value.int .i64 (↑s' : Int) ∧ True) ∧ lsG l 1 ++ some z12 :: some z11 :: some (AObj.row (shC (dJ l x O) 0 N) 4 true true true) :: some z14 :: some z13 :: some z11 :: some (AObj.row (shC (dJ l x O) 1 (N - 1)) 4 true true true) :: some z15 :: some (AObj.row (prC (lowN pr (10 : Int)) (lowD pr (10 : Int)) s ++ [Value.int .i64 (lowN (IntKind.wrap .i64 pr) (10 : Int)), Value.int .i64 (lowD (IntKind.wrap .i64 pr) (10 : Int))]) 2 true true true) :: noH = lsG l 1 ++ some z12 :: some z11 :: some (AObj.row (shC (dJ l x O) 0 N) 4 true true true) :: some z14 :: some z13 :: some z11 :: some (AObj.row (shC (dJ l x O) 1 (N - 1)) 4 true true true) :: some z15 :: some (AObj.row (prC (lowN pr (10 : Int)) (lowD pr (10 : Int)) s') 2 true true true) :: noH) (Is (List.length (prC (lowN pr (10 : Int)) (lowD pr (10 : Int)) s) = s * 2 ∧ (∀ (v : Value), v ∈ prC (lowN pr (10 : Int)) (lowD pr (10 : Int)) s → atom v = true) ∧ s * 16 ≤ 140737488355328 ∧ s ≤ 9223372036854775807) ∧ Is ((isOf (nmJ O) (dJ l x O) (4 : Int) N 0 N (seC (nmJ O) (dJ l x O) (4 : Int) N) (shC (dJ l x O) 0 N) ∧ prC (lowN pr (10 : Int)) (lowD pr (10 : Int)) s = prC (lowN pr (10 : Int)) (lowD pr (10 : Int)) N ∧ s = N) ∧ OfOk (nmJ O) (dJ l x O) (4 : Int) N 0 N ∧ prOk (lowN pr (10 : Int)) (lowD pr (10 : Int))) ∧ Is ((0 : Int) ≤ (1 : Int) ∧ (1 : Int) ≤ (s : Int) ∧ (s : Int) ≤ (s : Int)) ∧ Is (2 + (Int.toNat (s : Int) - 1) * 2 ≤ List.length (prC (lowN pr (10 : Int)) (lowD pr (10 : Int)) s) ∧ (∀ (v : Value), v ∈ prC (lowN pr (10 : Int)) (lowD pr (10 : Int)) s → atom v = true) ∧ (Int.toNat (s : Int) - 1) * 16 ≤ 140737488355328 ∧ Int.toNat (s : Int) - 1 ≤ 9223372036854775807) ∧ Is ((isOf (nmJ O) (dJ l x O) (4 : Int) N 1 (N - 1) (seC (nmJ O) (dJ l x O) (4 : Int) N) (shC (dJ l x O) 1 (N - 1)) ∧ List.take ((Int.toNat (s : Int) - 1) * 2) (List.drop 2 (prC (lowN pr (10 : Int)) (lowD pr (10 : Int)) s)) = prC (lowN pr (10 : Int)) (lowD pr (10 : Int)) (N - 1) ∧ Int.toNat (s : Int) - 1 = N - 1) ∧ OfOk (nmJ O) (dJ l x O) (4 : Int) N 1 (N - 1) ∧ prOk (lowN pr (10 : Int)) (lowD pr (10 : Int))) ∧ Is (decide ((4 : Int) * (N : Int) ≤ bdV (dJ l x O) 0 N N (4 : Int) (coP (lowN pr (10 : Int)) (lowD pr (10 : Int)))) = true) ∧ Is (decide ((4 : Int) * (↑(N - 1) : Int) ≤ bdV (dJ l x O) 1 N (N - 1) (4 : Int) (coP (lowN pr (10 : Int)) (lowD pr (10 : Int)))) = true) ∧ Is True ∧ K (Value.bool true) (lsG l 1 ++ noH))) ((∃ (s : Nat), Is (s ≤ N ∧ 0 < N) ∧ (q2 ∧ q0 ∧ q4 ∧ q5 ∧ q6 ∧ Value.slice (some ⟨11, 0, none⟩) 0 0 = Value.slice (some ⟨11, 0, none⟩) s 0 ∧ q7 ∧ Value.int .i64 0 = Value.int .i64 (s : Int) ∧ True) ∧ lsG l 1 ++ some z12 :: some z11 :: some (AObj.row (shC (dJ l x O) 0 N) 4 true true true) :: some z14 :: some z13 :: some z11 :: some (AObj.row (shC (dJ l x O) 1 (N - 1)) 4 true true true) :: some z15 :: some (AObj.row [] 2 true true true) :: noH = lsG l 1 ++ some z12 :: some z11 :: some (AObj.row (shC (dJ l x O) 0 N) 4 true true true) :: some z14 :: some z13 :: some z11 :: some (AObj.row (shC (dJ l x O) 1 (N - 1)) 4 true true true) :: some z15 :: some (AObj.row (prC (lowN pr (10 : Int)) (lowD pr (10 : Int)) s) 2 true true true) :: noH) ∧ ∀ (s : Nat), Is (s ≤ N ∧ 0 < N) → br (decide ((s : Int) < (N : Int))) (Is ((0 : Int) < (10 : Int) ∧ (10 : Int) < (9223372036854775808 : Int) ∧ (-9223372036854775808 : Int) < IntKind.wrap .i64 pr ∧ IntKind.wrap .i64 pr < (9223372036854775808 : Int)) ∧ Is (List.length (prC (lowN pr (10 : Int)) (lowD pr (10 : Int)) s) = s * 2 ∧ (s + 1) * 16 ≤ 140737488355328 ∧ s + 1 ≤ 9223372036854775807) ∧ ∃ (s' : Nat), Is (s' ≤ N ∧ 0 < N) ∧ Is (N - s' < N - s) ∧ (q2 ∧ q0 ∧ q4 ∧ q5 ∧ q6 ∧ Value.slice (some ⟨11, 0, none⟩) (s + 1) 0 = Value.slice (some ⟨11, 0, none⟩) s' 0 ∧ q7 ∧ Value.int .i64 (IntKind.wrap .i64 ((s : Int) + (1 : Int))) = Value.int .i64 (↑s' : Int) ∧ True) ∧ lsG l 1 ++ some z12 :: some z11 :: some (AObj.row (shC (dJ l x O) 0 N) 4 true true true) :: some z14 :: some z13 :: some z11 :: some (AObj.row (shC (dJ l x O) 1 (N - 1)) 4 true true true) :: some z15 :: some (AObj.row (prC (lowN pr (10 : Int)) (lowD pr (10 : Int)) s ++ [Value.int .i64 (lowN (IntKind.wrap .i64 pr) (10 : Int)), Value.int .i64 (lowD (IntKind.wrap .i64 pr) (10 : Int))]) 2 true true true) :: noH = lsG l 1 ++ some z12 :: some z11 :: some (AObj.row (shC (dJ l x O) 0 N) 4 true true true) :: some z14 :: some z13 :: some z11 :: some (AObj.row (shC (dJ l x O) 1 (N - 1)) 4 true true true) :: some z15 :: some (AObj.row (prC (lowN pr (10 : Int)) (lowD pr (10 : Int)) s') 2 true true true) :: noH) (Is (List.length (prC (lowN pr (10 : Int)) (lowD pr (10 : Int)) s) = s * 2 ∧ (∀ (v : Value), v ∈ prC (lowN pr (10 : Int)) (lowD pr (10 : Int)) s → atom v = true) ∧ s * 16 ≤ 140737488355328 ∧ s ≤ 9223372036854775807) ∧ Is ((isOf (nmJ O) (dJ l x O) (4 : Int) N 0 N (seC (nmJ O) (dJ l x O) (4 : Int) N) (shC (dJ l x O) 0 N) ∧ prC (lowN pr (10 : Int)) (lowD pr (10 : Int)) s = prC (lowN pr (10 : Int)) (lowD pr (10 : Int)) N ∧ s = N) ∧ OfOk (nmJ O) (dJ l x O) (4 : Int) N 0 N ∧ prOk (lowN pr (10 : Int)) (lowD pr (10 : Int))) ∧ Is ((0 : Int) ≤ (1 : Int) ∧ (1 : Int) ≤ (s : Int) ∧ (s : Int) ≤ (s : Int)) ∧ Is (2 + (Int.toNat (s : Int) - 1) * 2 ≤ List.length (prC (lowN pr (10 : Int)) (lowD pr (10 : Int)) s) ∧ (∀ (v : Value), v ∈ prC (lowN pr (10 : Int)) (lowD pr (10 : Int)) s → atom v = true) ∧ (Int.toNat (s : Int) - 1) * 16 ≤ 140737488355328 ∧ Int.toNat (s : Int) - 1 ≤ 9223372036854775807) ∧ Is ((isOf (nmJ O) (dJ l x O) (4 : Int) N 1 (N - 1) (seC (nmJ O) (dJ l x O) (4 : Int) N) (shC (dJ l x O) 1 (N - 1)) ∧ List.take ((Int.toNat (s : Int) - 1) * 2) (List.drop 2 (prC (lowN pr (10 : Int)) (lowD pr (10 : Int)) s)) = prC (lowN pr (10 : Int)) (lowD pr (10 : Int)) (N - 1) ∧ Int.toNat (s : Int) - 1 = N - 1) ∧ OfOk (nmJ O) (dJ l x O) (4 : Int) N 1 (N - 1) ∧ prOk (lowN pr (10 : Int)) (lowD pr (10 : Int))) ∧ Is (decide ((4 : Int) * (N : Int) ≤ bdV (dJ l x O) 0 N N (4 : Int) (coP (lowN pr (10 : Int)) (lowD pr (10 : Int)))) = true) ∧ Is (decide ((4 : Int) * (↑(N - 1) : Int) ≤ bdV (dJ l x O) 1 N (N - 1) (4 : Int) (coP (lowN pr (10 : Int)) (lowD pr (10 : Int)))) = true) ∧ Is True ∧ K (Value.bool true) (lsG l 1 ++ noH))))))) := by kernel_rfl
end
end Qq
end
section
/- What the law asks of the sections: their order, their days. -/
open Go Go.Vm Go.Proofs Sp
namespace Qq
noncomputable section
theorem dy_bd {l : Ls} {x : Int} {i : Nat} (h : okP l i) (hx : 0 ≤ x ∧ x ≤ 100000) (he : eI l x i = 0) : 0 ≤ dyI l x i ∧ dyI l x i ≤ 100000 := by
  have he' := he
  rw [eI, rdE] at he
  by_cases hm : pm (l.zs i) (l.ks i) (l.N i) (l.K i) (l.K i : Int) < 2
  · rw [decide_eq_true hm, sel, if_neg (by decide)] at he
    exact absurd he (by decide)
  · rw [decide_eq_false hm, sel, if_pos (show wh false 16 = 0 from rfl)] at he
    have hb : rdB (l.zs i) (l.ks i) (l.N i) (l.K i) (l.K i : Int) x = true := by
      cases hb : rdB (l.zs i) (l.ks i) (l.N i) (l.K i) (l.K i : Int) x with
      | true => rfl
      | false => rw [hb] at he; exact absurd he (by decide)
    have hr := rc_in h (by omega) hx.1 hx.2
    rw [dyI, gz, if_pos he', rdN, rcN]
    rw [rdB, rcB] at hb
    split
    · exact ⟨hr.f0, hr.f1⟩
    · rename_i hs
      rw [decide_eq_false hs, Bool.false_or, Bool.and_eq_true, decide_eq_true_eq] at hb
      obtain ⟨hc, hd⟩ := hb
      have hc : ¬ pS (l.zs i) (l.ks i) (l.N i) (l.K i) (l.K i : Int) ≤ 0 := by simpa using hc
      rw [if_neg hc]
      refine ⟨?_, hd⟩
      have hf := hr.f0
      have : (-rcS (p0D (l.zs i) (l.ks i) (l.K i : Int)) (pL (l.zs i) (l.ks i) (l.N i) (l.K i) (l.K i : Int)) (pS (l.zs i) (l.ks i) (l.N i) (l.K i) (l.K i : Int)) (pD (l.zs i) (l.ks i) (l.N i) (l.K i) (l.K i : Int)) x (pZ (l.zs i) (l.ks i) (l.N i) (l.K i) (l.K i : Int))) / pS (l.zs i) (l.ks i) (l.N i) (l.K i) (l.K i : Int) ≤ 0 := by
        refine Int.le_of_lt_add_one (Int.ediv_lt_of_lt_mul (by omega) ?_)
        omega
      omega
theorem e_vals (l : Ls) (x : Int) (i : Nat) : eI l x i = 0 ∨ eI l x i = 7 ∨ eI l x i = 16 := by
  rw [eI, rdE, sel]
  split
  · cases rdB (l.zs i) (l.ks i) (l.N i) (l.K i) (l.K i : Int) x
    · exact .inr (.inl rfl)
    · exact .inl rfl
  · rename_i h
    by_cases hm : pm (l.zs i) (l.ks i) (l.N i) (l.K i) (l.K i : Int) < 2
    · rw [decide_eq_true hm]; exact .inr (.inr rfl)
    · rw [decide_eq_false hm] at h; exact absurd rfl h
theorem dI_e (l : Ls) (x : Int) (i : Nat) : dI l x i = if eI l x i = 0 then dyI l x i else 100001 := by
  rw [dI, duN, dyI, gz]
  show (if rdE (l.zs i) (l.ks i) (l.N i) (l.K i) (l.K i) x = 0 then _ else _) = _
  rw [show eI l x i = rdE (l.zs i) (l.ks i) (l.N i) (l.K i) (l.K i) x from rfl]
  split
  · rfl
  · rfl
/-- An order. -/
structure OrdOk (d : Nat → Int) (n : Nat) (r : List Nat) (O : Nat → Nat) : Prop where
  r : r = (List.range n).map O
  lt : ∀ j, j < n → O j < n
  inj : ∀ i j, i < j → j < n → O i ≠ O j
  up : ∀ j, j + 1 < n → d (O j) ≤ d (O (j + 1))
def oL (r : List Nat) (j : Nat) : Nat := r.getD j 0
theorem ord_of {d : Nat → Int} {a b c : Nat} (h1 : a < 3 ∧ b < 3 ∧ c < 3) (h2 : a ≠ b ∧ a ≠ c ∧ b ≠ c) (h3 : d a ≤ d b ∧ d b ≤ d c) : OrdOk d 3 [a, b, c] (oL [a, b, c]) := by
  refine ⟨rfl, fun j hj => ?_, fun i j hi hj => ?_, fun j hj => ?_⟩
  · match j, hj with
    | 0, _ => exact h1.1
    | 1, _ => exact h1.2.1
    | 2, _ => exact h1.2.2
  · match i, j, hi, hj with
    | 0, 1, _, _ => exact h2.1
    | 0, 2, _, _ => exact h2.2.1
    | 1, 2, _, _ => exact h2.2.2
    | 0, 0, h, _ => exact absurd h (by omega)
    | i + 1, 0, h, _ => exact absurd h (by omega)
    | i + 1, 1, h, _ => exact absurd h (by omega)
    | i + 2, 2, h, _ => exact absurd h (by omega)
    | _, j + 3, _, h => exact absurd h (by omega)
  · match j, hj with
    | 0, _ => exact h3.1
    | 1, _ => exact h3.2
theorem rk_two (d : Nat → Int) : rk d 2 = if d 1 < d 0 then [1, 0] else [0, 1] := by
  have e1 : rk d 1 = [0] := rfl
  rw [rk, e1, ipos]
  show insD [0] 1 (if d 1 < d 0 then 0 else 1) = _
  split <;> rfl
theorem ord1 (d : Nat → Int) : OrdOk d 1 (rk d 1) (oL (rk d 1)) := by
  refine ⟨rfl, fun j hj => ?_, fun i j h1 h2 => (by omega), fun j hj => (by omega)⟩
  obtain rfl : j = 0 := by omega
  exact Nat.zero_lt_one
theorem ord2 (d : Nat → Int) : OrdOk d 2 (rk d 2) (oL (rk d 2)) := by
  rw [rk_two]
  split
  · rename_i h
    refine ⟨rfl, fun j hj => ?_, fun i j h1 h2 => ?_, fun j hj => ?_⟩
    · match j, hj with
      | 0, _ => exact (by decide : 1 < 2)
      | 1, _ => exact (by decide : 0 < 2)
    · obtain rfl : j = 1 := by omega
      obtain rfl : i = 0 := by omega
      exact (by decide : (1 : Nat) ≠ 0)
    · obtain rfl : j = 0 := by omega
      show d 1 ≤ d 0
      omega
  · rename_i h
    refine ⟨rfl, fun j hj => ?_, fun i j h1 h2 => ?_, fun j hj => ?_⟩
    · match j, hj with
      | 0, _ => exact (by decide : 0 < 2)
      | 1, _ => exact (by decide : 1 < 2)
    · obtain rfl : j = 1 := by omega
      obtain rfl : i = 0 := by omega
      exact (by decide : (0 : Nat) ≠ 1)
    · obtain rfl : j = 0 := by omega
      show d 0 ≤ d 1
      omega
theorem ord3 (d : Nat → Int) : OrdOk d 3 (rk d 3) (oL (rk d 3)) := by
  have e : rk d 3 = insD (rk d 2) 2 (ipos d (rk d 2) 2 2) := rfl
  rw [e, rk_two]
  by_cases h : d 1 < d 0
  · rw [if_pos h]
    show OrdOk d 3 (insD [1, 0] 2 (if d 2 < d 0 then (if d 2 < d 1 then 0 else 1) else 2)) (oL (insD [1, 0] 2 (if d 2 < d 0 then (if d 2 < d 1 then 0 else 1) else 2)))
    by_cases h2 : d 2 < d 0
    · rw [if_pos h2]
      by_cases h3 : d 2 < d 1
      · rw [if_pos h3]; exact ord_of (a := 2) (b := 1) (c := 0) (by omega) (by omega) (by omega)
      · rw [if_neg h3]; exact ord_of (a := 1) (b := 2) (c := 0) (by omega) (by omega) (by omega)
    · rw [if_neg h2]; exact ord_of (a := 1) (b := 0) (c := 2) (by omega) (by omega) (by omega)
  · rw [if_neg h]
    show OrdOk d 3 (insD [0, 1] 2 (if d 2 < d 1 then (if d 2 < d 0 then 0 else 1) else 2)) (oL (insD [0, 1] 2 (if d 2 < d 1 then (if d 2 < d 0 then 0 else 1) else 2)))
    by_cases h2 : d 2 < d 1
    · rw [if_pos h2]
      by_cases h3 : d 2 < d 0
      · rw [if_pos h3]; exact ord_of (a := 2) (b := 0) (c := 1) (by omega) (by omega) (by omega)
      · rw [if_neg h3]; exact ord_of (a := 0) (b := 2) (c := 1) (by omega) (by omega) (by omega)
    · rw [if_neg h2]; exact ord_of (a := 0) (b := 1) (c := 2) (by omega) (by omega) (by omega)
/-- All that the law asks. -/
structure Jr (l : Ls) (n : Nat) (x : Int) (O : Nat → Nat) (oc : List Value) (N : Nat) : Prop where
  n1 : 1 ≤ n
  n3 : n ≤ 3
  ht : okLt l n
  x0 : 0 ≤ x
  x1 : x ≤ 10000
  ok : ∀ i, i < n → okP l i
  sc : ∀ i, i < n → scE l i = 0
  lt : ∀ j, j < n → O j < n
  inj : ∀ i j, i < j → j < n → O i ≠ O j
  Nn : N ≤ n
  e0 : ∀ j, j < N → eJ l x O j = 0
  e1 : ∀ j, N ≤ j → j < n → eJ l x O j ≠ 0
  d : ∀ j, j < N → 0 ≤ dJ l x O j ∧ dJ l x O j ≤ 100000
  up : ∀ j, j + 1 < N → dJ l x O j ≤ dJ l x O (j + 1)
  rk : rkE l n x = 0
  res : resI l x n = oI O n
  oc : oc = ints (oI O n)
theorem count_of {e : Nat → Int} : ∀ {n : Nat}, (∀ j, j + 1 < n → e j ≠ 0 → e (j + 1) ≠ 0) → ∃ N, N ≤ n ∧ (∀ j, j < N → e j = 0) ∧ ∀ j, N ≤ j → j < n → e j ≠ 0
  | 0, _ => ⟨0, Nat.le_refl _, fun j h => absurd h (by omega), fun j _ h => absurd h (by omega)⟩
  | n + 1, hm => by
    obtain ⟨N, h1, h2, h3⟩ := count_of (n := n) fun j hj => hm j (by omega)
    by_cases hN : N = n
    · subst hN
      by_cases he : e N = 0
      · refine ⟨N + 1, Nat.le_refl _, fun j hj => ?_, fun j h4 h5 => absurd h5 (by omega)⟩
        rcases (by omega : j = N ∨ j < N) with rfl | hj
        · exact he
        · exact h2 j hj
      · refine ⟨N, by omega, h2, fun j h4 h5 => ?_⟩
        obtain rfl : j = N := by omega
        exact he
    · refine ⟨N, by omega, h2, fun j h4 h5 => ?_⟩
      rcases (by omega : j = n ∨ j < n) with rfl | h5
      · have := hm (j - 1) (by omega) (h3 (j - 1) (by omega) (by omega))
        rw [show j - 1 + 1 = j by omega] at this
        exact this
      · exact h3 j h4 h5
theorem jr_of {l : Ls} {n : Nat} {x : Int} (n1 : 1 ≤ n) (n3 : n ≤ 3) (ht : okLt l n) (hx : 0 ≤ x ∧ x ≤ 10000) (hc : csE l n = 0) : ∃ O oc N, Jr l n x O oc N := by
  have hE : rkE l n x = 0 := by
    rw [← rkE_fi (by omega), hc, wi_in (n := x) (lo := 0) (hi := 100000) (by omega)]; rfl
  obtain ⟨g1, g2, g3, g4⟩ := rk_good ht hE
  have hr : resI l x n = rkZ (dI l x) n := res_eq l x n
  have hO : OrdOk (dI l x) n (rk (dI l x) n) (oL (rk (dI l x) n)) := by
    match n, n1, n3 with
    | 1, _, _ => exact ord1 _
    | 2, _, _ => exact ord2 _
    | 3, _, _ => exact ord3 _
  have hA : csA l n = 0 := by
    rw [csE, if_neg (by omega)] at hc; exact hc
  have sc : ∀ i, i < n → scE l i = 0 := fun i hi => sE_of (csA_all hA i hi)
  generalize oL (rk (dI l x) n) = O at hO
  have mono : ∀ j, j + 1 < n → eJ l x O j ≠ 0 → eJ l x O (j + 1) ≠ 0 := fun j hj he he2 => by
    have h1 := hO.up j hj
    have he : eI l x (O j) ≠ 0 := he
    have he2 : eI l x (O (j + 1)) = 0 := he2
    have b := dy_bd (g1 (O (j + 1)) (hO.lt _ hj)) g2 he2
    rw [dI_e, dI_e, if_neg he, if_pos he2] at h1
    omega
  obtain ⟨N, h1, h2, h3⟩ := count_of mono
  refine ⟨O, ints (oI O n), N, n1, n3, ht, hx.1, hx.2, g1, sc, hO.lt, hO.inj, h1, h2, h3, fun j hj => dy_bd (g1 _ (hO.lt j (by omega))) g2 (h2 j hj), fun j hj => ?_, hE, ?_, rfl⟩
  · have h4 := hO.up j (by omega)
    have p1 : eI l x (O j) = 0 := h2 j (by omega)
    have p2 : eI l x (O (j + 1)) = 0 := h2 (j + 1) hj
    rw [dI_e, dI_e, if_pos p1, if_pos p2] at h4
    exact h4
  · rw [hr, rkZ, hO.r, nats, oI, List.map_map]; rfl
end
end Qq
end
section
/- What the walk of the law asks, said once. -/
open Go Go.Vm Go.Proofs Sp
namespace Qq
noncomputable section
theorem mJ_in {N j : Nat} (h : j ≤ N) : mJ N j = j := if_pos h
theorem mJ_out {N j : Nat} (h : N ≤ j) : mJ N j = N := by
  rw [mJ]; split <;> omega
theorem oI_at {O : Nat → Nat} {n j : Nat} (h : j < n) : (ints (oI O n))[j]? = some (.int .i64 (O j : Int)) := by
  rw [ints_at (by rw [oI, List.length_map, List.length_range]; exact h), List.getD_eq_getElem?_getD, oI, List.getElem?_map, List.getElem?_range h] <;> rfl
theorem knO_all (O : Nat → Nat) (j : Nat) : allI (knO O j) := fun p hp => by
  obtain ⟨t, _, rfl⟩ := List.mem_map.1 hp
  rfl
theorem hasI_no {k : Int} : ∀ {L : List (Int × Value)}, (∀ p ∈ L, p.1 ≠ k) → hasI k L = false
  | [], _ => rfl
  | p :: r, h => by
    rw [hasI, hasI_no fun q hq => h q (List.mem_cons_of_mem _ hq), Bool.or_false]
    exact beq_false_of_ne fun e => h p List.mem_cons_self e.symm
theorem knO_succ (O : Nat → Nat) (j : Nat) : knO O (j + 1) = knO O j ++ [((O j : Int), .bool true)] := by
  rw [knO, List.range_succ, List.map_append] <;> rfl
theorem W_in {y : Int} (h : 0 ≤ y ∧ y ≤ 100000) : IntKind.wrap .i64 y = y := wrap_i64 h.1 (by omega)
theorem nmS_ok (i : Nat) : nameB (nmS i) = true := by
  match i with
  | 0 => decide +kernel
  | 1 => decide +kernel
  | i + 2 => show nameB ⟨#[115, 50]⟩ = true; decide +kernel
theorem nmS_ne {i j : Nat} (h : i ≠ j) (hi : i < 3) (hj : j < 3) : (nmS i == nmS j) = false := by
  match i, j, hi, hj with
  | 0, 0, _, _ => exact absurd rfl h
  | 0, 1, _, _ => decide +kernel
  | 0, 2, _, _ => decide +kernel
  | 1, 0, _, _ => decide +kernel
  | 1, 1, _, _ => exact absurd rfl h
  | 1, 2, _, _ => decide +kernel
  | 2, 0, _, _ => decide +kernel
  | 2, 1, _, _ => decide +kernel
  | 2, 2, _, _ => exact absurd rfl h
  | i + 3, _, h, _ => exact absurd h (by omega)
  | _, j + 3, _, h => exact absurd h (by omega)
theorem nmS_cat {i : Nat} (h : i < 3) : cat ⟨#[115]⟩ (txS i) = nmS i := by
  match i, h with
  | 0, _ => decide +kernel
  | 1, _ => decide +kernel
  | 2, _ => decide +kernel
  | i + 3, h => exact absurd h (by omega)
theorem txS_sz (i : Nat) : (txS i).size = 1 := by
  match i with
  | 0 => rfl
  | 1 => rfl
  | i + 2 => rfl
theorem se_atom {nm : Nat → ByteArray} {D : Nat → Int} {v : Int} {m : Nat} : ∀ c ∈ seC nm D v m, atom c = true := fun c hc => by
  obtain ⟨j, _, hj⟩ := List.mem_flatMap.1 hc
  simp only [List.mem_cons, List.not_mem_nil, or_false] at hj
  rcases hj with rfl | rfl | rfl | rfl | rfl <;> rfl
theorem sh_atom {D : Nat → Int} {s m : Nat} : ∀ c ∈ shC D s m, atom c = true := fun c hc => by
  obtain ⟨j, _, hj⟩ := List.mem_flatMap.1 hc
  simp only [List.mem_cons, List.not_mem_nil, or_false] at hj
  rcases hj with rfl | rfl | rfl | rfl <;> rfl
theorem pr_atom {a d : Int} {m : Nat} : ∀ c ∈ prC a d m, atom c = true := fun c hc => by
  obtain ⟨r, hr, hj⟩ := List.mem_flatten.1 hc
  rw [List.eq_of_mem_replicate hr] at hj
  simp only [List.mem_cons, List.not_mem_nil, or_false] at hj
  rcases hj with rfl | rfl <;> rfl
theorem sh_tail {D : Nat → Int} {N : Nat} (h : 0 < N) : ((shC D 0 N).drop 4).take ((N - 1) * 4) = shC D 1 (N - 1) := by
  obtain ⟨k, rfl⟩ : ∃ k, N = k + 1 := ⟨N - 1, by omega⟩
  have e : shC D 0 (k + 1) = [.int .i64 (D (0 + 0)), .int .i64 1, .int .i64 0, .int .i64 0] ++ shC D 1 k := by
    rw [shC, List.range_succ_eq_map, List.flatMap_cons, List.flatMap_map, shC]
    congr 1
    refine congrArg (fun f => (List.range k).flatMap f) (funext fun j => ?_)
    show [Value.int .i64 (D (0 + (j + 1))), _, _, _] = _
    rw [show 0 + (j + 1) = 1 + j by omega]
  rw [e, show k + 1 - 1 = k by omega]
  show (shC D 1 k).take (k * 4) = _
  rw [← sh_len D 1 k, List.take_length]
theorem pr_tail {a d : Int} {N : Nat} (h : 0 < N) : ((prC a d N).drop 2).take ((N - 1) * 2) = prC a d (N - 1) := by
  obtain ⟨k, rfl⟩ : ∃ k, N = k + 1 := ⟨N - 1, by omega⟩
  have e : prC a d (k + 1) = [.int .i64 a, .int .i64 d] ++ prC a d k := by
    rw [prC, List.replicate_succ, List.flatten_cons, ← prC]
  rw [e, show k + 1 - 1 = k by omega]
  show (prC a d k).take (k * 2) = _
  rw [← pr_len a d k, List.take_length]
theorem prices : ∀ k : Nat, k < 256 → prOk (lowN (k : Nat) 10) (lowD (k : Nat) 10) := by
  unfold prOk
  decide +kernel
theorem price {pr : Int} (h : 0 ≤ pr ∧ pr ≤ 255) : prOk (lowN pr 10) (lowD pr 10) := by
  obtain ⟨k, rfl⟩ : ∃ k : Nat, pr = k := ⟨pr.toNat, by omega⟩
  exact prices k (by omega)
theorem anT_no {D : Nat → Int} {s i : Nat} : ∀ {k : Nat}, (∀ j, j < k → ¬ D (s + j) ≤ D i) → anT D s i k = false
  | 0, _ => rfl
  | k + 1, h => by
    rw [anT, anT_no fun j hj => h j (by omega), Bool.false_or]
    exact decide_eq_false (h k (by omega))
theorem up_all {D : Nat → Int} {N : Nat} (h : ∀ j, j + 1 < N → D j ≤ D (j + 1)) : ∀ {k i : Nat}, i + k < N → D i ≤ D (i + k)
  | 0, i, _ => Int.le_refl _
  | k + 1, i, hk => Int.le_trans (up_all h (k := k) (by omega)) (h (i + k) (by omega))
theorem sec_is {l : Ls} {n i : Nat} (h : okLt l n) (hi : i < n) : secIs (l.N i) (l.K i) (ints (l.zs i)) (acs (l.ks i)) :=
  ⟨l.zs i, l.ks i, rfl, rfl, h i hi⟩
theorem altB_one {D : Nat → Int} {N : Nat} (h : N = 1) : altB D N = true := by rw [altB, decide_eq_true h, Bool.true_or]
theorem altB_no {D : Nat → Int} {N : Nat} (h : N ≠ 1) : altB D N = decide (D 0 < D 1) := by rw [altB, decide_eq_false h, Bool.false_or]
section
variable {l : Ls} {n : Nat} {x : Int} {O : Nat → Nat} {oc : List Value} {N : Nat}
namespace Jr
theorem at_ (h : Jr l n x O oc N) {j : Nat} (hj : j < n) : oc[0 + j * 1]? = some (.int .i64 (O (0 + j * 1) : Int)) := by
  rw [h.oc, show 0 + j * 1 = j by omega]; exact oI_at hj
theorem no (h : Jr l n x O oc N) {j : Nat} {k : Int} (hj : j < n) (e : (O j : Int) = k) : allI (knO O j) ∧ hasI k (knO O j) = false :=
  ⟨knO_all O j, hasI_no fun p hp => by
    obtain ⟨t, ht, rfl⟩ := List.mem_map.1 hp
    have := h.inj t j (List.mem_range.1 ht) hj
    show (O t : Int) ≠ k
    omega⟩
theorem w (h : Jr l n x O oc N) : IntKind.wrap .i64 x = x := W_in ⟨h.x0, by have := h.x1; omega⟩
theorem rkI (h : Jr l n x O oc N) {H : Heap} (hH : H = owG l n) : rkIs l n x O oc n 0 (IntKind.wrap .i64 x) H :=
  ⟨⟨rfl, rfl, h.w, hH⟩, h.ht, h.n3, h.rk, h.res, h.oc⟩
theorem rcI (h : Jr l n x O oc N) {i : Nat} (hi : i < n) : rcIs l x i (l.N i) (l.K i) (l.nm i) (l.K i : Int) (IntKind.wrap .i64 x) (ints (l.zs i)) (acs (l.ks i)) :=
  ⟨⟨rfl, rfl, rfl, rfl, rfl, h.w⟩, h.ok i hi, rfl, h.sc i hi, h.x0, by have := h.x1; omega⟩
theorem late (h : Jr l n x O oc N) {j : Nat} (hj : j < n) (he : eJ l x O j ≠ 0) : N ≤ j := by
  rcases Nat.lt_or_ge j N with h1 | h1
  · exact absurd (h.e0 j h1) he
  · exact h1
theorem soon (h : Jr l n x O oc N) {j : Nat} (hj : j < n) (h1 : (eJ l x O j == 7) = false) (h2 : (eJ l x O j == 16) = false) : eJ l x O j = 0 ∧ j < N := by
  have he : eJ l x O j = 0 := by
    rcases e_vals l x (O j) with e | e | e
    · exact e
    · exact absurd (show eJ l x O j = 7 from e) (ne_of_beq_false h1)
    · exact absurd (show eJ l x O j = 16 from e) (ne_of_beq_false h2)
  refine ⟨he, ?_⟩
  rcases Nat.lt_or_ge j N with h3 | h3
  · exact h3
  · exact absurd he (h.e1 j h3 hj)
theorem O3 (h : Jr l n x O oc N) {j : Nat} (hj : j < n) : O j < 3 := by have := h.lt j hj; have := h.n3; omega
theorem nm (h : Jr l n x O oc N) {j : Nat} (hj : j < n) : cat ⟨#[115]⟩ (txS (O j)) = nmJ O j := nmS_cat (h.O3 hj)
theorem of0 (h : Jr l n x O oc N) : OfOk (nmJ O) (dJ l x O) 4 N 0 N where
  n := by have := h.n3; have := h.Nn; omega
  k := by have := h.n3; have := h.Nn; omega
  name i _ := nmS_ok (O i)
  diff i j h1 h2 := nmS_ne (Ne.symm (h.inj j i h1 (by have := h.Nn; omega))) (h.O3 (by have := h.Nn; omega)) (h.O3 (by have := h.Nn; omega))
  d := h.d
  ds k hk := by rw [Nat.zero_add]; exact h.d k hk
  up k hk := by rw [Nat.zero_add]; exact h.up k hk
  v := by decide
theorem of1 (h : Jr l n x O oc N) : OfOk (nmJ O) (dJ l x O) 4 N 1 (N - 1) where
  n := by have := h.n3; have := h.Nn; omega
  k := by have := h.n3; have := h.Nn; omega
  name i _ := nmS_ok (O i)
  diff i j h1 h2 := nmS_ne (Ne.symm (h.inj j i h1 (by have := h.Nn; omega))) (h.O3 (by have := h.Nn; omega)) (h.O3 (by have := h.Nn; omega))
  d := h.d
  ds k hk := h.d (1 + k) (by omega)
  up k hk := h.up (1 + k) (by omega)
  v := by decide
theorem an0 (h : Jr l n x O oc N) {i : Nat} (hi : i < N) : anT (dJ l x O) 0 i N = true := anT_lt ⟨i, hi, by rw [Nat.zero_add]; exact Int.le_refl _⟩
theorem an1 (h : Jr l n x O oc N) {i : Nat} (h1 : 1 ≤ i) (hi : i < N) : anT (dJ l x O) 1 i (N - 1) = true := anT_lt ⟨i - 1, by omega, by rw [show 1 + (i - 1) = i by omega]; exact Int.le_refl _⟩
theorem lt0 (h : Jr l n x O oc N) : ltIs (dJ l x O) 0 N N false := fun i hi => by rw [h.an0 hi] <;> rfl
theorem lt1 (h : Jr l n x O oc N) : ltIs (dJ l x O) 1 N (N - 1) (altB (dJ l x O) N) := fun i hi => by
  rcases (by omega : i = 0 ∨ 1 ≤ i) with rfl | h1
  · rw [decide_eq_true rfl, Bool.and_true]
    rcases (by omega : N = 1 ∨ 1 < N) with h1 | h1
    · rw [altB_one h1, h1] <;> rfl
    · rw [altB_no (by omega)]
      by_cases hd : dJ l x O 0 < dJ l x O 1
      · rw [decide_eq_true hd]
        refine anT_no fun j hj => ?_
        have := up_all h.up (k := j) (i := 1) (by omega)
        omega
      · rw [decide_eq_false hd]
        exact anT_lt ⟨0, by omega, by show dJ l x O 1 ≤ dJ l x O 0; omega⟩
  · rw [h.an1 h1 hi, decide_eq_false (by omega), Bool.and_false] <;> rfl
theorem bd0 (h : Jr l n x O oc N) {a d : Int} (hp : prOk a d) : decide (4 * (N : Int) ≤ bdV (dJ l x O) 0 N N 4 (coP a d)) = true :=
  decide_eq_true (bd_ge (by decide) hp.2.2.2 rfl (by have := h.n3; have := h.Nn; omega) fun i _ hi => h.an0 hi)
theorem bd1 (h : Jr l n x O oc N) {a d : Int} (hp : prOk a d) (h0 : 0 < N) : decide (4 * ((N - 1 : Nat) : Int) ≤ bdV (dJ l x O) 1 N (N - 1) 4 (coP a d)) = true :=
  decide_eq_true (bd_ge (by decide) hp.2.2.2 (by omega) (by have := h.n3; have := h.Nn; omega) fun i h1 hi => h.an1 h1 hi)
theorem seIs (h : Jr l n x O oc N) {m : Nat} (hm : m ≤ N) : (seC (nmJ O) (dJ l x O) 4 m).length = m * 5 ∧ (∀ v ∈ seC (nmJ O) (dJ l x O) 4 m, atom v = true) ∧ m * 48 ≤ 140737488355328 ∧ m ≤ 9223372036854775807 :=
  ⟨se_len _ _ _ _, se_atom, by have := h.n3; have := h.Nn; omega, by have := h.n3; have := h.Nn; omega⟩
theorem shIs (h : Jr l n x O oc N) {m : Nat} (hm : m ≤ N) : (shC (dJ l x O) 0 m).length = m * 4 ∧ (∀ v ∈ shC (dJ l x O) 0 m, atom v = true) ∧ m * 32 ≤ 140737488355328 ∧ m ≤ 9223372036854775807 :=
  ⟨sh_len _ _ _, sh_atom, by have := h.n3; have := h.Nn; omega, by have := h.n3; have := h.Nn; omega⟩
end Jr
end
end
end Qq
end
section
/- The law: 1 sections. -/
open Go Go.Vm Go.Proofs Sp
namespace Qq
noncomputable section
set_option maxRecDepth 100000 in
theorem lw1_ok {l : Ls} {x pr : Int} {O : Nat → Nat} {oc : List Value} {N c : Nat} (h : Jr l 1 x O oc N) (hp : 0 ≤ pr ∧ pr ≤ 255) (hj : jsRes true 1 c (lsG l 1)) : SmallRes Tryz.prog 3 [.slice (some ⟨0, 0, none⟩) 1 c, .int .u16 x, .int .u8 pr] (lsG l 1) (.bool true) (lsG l 1) := by
  refine fnP_res hm c0_ok (hs := hsJ l 1 x pr O oc N c 999) ?_
  rw [lw1_t]
  have nN := h.Nn
  have x1 := h.x1
  have wp : IntKind.wrap .i64 pr = pr := W_in (by omega)
  have hpo := price hp
  refine ⟨⟨hj⟩, ⟨decide_eq_false (by omega)⟩, ⟨⟨sec_is h.ht (by decide)⟩, (0 : Nat), ⟨rfl⟩, ?_, by first | trivial | rfl⟩, fun _ _ => ?_⟩
  · repeat (first | exact trivial | refine ⟨by first | trivial | rfl | (rw [decide_eq_false (by omega)]) | (rw [decide_eq_true (by omega)]) | (rw [ho]) | (rw [dJ, hoN]) | (rw [eJ, hoN]), ?_⟩)
  refine ⟨⟨h.rkI rfl⟩, ⟨rfl⟩, ⟨trivial⟩, ⟨⟨(0 : Nat), ⟨Nat.zero_le _⟩, ?_, by rw [mJ_in (Nat.zero_le N)] <;> rfl⟩, fun s hs => br_of (fun hd => ?_) (fun hd => ?_)⟩, fun _ _ => ?_⟩
  · repeat (first | exact trivial | refine ⟨by first | trivial | rfl | (rw [decide_eq_false (by omega)]) | (rw [decide_eq_true (by omega)]) | (rw [ho]) | (rw [dJ, hoN]) | (rw [eJ, hoN]), ?_⟩)
  · have hd : s < 1 := by have := of_decide_eq_true hd; omega
    rw [show (0 : Nat) + Int.toNat (s : Int) * 1 = s by omega]
    have ea := h.at_ hd
    rw [show 0 + s * 1 = s by omega] at ea
    have ol := h.lt s hd
    refine ⟨⟨by omega, by omega⟩, ⟨ea⟩, ?_⟩
    have ho : (O s : Int) = 0 := by omega
    refine ⟨⟨ho⟩, ?_⟩
    have hoN : O s = 0 := by omega
    have hn := h.no hd ho
    refine ⟨⟨hn⟩, ⟨hn⟩, s, ⟨⟨sec_is h.ht (by decide)⟩, ⟨h.rcI (by decide)⟩, s, ⟨hd⟩, ?_, ?_⟩, fun _ _ => ?_⟩
    · repeat (first | exact trivial | refine ⟨by first | trivial | rfl | (rw [decide_eq_false (by omega)]) | (rw [decide_eq_true (by omega)]) | (rw [ho]) | (rw [dJ, hoN]) | (rw [eJ, hoN]), ?_⟩)
    · rw [knO_succ, ho]
    refine br_of (fun h7 => ?_) (fun h7 => br_of (fun h16 => ?_) (fun h16 => ?_))
    · have hl : N ≤ s := h.late hd (by intro e; rw [e] at h7; cases h7)
      rw [mJ_out hl]
      refine ⟨s + 1, ⟨by omega⟩, ⟨by omega⟩, ?_, by rw [mJ_out (show N ≤ s + 1 by omega)]⟩
      rw [up1 hd (by decide)]
      repeat (first | exact trivial | refine ⟨by first | trivial | rfl | (rw [decide_eq_false (by omega)]) | (rw [decide_eq_true (by omega)]) | (rw [ho]) | (rw [dJ, hoN]) | (rw [eJ, hoN]), ?_⟩)
    · have hl : N ≤ s := h.late hd (by intro e; rw [e] at h16; cases h16)
      rw [mJ_out hl]
      refine ⟨s + 1, ⟨by omega⟩, ⟨by omega⟩, ?_, by rw [mJ_out (show N ≤ s + 1 by omega)]⟩
      rw [up1 hd (by decide)]
      repeat (first | exact trivial | refine ⟨by first | trivial | rfl | (rw [decide_eq_false (by omega)]) | (rw [decide_eq_true (by omega)]) | (rw [ho]) | (rw [dJ, hoN]) | (rw [eJ, hoN]), ?_⟩)
    · obtain ⟨he, hN⟩ := h.soon hd h7 h16
      refine ⟨s, ⟨⟨by rw [he] <;> rfl⟩, br_of (fun hx => absurd (of_decide_eq_true hx) (by omega)) (fun _ => ⟨s, ⟨hd, hN⟩, ?_, by rw [mJ_in (show s ≤ N by omega)]⟩)⟩, fun _ _ => br_of (fun h0 => ?_) (fun h0 => ?_)⟩
      · repeat (first | exact trivial | refine ⟨by first | trivial | rfl | (rw [decide_eq_false (by omega)]) | (rw [decide_eq_true (by omega)]) | (rw [ho]) | (rw [dJ, hoN]) | (rw [eJ, hoN]), ?_⟩)
      · have h0 : 0 < s := by have := of_decide_eq_true h0; omega
        have e1 : IntKind.wrap .i64 ((s : Int) - 1) = ((s - 1 : Nat) : Int) := by rw [W_in (by omega)]; omega
        have e2 : 0 + (s - 1) * 4 + 0 = (s - 1) * 4 := by omega
        have e3 : (s - 1) * 4 / 4 = s - 1 := by omega
        have o3 := h.O3 hd
        rw [e1, Int.toNat_natCast, Int.toNat_natCast, e2, e3, txS_sz, h.nm hd]
        refine ⟨⟨by omega, by omega⟩, ⟨(sh_at (by omega)).1⟩, ⟨decide_eq_false ?_⟩, ⟨by omega, by omega⟩, ⟨by decide⟩, ⟨se_len _ _ _ _, by omega, by omega⟩, ⟨sh_len _ _ _, by omega, by omega⟩, s + 1, ⟨by omega⟩, ⟨by omega⟩, ?_, ?_⟩
        · have := h.up (s - 1) (by omega)
          rw [show s - 1 + 1 = s by omega] at this
          show ¬ dJ l x O s < dJ l x O (0 + (s - 1))
          rw [Nat.zero_add]; omega
        · rw [up1 hd (by decide)]
          repeat (first | exact trivial | refine ⟨by first | trivial | rfl | (rw [decide_eq_false (by omega)]) | (rw [decide_eq_true (by omega)]) | (rw [ho]) | (rw [dJ, hoN]) | (rw [eJ, hoN]), ?_⟩)
        · rw [mJ_in (show s + 1 ≤ N by omega), se_succ, sh_succ, show (0 : Nat) + s = s from Nat.zero_add s] <;> rfl
      · have o3 := h.O3 hd
        rw [Int.toNat_natCast, txS_sz, h.nm hd]
        refine ⟨⟨by omega, by omega⟩, ⟨by decide⟩, ⟨se_len _ _ _ _, by omega, by omega⟩, ⟨sh_len _ _ _, by omega, by omega⟩, s + 1, ⟨by omega⟩, ⟨by omega⟩, ?_, ?_⟩
        · rw [up1 hd (by decide)]
          repeat (first | exact trivial | refine ⟨by first | trivial | rfl | (rw [decide_eq_false (by omega)]) | (rw [decide_eq_true (by omega)]) | (rw [ho]) | (rw [dJ, hoN]) | (rw [eJ, hoN]), ?_⟩)
        · rw [mJ_in (show s + 1 ≤ N by omega), se_succ, sh_succ, show (0 : Nat) + s = s from Nat.zero_add s] <;> rfl
  · have hd : 1 ≤ s := by have := of_decide_eq_false hd; omega
    refine ⟨(0 : Nat), ⟨rfl⟩, ?_, by rw [mJ_out (show N ≤ s by omega)]⟩
    repeat (first | exact trivial | refine ⟨by first | trivial | rfl | (rw [decide_eq_false (by omega)]) | (rw [decide_eq_true (by omega)]) | (rw [ho]) | (rw [dJ, hoN]) | (rw [eJ, hoN]), ?_⟩)
  · refine br_of (fun _ => ⟨⟨trivial⟩, rfl, rfl⟩) (fun h0 => ?_)
    have h0 : 0 < N := by have := ne_of_beq_false h0; omega
    have s1 := h.seIs (Nat.le_refl N)
    have s2 := h.shIs (Nat.le_refl N)
    have w1 : IntKind.wrap .i64 ((N : Int) - 1) = ((N - 1 : Nat) : Int) := by rw [W_in (by omega)]; omega
    have f0 : ltN false N = 0 := if_neg (by simp)
    simp only [Int.toNat_natCast, w1, f0]
    refine ⟨⟨s1⟩, ⟨s2⟩, ⟨⟨⟨rfl, rfl⟩, by omega, by decide, h0, by omega⟩, h.of0⟩, ⟨s1⟩, ⟨s2⟩, ⟨⟨rfl, rfl⟩, h.of0, h.lt0, h0⟩, ⟨by rw [W_in (by omega)]; exact bne_self_eq_false _⟩, ⟨rfl⟩, ⟨⟨s1⟩, ⟨by decide, by omega, by omega⟩, ⟨by rw [sh_len]; omega, sh_atom, by omega, by omega⟩, (0 : Nat), ⟨rfl, h0⟩, ?_, by rw [sh_tail h0] <;> rfl⟩, fun _ _ => ?_⟩
    · repeat (first | exact trivial | refine ⟨by first | trivial | rfl | (rw [decide_eq_false (by omega)]) | (rw [decide_eq_true (by omega)]) | (rw [ho]) | (rw [dJ, hoN]) | (rw [eJ, hoN]), ?_⟩)
    refine ⟨⟨⟨⟨rfl, rfl⟩, by omega, by decide, h0, by omega⟩, h.of1⟩, ⟨⟨rfl, rfl⟩, h.of1, h.lt1, h0⟩, br_of (fun h1 => ?_) (fun h1 => ?_)⟩
    · have h1 : N = 1 := by have := eq_of_beq h1; omega
      have f1 : ltN true N = 1 := if_pos ⟨rfl, h0⟩
      have f2 : ltC true N = [.int .i64 0, .string sDay] := if_pos ⟨rfl, h0⟩
      rw [altB_one h1, f1, f2]
      refine ⟨⟨by rw [W_in (by omega)]; exact bne_self_eq_false _⟩, ⟨rfl⟩, ⟨rfl⟩, ⟨by decide⟩, ⟨rfl⟩, ⟨trivial, by first | trivial | rfl⟩, ?_⟩
      refine ⟨⟨(0 : Nat), ⟨Nat.zero_le _, h0⟩, ?_, by first | trivial | rfl⟩, fun k hk => br_of (fun hd => ?_) (fun hd => ?_)⟩
      · repeat (first | exact trivial | refine ⟨by first | trivial | rfl | (rw [decide_eq_false (by omega)]) | (rw [decide_eq_true (by omega)]) | (rw [ho]) | (rw [dJ, hoN]) | (rw [eJ, hoN]), ?_⟩)
      · have hd := lt_of_dec hd
        rw [wp]
        refine ⟨⟨by decide, by decide, by omega, by omega⟩, ⟨pr_len _ _ _, by omega, by omega⟩, k + 1, ⟨hd, h0⟩, ⟨by omega⟩, ?_, by rw [pr_succ] <;> rfl⟩
        rw [up1 hd (by omega)]
        repeat (first | exact trivial | refine ⟨by first | trivial | rfl | (rw [decide_eq_false (by omega)]) | (rw [decide_eq_true (by omega)]) | (rw [ho]) | (rw [dJ, hoN]) | (rw [eJ, hoN]), ?_⟩)
      · obtain rfl : N = k := by have := ge_of_dec hd; have := hk.out.1; omega
        exact ⟨⟨pr_len _ _ _, pr_atom, by omega, by omega⟩, ⟨⟨⟨rfl, rfl⟩, rfl, rfl⟩, h.of0, hpo⟩, ⟨by decide, by omega, by omega⟩, ⟨by rw [pr_len]; omega, pr_atom, by omega, by omega⟩, ⟨⟨⟨rfl, rfl⟩, pr_tail h0, rfl⟩, h.of1, hpo⟩, ⟨h.bd0 hpo⟩, ⟨h.bd1 hpo h0⟩, ⟨trivial⟩, by first | trivial | rfl, by first | trivial | rfl⟩
    · have h1 : N ≠ 1 := by have := ne_of_beq_false h1; omega
      have hb : altB (dJ l x O) N = decide (dAt (dJ l x O) 0 < dAt (dJ l x O) 1) := altB_no h1
      refine ⟨⟨by decide, by omega⟩, ⟨(sh_at (i := 1) (by omega)).1⟩, ⟨by decide, by omega⟩, ⟨(sh_at (i := 0) (by omega)).1⟩, ⟨by rw [W_in (by omega)]; exact bne_self_eq_false _⟩, ?_⟩
      rw [hb]
      cases decide (dAt (dJ l x O) 0 < dAt (dJ l x O) 1) with
      | false =>
        rw [f0]
        refine ⟨⟨rfl⟩, ⟨rfl⟩, br_of (fun hd => by cases hd) (fun _ => ?_)⟩
        refine ⟨⟨(0 : Nat), ⟨Nat.zero_le _, h0⟩, ?_, by first | trivial | rfl⟩, fun k hk => br_of (fun hd => ?_) (fun hd => ?_)⟩
        · repeat (first | exact trivial | refine ⟨by first | trivial | rfl | (rw [decide_eq_false (by omega)]) | (rw [decide_eq_true (by omega)]) | (rw [ho]) | (rw [dJ, hoN]) | (rw [eJ, hoN]), ?_⟩)
        · have hd := lt_of_dec hd
          rw [wp]
          refine ⟨⟨by decide, by decide, by omega, by omega⟩, ⟨pr_len _ _ _, by omega, by omega⟩, k + 1, ⟨hd, h0⟩, ⟨by omega⟩, ?_, by rw [pr_succ] <;> rfl⟩
          rw [up1 hd (by omega)]
          repeat (first | exact trivial | refine ⟨by first | trivial | rfl | (rw [decide_eq_false (by omega)]) | (rw [decide_eq_true (by omega)]) | (rw [ho]) | (rw [dJ, hoN]) | (rw [eJ, hoN]), ?_⟩)
        · obtain rfl : N = k := by have := ge_of_dec hd; have := hk.out.1; omega
          exact ⟨⟨pr_len _ _ _, pr_atom, by omega, by omega⟩, ⟨⟨⟨rfl, rfl⟩, rfl, rfl⟩, h.of0, hpo⟩, ⟨by decide, by omega, by omega⟩, ⟨by rw [pr_len]; omega, pr_atom, by omega, by omega⟩, ⟨⟨⟨rfl, rfl⟩, pr_tail h0, rfl⟩, h.of1, hpo⟩, ⟨h.bd0 hpo⟩, ⟨h.bd1 hpo h0⟩, ⟨trivial⟩, by first | trivial | rfl, by first | trivial | rfl⟩
      | true =>
        have f1 : ltN true N = 1 := if_pos ⟨rfl, h0⟩
        have f2 : ltC true N = [.int .i64 0, .string sDay] := if_pos ⟨rfl, h0⟩
        rw [f1, f2]
        refine ⟨⟨rfl⟩, ⟨rfl⟩, br_of (fun _ => ⟨⟨by decide⟩, ⟨rfl⟩, ⟨trivial, by first | trivial | rfl⟩, ?_⟩) (fun hd => by cases hd)⟩
        refine ⟨⟨(0 : Nat), ⟨Nat.zero_le _, h0⟩, ?_, by first | trivial | rfl⟩, fun k hk => br_of (fun hd => ?_) (fun hd => ?_)⟩
        · repeat (first | exact trivial | refine ⟨by first | trivial | rfl | (rw [decide_eq_false (by omega)]) | (rw [decide_eq_true (by omega)]) | (rw [ho]) | (rw [dJ, hoN]) | (rw [eJ, hoN]), ?_⟩)
        · have hd := lt_of_dec hd
          rw [wp]
          refine ⟨⟨by decide, by decide, by omega, by omega⟩, ⟨pr_len _ _ _, by omega, by omega⟩, k + 1, ⟨hd, h0⟩, ⟨by omega⟩, ?_, by rw [pr_succ] <;> rfl⟩
          rw [up1 hd (by omega)]
          repeat (first | exact trivial | refine ⟨by first | trivial | rfl | (rw [decide_eq_false (by omega)]) | (rw [decide_eq_true (by omega)]) | (rw [ho]) | (rw [dJ, hoN]) | (rw [eJ, hoN]), ?_⟩)
        · obtain rfl : N = k := by have := ge_of_dec hd; have := hk.out.1; omega
          exact ⟨⟨pr_len _ _ _, pr_atom, by omega, by omega⟩, ⟨⟨⟨rfl, rfl⟩, rfl, rfl⟩, h.of0, hpo⟩, ⟨by decide, by omega, by omega⟩, ⟨by rw [pr_len]; omega, pr_atom, by omega, by omega⟩, ⟨⟨⟨rfl, rfl⟩, pr_tail h0, rfl⟩, h.of1, hpo⟩, ⟨h.bd0 hpo⟩, ⟨h.bd1 hpo h0⟩, ⟨trivial⟩, by first | trivial | rfl, by first | trivial | rfl⟩
end
end Qq
end
section
/- The law, walked: 2 sections. -/
open Go Go.Vm Go.Proofs Sp
namespace Qq
noncomputable section
set_option maxRecDepth 100000 in
theorem lw2_t (l : Ls) (x : Int) (pr : Int) (O : Nat → Nat) (oc : List Value) (N : Nat) (c : Nat) (K : Value → Heap → Prop) :
    (fnP Tryz.prog c0 (hsJ l (2 : Nat) x pr O oc N c (999 : Nat)) (3 : FuncId) [Value.slice (some { block := (0 : Nat), off := (0 : Nat) }) (2 : Nat) c, Value.int IntKind.u16 x, Value.int IntKind.u8 pr] (lsG l (2 : Nat)) K) =
    (let q0 : Prop := Value.pointer (some ⟨5, 0, none⟩) = Value.pointer (some ⟨5, 0, none⟩); let q1 : Prop := Value.slice (some ⟨0, 0, none⟩) 2 c = Value.slice (some ⟨0, 0, none⟩) 2 c; let q2 : Prop := Value.slice (some ⟨9, 0, none⟩) 2 0 = Value.slice (some ⟨9, 0, none⟩) 2 0; let q3 : Prop := Value.int .u8 pr = Value.int .u8 pr; let q4 : Prop := Value.pointer (some ⟨8, 0, none⟩) = Value.pointer (some ⟨8, 0, none⟩); let q5 : Prop := Value.pointer (some ⟨9, 0, none⟩) = Value.pointer (some ⟨9, 0, none⟩); let q6 : Prop := Value.map (some 8) = Value.map (some 8); let q7 : Prop := Value.int .u16 x = Value.int .u16 x; let q8 : Prop := Value.pointer (some ⟨12, 0, none⟩) = Value.pointer (some ⟨12, 0, none⟩); let q9 : Prop := Value.int .i64 2 = Value.int .i64 2; let q10 : Prop := Value.int .i64 (N : Int) = Value.int .i64 (N : Int); let z11 : AObj := AObj.row (seC (nmJ O) (dJ l x O) (4 : Int) N) 5 true true true; let z12 : AObj := AObj.row [Value.slice (some ⟨6, 0, none⟩) N 0, Value.slice (some ⟨7, 0, none⟩) N 0] 0 false true false; let z13 : AObj := AObj.row [Value.slice (some ⟨10, 0, none⟩) N 0, Value.slice (some ⟨11, 0, none⟩) (N - 1) 0] 0 false true false; let z14 : AObj := AObj.row [Value.int .i64 ((4 : Int) * (N : Int)), Value.int .i64 0] 0 false true true; let z15 : AObj := AObj.row [Value.int .i64 ((4 : Int) * (↑(N - 1) : Int)), Value.int .i64 0] 0 false true true; (Is (jsRes true 2 c (lsG l 2 ++ noH)) ∧ Is (decide ((10000 : Int) < x) = false) ∧ (Is (secIs (Ls.N l 0) (Ls.K l 0) (ints (Ls.zs l 0)) (acs (Ls.ks l 0))) ∧ Is (secIs (Ls.N l 1) (Ls.K l 1) (ints (Ls.zs l 1)) (acs (Ls.ks l 1))) ∧ ∃ (s : Nat), Is (s = 0) ∧ (q1 ∧ q7 ∧ q3 ∧ Value.slice (some ⟨5, 0, none⟩) 2 0 = Value.slice (some ⟨5, 0, none⟩) 2 0 ∧ True) ∧ lsG l 2 ++ some (AObj.row [Value.string (Ls.nm l 0), Value.slice (some ⟨6, 0, none⟩) (Ls.N l 0) 0, Value.slice (some ⟨7, 0, none⟩) (Ls.K l 0) 0, Value.string (Ls.nm l 1), Value.slice (some ⟨8, 0, none⟩) (Ls.N l 1) 0, Value.slice (some ⟨9, 0, none⟩) (Ls.K l 1) 0] 3 true true (List.all [Value.string (Ls.nm l 0), Value.slice (some { block := List.length (lsG l 2 ++ some (AObj.row [Value.string (Ls.nm l 0), Value.slice (some ⟨1, 0, none⟩) (Ls.N l 0) 18446744073709551616, Value.slice (some ⟨2, 0, none⟩) (Ls.K l 0) 18446744073709551616] 0 false true false) :: noH) + 0, off := 0 }) (Ls.N l 0) 0, Value.slice (some { block := List.length (lsG l 2 ++ some (AObj.row [Value.string (Ls.nm l 0), Value.slice (some ⟨1, 0, none⟩) (Ls.N l 0) 18446744073709551616, Value.slice (some ⟨2, 0, none⟩) (Ls.K l 0) 18446744073709551616] 0 false true false) :: noH) + 1, off := 0 }) (Ls.K l 0) 0] atom && List.all [Value.string (Ls.nm l 1), Value.slice (some { block := List.length (lsG l 2 ++ some (AObj.row [Value.string (Ls.nm l 0), Value.slice (some ⟨6, 0, none⟩) (Ls.N l 0) 0, Value.slice (some ⟨7, 0, none⟩) (Ls.K l 0) 0] 3 true true false) :: some (AObj.row (ints (Ls.zs l 0)) 2 true true true) :: some (AObj.row (acs (Ls.ks l 0)) 2 true true true) :: some (AObj.row [Value.string (Ls.nm l 1), Value.slice (some ⟨3, 0, none⟩) (Ls.N l 1) 18446744073709551616, Value.slice (some ⟨4, 0, none⟩) (Ls.K l 1) 18446744073709551616] 0 false true false) :: noH) + 0, off := 0 }) (Ls.N l 1) 0, Value.slice (some { block := List.length (lsG l 2 ++ some (AObj.row [Value.string (Ls.nm l 0), Value.slice (some ⟨6, 0, none⟩) (Ls.N l 0) 0, Value.slice (some ⟨7, 0, none⟩) (Ls.K l 0) 0] 3 true true false) :: some (AObj.row (ints (Ls.zs l 0)) 2 true true true) :: some (AObj.row (acs (Ls.ks l 0)) 2 true true true) :: some (AObj.row [Value.string (Ls.nm l 1), Value.slice (some ⟨3, 0, none⟩) (Ls.N l 1) 18446744073709551616, Value.slice (some ⟨4, 0, none⟩) (Ls.K l 1) 18446744073709551616] 0 false true false) :: noH) + 1, off := 0 }) (Ls.K l 1) 0] atom)) :: some (AObj.row (ints (Ls.zs l 0)) 2 true true true) :: some (AObj.row (acs (Ls.ks l 0)) 2 true true true) :: some (AObj.row (ints (Ls.zs l 1)) 2 true true true) :: some (AObj.row (acs (Ls.ks l 1)) 2 true true true) :: noH = lsG l 2 ++ some (AObj.row [Value.string (Ls.nm l 0), Value.slice (some ⟨6, 0, none⟩) (Ls.N l 0) 0, Value.slice (some ⟨7, 0, none⟩) (Ls.K l 0) 0, Value.string (Ls.nm l 1), Value.slice (some ⟨8, 0, none⟩) (Ls.N l 1) 0, Value.slice (some ⟨9, 0, none⟩) (Ls.K l 1) 0] 3 true true false) :: some (AObj.row (ints (Ls.zs l 0)) 2 true true true) :: some (AObj.row (acs (Ls.ks l 0)) 2 true true true) :: some (AObj.row (ints (Ls.zs l 1)) 2 true true true) :: some (AObj.row (acs (Ls.ks l 1)) 2 true true true) :: noH) ∧ ∀ (s : Nat), Is (s = 0) → Is (rkIs l 2 x O oc 2 0 (IntKind.wrap .i64 x) (some (AObj.row [Value.string (Ls.nm l 0), Value.slice (some ⟨1, 0, none⟩) (Ls.N l 0) 0, Value.slice (some ⟨2, 0, none⟩) (Ls.K l 0) 0, Value.string (Ls.nm l 1), Value.slice (some ⟨3, 0, none⟩) (Ls.N l 1) 0, Value.slice (some ⟨4, 0, none⟩) (Ls.K l 1) 0] 3 true true false) :: some (AObj.row (ints (Ls.zs l 0)) 2 true true true) :: some (AObj.row (acs (Ls.ks l 0)) 2 true true true) :: some (AObj.row (ints (Ls.zs l 1)) 2 true true true) :: some (AObj.row (acs (Ls.ks l 1)) 2 true true true) :: noH)) ∧ Is (false = false) ∧ Is True ∧ ((∃ (s : Nat), Is (s ≤ 2) ∧ (q1 ∧ q7 ∧ q3 ∧ q0 ∧ q6 ∧ Value.bool false = Value.bool (decide (N < s)) ∧ q2 ∧ q9 ∧ Value.int .i64 0 = Value.int .i64 (s : Int) ∧ True) ∧ lsG l 2 ++ some (AObj.row [Value.slice (some ⟨6, 0, none⟩) 0 0, Value.slice (some ⟨7, 0, none⟩) 0 0] 0 false true false) :: some (AObj.row [] 5 true true true) :: some (AObj.row [] 4 true true true) :: some (AObj.imap []) :: some (AObj.row oc 1 true true true) :: noH = lsG l 2 ++ some (AObj.row [Value.slice (some ⟨6, 0, none⟩) (mJ N s) 0, Value.slice (some ⟨7, 0, none⟩) (mJ N s) 0] 0 false true false) :: some (AObj.row (seC (nmJ O) (dJ l x O) (4 : Int) (mJ N s)) 5 true true true) :: some (AObj.row (shC (dJ l x O) 0 (mJ N s)) 4 true true true) :: some (AObj.imap (knO O s)) :: some (AObj.row oc 1 true true true) :: noH) ∧ ∀ (s : Nat), Is (s ≤ 2) → br (decide ((s : Int) < (2 : Int))) (Is ((0 : Int) ≤ (s : Int) ∧ (s : Int) < (2 : Int)) ∧ Is (oc[0 + Int.toNat (s : Int) * 1]? = some (Value.int .i64 (↑(O (0 + Int.toNat (s : Int) * 1)) : Int))) ∧ br ((↑(O (0 + Int.toNat (s : Int) * 1)) : Int) == (0 : Int)) (Is (allI (knO O s) ∧ hasI (0 : Int) (knO O s) = false) ∧ Is (allI (knO O s) ∧ hasI (0 : Int) (knO O s) = false) ∧ ∃ (p : Nat), (Is (secIs (Ls.N l 0) (Ls.K l 0) (ints (Ls.zs l 0)) (acs (Ls.ks l 0))) ∧ Is (rcIs l x 0 (Ls.N l 0) (Ls.K l 0) (Ls.nm l 0) (↑(Ls.K l 0) : Int) (IntKind.wrap .i64 x) (ints (Ls.zs l 0)) (acs (Ls.ks l 0))) ∧ ∃ (s_1 : Nat), Is (p < 2) ∧ (q1 ∧ q7 ∧ q3 ∧ q0 ∧ q6 ∧ Value.bool (decide (N < s)) = Value.bool (decide (N < p)) ∧ Value.int .i64 0 = Value.int .i64 (↑(O p) : Int) ∧ Value.int .i64 (dyI l x 0) = Value.int .i64 (dJ l x O p) ∧ Value.int .i64 (eI l x 0) = Value.int .i64 (eJ l x O p) ∧ q2 ∧ q9 ∧ Value.int .i64 (s : Int) = Value.int .i64 (p : Int) ∧ True) ∧ lsG l 2 ++ some (AObj.row [Value.slice (some ⟨6, 0, none⟩) (mJ N s) 0, Value.slice (some ⟨7, 0, none⟩) (mJ N s) 0] 0 false true false) :: some (AObj.row (seC (nmJ O) (dJ l x O) (4 : Int) (mJ N s)) 5 true true true) :: some (AObj.row (shC (dJ l x O) 0 (mJ N s)) 4 true true true) :: some (AObj.imap (knO O s ++ [((0 : Int), Value.bool true)])) :: some (AObj.row oc 1 true true true) :: noH = lsG l 2 ++ some (AObj.row [Value.slice (some ⟨6, 0, none⟩) (mJ N p) 0, Value.slice (some ⟨7, 0, none⟩) (mJ N p) 0] 0 false true false) :: some (AObj.row (seC (nmJ O) (dJ l x O) (4 : Int) (mJ N p)) 5 true true true) :: some (AObj.row (shC (dJ l x O) 0 (mJ N p)) 4 true true true) :: some (AObj.imap (knO O (p + 1))) :: some (AObj.row oc 1 true true true) :: noH) ∧ ∀ (s_1 : Nat), Is (p < 2) → br (eJ l x O p == (7 : Int)) (∃ (s' : Nat), Is (s' ≤ 2) ∧ Is (2 - s' < 2 - s) ∧ (q1 ∧ q7 ∧ q3 ∧ q0 ∧ q6 ∧ Value.bool true = Value.bool (decide (N < s')) ∧ q2 ∧ q9 ∧ Value.int .i64 (IntKind.wrap .i64 ((p : Int) + (1 : Int))) = Value.int .i64 (↑s' : Int) ∧ True) ∧ lsG l 2 ++ some (AObj.row [Value.slice (some ⟨6, 0, none⟩) (mJ N p) 0, Value.slice (some ⟨7, 0, none⟩) (mJ N p) 0] 0 false true false) :: some (AObj.row (seC (nmJ O) (dJ l x O) (4 : Int) (mJ N p)) 5 true true true) :: some (AObj.row (shC (dJ l x O) 0 (mJ N p)) 4 true true true) :: some (AObj.imap (knO O (p + 1))) :: some (AObj.row oc 1 true true true) :: noH = lsG l 2 ++ some (AObj.row [Value.slice (some ⟨6, 0, none⟩) (mJ N s') 0, Value.slice (some ⟨7, 0, none⟩) (mJ N s') 0] 0 false true false) :: some (AObj.row (seC (nmJ O) (dJ l x O) (4 : Int) (mJ N s')) 5 true true true) :: some (AObj.row (shC (dJ l x O) 0 (mJ N s')) 4 true true true) :: some (AObj.imap (knO O s')) :: some (AObj.row oc 1 true true true) :: noH) (br (eJ l x O p == (16 : Int)) (∃ (s' : Nat), Is (s' ≤ 2) ∧ Is (2 - s' < 2 - s) ∧ (q1 ∧ q7 ∧ q3 ∧ q0 ∧ q6 ∧ Value.bool true = Value.bool (decide (N < s')) ∧ q2 ∧ q9 ∧ Value.int .i64 (IntKind.wrap .i64 ((p : Int) + (1 : Int))) = Value.int .i64 (↑s' : Int) ∧ True) ∧ lsG l 2 ++ some (AObj.row [Value.slice (some ⟨6, 0, none⟩) (mJ N p) 0, Value.slice (some ⟨7, 0, none⟩) (mJ N p) 0] 0 false true false) :: some (AObj.row (seC (nmJ O) (dJ l x O) (4 : Int) (mJ N p)) 5 true true true) :: some (AObj.row (shC (dJ l x O) 0 (mJ N p)) 4 true true true) :: some (AObj.imap (knO O (p + 1))) :: some (AObj.row oc 1 true true true) :: noH = lsG l 2 ++ some (AObj.row [Value.slice (some ⟨6, 0, none⟩) (mJ N s') 0, Value.slice (some ⟨7, 0, none⟩) (mJ N s') 0] 0 false true false) :: some (AObj.row (seC (nmJ O) (dJ l x O) (4 : Int) (mJ N s')) 5 true true true) :: some (AObj.row (shC (dJ l x O) 0 (mJ N s')) 4 true true true) :: some (AObj.imap (knO O s')) :: some (AObj.row oc 1 true true true) :: noH) (∃ (p_1 : Nat), (Is ((eJ l x O p != (0 : Int)) = false) ∧ br (decide (N < p)) (K (Value.bool false) (lsG l 2 ++ noH)) (∃ (s : Nat), Is (p_1 < 2 ∧ p_1 < N) ∧ (q1 ∧ q7 ∧ q3 ∧ q0 ∧ q6 ∧ Value.bool (decide (N < p)) = Value.bool false ∧ Value.int .i64 (↑(O p) : Int) = Value.int .i64 (↑(O p_1) : Int) ∧ Value.int .i64 (dJ l x O p) = Value.int .i64 (dJ l x O p_1) ∧ q2 ∧ q9 ∧ Value.int .i64 (p : Int) = Value.int .i64 (p_1 : Int) ∧ True) ∧ lsG l 2 ++ some (AObj.row [Value.slice (some ⟨6, 0, none⟩) (mJ N p) 0, Value.slice (some ⟨7, 0, none⟩) (mJ N p) 0] 0 false true false) :: some (AObj.row (seC (nmJ O) (dJ l x O) (4 : Int) (mJ N p)) 5 true true true) :: some (AObj.row (shC (dJ l x O) 0 (mJ N p)) 4 true true true) :: some (AObj.imap (knO O (p + 1))) :: some (AObj.row oc 1 true true true) :: noH = lsG l 2 ++ some (AObj.row [Value.slice (some ⟨6, 0, none⟩) p_1 0, Value.slice (some ⟨7, 0, none⟩) p_1 0] 0 false true false) :: some (AObj.row (seC (nmJ O) (dJ l x O) (4 : Int) p_1) 5 true true true) :: some (AObj.row (shC (dJ l x O) 0 p_1) 4 true true true) :: some (AObj.imap (knO O (p_1 + 1))) :: some (AObj.row oc 1 true true true) :: noH)) ∧ ∀ (s_2 : Nat), Is (p_1 < 2 ∧ p_1 < N) → br (decide ((0 : Int) < (p_1 : Int))) (Is ((0 : Int) ≤ IntKind.wrap .i64 ((p_1 : Int) - (1 : Int)) ∧ IntKind.wrap .i64 ((p_1 : Int) - (1 : Int)) < (p_1 : Int)) ∧ Is ((shC (dJ l x O) 0 p_1)[0 + Int.toNat (IntKind.wrap .i64 ((p_1 : Int) - (1 : Int))) * 4 + 0]? = some (Value.int .i64 (dAt (dJ l x O) (0 + (0 + Int.toNat (IntKind.wrap .i64 ((p_1 : Int) - (1 : Int))) * 4 + 0) / 4)))) ∧ Is (decide (dJ l x O p_1 < dAt (dJ l x O) (0 + (0 + Int.toNat (IntKind.wrap .i64 ((p_1 : Int) - (1 : Int))) * 4 + 0) / 4)) = false) ∧ Is ((0 : Int) ≤ (↑(O p_1) : Int) ∧ (↑(O p_1) : Int) ≤ (2 : Int)) ∧ Is (1 + ByteArray.size (txS (Int.toNat (↑(O p_1) : Int))) ≤ 9223372036854775807) ∧ Is (List.length (seC (nmJ O) (dJ l x O) (4 : Int) p_1) = p_1 * 5 ∧ (p_1 + 1) * 48 ≤ 140737488355328 ∧ p_1 + 1 ≤ 9223372036854775807) ∧ Is (List.length (shC (dJ l x O) 0 p_1) = p_1 * 4 ∧ (p_1 + 1) * 32 ≤ 140737488355328 ∧ p_1 + 1 ≤ 9223372036854775807) ∧ ∃ (s' : Nat), Is (s' ≤ 2) ∧ Is (2 - s' < 2 - s) ∧ (q1 ∧ q7 ∧ q3 ∧ q0 ∧ q6 ∧ Value.bool false = Value.bool (decide (N < s')) ∧ q2 ∧ q9 ∧ Value.int .i64 (IntKind.wrap .i64 ((p_1 : Int) + (1 : Int))) = Value.int .i64 (↑s' : Int) ∧ True) ∧ lsG l 2 ++ some (AObj.row [Value.slice (some ⟨6, 0, none⟩) (p_1 + 1) 0, Value.slice (some ⟨7, 0, none⟩) (p_1 + 1) 0] 0 false true false) :: some (AObj.row (seC (nmJ O) (dJ l x O) (4 : Int) p_1 ++ [Value.string (cat { data := #[(115 : UInt8)] } (txS (Int.toNat (↑(O p_1) : Int)))), Value.int .i64 (dJ l x O p_1), Value.int .i64 1, Value.int .i64 0, Value.int .i64 4]) 5 true true true) :: some (AObj.row (shC (dJ l x O) 0 p_1 ++ [Value.int .i64 (dJ l x O p_1), Value.int .i64 1, Value.int .i64 0, Value.int .i64 0]) 4 true true true) :: some (AObj.imap (knO O (p_1 + 1))) :: some (AObj.row oc 1 true true true) :: noH = lsG l 2 ++ some (AObj.row [Value.slice (some ⟨6, 0, none⟩) (mJ N s') 0, Value.slice (some ⟨7, 0, none⟩) (mJ N s') 0] 0 false true false) :: some (AObj.row (seC (nmJ O) (dJ l x O) (4 : Int) (mJ N s')) 5 true true true) :: some (AObj.row (shC (dJ l x O) 0 (mJ N s')) 4 true true true) :: some (AObj.imap (knO O s')) :: some (AObj.row oc 1 true true true) :: noH) (Is ((0 : Int) ≤ (↑(O p_1) : Int) ∧ (↑(O p_1) : Int) ≤ (2 : Int)) ∧ Is (1 + ByteArray.size (txS (Int.toNat (↑(O p_1) : Int))) ≤ 9223372036854775807) ∧ Is (List.length (seC (nmJ O) (dJ l x O) (4 : Int) p_1) = p_1 * 5 ∧ (p_1 + 1) * 48 ≤ 140737488355328 ∧ p_1 + 1 ≤ 9223372036854775807) ∧ Is (List.length (shC (dJ l x O) 0 p_1) = p_1 * 4 ∧ (p_1 + 1) * 32 ≤ 140737488355328 ∧ p_1 + 1 ≤ 9223372036854775807) ∧ ∃ (s' : Nat), Is (s' ≤ 2) ∧ Is (2 - s' < 2 - s) ∧ (q1 ∧ q7 ∧ q3 ∧ q0 ∧ q6 ∧ Value.bool false = Value.bool (decide (N < s')) ∧ q2 ∧ q9 ∧ Value.int .i64 (IntKind.wrap .i64 ((p_1 : Int) + (1 : Int))) = Value.int .i64 (↑s' : Int) ∧ True) ∧ lsG l 2 ++ some (AObj.row [Value.slice (some ⟨6, 0, none⟩) (p_1 + 1) 0, Value.slice (some ⟨7, 0, none⟩) (p_1 + 1) 0] 0 false true false) :: some (AObj.row (seC (nmJ O) (dJ l x O) (4 : Int) p_1 ++ [Value.string (cat { data := #[(115 : UInt8)] } (txS (Int.toNat (↑(O p_1) : Int)))), Value.int .i64 (dJ l x O p_1), Value.int .i64 1, Value.int .i64 0, Value.int .i64 4]) 5 true true true) :: some (AObj.row (shC (dJ l x O) 0 p_1 ++ [Value.int .i64 (dJ l x O p_1), Value.int .i64 1, Value.int .i64 0, Value.int .i64 0]) 4 true true true) :: some (AObj.imap (knO O (p_1 + 1))) :: some (AObj.row oc 1 true true true) :: noH = lsG l 2 ++ some (AObj.row [Value.slice (some ⟨6, 0, none⟩) (mJ N s') 0, Value.slice (some ⟨7, 0, none⟩) (mJ N s') 0] 0 false true false) :: some (AObj.row (seC (nmJ O) (dJ l x O) (4 : Int) (mJ N s')) 5 true true true) :: some (AObj.row (shC (dJ l x O) 0 (mJ N s')) 4 true true true) :: some (AObj.imap (knO O s')) :: some (AObj.row oc 1 true true true) :: noH)))) (Is ((↑(O (0 + Int.toNat (s : Int) * 1)) : Int) = (1 : Int)) ∧ Is (allI (knO O s) ∧ hasI (1 : Int) (knO O s) = false) ∧ Is (allI (knO O s) ∧ hasI (1 : Int) (knO O s) = false) ∧ ∃ (p : Nat), (Is (secIs (Ls.N l 1) (Ls.K l 1) (ints (Ls.zs l 1)) (acs (Ls.ks l 1))) ∧ Is (rcIs l x 1 (Ls.N l 1) (Ls.K l 1) (Ls.nm l 1) (↑(Ls.K l 1) : Int) (IntKind.wrap .i64 x) (ints (Ls.zs l 1)) (acs (Ls.ks l 1))) ∧ ∃ (s_1 : Nat), Is (p < 2) ∧ (q1 ∧ q7 ∧ q3 ∧ q0 ∧ q6 ∧ Value.bool (decide (N < s)) = Value.bool (decide (N < p)) ∧ Value.int .i64 1 = Value.int .i64 (↑(O p) : Int) ∧ Value.int .i64 (dyI l x 1) = Value.int .i64 (dJ l x O p) ∧ Value.int .i64 (eI l x 1) = Value.int .i64 (eJ l x O p) ∧ q2 ∧ q9 ∧ Value.int .i64 (s : Int) = Value.int .i64 (p : Int) ∧ True) ∧ lsG l 2 ++ some (AObj.row [Value.slice (some ⟨6, 0, none⟩) (mJ N s) 0, Value.slice (some ⟨7, 0, none⟩) (mJ N s) 0] 0 false true false) :: some (AObj.row (seC (nmJ O) (dJ l x O) (4 : Int) (mJ N s)) 5 true true true) :: some (AObj.row (shC (dJ l x O) 0 (mJ N s)) 4 true true true) :: some (AObj.imap (knO O s ++ [((1 : Int), Value.bool true)])) :: some (AObj.row oc 1 true true true) :: noH = lsG l 2 ++ some (AObj.row [Value.slice (some ⟨6, 0, none⟩) (mJ N p) 0, Value.slice (some ⟨7, 0, none⟩) (mJ N p) 0] 0 false true false) :: some (AObj.row (seC (nmJ O) (dJ l x O) (4 : Int) (mJ N p)) 5 true true true) :: some (AObj.row (shC (dJ l x O) 0 (mJ N p)) 4 true true true) :: some (AObj.imap (knO O (p + 1))) :: some (AObj.row oc 1 true true true) :: noH) ∧ ∀ (s_1 : Nat), Is (p < 2) → br (eJ l x O p == (7 : Int)) (∃ (s' : Nat), Is (s' ≤ 2) ∧ Is (2 - s' < 2 - s) ∧ (q1 ∧ q7 ∧ q3 ∧ q0 ∧ q6 ∧ Value.bool true = Value.bool (decide (N < s')) ∧ q2 ∧ q9 ∧ Value.int .i64 (IntKind.wrap .i64 ((p : Int) + (1 : Int))) = Value.int .i64 (↑s' : Int) ∧ True) ∧ lsG l 2 ++ some (AObj.row [Value.slice (some ⟨6, 0, none⟩) (mJ N p) 0, Value.slice (some ⟨7, 0, none⟩) (mJ N p) 0] 0 false true false) :: some (AObj.row (seC (nmJ O) (dJ l x O) (4 : Int) (mJ N p)) 5 true true true) :: some (AObj.row (shC (dJ l x O) 0 (mJ N p)) 4 true true true) :: some (AObj.imap (knO O (p + 1))) :: some (AObj.row oc 1 true true true) :: noH = lsG l 2 ++ some (AObj.row [Value.slice (some ⟨6, 0, none⟩) (mJ N s') 0, Value.slice (some ⟨7, 0, none⟩) (mJ N s') 0] 0 false true false) :: some (AObj.row (seC (nmJ O) (dJ l x O) (4 : Int) (mJ N s')) 5 true true true) :: some (AObj.row (shC (dJ l x O) 0 (mJ N s')) 4 true true true) :: some (AObj.imap (knO O s')) :: some (AObj.row oc 1 true true true) :: noH) (br (eJ l x O p == (16 : Int)) (∃ (s' : Nat), Is (s' ≤ 2) ∧ Is (2 - s' < 2 - s) ∧ (q1 ∧ q7 ∧ q3 ∧ q0 ∧ q6 ∧ Value.bool true = Value.bool (decide (N < s')) ∧ q2 ∧ q9 ∧ Value.int .i64 (IntKind.wrap .i64 ((p : Int) + (1 : Int))) = Value.int .i64 (↑s' : Int) ∧ True) ∧ lsG l 2 ++ some (AObj.row [Value.slice (some ⟨6, 0, none⟩) (mJ N p) 0, Value.slice (some ⟨7, 0, none⟩) (mJ N p) 0] 0 false true false) :: some (AObj.row (seC (nmJ O) (dJ l x O) (4 : Int) (mJ N p)) 5 true true true) :: some (AObj.row (shC (dJ l x O) 0 (mJ N p)) 4 true true true) :: some (AObj.imap (knO O (p + 1))) :: some (AObj.row oc 1 true true true) :: noH = lsG l 2 ++ some (AObj.row [Value.slice (some ⟨6, 0, none⟩) (mJ N s') 0, Value.slice (some ⟨7, 0, none⟩) (mJ N s') 0] 0 false true false) :: some (AObj.row (seC (nmJ O) (dJ l x O) (4 : Int) (mJ N s')) 5 true true true) :: some (AObj.row (shC (dJ l x O) 0 (mJ N s')) 4 true true true) :: some (AObj.imap (knO O s')) :: some (AObj.row oc 1 true true true) :: noH) (∃ (p_1 : Nat), (Is ((eJ l x O p != (0 : Int)) = false) ∧ br (decide (N < p)) (K (Value.bool false) (lsG l 2 ++ noH)) (∃ (s : Nat), Is (p_1 < 2 ∧ p_1 < N) ∧ (q1 ∧ q7 ∧ q3 ∧ q0 ∧ q6 ∧ Value.bool (decide (N < p)) = Value.bool false ∧ Value.int .i64 (↑(O p) : Int) = Value.int .i64 (↑(O p_1) : Int) ∧ Value.int .i64 (dJ l x O p) = Value.int .i64 (dJ l x O p_1) ∧ q2 ∧ q9 ∧ Value.int .i64 (p : Int) = Value.int .i64 (p_1 : Int) ∧ True) ∧ lsG l 2 ++ some (AObj.row [Value.slice (some ⟨6, 0, none⟩) (mJ N p) 0, Value.slice (some ⟨7, 0, none⟩) (mJ N p) 0] 0 false true false) :: some (AObj.row (seC (nmJ O) (dJ l x O) (4 : Int) (mJ N p)) 5 true true true) :: some (AObj.row (shC (dJ l x O) 0 (mJ N p)) 4 true true true) :: some (AObj.imap (knO O (p + 1))) :: some (AObj.row oc 1 true true true) :: noH = lsG l 2 ++ some (AObj.row [Value.slice (some ⟨6, 0, none⟩) p_1 0, Value.slice (some ⟨7, 0, none⟩) p_1 0] 0 false true false) :: some (AObj.row (seC (nmJ O) (dJ l x O) (4 : Int) p_1) 5 true true true) :: some (AObj.row (shC (dJ l x O) 0 p_1) 4 true true true) :: some (AObj.imap (knO O (p_1 + 1))) :: some (AObj.row oc 1 true true true) :: noH)) ∧ ∀ (s_2 : Nat), Is (p_1 < 2 ∧ p_1 < N) → br (decide ((0 : Int) < (p_1 : Int))) (Is ((0 : Int) ≤ IntKind.wrap .i64 ((p_1 : Int) - (1 : Int)) ∧ IntKind.wrap .i64 ((p_1 : Int) - (1 : Int)) < (p_1 : Int)) ∧ Is ((shC (dJ l x O) 0 p_1)[0 + Int.toNat (IntKind.wrap .i64 ((p_1 : Int) - (1 : Int))) * 4 + 0]? = some (Value.int .i64 (dAt (dJ l x O) (0 + (0 + Int.toNat (IntKind.wrap .i64 ((p_1 : Int) - (1 : Int))) * 4 + 0) / 4)))) ∧ Is (decide (dJ l x O p_1 < dAt (dJ l x O) (0 + (0 + Int.toNat (IntKind.wrap .i64 ((p_1 : Int) - (1 : Int))) * 4 + 0) / 4)) = false) ∧ Is ((0 : Int) ≤ (↑(O p_1) : Int) ∧ (↑(O p_1) : Int) ≤ (2 : Int)) ∧ Is (1 + ByteArray.size (txS (Int.toNat (↑(O p_1) : Int))) ≤ 9223372036854775807) ∧ Is (List.length (seC (nmJ O) (dJ l x O) (4 : Int) p_1) = p_1 * 5 ∧ (p_1 + 1) * 48 ≤ 140737488355328 ∧ p_1 + 1 ≤ 9223372036854775807) ∧ Is (List.length (shC (dJ l x O) 0 p_1) = p_1 * 4 ∧ (p_1 + 1) * 32 ≤ 140737488355328 ∧ p_1 + 1 ≤ 9223372036854775807) ∧ ∃ (s' : Nat), Is (s' ≤ 2) ∧ Is (2 - s' < 2 - s) ∧ (q1 ∧ q7 ∧ q3 ∧ q0 ∧ q6 ∧ Value.bool false = Value.bool (decide (N < s')) ∧ q2 ∧ q9 ∧ Value.int .i64 (IntKind.wrap .i64 ((p_1 : Int) + (1 : Int))) = Value.int .i64 (↑s' : Int) ∧ True) ∧ lsG l 2 ++ some (AObj.row [Value.slice (some ⟨6, 0, none⟩) (p_1 + 1) 0, Value.slice (some ⟨7, 0, none⟩) (p_1 + 1) 0] 0 false true false) :: some (AObj.row (seC (nmJ O) (dJ l x O) (4 : Int) p_1 ++ [Value.string (cat { data := #[(115 : UInt8)] } (txS (Int.toNat (↑(O p_1) : Int)))), Value.int .i64 (dJ l x O p_1), Value.int .i64 1, Value.int .i64 0, Value.int .i64 4]) 5 true true true) :: some (AObj.row (shC (dJ l x O) 0 p_1 ++ [Value.int .i64 (dJ l x O p_1), Value.int .i64 1, Value.int .i64 0, Value.int .i64 0]) 4 true true true) :: some (AObj.imap (knO O (p_1 + 1))) :: some (AObj.row oc 1 true true true) :: noH = lsG l 2 ++ some (AObj.row [Value.slice (some ⟨6, 0, none⟩) (mJ N s') 0, Value.slice (some ⟨7, 0, none⟩) (mJ N s') 0] 0 false true false) :: some (AObj.row (seC (nmJ O) (dJ l x O) (4 : Int) (mJ N s')) 5 true true true) :: some (AObj.row (shC (dJ l x O) 0 (mJ N s')) 4 true true true) :: some (AObj.imap (knO O s')) :: some (AObj.row oc 1 true true true) :: noH) (Is ((0 : Int) ≤ (↑(O p_1) : Int) ∧ (↑(O p_1) : Int) ≤ (2 : Int)) ∧ Is (1 + ByteArray.size (txS (Int.toNat (↑(O p_1) : Int))) ≤ 9223372036854775807) ∧ Is (List.length (seC (nmJ O) (dJ l x O) (4 : Int) p_1) = p_1 * 5 ∧ (p_1 + 1) * 48 ≤ 140737488355328 ∧ p_1 + 1 ≤ 9223372036854775807) ∧ Is (List.length (shC (dJ l x O) 0 p_1) = p_1 * 4 ∧ (p_1 + 1) * 32 ≤ 140737488355328 ∧ p_1 + 1 ≤ 9223372036854775807) ∧ ∃ (s' : Nat), Is (s' ≤ 2) ∧ Is (2 - s' < 2 - s) ∧ (q1 ∧ q7 ∧ q3 ∧ q0 ∧ q6 ∧ Value.bool false = Value.bool (decide (N < s')) ∧ q2 ∧ q9 ∧ Value.int .i64 (IntKind.wrap .i64 ((p_1 : Int) + (1 : Int))) = Value.int .i64 (↑s' : Int) ∧ True) ∧ lsG l 2 ++ some (AObj.row [Value.slice (some ⟨6, 0, none⟩) (p_1 + 1) 0, Value.slice (some ⟨7, 0, none⟩) (p_1 + 1) 0] 0 false true false) :: some (AObj.row (seC (nmJ O) (dJ l x O) (4 : Int) p_1 ++ [Value.string (cat { data := #[(115 : UInt8)] } (txS (Int.toNat (↑(O p_1) : Int)))), Value.int .i64 (dJ l x O p_1), Value.int .i64 1, Value.int .i64 0, Value.int .i64 4]) 5 true true true) :: some (AObj.row (shC (dJ l x O) 0 p_1 ++ [Value.int .i64 (dJ l x O p_1), Value.int .i64 1, Value.int .i64 0, Value.int .i64 0]) 4 true true true) :: some (AObj.imap (knO O (p_1 + 1))) :: some (AObj.row oc 1 true true true) :: noH = lsG l 2 ++ some (AObj.row [Value.slice (some ⟨6, 0, none⟩) (mJ N s') 0, Value.slice (some ⟨7, 0, none⟩) (mJ N s') 0] 0 false true false) :: some (AObj.row (seC (nmJ O) (dJ l x O) (4 : Int) (mJ N s')) 5 true true true) :: some (AObj.row (shC (dJ l x O) 0 (mJ N s')) 4 true true true) :: some (AObj.imap (knO O s')) :: some (AObj.row oc 1 true true true) :: noH))))) (∃ (s_1 : Nat), Is (s_1 = 0) ∧ (q3 ∧ q0 ∧ True) ∧ lsG l 2 ++ some (AObj.row [Value.slice (some ⟨6, 0, none⟩) (mJ N s) 0, Value.slice (some ⟨7, 0, none⟩) (mJ N s) 0] 0 false true false) :: some (AObj.row (seC (nmJ O) (dJ l x O) (4 : Int) (mJ N s)) 5 true true true) :: some (AObj.row (shC (dJ l x O) 0 (mJ N s)) 4 true true true) :: noH = lsG l 2 ++ some z12 :: some z11 :: some (AObj.row (shC (dJ l x O) 0 N) 4 true true true) :: noH)) ∧ ∀ (s : Nat), Is (s = 0) → br ((N : Int) == (0 : Int)) (Is True ∧ K (Value.bool true) (lsG l 2 ++ noH)) (Is (List.length (seC (nmJ O) (dJ l x O) (4 : Int) N) = N * 5 ∧ (∀ (v : Value), v ∈ seC (nmJ O) (dJ l x O) (4 : Int) N → atom v = true) ∧ N * 48 ≤ 140737488355328 ∧ N ≤ 9223372036854775807) ∧ Is (List.length (shC (dJ l x O) 0 N) = N * 4 ∧ (∀ (v : Value), v ∈ shC (dJ l x O) 0 N → atom v = true) ∧ N * 32 ≤ 140737488355328 ∧ N ≤ 9223372036854775807) ∧ Is (ofs (nmJ O) (dJ l x O) (4 : Int) N 0 N (seC (nmJ O) (dJ l x O) (4 : Int) N) (shC (dJ l x O) 0 N) ∧ OfOk (nmJ O) (dJ l x O) (4 : Int) N 0 N) ∧ Is (List.length (seC (nmJ O) (dJ l x O) (4 : Int) N) = N * 5 ∧ (∀ (v : Value), v ∈ seC (nmJ O) (dJ l x O) (4 : Int) N → atom v = true) ∧ N * 48 ≤ 140737488355328 ∧ N ≤ 9223372036854775807) ∧ Is (List.length (shC (dJ l x O) 0 N) = N * 4 ∧ (∀ (v : Value), v ∈ shC (dJ l x O) 0 N → atom v = true) ∧ N * 32 ≤ 140737488355328 ∧ N ≤ 9223372036854775807) ∧ Is (isOf (nmJ O) (dJ l x O) (4 : Int) N 0 N (seC (nmJ O) (dJ l x O) (4 : Int) N) (shC (dJ l x O) 0 N) ∧ OfOk (nmJ O) (dJ l x O) (4 : Int) N 0 N ∧ ltIs (dJ l x O) 0 N N false ∧ 0 < N) ∧ Is (((4 : Int) * (N : Int) != IntKind.wrap .i64 ((4 : Int) * (N : Int))) = false) ∧ Is (decide ((0 : Int) < (↑(ltN false N) : Int)) = false) ∧ (Is (List.length (seC (nmJ O) (dJ l x O) (4 : Int) N) = N * 5 ∧ (∀ (v : Value), v ∈ seC (nmJ O) (dJ l x O) (4 : Int) N → atom v = true) ∧ N * 48 ≤ 140737488355328 ∧ N ≤ 9223372036854775807) ∧ Is ((0 : Int) ≤ (1 : Int) ∧ (1 : Int) ≤ (N : Int) ∧ (N : Int) ≤ (N : Int)) ∧ Is (4 + (Int.toNat (N : Int) - 1) * 4 ≤ List.length (shC (dJ l x O) 0 N) ∧ (∀ (v : Value), v ∈ shC (dJ l x O) 0 N → atom v = true) ∧ (Int.toNat (N : Int) - 1) * 32 ≤ 140737488355328 ∧ Int.toNat (N : Int) - 1 ≤ 9223372036854775807) ∧ ∃ (s : Nat), Is (s = 0 ∧ 0 < N) ∧ (q3 ∧ q0 ∧ q4 ∧ q5 ∧ True) ∧ lsG l 2 ++ some z12 :: some z11 :: some (AObj.row (shC (dJ l x O) 0 N) 4 true true true) :: some z14 :: some (AObj.row [Value.slice (some ⟨10, 0, none⟩) N 0, Value.slice (some ⟨11, 0, none⟩) (Int.toNat (N : Int) - 1) 0] 0 false true false) :: some z11 :: some (AObj.row (List.take ((Int.toNat (N : Int) - 1) * 4) (List.drop 4 (shC (dJ l x O) 0 N))) 4 true true true) :: noH = lsG l 2 ++ some z12 :: some z11 :: some (AObj.row (shC (dJ l x O) 0 N) 4 true true true) :: some z14 :: some z13 :: some z11 :: some (AObj.row (shC (dJ l x O) 1 (N - 1)) 4 true true true) :: noH) ∧ ∀ (s : Nat), Is (s = 0 ∧ 0 < N) → Is (ofs (nmJ O) (dJ l x O) (4 : Int) N 1 (N - 1) (seC (nmJ O) (dJ l x O) (4 : Int) N) (shC (dJ l x O) 1 (N - 1)) ∧ OfOk (nmJ O) (dJ l x O) (4 : Int) N 1 (N - 1)) ∧ Is (isOf (nmJ O) (dJ l x O) (4 : Int) N 1 (N - 1) (seC (nmJ O) (dJ l x O) (4 : Int) N) (shC (dJ l x O) 1 (N - 1)) ∧ OfOk (nmJ O) (dJ l x O) (4 : Int) N 1 (N - 1) ∧ ltIs (dJ l x O) 1 N (N - 1) (altB (dJ l x O) N) ∧ 0 < N) ∧ br ((N : Int) == (1 : Int)) (Is (((4 : Int) * (↑(N - 1) : Int) != IntKind.wrap .i64 ((4 : Int) * IntKind.wrap .i64 ((N : Int) - (1 : Int)))) = false) ∧ Is ((!true == ((↑(ltN (altB (dJ l x O) N) N) : Int) == (1 : Int))) = false) ∧ Is (decide ((1 : Int) < (↑(ltN (altB (dJ l x O) N) N) : Int)) = false) ∧ Is ((0 : Int) ≤ (0 : Int) ∧ (0 : Int) < (↑(ltN (altB (dJ l x O) N) N) : Int)) ∧ Is ((if 2 ≤ List.length (ltC (altB (dJ l x O) N) N) then some (Value.agg (List.toArray (List.take 2 (List.drop 0 (ltC (altB (dJ l x O) N) N))))) else none) = some (Value.agg #[Value.int .i64 0, Value.string sDay])) ∧ Is (True ∧ false = false) ∧ (∃ (s : Nat), Is (s ≤ N ∧ 0 < N) ∧ (q3 ∧ q0 ∧ q4 ∧ q5 ∧ q8 ∧ Value.slice (some ⟨13, 0, none⟩) 0 0 = Value.slice (some ⟨13, 0, none⟩) s 0 ∧ q10 ∧ Value.int .i64 0 = Value.int .i64 (s : Int) ∧ True) ∧ lsG l 2 ++ some z12 :: some z11 :: some (AObj.row (shC (dJ l x O) 0 N) 4 true true true) :: some z14 :: some z13 :: some z11 :: some (AObj.row (shC (dJ l x O) 1 (N - 1)) 4 true true true) :: some z15 :: some (AObj.row [] 2 true true true) :: noH = lsG l 2 ++ some z12 :: some z11 :: some (AObj.row (shC (dJ l x O) 0 N) 4 true true true) :: some z14 :: some z13 :: some z11 :: some (AObj.row (shC (dJ l x O) 1 (N - 1)) 4 true true true) :: some z15 :: some (AObj.row (prC (lowN pr (10 : Int)) (lowD pr (10 : Int)) s) 2 true true true) :: noH) ∧ ∀ (s : Nat), Is (s ≤ N ∧ 0 < N) → br (decide ((s : Int) < (N : Int))) (Is ((0 : Int) < (10 : Int) ∧ (10 : Int) < (9223372036854775808 : Int) ∧ (-9223372036854775808 : Int) < IntKind.wrap .i64 pr ∧ IntKind.wrap .i64 pr < (9223372036854775808 : Int)) ∧ Is (List.length (prC (lowN pr (10 : Int)) (lowD pr (10 : Int)) s) = s * 2 ∧ (s + 1) * 16 ≤ 140737488355328 ∧ s + 1 ≤ 9223372036854775807) ∧ ∃ (s' : Nat), Is (s' ≤ N ∧ 0 < N) ∧ Is (N - s' < N - s) ∧ (q3 ∧ q0 ∧ q4 ∧ q5 ∧ q8 ∧ Value.slice (some ⟨13, 0, none⟩) (s + 1) 0 = Value.slice (some ⟨13, 0, none⟩) s' 0 ∧ q10 ∧ Value.int .i64 (IntKind.wrap .i64 ((s : Int) + (1 : Int))) = Value.int .i64 (↑s' : Int) ∧ True) ∧ lsG l 2 ++ some z12 :: some z11 :: some (AObj.row (shC (dJ l x O) 0 N) 4 true true true) :: some z14 :: some z13 :: some z11 :: some (AObj.row (shC (dJ l x O) 1 (N - 1)) 4 true true true) :: some z15 :: some (AObj.row (prC (lowN pr (10 : Int)) (lowD pr (10 : Int)) s ++ [Value.int .i64 (lowN (IntKind.wrap .i64 pr) (10 : Int)), Value.int .i64 (lowD (IntKind.wrap .i64 pr) (10 : Int))]) 2 true true true) :: noH = lsG l 2 ++ some z12 :: some z11 :: some (AObj.row (shC (dJ l x O) 0 N) 4 true true true) :: some z14 :: some z13 :: some z11 :: some (AObj.row (shC (dJ l x O) 1 (N - 1)) 4 true true true) :: some z15 :: some (AObj.row (prC (lowN pr (10 : Int)) (lowD pr (10 : Int)) s') 2 true true true) :: noH) (Is (List.length (prC (lowN pr (10 : Int)) (lowD pr (10 : Int)) s) = s * 2 ∧ (∀ (v : Value), v ∈ prC (lowN pr (10 : Int)) (lowD pr (10 : Int)) s → atom v = true) ∧ s * 16 ≤ 140737488355328 ∧ s ≤ 9223372036854775807) ∧ Is ((isOf (nmJ O) (dJ l x O) (4 : Int) N 0 N (seC (nmJ O) (dJ l x O) (4 : Int) N) (shC (dJ l x O) 0 N) ∧ prC (lowN pr (10 : Int)) (lowD pr (10 : Int)) s = prC (lowN pr (10 : Int)) (lowD pr (10 : Int)) N ∧ s = N) ∧ OfOk (nmJ O) (dJ l x O) (4 : Int) N 0 N ∧ prOk (lowN pr (10 : Int)) (lowD pr (10 : Int))) ∧ Is ((0 : Int) ≤ (1 : Int) ∧ (1 : Int) ≤ (s : Int) ∧ (s : Int) ≤ (s : Int)) ∧ Is (2 + (Int.toNat (s : Int) - 1) * 2 ≤ List.length (prC (lowN pr (10 : Int)) (lowD pr (10 : Int)) s) ∧ (∀ (v : Value), v ∈ prC (lowN pr (10 : Int)) (lowD pr (10 : Int)) s → atom v = true) ∧ (Int.toNat (s : Int) - 1) * 16 ≤ 140737488355328 ∧ Int.toNat (s : Int) - 1 ≤ 9223372036854775807) ∧ Is ((isOf (nmJ O) (dJ l x O) (4 : Int) N 1 (N - 1) (seC (nmJ O) (dJ l x O) (4 : Int) N) (shC (dJ l x O) 1 (N - 1)) ∧ List.take ((Int.toNat (s : Int) - 1) * 2) (List.drop 2 (prC (lowN pr (10 : Int)) (lowD pr (10 : Int)) s)) = prC (lowN pr (10 : Int)) (lowD pr (10 : Int)) (N - 1) ∧ Int.toNat (s : Int) - 1 = N - 1) ∧ OfOk (nmJ O) (dJ l x O) (4 : Int) N 1 (N - 1) ∧ prOk (lowN pr (10 : Int)) (lowD pr (10 : Int))) ∧ Is (decide ((4 : Int) * (N : Int) ≤ bdV (dJ l x O) 0 N N (4 : Int) (coP (lowN pr (10 : Int)) (lowD pr (10 : Int)))) = true) ∧ Is (decide ((4 : Int) * (↑(N - 1) : Int) ≤ bdV (dJ l x O) 1 N (N - 1) (4 : Int) (coP (lowN pr (10 : Int)) (lowD pr (10 : Int)))) = true) ∧ Is True ∧ K (Value.bool true) (lsG l 2 ++ noH))) (Is ((0 : Int) ≤ (1 : Int) ∧ (1 : Int) < (N : Int)) ∧ Is ((shC (dJ l x O) 0 N)[4]? = some (Value.int .i64 (dAt (dJ l x O) 1))) ∧ Is ((0 : Int) ≤ (0 : Int) ∧ (0 : Int) < (N : Int)) ∧ Is ((shC (dJ l x O) 0 N)[0]? = some (Value.int .i64 (dAt (dJ l x O) 0))) ∧ Is (((4 : Int) * (↑(N - 1) : Int) != IntKind.wrap .i64 ((4 : Int) * IntKind.wrap .i64 ((N : Int) - (1 : Int)))) = false) ∧ Is ((!decide (dAt (dJ l x O) 0 < dAt (dJ l x O) 1) == ((↑(ltN (altB (dJ l x O) N) N) : Int) == (1 : Int))) = false) ∧ Is (decide ((1 : Int) < (↑(ltN (altB (dJ l x O) N) N) : Int)) = false) ∧ br (decide (dAt (dJ l x O) 0 < dAt (dJ l x O) 1)) (Is ((0 : Int) ≤ (0 : Int) ∧ (0 : Int) < (↑(ltN (altB (dJ l x O) N) N) : Int)) ∧ Is ((if 2 ≤ List.length (ltC (altB (dJ l x O) N) N) then some (Value.agg (List.toArray (List.take 2 (List.drop 0 (ltC (altB (dJ l x O) N) N))))) else none) = some (Value.agg #[Value.int .i64 0, Value.string sDay])) ∧ Is (True ∧ false = false) ∧ (∃ (s : Nat), Is (s ≤ N ∧ 0 < N) ∧ (q3 ∧ q0 ∧ q4 ∧ q5 ∧ q8 ∧ Value.slice (some ⟨13, 0, none⟩) 0 0 = Value.slice (some ⟨13, 0, none⟩) s 0 ∧ q10 ∧ Value.int .i64 0 = Value.int .i64 (s : Int) ∧ True) ∧ lsG l 2 ++ some z12 :: some z11 :: some (AObj.row (shC (dJ l x O) 0 N) 4 true true true) :: some z14 :: some z13 :: some z11 :: some (AObj.row (shC (dJ l x O) 1 (N - 1)) 4 true true true) :: some z15 :: some (AObj.row [] 2 true true true) :: noH = lsG l 2 ++ some z12 :: some z11 :: some (AObj.row (shC (dJ l x O) 0 N) 4 true true true) :: some z14 :: some z13 :: some z11 :: some (AObj.row (shC (dJ l x O) 1 (N - 1)) 4 true true true) :: some z15 :: some (AObj.row (prC (lowN pr (10 : Int)) (lowD pr (10 : Int)) s) 2 true true true) :: noH) ∧ ∀ (s : Nat), Is (s ≤ N ∧ 0 < N) → br (decide ((s : Int) < (N : Int))) (Is ((0 : Int) < (10 : Int) ∧ (10 : Int) < (9223372036854775808 : Int) ∧ (-9223372036854775808 : Int) < IntKind.wrap .i64 pr ∧ IntKind.wrap .i64 pr < (9223372036854775808 : Int)) ∧ Is (List.length (prC (lowN pr (10 : Int)) (lowD pr (10 : Int)) s) = s * 2 ∧ (s + 1) * 16 ≤ 140737488355328 ∧ s + 1 ≤ 9223372036854775807) ∧ ∃ (s' : Nat), Is (s' ≤ N ∧ 0 < N) ∧ Is (N - s' < N - s) ∧ (q3 ∧ q0 ∧ q4 ∧ q5 ∧ q8 ∧ Value.slice (some ⟨13, 0, none⟩) (s + 1) 0 = Value.slice (some ⟨13, 0, none⟩) s' 0 ∧ q10 ∧ Value.int .i64 (IntKind.wrap .i64 ((s : Int) + (1 : Int))) = Value.int .i64 (↑s' : Int) ∧ True) ∧ lsG l 2 ++ some z12 :: some z11 :: some (AObj.row (shC (dJ l x O) 0 N) 4 true true true) :: some z14 :: some z13 :: some z11 :: some (AObj.row (shC (dJ l x O) 1 (N - 1)) 4 true true true) :: some z15 :: some (AObj.row (prC (lowN pr (10 : Int)) (lowD pr (10 : Int)) s ++ [Value.int .i64 (lowN (IntKind.wrap .i64 pr) (10 : Int)), Value.int .i64 (lowD (IntKind.wrap .i64 pr) (10 : Int))]) 2 true true true) :: noH = lsG l 2 ++ some z12 :: some z11 :: some (AObj.row (shC (dJ l x O) 0 N) 4 true true true) :: some z14 :: some z13 :: some z11 :: some (AObj.row (shC (dJ l x O) 1 (N - 1)) 4 true true true) :: some z15 :: some (AObj.row (prC (lowN pr (10 : Int)) (lowD pr (10 : Int)) s') 2 true true true) :: noH) (Is (List.length (prC (lowN pr (10 : Int)) (lowD pr (10 : Int)) s) = s * 2 ∧ (∀ (v : Value), v ∈ prC (lowN pr (10 : Int)) (lowD pr (10 : Int)) s → atom v = true) ∧ s * 16 ≤ 140737488355328 ∧ s ≤ 9223372036854775807) ∧ Is ((isOf (nmJ O) (dJ l x O) (4 : Int) N 0 N (seC (nmJ O) (dJ l x O) (4 : Int) N) (shC (dJ l x O) 0 N) ∧ prC (lowN pr (10 : Int)) (lowD pr (10 : Int)) s = prC (lowN pr (10 : Int)) (lowD pr (10 : Int)) N ∧ s = N) ∧ OfOk (nmJ O) (dJ l x O) (4 : Int) N 0 N ∧ prOk (lowN pr (10 : Int)) (lowD pr (10 : Int))) ∧ Is ((0 : Int) ≤ (1 : Int) ∧ (1 : Int) ≤ (s : Int) ∧ (s : Int) ≤ (s : Int)) ∧ Is (2 + (Int.toNat (s : Int) - 1) * 2 ≤ List.length (prC (lowN pr (10 : Int)) (lowD pr (10 : Int)) s) ∧ (∀ (v : Value), v ∈ prC (lowN pr (10 : Int)) (lowD pr (10 : Int)) s → atom v = true) ∧ (Int.toNat (s : Int) - 1) * 16 ≤ 140737488355328 ∧ Int.toNat (s : Int) - 1 ≤ 9223372036854775807) ∧ Is ((isOf (nmJ O) (dJ l x O) (4 : Int) N 1 (N - 1) (seC (nmJ O) (dJ l x O) (4 : Int) N) (shC (dJ l x O) 1 (N - 1)) ∧ List.take ((Int.toNat (s : Int) - 1) * 2) (List.drop 2 (prC (lowN pr (10 : Int)) (lowD pr (10 : Int)) s)) = prC (lowN pr (10 : Int)) (lowD pr (10 : Int)) (N - 1) ∧ Int.toNat (s : Int) - 1 = N - 1) ∧ OfOk (nmJ O) (dJ l x O) (4 : Int) N 1 (N - 1) ∧ prOk (lowN pr (10 : Int)) (lowD pr (10 : Int))) ∧ Is (decide ((4 : Int) * (N : Int) ≤ bdV (dJ l x O) 0 N N (4 : Int) (coP (lowN pr (10 : Int)) (lowD pr (10 : Int)))) = true) ∧ Is (decide ((4 : Int) * (↑(N - 1) : Int) ≤ bdV (dJ l x O) 1 N (N - 1) (4 : Int) (coP (lowN pr (10 : Int)) (lowD pr (10 : Int)))) = true) ∧ Is True ∧ K (Value.bool true) (lsG l 2 ++ noH))) ((∃ (s : Nat), Is (s ≤ N ∧ 0 < N) ∧ (q3 ∧ q0 ∧ q4 ∧ q5 ∧ q8 ∧ Value.slice (some ⟨13, 0, none⟩) 0 0 = Value.slice (some ⟨13, 0, none⟩) s 0 ∧ q10 ∧ Value.int .i64 0 = Value.int .i64 (s : Int) ∧ True) ∧ lsG l 2 ++ some z12 :: some z11 :: some (AObj.row (shC (dJ l x O) 0 N) 4 true true true) :: some z14 :: some z13 :: some z11 :: some (AObj.row (shC (dJ l x O) 1 (N - 1)) 4 true true true) :: some z15 :: some (AObj.row [] 2 true true true) :: noH = lsG l 2 ++ some z12 :: some z11 :: some (AObj.row (shC (dJ l x O) 0 N) 4 true true true) :: some z14 :: some z13 :: some z11 :: some (AObj.row (shC (dJ l x O) 1 (N - 1)) 4 true true true) :: some z15 :: some (AObj.row (prC (lowN pr (10 : Int)) (lowD pr (10 : Int)) s) 2 true true true) :: noH) ∧ ∀ (s : Nat), Is (s ≤ N ∧ 0 < N) → br (decide ((s : Int) < (N : Int))) (Is ((0 : Int) < (10 : Int) ∧ (10 : Int) < (9223372036854775808 : Int) ∧ (-9223372036854775808 : Int) < IntKind.wrap .i64 pr ∧ IntKind.wrap .i64 pr < (9223372036854775808 : Int)) ∧ Is (List.length (prC (lowN pr (10 : Int)) (lowD pr (10 : Int)) s) = s * 2 ∧ (s + 1) * 16 ≤ 140737488355328 ∧ s + 1 ≤ 9223372036854775807) ∧ ∃ (s' : Nat), Is (s' ≤ N ∧ 0 < N) ∧ Is (N - s' < N - s) ∧ (q3 ∧ q0 ∧ q4 ∧ q5 ∧ q8 ∧ Value.slice (some ⟨13, 0, none⟩) (s + 1) 0 = Value.slice (some ⟨13, 0, none⟩) s' 0 ∧ q10 ∧ Value.int .i64 (IntKind.wrap .i64 ((s : Int) + (1 : Int))) = Value.int .i64 (↑s' : Int) ∧ True) ∧ lsG l 2 ++ some z12 :: some z11 :: some (AObj.row (shC (dJ l x O) 0 N) 4 true true true) :: some z14 :: some z13 :: some z11 :: some (AObj.row (shC (dJ l x O) 1 (N - 1)) 4 true true true) :: some z15 :: some (AObj.row (prC (lowN pr (10 : Int)) (lowD pr (10 : Int)) s ++ [Value.int .i64 (lowN (IntKind.wrap .i64 pr) (10 : Int)), Value.int .i64 (lowD (IntKind.wrap .i64 pr) (10 : Int))]) 2 true true true) :: noH = lsG l 2 ++ some z12 :: some z11 :: some (AObj.row (shC (dJ l x O) 0 N) 4 true true true) :: some z14 :: some z13 :: some z11 :: some (AObj.row (shC (dJ l x O) 1 (N - 1)) 4 true true true) :: some z15 :: some (AObj.row (prC (lowN pr (10 : Int)) (lowD pr (10 : Int)) s') 2 true true true) :: noH) (Is (List.length (prC (lowN pr (10 : Int)) (lowD pr (10 : Int)) s) = s * 2 ∧ (∀ (v : Value), v ∈ prC (lowN pr (10 : Int)) (lowD pr (10 : Int)) s → atom v = true) ∧ s * 16 ≤ 140737488355328 ∧ s ≤ 9223372036854775807) ∧ Is ((isOf (nmJ O) (dJ l x O) (4 : Int) N 0 N (seC (nmJ O) (dJ l x O) (4 : Int) N) (shC (dJ l x O) 0 N) ∧ prC (lowN pr (10 : Int)) (lowD pr (10 : Int)) s = prC (lowN pr (10 : Int)) (lowD pr (10 : Int)) N ∧ s = N) ∧ OfOk (nmJ O) (dJ l x O) (4 : Int) N 0 N ∧ prOk (lowN pr (10 : Int)) (lowD pr (10 : Int))) ∧ Is ((0 : Int) ≤ (1 : Int) ∧ (1 : Int) ≤ (s : Int) ∧ (s : Int) ≤ (s : Int)) ∧ Is (2 + (Int.toNat (s : Int) - 1) * 2 ≤ List.length (prC (lowN pr (10 : Int)) (lowD pr (10 : Int)) s) ∧ (∀ (v : Value), v ∈ prC (lowN pr (10 : Int)) (lowD pr (10 : Int)) s → atom v = true) ∧ (Int.toNat (s : Int) - 1) * 16 ≤ 140737488355328 ∧ Int.toNat (s : Int) - 1 ≤ 9223372036854775807) ∧ Is ((isOf (nmJ O) (dJ l x O) (4 : Int) N 1 (N - 1) (seC (nmJ O) (dJ l x O) (4 : Int) N) (shC (dJ l x O) 1 (N - 1)) ∧ List.take ((Int.toNat (s : Int) - 1) * 2) (List.drop 2 (prC (lowN pr (10 : Int)) (lowD pr (10 : Int)) s)) = prC (lowN pr (10 : Int)) (lowD pr (10 : Int)) (N - 1) ∧ Int.toNat (s : Int) - 1 = N - 1) ∧ OfOk (nmJ O) (dJ l x O) (4 : Int) N 1 (N - 1) ∧ prOk (lowN pr (10 : Int)) (lowD pr (10 : Int))) ∧ Is (decide ((4 : Int) * (N : Int) ≤ bdV (dJ l x O) 0 N N (4 : Int) (coP (lowN pr (10 : Int)) (lowD pr (10 : Int)))) = true) ∧ Is (decide ((4 : Int) * (↑(N - 1) : Int) ≤ bdV (dJ l x O) 1 N (N - 1) (4 : Int) (coP (lowN pr (10 : Int)) (lowD pr (10 : Int)))) = true) ∧ Is True ∧ K (Value.bool true) (lsG l 2 ++ noH))))))) := by kernel_rfl
end
end Qq
end
