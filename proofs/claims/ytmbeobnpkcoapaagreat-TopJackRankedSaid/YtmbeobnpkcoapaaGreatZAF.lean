/- Parts of the proof: PK, PC, PD. -/
import Derived.Test.YtmbeobnpkcoapaaGreatZAE
import Derived.Test.YtmbeobnpkcoapaaGreatZAC
section
/- The list that the law takes. -/
open Go Go.Vm Go.Proofs Sp
namespace Sp
noncomputable section
/-- The measurements are small. -/
def mOk (zs : List Int) (j : Nat) : Bool := decide (zs.getD (j * 2) 0 ≤ 2000) && decide (zs.getD (j * 2 + 1) 0 ≤ 10000)
def mA (zs : List Int) : Nat → Bool
  | 0 => true
  | k + 1 => mA zs k && mOk zs k
def sOkJ (l : Ls) (i : Nat) : Bool := decide (l.N i ≤ 12) && mA (l.zs i) (l.N i)
def jsA (l : Ls) : Nat → Bool
  | 0 => true
  | n + 1 => jsA l n && sOkJ l n
end
end Sp
namespace Qq
noncomputable section
noncomputable def selSw (l : Ls) (n : Nat) (T : Heap) : Sel
  | [.slice (some ⟨0, 0, none⟩) m c] => some (List.range (2 * n + 1), [.slice (some ⟨0, 0, none⟩) m c], lsR l n :: T, .bool (shL l n), m = n ∧ lsIn l n T ∧ okLs l n ∧ n ≤ 9223372036854775807)
  | _ => none
theorem selSw_ok (l : Ls) (n : Nat) (T : Heap) : ∀ ar ids a0 H0 ret vc, selSw l n T ar = some (ids, a0, H0, ret, vc) → vc → SmallRes Tryz.prog 14 a0 H0 ret H0 := by
  intro ar ids a0 H0 ret vc h hv
  unfold selSw at h
  split at h
  · cases h
    obtain ⟨rfl, h1, h2, h3⟩ := hv
    exact shL_ok h1 h2 h3
  · cases h
noncomputable def selCw (l : Ls) (n : Nat) (T : Heap) : Sel
  | [.slice (some ⟨0, 0, none⟩) m c] => some (List.range (2 * n + 1), [.slice (some ⟨0, 0, none⟩) m c], lsR l n :: T, .int .i64 (csE l n), m = n ∧ lsIn l n T ∧ okLt l n)
  | _ => none
theorem selCw_ok (l : Ls) (n : Nat) (T : Heap) : ∀ ar ids a0 H0 ret vc, selCw l n T ar = some (ids, a0, H0, ret, vc) → vc → SmallRes Tryz.prog 15 a0 H0 ret H0 := by
  intro ar ids a0 H0 ret vc h hv
  unfold selCw at h
  split at h
  · cases h
    obtain ⟨rfl, h1, h2⟩ := hv
    exact cs_ok h1 h2
  · cases h
noncomputable def hsJb (l : Ls) (n : Nat) (T : Heap) (q : Nat) : Hs Tryz.prog where
  op y := if y = 103 then some (hTold (Nat.beq q 0)) else if y = 106 then some (hTell (!Nat.beq q 1) (hCi Tryz.prog 14 (selSw l n T) (selSw_ok l n T))) else if y = 111 then some (hCi Tryz.prog 15 (selCw l n T) (selCw_ok l n T)) else if y = 112 then some (hTold (Nat.beq q 2)) else none
  nl _ := [.stay]
  rn := [.stay]
  au := au0 Tryz.prog
theorem jb0_t (l : Ls) (n : Nat) (c : Nat) (T : Heap) (K : Value → Heap → Prop) :
    (fnP Tryz.prog c0 (hsJb l n T (0 : Nat)) (4 : FuncId) [Value.slice (some { block := (0 : Nat), off := (0 : Nat) }) n c, Value.int IntKind.i64 (3 : Int)] (lsR l n :: T) K) =
    (Is (decide ((3 : Int) < (↑n : Int)) = true) ∧ K (Value.bool false) (some (AObj.row (lsC l n) (3 : Nat) false false false) :: T)) := by kernel_rfl
theorem jb1_t (l : Ls) (n : Nat) (c : Nat) (T : Heap) (K : Value → Heap → Prop) :
    (fnP Tryz.prog c0 (hsJb l n T (1 : Nat)) (4 : FuncId) [Value.slice (some { block := (0 : Nat), off := (0 : Nat) }) n c, Value.int IntKind.i64 (3 : Int)] (lsR l n :: T) K) =
    (Is (decide ((3 : Int) < (n : Int)) = false) ∧ Is ((CiOK (some (AObj.row (lsC l n) 3 false false false) :: T) [Value.slice (some ⟨0, 0, none⟩) n c] (List.range (2 * n + 1)) [Value.slice (some ⟨0, 0, none⟩) n c] (some (AObj.row (lsC l n) 3 false false false) :: T) (Value.bool (shL l n)) ∧ n = n ∧ lsIn l n T ∧ okLs l n ∧ n ≤ 9223372036854775807) ∧ shL l n = false) ∧ K (Value.bool false) (some (AObj.row (lsC l n) 3 false false false) :: T)) := by kernel_rfl
theorem jb2_t (l : Ls) (n : Nat) (c : Nat) (T : Heap) (K : Value → Heap → Prop) :
    (fnP Tryz.prog c0 (hsJb l n T (2 : Nat)) (4 : FuncId) [Value.slice (some { block := (0 : Nat), off := (0 : Nat) }) n c, Value.int IntKind.i64 (3 : Int)] (lsR l n :: T) K) =
    (Is (decide ((3 : Int) < (n : Int)) = false) ∧ Is ((CiOK (some (AObj.row (lsC l n) 3 false false false) :: T) [Value.slice (some ⟨0, 0, none⟩) n c] (List.range (2 * n + 1)) [Value.slice (some ⟨0, 0, none⟩) n c] (some (AObj.row (lsC l n) 3 false false false) :: T) (Value.bool (shL l n)) ∧ n = n ∧ lsIn l n T ∧ okLs l n ∧ n ≤ 9223372036854775807) ∧ shL l n = true) ∧ Is (CiOK (some (AObj.row (lsC l n) 3 false false false) :: T) [Value.slice (some ⟨0, 0, none⟩) n c] (List.range (2 * n + 1)) [Value.slice (some ⟨0, 0, none⟩) n c] (some (AObj.row (lsC l n) 3 false false false) :: T) (Value.int .i64 (csE l n)) ∧ n = n ∧ lsIn l n T ∧ okLt l n) ∧ Is ((csE l n != (0 : Int)) = true) ∧ K (Value.bool false) (some (AObj.row (lsC l n) 3 false false false) :: T)) := by kernel_rfl
section
variable (l : Ls) (n c : Nat)
noncomputable def lpJi (i : Nat) : Lp where
  σ := Nat
  E j := slots 50 [(23, .slice (some ⟨0, 0, none⟩) n c), (24, .int .i64 (n : Int)), (25, .int .i64 (i : Int)), (34, .slice (some ⟨1 + 2 * i, 0, none⟩) (l.N i) big), (35, .int .i64 (l.N i : Int)), (36, .int .i64 (j : Int))]
  Hp _ := lsG l n
  I j := j ≤ l.N i ∧ mA (l.zs i) j = true
  m j := l.N i - j
noncomputable def i25 (env : List Value) : Nat := match gt env 25 with
  | .int _ i => i.toNat
  | _ => 0
noncomputable def zI2 (zs : List Int) (off : Nat) : Value := .agg #[.int .i64 (zs.getD off 0), .int .i64 (zs.getD (off + 1) 0)]
/-- A hint chosen by the section. -/
noncomputable def hSec (f : Nat → Hint Tryz.prog) : Hint Tryz.prog where
  fn o env H := match i25 env with
    | 0 => (f 0).fn o env H
    | 1 => (f 1).fn o env H
    | _ => (f 2).fn o env H
  ok := by
    intro o env H out vc h hv
    split at h
    · exact (f 0).ok h hv
    · exact (f 1).ok h hv
    · exact (f 2).ok h hv
noncomputable def orcShH : OrcV
  | [.slice (some ⟨0, 0, none⟩) m _], H => some (.bool (shL l n), lsG l n, m = n ∧ H = lsG l n ∧ okLs l n ∧ n ≤ 1000)
  | _, _ => none
noncomputable def orcCsH : OrcV
  | [.slice (some ⟨0, 0, none⟩) m _], H => some (.int .i64 (csE l n), lsG l n, m = n ∧ H = lsG l n ∧ okLt l n)
  | _, _ => none
theorem lsIn_all (l : Ls) (n : Nat) : lsIn l n (lsT l n) := by
  have key : ∀ (m k : Nat) (X : Heap), (∀ i, k ≤ i → i < k + m → rd ((List.range' k m).flatMap (fun i => [some (AObj.row (ints (l.zs i)) 2 false false true), some (.row (acs (l.ks i)) 2 false false true)])) (2 * (i - k)) = some (.row (ints (l.zs i)) 2 false false true) ∧
      rd ((List.range' k m).flatMap (fun i => [some (AObj.row (ints (l.zs i)) 2 false false true), some (.row (acs (l.ks i)) 2 false false true)])) (2 * (i - k) + 1) = some (.row (acs (l.ks i)) 2 false false true)) := by
    intro m
    induction m with
    | zero => intro k X i h1 h2; omega
    | succ m ih =>
      intro k X i h1 h2
      rw [List.range'_succ, List.flatMap_cons]
      rcases (by omega : i = k ∨ k + 1 ≤ i) with rfl | h
      · rw [Nat.sub_self]; exact ⟨by first | trivial | rfl, by first | trivial | rfl⟩
      · have := ih (k + 1) X i h (by omega)
        rw [show 2 * (i - k) = 2 * (i - (k + 1)) + 2 by omega]
        exact this
  intro i hi
  have := key n 0 [] i (by omega) (by omega)
  rw [lsT, List.range_eq_range']
  exact this
theorem okShH : OkV Tryz.prog 14 (orcShH l n) := by
  intro args H ret H' vc h hv
  unfold orcShH at h
  split at h
  · cases h
    obtain ⟨rfl, rfl, h1, h2⟩ := hv
    exact shL_ok (lsIn_all l _) h1 (by omega)
  · cases h
theorem okCsH : OkV Tryz.prog 15 (orcCsH l n) := by
  intro args H ret H' vc h hv
  unfold orcCsH at h
  split at h
  · cases h
    obtain ⟨rfl, rfl, h1⟩ := hv
    exact cs_ok (lsIn_all l _) h1
  · cases h
noncomputable def hsJl : Hs Tryz.prog where
  op y := if y = 103 then some (hTold false) else if y = 106 then some (hTell true (hCa Tryz.prog 14 (orcShH l n) (okShH l n))) else if y = 111 then some (hCa Tryz.prog 15 (orcCsH l n) (okCsH l n)) else if y = 112 then some (hTold false)
    else if y = 1000 then some (hIa Tryz.prog) else if y = 1001 then some (hSec fun i => hLd Tryz.prog (zI2 (l.zs i))) else none
  lx y env := if y = 9 then match i25 env with
    | 0 => some ⟨Unit, fun _ => lpJi l n c 0⟩
    | 1 => some ⟨Unit, fun _ => lpJi l n c 1⟩
    | _ => some ⟨Unit, fun _ => lpJi l n c 2⟩ else none
  cl y := if y = 4 then keep 50 [23, 24, 25] else keep 50 [23, 24, 25, 34, 35, 36]
  sm := true
  au := au0 Tryz.prog
end
theorem jl0_t (l : Ls) (c : Nat) (K : Value → Heap → Prop) :
    (fnP Tryz.prog c0 (hsJl l (0 : Nat) c) (4 : FuncId) [Value.slice (some { block := (0 : Nat), off := (0 : Nat) }) (0 : Nat) c, Value.int IntKind.i64 (3 : Int)] (lsG l (0 : Nat)) K) =
    (Is (false = false) ∧ Is ((0 = 0 ∧ some (AObj.row [] 3 false false false) :: noH = some (AObj.row [] 3 false false false) :: noH ∧ okLs l 0 ∧ 0 ≤ 1000) ∧ shL l 0 = true) ∧ Is (0 = 0 ∧ some (AObj.row [] 3 false false false) :: noH = some (AObj.row [] 3 false false false) :: noH ∧ okLt l 0) ∧ Is ((csE l 0 != (0 : Int)) = false) ∧ K (Value.bool true) (some (AObj.row [] 3 false false false) :: noH)) := by kernel_rfl
theorem jl2_t (l : Ls) (c : Nat) (K : Value → Heap → Prop) :
    (fnP Tryz.prog c0 (hsJl l (2 : Nat) c) (4 : FuncId) [Value.slice (some { block := (0 : Nat), off := (0 : Nat) }) (2 : Nat) c, Value.int IntKind.i64 (3 : Int)] (lsG l (2 : Nat)) K) =
    (let q0 : Prop := Value.slice (some ⟨0, 0, none⟩) 2 c = Value.slice (some ⟨0, 0, none⟩) 2 c; let z1 : AObj := AObj.row [Value.string (Ls.nm l 0), Value.slice (some ⟨1, 0, none⟩) (Ls.N l 0) 18446744073709551616, Value.slice (some ⟨2, 0, none⟩) (Ls.K l 0) 18446744073709551616, Value.string (Ls.nm l 1), Value.slice (some ⟨3, 0, none⟩) (Ls.N l 1) 18446744073709551616, Value.slice (some ⟨4, 0, none⟩) (Ls.K l 1) 18446744073709551616] 3 false false false; (Is (false = false) ∧ Is ((2 = 2 ∧ some z1 :: some (AObj.row (ints (Ls.zs l 0)) 2 false false true) :: some (AObj.row (acs (Ls.ks l 0)) 2 false false true) :: some (AObj.row (ints (Ls.zs l 1)) 2 false false true) :: some (AObj.row (acs (Ls.ks l 1)) 2 false false true) :: noH = some z1 :: some (AObj.row (ints (Ls.zs l 0)) 2 false false true) :: some (AObj.row (acs (Ls.ks l 0)) 2 false false true) :: some (AObj.row (ints (Ls.zs l 1)) 2 false false true) :: some (AObj.row (acs (Ls.ks l 1)) 2 false false true) :: noH ∧ okLs l 2 ∧ 2 ≤ 1000) ∧ shL l 2 = true) ∧ Is (2 = 2 ∧ some z1 :: some (AObj.row (ints (Ls.zs l 0)) 2 false false true) :: some (AObj.row (acs (Ls.ks l 0)) 2 false false true) :: some (AObj.row (ints (Ls.zs l 1)) 2 false false true) :: some (AObj.row (acs (Ls.ks l 1)) 2 false false true) :: noH = some z1 :: some (AObj.row (ints (Ls.zs l 0)) 2 false false true) :: some (AObj.row (acs (Ls.ks l 0)) 2 false false true) :: some (AObj.row (ints (Ls.zs l 1)) 2 false false true) :: some (AObj.row (acs (Ls.ks l 1)) 2 false false true) :: noH ∧ okLt l 2) ∧ Is ((csE l 2 != (0 : Int)) = false) ∧ br (decide ((12 : Int) < (↑(Ls.N l 0) : Int))) (K (Value.bool false) (some z1 :: some (AObj.row (ints (Ls.zs l 0)) 2 false false true) :: some (AObj.row (acs (Ls.ks l 0)) 2 false false true) :: some (AObj.row (ints (Ls.zs l 1)) 2 false false true) :: some (AObj.row (acs (Ls.ks l 1)) 2 false false true) :: noH)) (∃ (p : Unit), (∃ (s : Nat), Is (s ≤ Ls.N l 0 ∧ mA (Ls.zs l 0) s = true) ∧ (q0 ∧ Value.int .i64 2 = Value.int .i64 2 ∧ Value.int .i64 0 = Value.int .i64 0 ∧ Value.slice (some ⟨1, 0, none⟩) (Ls.N l 0) 18446744073709551616 = Value.slice (some ⟨1, 0, none⟩) (Ls.N l 0) 18446744073709551616 ∧ Value.int .i64 (↑(Ls.N l 0) : Int) = Value.int .i64 (↑(Ls.N l 0) : Int) ∧ Value.int .i64 0 = Value.int .i64 (s : Int) ∧ True) ∧ some z1 :: some (AObj.row (ints (Ls.zs l 0)) 2 false false true) :: some (AObj.row (acs (Ls.ks l 0)) 2 false false true) :: some (AObj.row (ints (Ls.zs l 1)) 2 false false true) :: some (AObj.row (acs (Ls.ks l 1)) 2 false false true) :: noH = some z1 :: some (AObj.row (ints (Ls.zs l 0)) 2 false false true) :: some (AObj.row (acs (Ls.ks l 0)) 2 false false true) :: some (AObj.row (ints (Ls.zs l 1)) 2 false false true) :: some (AObj.row (acs (Ls.ks l 1)) 2 false false true) :: noH) ∧ ∀ (s : Nat), Is (s ≤ Ls.N l 0 ∧ mA (Ls.zs l 0) s = true) → br (decide ((s : Int) < (↑(Ls.N l 0) : Int))) (Is ((0 : Int) ≤ (s : Int) ∧ (s : Int) < (↑(Ls.N l 0) : Int)) ∧ Is ((if 0 + Int.toNat (s : Int) * 2 + 2 ≤ List.length (ints (Ls.zs l 0)) then some (Value.agg (List.toArray (List.take 2 (List.drop (0 + Int.toNat (s : Int) * 2) (ints (Ls.zs l 0)))))) else none) = some (Value.agg #[Value.int .i64 (List.getD (Ls.zs l 0) (0 + Int.toNat (s : Int) * 2) (0 : Int)), Value.int .i64 (List.getD (Ls.zs l 0) (0 + Int.toNat (s : Int) * 2 + 1) (0 : Int))])) ∧ br (decide ((2000 : Int) < List.getD (Ls.zs l 0) (0 + Int.toNat (s : Int) * 2) (0 : Int))) (K (Value.bool false) (some z1 :: some (AObj.row (ints (Ls.zs l 0)) 2 false false true) :: some (AObj.row (acs (Ls.ks l 0)) 2 false false true) :: some (AObj.row (ints (Ls.zs l 1)) 2 false false true) :: some (AObj.row (acs (Ls.ks l 1)) 2 false false true) :: noH)) (br (decide ((10000 : Int) < List.getD (Ls.zs l 0) (0 + Int.toNat (s : Int) * 2 + 1) (0 : Int))) (K (Value.bool false) (some z1 :: some (AObj.row (ints (Ls.zs l 0)) 2 false false true) :: some (AObj.row (acs (Ls.ks l 0)) 2 false false true) :: some (AObj.row (ints (Ls.zs l 1)) 2 false false true) :: some (AObj.row (acs (Ls.ks l 1)) 2 false false true) :: noH)) (∃ (s' : Nat), Is (s' ≤ Ls.N l 0 ∧ mA (Ls.zs l 0) s' = true) ∧ Is (Ls.N l 0 - s' < Ls.N l 0 - s) ∧ (q0 ∧ Value.int .i64 2 = Value.int .i64 2 ∧ Value.int .i64 0 = Value.int .i64 0 ∧ Value.slice (some ⟨1, 0, none⟩) (Ls.N l 0) 18446744073709551616 = Value.slice (some ⟨1, 0, none⟩) (Ls.N l 0) 18446744073709551616 ∧ Value.int .i64 (↑(Ls.N l 0) : Int) = Value.int .i64 (↑(Ls.N l 0) : Int) ∧ Value.int .i64 (IntKind.wrap .i64 ((s : Int) + (1 : Int))) = Value.int .i64 (↑s' : Int) ∧ True) ∧ some z1 :: some (AObj.row (ints (Ls.zs l 0)) 2 false false true) :: some (AObj.row (acs (Ls.ks l 0)) 2 false false true) :: some (AObj.row (ints (Ls.zs l 1)) 2 false false true) :: some (AObj.row (acs (Ls.ks l 1)) 2 false false true) :: noH = some z1 :: some (AObj.row (ints (Ls.zs l 0)) 2 false false true) :: some (AObj.row (acs (Ls.ks l 0)) 2 false false true) :: some (AObj.row (ints (Ls.zs l 1)) 2 false false true) :: some (AObj.row (acs (Ls.ks l 1)) 2 false false true) :: noH))) (br (decide ((12 : Int) < (↑(Ls.N l 1) : Int))) (K (Value.bool false) (some z1 :: some (AObj.row (ints (Ls.zs l 0)) 2 false false true) :: some (AObj.row (acs (Ls.ks l 0)) 2 false false true) :: some (AObj.row (ints (Ls.zs l 1)) 2 false false true) :: some (AObj.row (acs (Ls.ks l 1)) 2 false false true) :: noH)) (∃ (p : Unit), (∃ (s : Nat), Is (s ≤ Ls.N l 1 ∧ mA (Ls.zs l 1) s = true) ∧ (q0 ∧ Value.int .i64 2 = Value.int .i64 2 ∧ Value.int .i64 1 = Value.int .i64 1 ∧ Value.slice (some ⟨3, 0, none⟩) (Ls.N l 1) 18446744073709551616 = Value.slice (some ⟨3, 0, none⟩) (Ls.N l 1) 18446744073709551616 ∧ Value.int .i64 (↑(Ls.N l 1) : Int) = Value.int .i64 (↑(Ls.N l 1) : Int) ∧ Value.int .i64 0 = Value.int .i64 (s : Int) ∧ True) ∧ some z1 :: some (AObj.row (ints (Ls.zs l 0)) 2 false false true) :: some (AObj.row (acs (Ls.ks l 0)) 2 false false true) :: some (AObj.row (ints (Ls.zs l 1)) 2 false false true) :: some (AObj.row (acs (Ls.ks l 1)) 2 false false true) :: noH = some z1 :: some (AObj.row (ints (Ls.zs l 0)) 2 false false true) :: some (AObj.row (acs (Ls.ks l 0)) 2 false false true) :: some (AObj.row (ints (Ls.zs l 1)) 2 false false true) :: some (AObj.row (acs (Ls.ks l 1)) 2 false false true) :: noH) ∧ ∀ (s : Nat), Is (s ≤ Ls.N l 1 ∧ mA (Ls.zs l 1) s = true) → br (decide ((s : Int) < (↑(Ls.N l 1) : Int))) (Is ((0 : Int) ≤ (s : Int) ∧ (s : Int) < (↑(Ls.N l 1) : Int)) ∧ Is ((if 0 + Int.toNat (s : Int) * 2 + 2 ≤ List.length (ints (Ls.zs l 1)) then some (Value.agg (List.toArray (List.take 2 (List.drop (0 + Int.toNat (s : Int) * 2) (ints (Ls.zs l 1)))))) else none) = some (Value.agg #[Value.int .i64 (List.getD (Ls.zs l 1) (0 + Int.toNat (s : Int) * 2) (0 : Int)), Value.int .i64 (List.getD (Ls.zs l 1) (0 + Int.toNat (s : Int) * 2 + 1) (0 : Int))])) ∧ br (decide ((2000 : Int) < List.getD (Ls.zs l 1) (0 + Int.toNat (s : Int) * 2) (0 : Int))) (K (Value.bool false) (some z1 :: some (AObj.row (ints (Ls.zs l 0)) 2 false false true) :: some (AObj.row (acs (Ls.ks l 0)) 2 false false true) :: some (AObj.row (ints (Ls.zs l 1)) 2 false false true) :: some (AObj.row (acs (Ls.ks l 1)) 2 false false true) :: noH)) (br (decide ((10000 : Int) < List.getD (Ls.zs l 1) (0 + Int.toNat (s : Int) * 2 + 1) (0 : Int))) (K (Value.bool false) (some z1 :: some (AObj.row (ints (Ls.zs l 0)) 2 false false true) :: some (AObj.row (acs (Ls.ks l 0)) 2 false false true) :: some (AObj.row (ints (Ls.zs l 1)) 2 false false true) :: some (AObj.row (acs (Ls.ks l 1)) 2 false false true) :: noH)) (∃ (s' : Nat), Is (s' ≤ Ls.N l 1 ∧ mA (Ls.zs l 1) s' = true) ∧ Is (Ls.N l 1 - s' < Ls.N l 1 - s) ∧ (q0 ∧ Value.int .i64 2 = Value.int .i64 2 ∧ Value.int .i64 1 = Value.int .i64 1 ∧ Value.slice (some ⟨3, 0, none⟩) (Ls.N l 1) 18446744073709551616 = Value.slice (some ⟨3, 0, none⟩) (Ls.N l 1) 18446744073709551616 ∧ Value.int .i64 (↑(Ls.N l 1) : Int) = Value.int .i64 (↑(Ls.N l 1) : Int) ∧ Value.int .i64 (IntKind.wrap .i64 ((s : Int) + (1 : Int))) = Value.int .i64 (↑s' : Int) ∧ True) ∧ some z1 :: some (AObj.row (ints (Ls.zs l 0)) 2 false false true) :: some (AObj.row (acs (Ls.ks l 0)) 2 false false true) :: some (AObj.row (ints (Ls.zs l 1)) 2 false false true) :: some (AObj.row (acs (Ls.ks l 1)) 2 false false true) :: noH = some z1 :: some (AObj.row (ints (Ls.zs l 0)) 2 false false true) :: some (AObj.row (acs (Ls.ks l 0)) 2 false false true) :: some (AObj.row (ints (Ls.zs l 1)) 2 false false true) :: some (AObj.row (acs (Ls.ks l 1)) 2 false false true) :: noH))) (K (Value.bool true) (some z1 :: some (AObj.row (ints (Ls.zs l 0)) 2 false false true) :: some (AObj.row (acs (Ls.ks l 0)) 2 false false true) :: some (AObj.row (ints (Ls.zs l 1)) 2 false false true) :: some (AObj.row (acs (Ls.ks l 1)) 2 false false true) :: noH))))))) := by kernel_rfl
theorem jl3_t (l : Ls) (c : Nat) (K : Value → Heap → Prop) :
    (fnP Tryz.prog c0 (hsJl l (3 : Nat) c) (4 : FuncId) [Value.slice (some { block := (0 : Nat), off := (0 : Nat) }) (3 : Nat) c, Value.int IntKind.i64 (3 : Int)] (lsG l (3 : Nat)) K) =
    (let q0 : Prop := Value.slice (some ⟨0, 0, none⟩) 3 c = Value.slice (some ⟨0, 0, none⟩) 3 c; let z1 : AObj := AObj.row [Value.string (Ls.nm l 0), Value.slice (some ⟨1, 0, none⟩) (Ls.N l 0) 18446744073709551616, Value.slice (some ⟨2, 0, none⟩) (Ls.K l 0) 18446744073709551616, Value.string (Ls.nm l 1), Value.slice (some ⟨3, 0, none⟩) (Ls.N l 1) 18446744073709551616, Value.slice (some ⟨4, 0, none⟩) (Ls.K l 1) 18446744073709551616, Value.string (Ls.nm l 2), Value.slice (some ⟨5, 0, none⟩) (Ls.N l 2) 18446744073709551616, Value.slice (some ⟨6, 0, none⟩) (Ls.K l 2) 18446744073709551616] 3 false false false; (Is (false = false) ∧ Is ((3 = 3 ∧ some z1 :: some (AObj.row (ints (Ls.zs l 0)) 2 false false true) :: some (AObj.row (acs (Ls.ks l 0)) 2 false false true) :: some (AObj.row (ints (Ls.zs l 1)) 2 false false true) :: some (AObj.row (acs (Ls.ks l 1)) 2 false false true) :: some (AObj.row (ints (Ls.zs l 2)) 2 false false true) :: some (AObj.row (acs (Ls.ks l 2)) 2 false false true) :: noH = some z1 :: some (AObj.row (ints (Ls.zs l 0)) 2 false false true) :: some (AObj.row (acs (Ls.ks l 0)) 2 false false true) :: some (AObj.row (ints (Ls.zs l 1)) 2 false false true) :: some (AObj.row (acs (Ls.ks l 1)) 2 false false true) :: some (AObj.row (ints (Ls.zs l 2)) 2 false false true) :: some (AObj.row (acs (Ls.ks l 2)) 2 false false true) :: noH ∧ okLs l 3 ∧ 3 ≤ 1000) ∧ shL l 3 = true) ∧ Is (3 = 3 ∧ some z1 :: some (AObj.row (ints (Ls.zs l 0)) 2 false false true) :: some (AObj.row (acs (Ls.ks l 0)) 2 false false true) :: some (AObj.row (ints (Ls.zs l 1)) 2 false false true) :: some (AObj.row (acs (Ls.ks l 1)) 2 false false true) :: some (AObj.row (ints (Ls.zs l 2)) 2 false false true) :: some (AObj.row (acs (Ls.ks l 2)) 2 false false true) :: noH = some z1 :: some (AObj.row (ints (Ls.zs l 0)) 2 false false true) :: some (AObj.row (acs (Ls.ks l 0)) 2 false false true) :: some (AObj.row (ints (Ls.zs l 1)) 2 false false true) :: some (AObj.row (acs (Ls.ks l 1)) 2 false false true) :: some (AObj.row (ints (Ls.zs l 2)) 2 false false true) :: some (AObj.row (acs (Ls.ks l 2)) 2 false false true) :: noH ∧ okLt l 3) ∧ Is ((csE l 3 != (0 : Int)) = false) ∧ br (decide ((12 : Int) < (↑(Ls.N l 0) : Int))) (K (Value.bool false) (some z1 :: some (AObj.row (ints (Ls.zs l 0)) 2 false false true) :: some (AObj.row (acs (Ls.ks l 0)) 2 false false true) :: some (AObj.row (ints (Ls.zs l 1)) 2 false false true) :: some (AObj.row (acs (Ls.ks l 1)) 2 false false true) :: some (AObj.row (ints (Ls.zs l 2)) 2 false false true) :: some (AObj.row (acs (Ls.ks l 2)) 2 false false true) :: noH)) (∃ (p : Unit), (∃ (s : Nat), Is (s ≤ Ls.N l 0 ∧ mA (Ls.zs l 0) s = true) ∧ (q0 ∧ Value.int .i64 3 = Value.int .i64 3 ∧ Value.int .i64 0 = Value.int .i64 0 ∧ Value.slice (some ⟨1, 0, none⟩) (Ls.N l 0) 18446744073709551616 = Value.slice (some ⟨1, 0, none⟩) (Ls.N l 0) 18446744073709551616 ∧ Value.int .i64 (↑(Ls.N l 0) : Int) = Value.int .i64 (↑(Ls.N l 0) : Int) ∧ Value.int .i64 0 = Value.int .i64 (s : Int) ∧ True) ∧ some z1 :: some (AObj.row (ints (Ls.zs l 0)) 2 false false true) :: some (AObj.row (acs (Ls.ks l 0)) 2 false false true) :: some (AObj.row (ints (Ls.zs l 1)) 2 false false true) :: some (AObj.row (acs (Ls.ks l 1)) 2 false false true) :: some (AObj.row (ints (Ls.zs l 2)) 2 false false true) :: some (AObj.row (acs (Ls.ks l 2)) 2 false false true) :: noH = some z1 :: some (AObj.row (ints (Ls.zs l 0)) 2 false false true) :: some (AObj.row (acs (Ls.ks l 0)) 2 false false true) :: some (AObj.row (ints (Ls.zs l 1)) 2 false false true) :: some (AObj.row (acs (Ls.ks l 1)) 2 false false true) :: some (AObj.row (ints (Ls.zs l 2)) 2 false false true) :: some (AObj.row (acs (Ls.ks l 2)) 2 false false true) :: noH) ∧ ∀ (s : Nat), Is (s ≤ Ls.N l 0 ∧ mA (Ls.zs l 0) s = true) → br (decide ((s : Int) < (↑(Ls.N l 0) : Int))) (Is ((0 : Int) ≤ (s : Int) ∧ (s : Int) < (↑(Ls.N l 0) : Int)) ∧ Is ((if 0 + Int.toNat (s : Int) * 2 + 2 ≤ List.length (ints (Ls.zs l 0)) then some (Value.agg (List.toArray (List.take 2 (List.drop (0 + Int.toNat (s : Int) * 2) (ints (Ls.zs l 0)))))) else none) = some (Value.agg #[Value.int .i64 (List.getD (Ls.zs l 0) (0 + Int.toNat (s : Int) * 2) (0 : Int)), Value.int .i64 (List.getD (Ls.zs l 0) (0 + Int.toNat (s : Int) * 2 + 1) (0 : Int))])) ∧ br (decide ((2000 : Int) < List.getD (Ls.zs l 0) (0 + Int.toNat (s : Int) * 2) (0 : Int))) (K (Value.bool false) (some z1 :: some (AObj.row (ints (Ls.zs l 0)) 2 false false true) :: some (AObj.row (acs (Ls.ks l 0)) 2 false false true) :: some (AObj.row (ints (Ls.zs l 1)) 2 false false true) :: some (AObj.row (acs (Ls.ks l 1)) 2 false false true) :: some (AObj.row (ints (Ls.zs l 2)) 2 false false true) :: some (AObj.row (acs (Ls.ks l 2)) 2 false false true) :: noH)) (br (decide ((10000 : Int) < List.getD (Ls.zs l 0) (0 + Int.toNat (s : Int) * 2 + 1) (0 : Int))) (K (Value.bool false) (some z1 :: some (AObj.row (ints (Ls.zs l 0)) 2 false false true) :: some (AObj.row (acs (Ls.ks l 0)) 2 false false true) :: some (AObj.row (ints (Ls.zs l 1)) 2 false false true) :: some (AObj.row (acs (Ls.ks l 1)) 2 false false true) :: some (AObj.row (ints (Ls.zs l 2)) 2 false false true) :: some (AObj.row (acs (Ls.ks l 2)) 2 false false true) :: noH)) (∃ (s' : Nat), Is (s' ≤ Ls.N l 0 ∧ mA (Ls.zs l 0) s' = true) ∧ Is (Ls.N l 0 - s' < Ls.N l 0 - s) ∧ (q0 ∧ Value.int .i64 3 = Value.int .i64 3 ∧ Value.int .i64 0 = Value.int .i64 0 ∧ Value.slice (some ⟨1, 0, none⟩) (Ls.N l 0) 18446744073709551616 = Value.slice (some ⟨1, 0, none⟩) (Ls.N l 0) 18446744073709551616 ∧ Value.int .i64 (↑(Ls.N l 0) : Int) = Value.int .i64 (↑(Ls.N l 0) : Int) ∧ Value.int .i64 (IntKind.wrap .i64 ((s : Int) + (1 : Int))) = Value.int .i64 (↑s' : Int) ∧ True) ∧ some z1 :: some (AObj.row (ints (Ls.zs l 0)) 2 false false true) :: some (AObj.row (acs (Ls.ks l 0)) 2 false false true) :: some (AObj.row (ints (Ls.zs l 1)) 2 false false true) :: some (AObj.row (acs (Ls.ks l 1)) 2 false false true) :: some (AObj.row (ints (Ls.zs l 2)) 2 false false true) :: some (AObj.row (acs (Ls.ks l 2)) 2 false false true) :: noH = some z1 :: some (AObj.row (ints (Ls.zs l 0)) 2 false false true) :: some (AObj.row (acs (Ls.ks l 0)) 2 false false true) :: some (AObj.row (ints (Ls.zs l 1)) 2 false false true) :: some (AObj.row (acs (Ls.ks l 1)) 2 false false true) :: some (AObj.row (ints (Ls.zs l 2)) 2 false false true) :: some (AObj.row (acs (Ls.ks l 2)) 2 false false true) :: noH))) (br (decide ((12 : Int) < (↑(Ls.N l 1) : Int))) (K (Value.bool false) (some z1 :: some (AObj.row (ints (Ls.zs l 0)) 2 false false true) :: some (AObj.row (acs (Ls.ks l 0)) 2 false false true) :: some (AObj.row (ints (Ls.zs l 1)) 2 false false true) :: some (AObj.row (acs (Ls.ks l 1)) 2 false false true) :: some (AObj.row (ints (Ls.zs l 2)) 2 false false true) :: some (AObj.row (acs (Ls.ks l 2)) 2 false false true) :: noH)) (∃ (p : Unit), (∃ (s : Nat), Is (s ≤ Ls.N l 1 ∧ mA (Ls.zs l 1) s = true) ∧ (q0 ∧ Value.int .i64 3 = Value.int .i64 3 ∧ Value.int .i64 1 = Value.int .i64 1 ∧ Value.slice (some ⟨3, 0, none⟩) (Ls.N l 1) 18446744073709551616 = Value.slice (some ⟨3, 0, none⟩) (Ls.N l 1) 18446744073709551616 ∧ Value.int .i64 (↑(Ls.N l 1) : Int) = Value.int .i64 (↑(Ls.N l 1) : Int) ∧ Value.int .i64 0 = Value.int .i64 (s : Int) ∧ True) ∧ some z1 :: some (AObj.row (ints (Ls.zs l 0)) 2 false false true) :: some (AObj.row (acs (Ls.ks l 0)) 2 false false true) :: some (AObj.row (ints (Ls.zs l 1)) 2 false false true) :: some (AObj.row (acs (Ls.ks l 1)) 2 false false true) :: some (AObj.row (ints (Ls.zs l 2)) 2 false false true) :: some (AObj.row (acs (Ls.ks l 2)) 2 false false true) :: noH = some z1 :: some (AObj.row (ints (Ls.zs l 0)) 2 false false true) :: some (AObj.row (acs (Ls.ks l 0)) 2 false false true) :: some (AObj.row (ints (Ls.zs l 1)) 2 false false true) :: some (AObj.row (acs (Ls.ks l 1)) 2 false false true) :: some (AObj.row (ints (Ls.zs l 2)) 2 false false true) :: some (AObj.row (acs (Ls.ks l 2)) 2 false false true) :: noH) ∧ ∀ (s : Nat), Is (s ≤ Ls.N l 1 ∧ mA (Ls.zs l 1) s = true) → br (decide ((s : Int) < (↑(Ls.N l 1) : Int))) (Is ((0 : Int) ≤ (s : Int) ∧ (s : Int) < (↑(Ls.N l 1) : Int)) ∧ Is ((if 0 + Int.toNat (s : Int) * 2 + 2 ≤ List.length (ints (Ls.zs l 1)) then some (Value.agg (List.toArray (List.take 2 (List.drop (0 + Int.toNat (s : Int) * 2) (ints (Ls.zs l 1)))))) else none) = some (Value.agg #[Value.int .i64 (List.getD (Ls.zs l 1) (0 + Int.toNat (s : Int) * 2) (0 : Int)), Value.int .i64 (List.getD (Ls.zs l 1) (0 + Int.toNat (s : Int) * 2 + 1) (0 : Int))])) ∧ br (decide ((2000 : Int) < List.getD (Ls.zs l 1) (0 + Int.toNat (s : Int) * 2) (0 : Int))) (K (Value.bool false) (some z1 :: some (AObj.row (ints (Ls.zs l 0)) 2 false false true) :: some (AObj.row (acs (Ls.ks l 0)) 2 false false true) :: some (AObj.row (ints (Ls.zs l 1)) 2 false false true) :: some (AObj.row (acs (Ls.ks l 1)) 2 false false true) :: some (AObj.row (ints (Ls.zs l 2)) 2 false false true) :: some (AObj.row (acs (Ls.ks l 2)) 2 false false true) :: noH)) (br (decide ((10000 : Int) < List.getD (Ls.zs l 1) (0 + Int.toNat (s : Int) * 2 + 1) (0 : Int))) (K (Value.bool false) (some z1 :: some (AObj.row (ints (Ls.zs l 0)) 2 false false true) :: some (AObj.row (acs (Ls.ks l 0)) 2 false false true) :: some (AObj.row (ints (Ls.zs l 1)) 2 false false true) :: some (AObj.row (acs (Ls.ks l 1)) 2 false false true) :: some (AObj.row (ints (Ls.zs l 2)) 2 false false true) :: some (AObj.row (acs (Ls.ks l 2)) 2 false false true) :: noH)) (∃ (s' : Nat), Is (s' ≤ Ls.N l 1 ∧ mA (Ls.zs l 1) s' = true) ∧ Is (Ls.N l 1 - s' < Ls.N l 1 - s) ∧ (q0 ∧ Value.int .i64 3 = Value.int .i64 3 ∧ Value.int .i64 1 = Value.int .i64 1 ∧ Value.slice (some ⟨3, 0, none⟩) (Ls.N l 1) 18446744073709551616 = Value.slice (some ⟨3, 0, none⟩) (Ls.N l 1) 18446744073709551616 ∧ Value.int .i64 (↑(Ls.N l 1) : Int) = Value.int .i64 (↑(Ls.N l 1) : Int) ∧ Value.int .i64 (IntKind.wrap .i64 ((s : Int) + (1 : Int))) = Value.int .i64 (↑s' : Int) ∧ True) ∧ some z1 :: some (AObj.row (ints (Ls.zs l 0)) 2 false false true) :: some (AObj.row (acs (Ls.ks l 0)) 2 false false true) :: some (AObj.row (ints (Ls.zs l 1)) 2 false false true) :: some (AObj.row (acs (Ls.ks l 1)) 2 false false true) :: some (AObj.row (ints (Ls.zs l 2)) 2 false false true) :: some (AObj.row (acs (Ls.ks l 2)) 2 false false true) :: noH = some z1 :: some (AObj.row (ints (Ls.zs l 0)) 2 false false true) :: some (AObj.row (acs (Ls.ks l 0)) 2 false false true) :: some (AObj.row (ints (Ls.zs l 1)) 2 false false true) :: some (AObj.row (acs (Ls.ks l 1)) 2 false false true) :: some (AObj.row (ints (Ls.zs l 2)) 2 false false true) :: some (AObj.row (acs (Ls.ks l 2)) 2 false false true) :: noH))) (br (decide ((12 : Int) < (↑(Ls.N l 2) : Int))) (K (Value.bool false) (some z1 :: some (AObj.row (ints (Ls.zs l 0)) 2 false false true) :: some (AObj.row (acs (Ls.ks l 0)) 2 false false true) :: some (AObj.row (ints (Ls.zs l 1)) 2 false false true) :: some (AObj.row (acs (Ls.ks l 1)) 2 false false true) :: some (AObj.row (ints (Ls.zs l 2)) 2 false false true) :: some (AObj.row (acs (Ls.ks l 2)) 2 false false true) :: noH)) (∃ (p : Unit), (∃ (s : Nat), Is (s ≤ Ls.N l 2 ∧ mA (Ls.zs l 2) s = true) ∧ (q0 ∧ Value.int .i64 3 = Value.int .i64 3 ∧ Value.int .i64 2 = Value.int .i64 2 ∧ Value.slice (some ⟨5, 0, none⟩) (Ls.N l 2) 18446744073709551616 = Value.slice (some ⟨5, 0, none⟩) (Ls.N l 2) 18446744073709551616 ∧ Value.int .i64 (↑(Ls.N l 2) : Int) = Value.int .i64 (↑(Ls.N l 2) : Int) ∧ Value.int .i64 0 = Value.int .i64 (s : Int) ∧ True) ∧ some z1 :: some (AObj.row (ints (Ls.zs l 0)) 2 false false true) :: some (AObj.row (acs (Ls.ks l 0)) 2 false false true) :: some (AObj.row (ints (Ls.zs l 1)) 2 false false true) :: some (AObj.row (acs (Ls.ks l 1)) 2 false false true) :: some (AObj.row (ints (Ls.zs l 2)) 2 false false true) :: some (AObj.row (acs (Ls.ks l 2)) 2 false false true) :: noH = some z1 :: some (AObj.row (ints (Ls.zs l 0)) 2 false false true) :: some (AObj.row (acs (Ls.ks l 0)) 2 false false true) :: some (AObj.row (ints (Ls.zs l 1)) 2 false false true) :: some (AObj.row (acs (Ls.ks l 1)) 2 false false true) :: some (AObj.row (ints (Ls.zs l 2)) 2 false false true) :: some (AObj.row (acs (Ls.ks l 2)) 2 false false true) :: noH) ∧ ∀ (s : Nat), Is (s ≤ Ls.N l 2 ∧ mA (Ls.zs l 2) s = true) → br (decide ((s : Int) < (↑(Ls.N l 2) : Int))) (Is ((0 : Int) ≤ (s : Int) ∧ (s : Int) < (↑(Ls.N l 2) : Int)) ∧ Is ((if 0 + Int.toNat (s : Int) * 2 + 2 ≤ List.length (ints (Ls.zs l 2)) then some (Value.agg (List.toArray (List.take 2 (List.drop (0 + Int.toNat (s : Int) * 2) (ints (Ls.zs l 2)))))) else none) = some (Value.agg #[Value.int .i64 (List.getD (Ls.zs l 2) (0 + Int.toNat (s : Int) * 2) (0 : Int)), Value.int .i64 (List.getD (Ls.zs l 2) (0 + Int.toNat (s : Int) * 2 + 1) (0 : Int))])) ∧ br (decide ((2000 : Int) < List.getD (Ls.zs l 2) (0 + Int.toNat (s : Int) * 2) (0 : Int))) (K (Value.bool false) (some z1 :: some (AObj.row (ints (Ls.zs l 0)) 2 false false true) :: some (AObj.row (acs (Ls.ks l 0)) 2 false false true) :: some (AObj.row (ints (Ls.zs l 1)) 2 false false true) :: some (AObj.row (acs (Ls.ks l 1)) 2 false false true) :: some (AObj.row (ints (Ls.zs l 2)) 2 false false true) :: some (AObj.row (acs (Ls.ks l 2)) 2 false false true) :: noH)) (br (decide ((10000 : Int) < List.getD (Ls.zs l 2) (0 + Int.toNat (s : Int) * 2 + 1) (0 : Int))) (K (Value.bool false) (some z1 :: some (AObj.row (ints (Ls.zs l 0)) 2 false false true) :: some (AObj.row (acs (Ls.ks l 0)) 2 false false true) :: some (AObj.row (ints (Ls.zs l 1)) 2 false false true) :: some (AObj.row (acs (Ls.ks l 1)) 2 false false true) :: some (AObj.row (ints (Ls.zs l 2)) 2 false false true) :: some (AObj.row (acs (Ls.ks l 2)) 2 false false true) :: noH)) (∃ (s' : Nat), Is (s' ≤ Ls.N l 2 ∧ mA (Ls.zs l 2) s' = true) ∧ Is (Ls.N l 2 - s' < Ls.N l 2 - s) ∧ (q0 ∧ Value.int .i64 3 = Value.int .i64 3 ∧ Value.int .i64 2 = Value.int .i64 2 ∧ Value.slice (some ⟨5, 0, none⟩) (Ls.N l 2) 18446744073709551616 = Value.slice (some ⟨5, 0, none⟩) (Ls.N l 2) 18446744073709551616 ∧ Value.int .i64 (↑(Ls.N l 2) : Int) = Value.int .i64 (↑(Ls.N l 2) : Int) ∧ Value.int .i64 (IntKind.wrap .i64 ((s : Int) + (1 : Int))) = Value.int .i64 (↑s' : Int) ∧ True) ∧ some z1 :: some (AObj.row (ints (Ls.zs l 0)) 2 false false true) :: some (AObj.row (acs (Ls.ks l 0)) 2 false false true) :: some (AObj.row (ints (Ls.zs l 1)) 2 false false true) :: some (AObj.row (acs (Ls.ks l 1)) 2 false false true) :: some (AObj.row (ints (Ls.zs l 2)) 2 false false true) :: some (AObj.row (acs (Ls.ks l 2)) 2 false false true) :: noH = some z1 :: some (AObj.row (ints (Ls.zs l 0)) 2 false false true) :: some (AObj.row (acs (Ls.ks l 0)) 2 false false true) :: some (AObj.row (ints (Ls.zs l 1)) 2 false false true) :: some (AObj.row (acs (Ls.ks l 1)) 2 false false true) :: some (AObj.row (ints (Ls.zs l 2)) 2 false false true) :: some (AObj.row (acs (Ls.ks l 2)) 2 false false true) :: noH))) (K (Value.bool true) (some z1 :: some (AObj.row (ints (Ls.zs l 0)) 2 false false true) :: some (AObj.row (acs (Ls.ks l 0)) 2 false false true) :: some (AObj.row (ints (Ls.zs l 1)) 2 false false true) :: some (AObj.row (acs (Ls.ks l 1)) 2 false false true) :: some (AObj.row (ints (Ls.zs l 2)) 2 false false true) :: some (AObj.row (acs (Ls.ks l 2)) 2 false false true) :: noH))))))))) := by kernel_rfl
theorem jl1_t (l : Ls) (c : Nat) (K : Value → Heap → Prop) :
    (fnP Tryz.prog c0 (hsJl l (1 : Nat) c) (4 : FuncId) [Value.slice (some { block := (0 : Nat), off := (0 : Nat) }) (1 : Nat) c, Value.int IntKind.i64 (3 : Int)] (lsG l (1 : Nat)) K) =
    (let z0 : AObj := AObj.row [Value.string (Ls.nm l 0), Value.slice (some ⟨1, 0, none⟩) (Ls.N l 0) 18446744073709551616, Value.slice (some ⟨2, 0, none⟩) (Ls.K l 0) 18446744073709551616] 3 false false false; (Is (false = false) ∧ Is ((1 = 1 ∧ some z0 :: some (AObj.row (ints (Ls.zs l 0)) 2 false false true) :: some (AObj.row (acs (Ls.ks l 0)) 2 false false true) :: noH = some z0 :: some (AObj.row (ints (Ls.zs l 0)) 2 false false true) :: some (AObj.row (acs (Ls.ks l 0)) 2 false false true) :: noH ∧ okLs l 1 ∧ 1 ≤ 1000) ∧ shL l 1 = true) ∧ Is (1 = 1 ∧ some z0 :: some (AObj.row (ints (Ls.zs l 0)) 2 false false true) :: some (AObj.row (acs (Ls.ks l 0)) 2 false false true) :: noH = some z0 :: some (AObj.row (ints (Ls.zs l 0)) 2 false false true) :: some (AObj.row (acs (Ls.ks l 0)) 2 false false true) :: noH ∧ okLt l 1) ∧ Is ((csE l 1 != (0 : Int)) = false) ∧ br (decide ((12 : Int) < (↑(Ls.N l 0) : Int))) (K (Value.bool false) (some z0 :: some (AObj.row (ints (Ls.zs l 0)) 2 false false true) :: some (AObj.row (acs (Ls.ks l 0)) 2 false false true) :: noH)) (∃ (p : Unit), (∃ (s : Nat), Is (s ≤ Ls.N l 0 ∧ mA (Ls.zs l 0) s = true) ∧ (Value.slice (some ⟨0, 0, none⟩) 1 c = Value.slice (some ⟨0, 0, none⟩) 1 c ∧ Value.int .i64 1 = Value.int .i64 1 ∧ Value.int .i64 0 = Value.int .i64 0 ∧ Value.slice (some ⟨1, 0, none⟩) (Ls.N l 0) 18446744073709551616 = Value.slice (some ⟨1, 0, none⟩) (Ls.N l 0) 18446744073709551616 ∧ Value.int .i64 (↑(Ls.N l 0) : Int) = Value.int .i64 (↑(Ls.N l 0) : Int) ∧ Value.int .i64 0 = Value.int .i64 (s : Int) ∧ True) ∧ some z0 :: some (AObj.row (ints (Ls.zs l 0)) 2 false false true) :: some (AObj.row (acs (Ls.ks l 0)) 2 false false true) :: noH = some z0 :: some (AObj.row (ints (Ls.zs l 0)) 2 false false true) :: some (AObj.row (acs (Ls.ks l 0)) 2 false false true) :: noH) ∧ ∀ (s : Nat), Is (s ≤ Ls.N l 0 ∧ mA (Ls.zs l 0) s = true) → br (decide ((s : Int) < (↑(Ls.N l 0) : Int))) (Is ((0 : Int) ≤ (s : Int) ∧ (s : Int) < (↑(Ls.N l 0) : Int)) ∧ Is ((if 0 + Int.toNat (s : Int) * 2 + 2 ≤ List.length (ints (Ls.zs l 0)) then some (Value.agg (List.toArray (List.take 2 (List.drop (0 + Int.toNat (s : Int) * 2) (ints (Ls.zs l 0)))))) else none) = some (Value.agg #[Value.int .i64 (List.getD (Ls.zs l 0) (0 + Int.toNat (s : Int) * 2) (0 : Int)), Value.int .i64 (List.getD (Ls.zs l 0) (0 + Int.toNat (s : Int) * 2 + 1) (0 : Int))])) ∧ br (decide ((2000 : Int) < List.getD (Ls.zs l 0) (0 + Int.toNat (s : Int) * 2) (0 : Int))) (K (Value.bool false) (some z0 :: some (AObj.row (ints (Ls.zs l 0)) 2 false false true) :: some (AObj.row (acs (Ls.ks l 0)) 2 false false true) :: noH)) (br (decide ((10000 : Int) < List.getD (Ls.zs l 0) (0 + Int.toNat (s : Int) * 2 + 1) (0 : Int))) (K (Value.bool false) (some z0 :: some (AObj.row (ints (Ls.zs l 0)) 2 false false true) :: some (AObj.row (acs (Ls.ks l 0)) 2 false false true) :: noH)) (∃ (s' : Nat), Is (s' ≤ Ls.N l 0 ∧ mA (Ls.zs l 0) s' = true) ∧ Is (Ls.N l 0 - s' < Ls.N l 0 - s) ∧ (Value.slice (some ⟨0, 0, none⟩) 1 c = Value.slice (some ⟨0, 0, none⟩) 1 c ∧ Value.int .i64 1 = Value.int .i64 1 ∧ Value.int .i64 0 = Value.int .i64 0 ∧ Value.slice (some ⟨1, 0, none⟩) (Ls.N l 0) 18446744073709551616 = Value.slice (some ⟨1, 0, none⟩) (Ls.N l 0) 18446744073709551616 ∧ Value.int .i64 (↑(Ls.N l 0) : Int) = Value.int .i64 (↑(Ls.N l 0) : Int) ∧ Value.int .i64 (IntKind.wrap .i64 ((s : Int) + (1 : Int))) = Value.int .i64 (↑s' : Int) ∧ True) ∧ some z0 :: some (AObj.row (ints (Ls.zs l 0)) 2 false false true) :: some (AObj.row (acs (Ls.ks l 0)) 2 false false true) :: noH = some z0 :: some (AObj.row (ints (Ls.zs l 0)) 2 false false true) :: some (AObj.row (acs (Ls.ks l 0)) 2 false false true) :: noH))) (K (Value.bool true) (some z0 :: some (AObj.row (ints (Ls.zs l 0)) 2 false false true) :: some (AObj.row (acs (Ls.ks l 0)) 2 false false true) :: noH))))) := by kernel_rfl
theorem jsA_no {l : Ls} {i : Nat} (h : sOkJ l i = false) : ∀ {n : Nat}, i < n → jsA l n = false
  | 0, hi => by omega
  | n + 1, hi => by
    rw [jsA]
    rcases (by omega : i = n ∨ i < n) with rfl | hi
    · rw [h, Bool.and_false]
    · rw [jsA_no h hi] <;> rfl
theorem sO_big {l : Ls} {i : Nat} (h : decide ((12 : Int) < (l.N i : Int)) = true) : sOkJ l i = false := by
  rw [sOkJ, decide_eq_false (by have := of_decide_eq_true h; omega)] <;> rfl
theorem mA_no {zs : List Int} {j : Nat} (h : mOk zs j = false) : ∀ {n : Nat}, j < n → mA zs n = false
  | 0, hi => by omega
  | n + 1, hi => by
    rw [mA]
    rcases (by omega : j = n ∨ j < n) with rfl | hi
    · rw [h, Bool.and_false]
    · rw [mA_no h hi] <;> rfl
theorem sO_m {l : Ls} {i j : Nat} (hj : j < l.N i) (h : mOk (l.zs i) j = false) : sOkJ l i = false := by
  rw [sOkJ, mA_no h hj, Bool.and_false]
theorem sO_yes {l : Ls} {i : Nat} (h : decide ((12 : Int) < (l.N i : Int)) = false) (h2 : mA (l.zs i) (l.N i) = true) : sOkJ l i = true := by
  rw [sOkJ, h2, decide_eq_true (by have := of_decide_eq_false h; omega)] <;> rfl
theorem ld_zs {zs : List Int} {j n : Nat} (hz : zs.length = n * 2) (h : j < n) : (if j * 2 + 2 ≤ (ints zs).length then some (Value.agg (((ints zs).drop (j * 2)).take 2).toArray) else none) = some (.agg #[.int .i64 (zs.getD (j * 2) 0), .int .i64 (zs.getD (j * 2 + 1) 0)]) := by
  rw [ints_len, if_pos (by omega), ints_pair (by omega)]
set_option maxRecDepth 100000 in
theorem js0_ok {l : Ls} {c : Nat} (hl : okLs l 0) (ht : okLt l 0) (hs : shL l 0 = true) (hc : csE l 0 = 0) : SmallRes Tryz.prog 4 [.slice (some ⟨0, 0, none⟩) 0 c, .int .i64 3] (lsG l 0) (.bool (jsA l 0)) (lsG l 0) := by
  refine fnP_res hm c0_ok (hs := hsJl l 0 c) ?_
  rw [jl0_t]
  refine ⟨⟨rfl⟩, ⟨⟨rfl, rfl, hl, by decide⟩, hs⟩, ⟨rfl, rfl, ht⟩, ⟨by rw [hc] <;> rfl⟩, ?_⟩
  exact ⟨by first | trivial | rfl, by first | trivial | rfl⟩
set_option maxRecDepth 100000 in
theorem js1_ok {l : Ls} {c : Nat} (hl : okLs l 1) (ht : okLt l 1) (hs : shL l 1 = true) (hc : csE l 1 = 0) : SmallRes Tryz.prog 4 [.slice (some ⟨0, 0, none⟩) 1 c, .int .i64 3] (lsG l 1) (.bool (jsA l 1)) (lsG l 1) := by
  refine fnP_res hm c0_ok (hs := hsJl l 1 c) ?_
  rw [jl1_t]
  refine ⟨⟨rfl⟩, ⟨⟨rfl, rfl, hl, by decide⟩, hs⟩, ⟨rfl, rfl, ht⟩, ⟨by rw [hc] <;> rfl⟩, ?_⟩
  refine br_of (fun h0 => ?_) (fun h0 => ⟨PUnit.unit, ⟨(0 : Nat), ⟨by omega, rfl⟩, ?_, by first | trivial | rfl⟩, fun s hs => br_of (fun hd => ?_) (fun hd => ?_)⟩)
  · rw [jsA_no (sO_big h0) (by decide)]; exact ⟨by first | trivial | rfl, by first | trivial | rfl⟩
  · repeat (first | exact trivial | refine ⟨by first | trivial | rfl, ?_⟩)
  · have hd := lt_of_dec hd
    have hN : l.N 0 ≤ 12 := by have := of_decide_eq_false h0; omega
    simp only [Nat.zero_add, Int.toNat_natCast, up1 hd (Nat.le_trans hN (by omega))]
    refine ⟨⟨by omega, by omega⟩, ⟨ld_zs (ht 0 (by decide)).1 hd⟩, br_of (fun b1 => ?_) (fun b1 => br_of (fun b2 => ?_) (fun b2 => ?_))⟩
    · rw [jsA_no (sO_m hd (by rw [mOk, decide_eq_false (by have := of_decide_eq_true b1; omega)] <;> rfl)) (by decide)]; exact ⟨by first | trivial | rfl, by first | trivial | rfl⟩
    · rw [jsA_no (sO_m hd (by rw [mOk, decide_eq_false (p := _ ≤ (10000 : Int)) (by have := of_decide_eq_true b2; omega), Bool.and_false])) (by decide)]; exact ⟨by first | trivial | rfl, by first | trivial | rfl⟩
    · refine ⟨s + 1, ⟨hd, ?_⟩, ⟨by omega⟩, ?_, by first | trivial | rfl⟩
      · rw [mA, hs.out.2, mOk, decide_eq_true (by have := of_decide_eq_false b1; omega), decide_eq_true (by have := of_decide_eq_false b2; omega)] <;> rfl
      · repeat (first | exact trivial | refine ⟨by first | trivial | rfl, ?_⟩)
  · have hd := ge_of_dec hd
    have e : s = l.N 0 := by have := hs.out.1; omega
    have em : mA (l.zs 0) (l.N 0) = true := by rw [← e]; exact hs.out.2
    have y0 : sOkJ l 0 = true := sO_yes h0 em
    have ej : jsA l 1 = true := by simp only [jsA, y0, Bool.and_self]
    rw [ej]
    exact ⟨by first | trivial | rfl, by first | trivial | rfl⟩
set_option maxRecDepth 100000 in
theorem js2_ok {l : Ls} {c : Nat} (hl : okLs l 2) (ht : okLt l 2) (hs : shL l 2 = true) (hc : csE l 2 = 0) : SmallRes Tryz.prog 4 [.slice (some ⟨0, 0, none⟩) 2 c, .int .i64 3] (lsG l 2) (.bool (jsA l 2)) (lsG l 2) := by
  refine fnP_res hm c0_ok (hs := hsJl l 2 c) ?_
  rw [jl2_t]
  refine ⟨⟨rfl⟩, ⟨⟨rfl, rfl, hl, by decide⟩, hs⟩, ⟨rfl, rfl, ht⟩, ⟨by rw [hc] <;> rfl⟩, ?_⟩
  refine br_of (fun h0 => ?_) (fun h0 => ⟨PUnit.unit, ⟨(0 : Nat), ⟨by omega, rfl⟩, ?_, by first | trivial | rfl⟩, fun s hs => br_of (fun hd => ?_) (fun hd => ?_)⟩)
  · rw [jsA_no (sO_big h0) (by decide)]; exact ⟨by first | trivial | rfl, by first | trivial | rfl⟩
  · repeat (first | exact trivial | refine ⟨by first | trivial | rfl, ?_⟩)
  · have hd := lt_of_dec hd
    have hN : l.N 0 ≤ 12 := by have := of_decide_eq_false h0; omega
    simp only [Nat.zero_add, Int.toNat_natCast, up1 hd (Nat.le_trans hN (by omega))]
    refine ⟨⟨by omega, by omega⟩, ⟨ld_zs (ht 0 (by decide)).1 hd⟩, br_of (fun b1 => ?_) (fun b1 => br_of (fun b2 => ?_) (fun b2 => ?_))⟩
    · rw [jsA_no (sO_m hd (by rw [mOk, decide_eq_false (by have := of_decide_eq_true b1; omega)] <;> rfl)) (by decide)]; exact ⟨by first | trivial | rfl, by first | trivial | rfl⟩
    · rw [jsA_no (sO_m hd (by rw [mOk, decide_eq_false (p := _ ≤ (10000 : Int)) (by have := of_decide_eq_true b2; omega), Bool.and_false])) (by decide)]; exact ⟨by first | trivial | rfl, by first | trivial | rfl⟩
    · refine ⟨s + 1, ⟨hd, ?_⟩, ⟨by omega⟩, ?_, by first | trivial | rfl⟩
      · rw [mA, hs.out.2, mOk, decide_eq_true (by have := of_decide_eq_false b1; omega), decide_eq_true (by have := of_decide_eq_false b2; omega)] <;> rfl
      · repeat (first | exact trivial | refine ⟨by first | trivial | rfl, ?_⟩)
  · have hd := ge_of_dec hd
    have e : s = l.N 0 := by have := hs.out.1; omega
    have em : mA (l.zs 0) (l.N 0) = true := by rw [← e]; exact hs.out.2
    have y0 : sOkJ l 0 = true := sO_yes h0 em
    refine br_of (fun h1 => ?_) (fun h1 => ⟨PUnit.unit, ⟨(0 : Nat), ⟨by omega, rfl⟩, ?_, by first | trivial | rfl⟩, fun s hs => br_of (fun hd => ?_) (fun hd => ?_)⟩)
    · rw [jsA_no (sO_big h1) (by decide)]; exact ⟨by first | trivial | rfl, by first | trivial | rfl⟩
    · repeat (first | exact trivial | refine ⟨by first | trivial | rfl, ?_⟩)
    · have hd := lt_of_dec hd
      have hN : l.N 1 ≤ 12 := by have := of_decide_eq_false h1; omega
      simp only [Nat.zero_add, Int.toNat_natCast, up1 hd (Nat.le_trans hN (by omega))]
      refine ⟨⟨by omega, by omega⟩, ⟨ld_zs (ht 1 (by decide)).1 hd⟩, br_of (fun b1 => ?_) (fun b1 => br_of (fun b2 => ?_) (fun b2 => ?_))⟩
      · rw [jsA_no (sO_m hd (by rw [mOk, decide_eq_false (by have := of_decide_eq_true b1; omega)] <;> rfl)) (by decide)]; exact ⟨by first | trivial | rfl, by first | trivial | rfl⟩
      · rw [jsA_no (sO_m hd (by rw [mOk, decide_eq_false (p := _ ≤ (10000 : Int)) (by have := of_decide_eq_true b2; omega), Bool.and_false])) (by decide)]; exact ⟨by first | trivial | rfl, by first | trivial | rfl⟩
      · refine ⟨s + 1, ⟨hd, ?_⟩, ⟨by omega⟩, ?_, by first | trivial | rfl⟩
        · rw [mA, hs.out.2, mOk, decide_eq_true (by have := of_decide_eq_false b1; omega), decide_eq_true (by have := of_decide_eq_false b2; omega)] <;> rfl
        · repeat (first | exact trivial | refine ⟨by first | trivial | rfl, ?_⟩)
    · have hd := ge_of_dec hd
      have e : s = l.N 1 := by have := hs.out.1; omega
      have em : mA (l.zs 1) (l.N 1) = true := by rw [← e]; exact hs.out.2
      have y1 : sOkJ l 1 = true := sO_yes h1 em
      have ej : jsA l 2 = true := by simp only [jsA, y0, y1, Bool.and_self]
      rw [ej]
      exact ⟨by first | trivial | rfl, by first | trivial | rfl⟩
set_option maxRecDepth 100000 in
theorem js3_ok {l : Ls} {c : Nat} (hl : okLs l 3) (ht : okLt l 3) (hs : shL l 3 = true) (hc : csE l 3 = 0) : SmallRes Tryz.prog 4 [.slice (some ⟨0, 0, none⟩) 3 c, .int .i64 3] (lsG l 3) (.bool (jsA l 3)) (lsG l 3) := by
  refine fnP_res hm c0_ok (hs := hsJl l 3 c) ?_
  rw [jl3_t]
  refine ⟨⟨rfl⟩, ⟨⟨rfl, rfl, hl, by decide⟩, hs⟩, ⟨rfl, rfl, ht⟩, ⟨by rw [hc] <;> rfl⟩, ?_⟩
  refine br_of (fun h0 => ?_) (fun h0 => ⟨PUnit.unit, ⟨(0 : Nat), ⟨by omega, rfl⟩, ?_, by first | trivial | rfl⟩, fun s hs => br_of (fun hd => ?_) (fun hd => ?_)⟩)
  · rw [jsA_no (sO_big h0) (by decide)]; exact ⟨by first | trivial | rfl, by first | trivial | rfl⟩
  · repeat (first | exact trivial | refine ⟨by first | trivial | rfl, ?_⟩)
  · have hd := lt_of_dec hd
    have hN : l.N 0 ≤ 12 := by have := of_decide_eq_false h0; omega
    simp only [Nat.zero_add, Int.toNat_natCast, up1 hd (Nat.le_trans hN (by omega))]
    refine ⟨⟨by omega, by omega⟩, ⟨ld_zs (ht 0 (by decide)).1 hd⟩, br_of (fun b1 => ?_) (fun b1 => br_of (fun b2 => ?_) (fun b2 => ?_))⟩
    · rw [jsA_no (sO_m hd (by rw [mOk, decide_eq_false (by have := of_decide_eq_true b1; omega)] <;> rfl)) (by decide)]; exact ⟨by first | trivial | rfl, by first | trivial | rfl⟩
    · rw [jsA_no (sO_m hd (by rw [mOk, decide_eq_false (p := _ ≤ (10000 : Int)) (by have := of_decide_eq_true b2; omega), Bool.and_false])) (by decide)]; exact ⟨by first | trivial | rfl, by first | trivial | rfl⟩
    · refine ⟨s + 1, ⟨hd, ?_⟩, ⟨by omega⟩, ?_, by first | trivial | rfl⟩
      · rw [mA, hs.out.2, mOk, decide_eq_true (by have := of_decide_eq_false b1; omega), decide_eq_true (by have := of_decide_eq_false b2; omega)] <;> rfl
      · repeat (first | exact trivial | refine ⟨by first | trivial | rfl, ?_⟩)
  · have hd := ge_of_dec hd
    have e : s = l.N 0 := by have := hs.out.1; omega
    have em : mA (l.zs 0) (l.N 0) = true := by rw [← e]; exact hs.out.2
    have y0 : sOkJ l 0 = true := sO_yes h0 em
    refine br_of (fun h1 => ?_) (fun h1 => ⟨PUnit.unit, ⟨(0 : Nat), ⟨by omega, rfl⟩, ?_, by first | trivial | rfl⟩, fun s hs => br_of (fun hd => ?_) (fun hd => ?_)⟩)
    · rw [jsA_no (sO_big h1) (by decide)]; exact ⟨by first | trivial | rfl, by first | trivial | rfl⟩
    · repeat (first | exact trivial | refine ⟨by first | trivial | rfl, ?_⟩)
    · have hd := lt_of_dec hd
      have hN : l.N 1 ≤ 12 := by have := of_decide_eq_false h1; omega
      simp only [Nat.zero_add, Int.toNat_natCast, up1 hd (Nat.le_trans hN (by omega))]
      refine ⟨⟨by omega, by omega⟩, ⟨ld_zs (ht 1 (by decide)).1 hd⟩, br_of (fun b1 => ?_) (fun b1 => br_of (fun b2 => ?_) (fun b2 => ?_))⟩
      · rw [jsA_no (sO_m hd (by rw [mOk, decide_eq_false (by have := of_decide_eq_true b1; omega)] <;> rfl)) (by decide)]; exact ⟨by first | trivial | rfl, by first | trivial | rfl⟩
      · rw [jsA_no (sO_m hd (by rw [mOk, decide_eq_false (p := _ ≤ (10000 : Int)) (by have := of_decide_eq_true b2; omega), Bool.and_false])) (by decide)]; exact ⟨by first | trivial | rfl, by first | trivial | rfl⟩
      · refine ⟨s + 1, ⟨hd, ?_⟩, ⟨by omega⟩, ?_, by first | trivial | rfl⟩
        · rw [mA, hs.out.2, mOk, decide_eq_true (by have := of_decide_eq_false b1; omega), decide_eq_true (by have := of_decide_eq_false b2; omega)] <;> rfl
        · repeat (first | exact trivial | refine ⟨by first | trivial | rfl, ?_⟩)
    · have hd := ge_of_dec hd
      have e : s = l.N 1 := by have := hs.out.1; omega
      have em : mA (l.zs 1) (l.N 1) = true := by rw [← e]; exact hs.out.2
      have y1 : sOkJ l 1 = true := sO_yes h1 em
      refine br_of (fun h2 => ?_) (fun h2 => ⟨PUnit.unit, ⟨(0 : Nat), ⟨by omega, rfl⟩, ?_, by first | trivial | rfl⟩, fun s hs => br_of (fun hd => ?_) (fun hd => ?_)⟩)
      · rw [jsA_no (sO_big h2) (by decide)]; exact ⟨by first | trivial | rfl, by first | trivial | rfl⟩
      · repeat (first | exact trivial | refine ⟨by first | trivial | rfl, ?_⟩)
      · have hd := lt_of_dec hd
        have hN : l.N 2 ≤ 12 := by have := of_decide_eq_false h2; omega
        simp only [Nat.zero_add, Int.toNat_natCast, up1 hd (Nat.le_trans hN (by omega))]
        refine ⟨⟨by omega, by omega⟩, ⟨ld_zs (ht 2 (by decide)).1 hd⟩, br_of (fun b1 => ?_) (fun b1 => br_of (fun b2 => ?_) (fun b2 => ?_))⟩
        · rw [jsA_no (sO_m hd (by rw [mOk, decide_eq_false (by have := of_decide_eq_true b1; omega)] <;> rfl)) (by decide)]; exact ⟨by first | trivial | rfl, by first | trivial | rfl⟩
        · rw [jsA_no (sO_m hd (by rw [mOk, decide_eq_false (p := _ ≤ (10000 : Int)) (by have := of_decide_eq_true b2; omega), Bool.and_false])) (by decide)]; exact ⟨by first | trivial | rfl, by first | trivial | rfl⟩
        · refine ⟨s + 1, ⟨hd, ?_⟩, ⟨by omega⟩, ?_, by first | trivial | rfl⟩
          · rw [mA, hs.out.2, mOk, decide_eq_true (by have := of_decide_eq_false b1; omega), decide_eq_true (by have := of_decide_eq_false b2; omega)] <;> rfl
          · repeat (first | exact trivial | refine ⟨by first | trivial | rfl, ?_⟩)
      · have hd := ge_of_dec hd
        have e : s = l.N 2 := by have := hs.out.1; omega
        have em : mA (l.zs 2) (l.N 2) = true := by rw [← e]; exact hs.out.2
        have y2 : sOkJ l 2 = true := sO_yes h2 em
        have ej : jsA l 3 = true := by simp only [jsA, y0, y1, y2, Bool.and_self]
        rw [ej]
        exact ⟨by first | trivial | rfl, by first | trivial | rfl⟩
theorem js_big {l : Ls} {n c : Nat} {T : Heap} (h : 3 < n) : SmallRes Tryz.prog 4 [.slice (some ⟨0, 0, none⟩) n c, .int .i64 3] (lsR l n :: T) (.bool false) (lsR l n :: T) := by
  refine fnP_res hm c0_ok (hs := hsJb l n T 0) ?_
  rw [jb0_t]
  exact ⟨⟨decide_eq_true (by omega)⟩, rfl, rfl⟩
theorem ci_ls (l : Ls) (n c : Nat) {r : Value} (hr : atom r = true) : CiOK (lsR l n :: lsT l n) [Value.slice (some ⟨0, 0, none⟩) n c] (List.range (2 * n + 1)) [Value.slice (some ⟨0, 0, none⟩) n c] (lsR l n :: lsT l n) r := by
  have hc := ci_pre (X := []) (still_ls l n) (ls_arg l n n c) (ret := r) hr
  rw [List.append_nil, lsG_len] at hc
  exact hc
theorem js_short {l : Ls} {n c : Nat} (h3 : n ≤ 3) (hl : okLs l n) (h : shL l n = false) : SmallRes Tryz.prog 4 [.slice (some ⟨0, 0, none⟩) n c, .int .i64 3] (lsG l n) (.bool false) (lsG l n) := by
  refine fnP_res hm c0_ok (hs := hsJb l n (lsT l n) 1) ?_
  show fnP Tryz.prog c0 (hsJb l n (lsT l n) 1) 4 _ (lsR l n :: lsT l n) _
  rw [jb1_t]
  exact ⟨⟨decide_eq_false (by omega)⟩, ⟨⟨ci_ls l n c rfl, rfl, lsIn_all l n, hl, by omega⟩, h⟩, rfl, rfl⟩
theorem js_bad {l : Ls} {n c : Nat} (h3 : n ≤ 3) (hl : okLs l n) (ht : okLt l n) (h : shL l n = true) (hc : csE l n ≠ 0) : SmallRes Tryz.prog 4 [.slice (some ⟨0, 0, none⟩) n c, .int .i64 3] (lsG l n) (.bool false) (lsG l n) := by
  refine fnP_res hm c0_ok (hs := hsJb l n (lsT l n) 2) ?_
  show fnP Tryz.prog c0 (hsJb l n (lsT l n) 2) 4 _ (lsR l n :: lsT l n) _
  rw [jb2_t]
  exact ⟨⟨decide_eq_false (by omega)⟩, ⟨⟨ci_ls l n c rfl, rfl, lsIn_all l n, hl, by omega⟩, h⟩, ⟨ci_ls l n c rfl, rfl, lsIn_all l n, ht⟩, ⟨bne_iff_ne.2 hc⟩, rfl, rfl⟩
theorem js_ok {l : Ls} {n c : Nat} (h3 : n ≤ 3) (hl : okLs l n) (ht : okLt l n) (hs : shL l n = true) (hc : csE l n = 0) : SmallRes Tryz.prog 4 [.slice (some ⟨0, 0, none⟩) n c, .int .i64 3] (lsG l n) (.bool (jsA l n)) (lsG l n) := by
  match n, h3, hl, ht, hs, hc with
  | 0, _, hl, ht, hs, hc => exact js0_ok hl ht hs hc
  | 1, _, hl, ht, hs, hc => exact js1_ok hl ht hs hc
  | 2, _, hl, ht, hs, hc => exact js2_ok hl ht hs hc
  | 3, _, hl, ht, hs, hc => exact js3_ok hl ht hs hc
  | n + 4, h3, _, _, _, _ => exact absurd h3 (by omega)
end
end Qq
end
section
/- Offices, checked. -/
open Go Go.Vm Go.Proofs Sp
namespace Sp
noncomputable section
noncomputable def seA (nm : Nat → ByteArray) (D : Nat → Int) (v : Int) (off : Nat) : Value := .agg #[.string (nmAt2 nm (off / 5)), .int .i64 (dAt D (off / 5)), .int .i64 1, .int .i64 0, .int .i64 v]
where nmAt2 (nm : Nat → ByteArray) (i : Nat) : ByteArray := nm i
noncomputable def shA2 (D : Nat → Int) (s : Nat) (off : Nat) : Value := .agg #[.int .i64 (dAt D (s + off / 4)), .int .i64 1, .int .i64 0, .int .i64 0]
def knN (nm : Nat → ByteArray) (i : Nat) : List (ByteArray × Value) := (List.range i).map fun j => (nm j, .bool true)
end
end Sp
namespace Qq
noncomputable section
noncomputable def u3 : List (Nat × Orc) := (46, orcName) :: u2
theorem u3_all : ∀ p ∈ u3, Ok Tryz.prog p.1 p.2 := all_cons okName u2_all
noncomputable def cu3 : CallF := ctx Tryz.prog u3
theorem cu3_ok : CallOK Tryz.prog cu3 := ctx_ok hm u3_all
section
variable (nm : Nat → ByteArray) (D : Nat → Int) (v : Int) (N s K a b : Nat)
noncomputable def lpO1 : Lp where
  σ := Nat
  E i := slots 87 [(1, .pointer (some ⟨2, 0, none⟩)), (4, .map (some 3)), (28, .slice (some ⟨0, 0, none⟩) N a), (29, .int .i64 (N : Int)), (30, .int .i64 (i : Int))]
  Hp i := [rSe nm D v N, rSh D s K, bxO N K a b 0 1, some (.smap (knN nm i))]
  I i := i ≤ N
  m i := N - i
noncomputable def lpO2 : Lp where
  σ := Nat
  E i := slots 87 [(1, .pointer (some ⟨2, 0, none⟩)), (56, .slice (some ⟨1, 0, none⟩) K b), (57, .int .i64 (K : Int)), (58, .int .i64 (i : Int))]
  Hp _ := [rSe nm D v N, rSh D s K, bxO N K a b 0 1]
  I i := i ≤ K
  m i := K - i
noncomputable def hsO : Hs Tryz.prog where
  op y := if [700, 1501, 1612].contains y then some (hIa Tryz.prog) else if y = 701 then some (hLd Tryz.prog (seA nm D v)) else if y = 1502 then some (hLd Tryz.prog (shA2 D s)) else if y = 1614 then some (hLd Tryz.prog (dyV D s))
    else if y = 808 then some (hMlT Tryz.prog) else if y = 1103 then some (hMuT Tryz.prog) else if [201, 901, 1701].contains y then some (hTold false) else none
  lp y := if y = 6 then some (lpO1 nm D v N s K a b) else some (lpO2 nm D v N s K a b)
  cl y := if y = 6 then keep 87 [1, 4, 28, 29, 30] else keep 87 [1, 56, 57, 58]
  sm := true
  au := au0 Tryz.prog
end
theorem of_t (nm : Nat → ByteArray) (D : Nat → Int) (v : Int) (N : Nat) (s : Nat) (K : Nat) (a : Nat) (b : Nat) (K0 : Value → Heap → Prop) :
    (fnP Tryz.prog cu3 (hsO nm D v N s K a b) (28 : FuncId) [off3 N K a b (0 : Nat) (1 : Nat)] [rSe nm D v N, rSh D s K] K0) =
    (let q0 : Prop := Value.pointer (some ⟨2, 0, none⟩) = Value.pointer (some ⟨2, 0, none⟩); let z1 : AObj := AObj.row [Value.slice (some ⟨0, 0, none⟩) N a, Value.slice (some ⟨1, 0, none⟩) K b] 0 false true false; (Is ((fi [wh (decide ((7 : Int) < (N : Int))) (5 : Int), wh (decide ((5 : Int) < (K : Int))) (5 : Int)] != (0 : Int)) = false) ∧ (∃ (s_1 : Nat), Is (s_1 ≤ N) ∧ (q0 ∧ Value.map (some 3) = Value.map (some 3) ∧ Value.slice (some ⟨0, 0, none⟩) N a = Value.slice (some ⟨0, 0, none⟩) N a ∧ Value.int .i64 (N : Int) = Value.int .i64 (N : Int) ∧ Value.int .i64 0 = Value.int .i64 (s_1 : Int) ∧ True) ∧ some (AObj.row (seC nm D v N) 5 true false true) :: some (AObj.row (shC D s K) 4 true false true) :: some z1 :: some (AObj.smap []) :: noH = some (AObj.row (seC nm D v N) 5 true false true) :: some (AObj.row (shC D s K) 4 true false true) :: some z1 :: some (AObj.smap (knN nm s_1)) :: noH) ∧ ∀ (s_1 : Nat), Is (s_1 ≤ N) → br (decide ((s_1 : Int) < (N : Int))) (Is ((0 : Int) ≤ (s_1 : Int) ∧ (s_1 : Int) < (N : Int)) ∧ Is ((if 0 + Int.toNat (s_1 : Int) * 5 + 5 ≤ List.length (seC nm D v N) then some (Value.agg (List.toArray (List.take 5 (List.drop (0 + Int.toNat (s_1 : Int) * 5) (seC nm D v N))))) else none) = some (Value.agg #[Value.string (seA.nmAt2 nm ((0 + Int.toNat (s_1 : Int) * 5) / 5)), Value.int .i64 (dAt D ((0 + Int.toNat (s_1 : Int) * 5) / 5)), Value.int .i64 1, Value.int .i64 0, Value.int .i64 v])) ∧ Is (allT (knN nm s_1) = true) ∧ Is ((fi [wh (!nameB (seA.nmAt2 nm ((0 + Int.toNat (s_1 : Int) * 5) / 5))) (8 : Int), wh (hasK (seA.nmAt2 nm ((0 + Int.toNat (s_1 : Int) * 5) / 5)) (knN nm s_1)) (9 : Int), fi [wi (dAt D ((0 + Int.toNat (s_1 : Int) * 5) / 5)) (0 : Int) (100000 : Int), (0 : Int), (0 : Int), wi v (0 : Int) (1000000 : Int)]] != (0 : Int)) = false) ∧ Is (allT (knN nm s_1) = true ∧ hasK (seA.nmAt2 nm ((0 + Int.toNat (s_1 : Int) * 5) / 5)) (knN nm s_1) = false) ∧ ∃ (s' : Nat), Is (s' ≤ N) ∧ Is (N - s' < N - s_1) ∧ (q0 ∧ Value.map (some 3) = Value.map (some 3) ∧ Value.slice (some ⟨0, 0, none⟩) N a = Value.slice (some ⟨0, 0, none⟩) N a ∧ Value.int .i64 (N : Int) = Value.int .i64 (N : Int) ∧ Value.int .i64 (IntKind.wrap .i64 ((s_1 : Int) + (1 : Int))) = Value.int .i64 (↑s' : Int) ∧ True) ∧ some (AObj.row (seC nm D v N) 5 true false true) :: some (AObj.row (shC D s K) 4 true false true) :: some z1 :: some (AObj.smap (knN nm s_1 ++ [(seA.nmAt2 nm ((0 + Int.toNat (s_1 : Int) * 5) / 5), Value.bool true)])) :: noH = some (AObj.row (seC nm D v N) 5 true false true) :: some (AObj.row (shC D s K) 4 true false true) :: some z1 :: some (AObj.smap (knN nm s')) :: noH) ((∃ (s_2 : Nat), Is (s_2 ≤ K) ∧ (q0 ∧ Value.slice (some ⟨1, 0, none⟩) K b = Value.slice (some ⟨1, 0, none⟩) K b ∧ Value.int .i64 (K : Int) = Value.int .i64 (K : Int) ∧ Value.int .i64 0 = Value.int .i64 (s_2 : Int) ∧ True) ∧ some (AObj.row (seC nm D v N) 5 true false true) :: some (AObj.row (shC D s K) 4 true false true) :: some z1 :: noH = some (AObj.row (seC nm D v N) 5 true false true) :: some (AObj.row (shC D s K) 4 true false true) :: some z1 :: noH) ∧ ∀ (s_2 : Nat), Is (s_2 ≤ K) → br (decide ((s_2 : Int) < (K : Int))) (Is ((0 : Int) ≤ (s_2 : Int) ∧ (s_2 : Int) < (K : Int)) ∧ Is ((if 0 + Int.toNat (s_2 : Int) * 4 + 4 ≤ List.length (shC D s K) then some (Value.agg (List.toArray (List.take 4 (List.drop (0 + Int.toNat (s_2 : Int) * 4) (shC D s K))))) else none) = some (Value.agg #[Value.int .i64 (dAt D (s + (0 + Int.toNat (s_2 : Int) * 4) / 4)), Value.int .i64 1, Value.int .i64 0, Value.int .i64 0])) ∧ br (decide ((0 : Int) < (s_2 : Int))) (Is (((0 : Int) ≤ if IntKind.wrap .i64 ((s_2 : Int) - (1 : Int)) > (0 : Int) then IntKind.wrap .i64 ((s_2 : Int) - (1 : Int)) else (0 : Int)) ∧ (if IntKind.wrap .i64 ((s_2 : Int) - (1 : Int)) > (0 : Int) then IntKind.wrap .i64 ((s_2 : Int) - (1 : Int)) else (0 : Int)) < (K : Int)) ∧ Is ((shC D s K)[0 + Int.toNat (if IntKind.wrap .i64 ((s_2 : Int) - (1 : Int)) > (0 : Int) then IntKind.wrap .i64 ((s_2 : Int) - (1 : Int)) else (0 : Int)) * 4 + 0]? = some (Value.int .i64 (dAt D (s + (0 + Int.toNat (if IntKind.wrap .i64 ((s_2 : Int) - (1 : Int)) > (0 : Int) then IntKind.wrap .i64 ((s_2 : Int) - (1 : Int)) else (0 : Int)) * 4 + 0) / 4)))) ∧ Is ((fi [fi [wi (dAt D (s + (0 + Int.toNat (s_2 : Int) * 4) / 4)) (0 : Int) (100000 : Int), (0 : Int), (0 : Int), (0 : Int)], wh (decide (dAt D (s + (0 + Int.toNat (s_2 : Int) * 4) / 4) < dAt D (s + (0 + Int.toNat (if IntKind.wrap .i64 ((s_2 : Int) - (1 : Int)) > (0 : Int) then IntKind.wrap .i64 ((s_2 : Int) - (1 : Int)) else (0 : Int)) * 4 + 0) / 4))) (11 : Int)] != (0 : Int)) = false) ∧ ∃ (s' : Nat), Is (s' ≤ K) ∧ Is (K - s' < K - s_2) ∧ (q0 ∧ Value.slice (some ⟨1, 0, none⟩) K b = Value.slice (some ⟨1, 0, none⟩) K b ∧ Value.int .i64 (K : Int) = Value.int .i64 (K : Int) ∧ Value.int .i64 (IntKind.wrap .i64 ((s_2 : Int) + (1 : Int))) = Value.int .i64 (↑s' : Int) ∧ True) ∧ some (AObj.row (seC nm D v N) 5 true false true) :: some (AObj.row (shC D s K) 4 true false true) :: some z1 :: noH = some (AObj.row (seC nm D v N) 5 true false true) :: some (AObj.row (shC D s K) 4 true false true) :: some z1 :: noH) (Is ((fi [fi [wi (dAt D (s + (0 + Int.toNat (s_2 : Int) * 4) / 4)) (0 : Int) (100000 : Int), (0 : Int), (0 : Int), (0 : Int)], (0 : Int)] != (0 : Int)) = false) ∧ ∃ (s' : Nat), Is (s' ≤ K) ∧ Is (K - s' < K - s_2) ∧ (q0 ∧ Value.slice (some ⟨1, 0, none⟩) K b = Value.slice (some ⟨1, 0, none⟩) K b ∧ Value.int .i64 (K : Int) = Value.int .i64 (K : Int) ∧ Value.int .i64 (IntKind.wrap .i64 ((s_2 : Int) + (1 : Int))) = Value.int .i64 (↑s' : Int) ∧ True) ∧ some (AObj.row (seC nm D v N) 5 true false true) :: some (AObj.row (shC D s K) 4 true false true) :: some z1 :: noH = some (AObj.row (seC nm D v N) 5 true false true) :: some (AObj.row (shC D s K) 4 true false true) :: some z1 :: noH)) (K0 (Value.int .i64 0) (some (AObj.row (seC nm D v N) 5 true false true) :: some (AObj.row (shC D s K) 4 true false true) :: noH))))) := by kernel_rfl
/-- What is asked of an office. -/
structure OfOk (nm : Nat → ByteArray) (D : Nat → Int) (v : Int) (N s K : Nat) : Prop where
  n : N ≤ 7
  k : K ≤ 5
  name : ∀ i, i < N → nameB (nm i) = true
  diff : ∀ i j, j < i → i < N → (nm i == nm j) = false
  d : ∀ i, i < N → 0 ≤ D i ∧ D i ≤ 100000
  ds : ∀ k, k < K → 0 ≤ D (s + k) ∧ D (s + k) ≤ 100000
  up : ∀ k, k + 1 < K → D (s + k) ≤ D (s + k + 1)
  v : 0 ≤ v ∧ v ≤ 1000
theorem knN_succ (nm : Nat → ByteArray) (i : Nat) : knN nm (i + 1) = knN nm i ++ [(nm i, .bool true)] := by
  rw [knN, List.range_succ, List.map_append] <;> rfl
theorem allT_app : ∀ (l : List (ByteArray × Value)) (x : ByteArray), allT l = true → allT (l ++ [(x, .bool true)]) = true
  | [], _, _ => rfl
  | (_, w) :: r, x, h => by
    unfold allT at h
    split at h
    · rename_i e; cases e
    · rename_i e; cases e
      show allT (r ++ _) = true
      exact allT_app r x h
    · cases h
theorem knN_all (nm : Nat → ByteArray) : ∀ i, allT (knN nm i) = true
  | 0 => rfl
  | i + 1 => by rw [knN_succ]; exact allT_app _ _ (knN_all nm i)
theorem hasK_snoc (x : ByteArray) : ∀ (l : List (ByteArray × Value)) (y : ByteArray), hasK x (l ++ [(y, .bool true)]) = (hasK x l || (x == y))
  | [], y => by simp [hasK]
  | p :: r, y => by
    show (x == p.1 || hasK x (r ++ _)) = (x == p.1 || hasK x r || (x == y))
    rw [hasK_snoc x r y, Bool.or_assoc]
theorem knN_no {nm : Nat → ByteArray} {i : Nat} : ∀ {k : Nat}, (∀ j, j < k → (nm i == nm j) = false) → hasK (nm i) (knN nm k) = false
  | 0, _ => rfl
  | k + 1, h => by
    rw [knN_succ, hasK_snoc, knN_no fun j hj => h j (by omega), h k (by omega)] <;> rfl
theorem wi_in {n lo hi : Int} (h : lo ≤ n ∧ n ≤ hi) : wi n lo hi = 0 := by rw [wi, if_neg (by omega)]
theorem prd1 {s n : Nat} (h : s < n) (hn : n ≤ 100000) : (if IntKind.wrap .i64 ((s : Int) - 1) > 0 then IntKind.wrap .i64 ((s : Int) - 1) else 0) = ((s - 1 : Nat) : Int) := by
  rw [wrap_eq (by omega) (by omega)]
  split <;> omega
section
variable {nm : Nat → ByteArray} {D : Nat → Int} {v : Int} {N s K a b : Nat}
theorem se_part {i : Nat} : ∀ {m : Nat}, i < m → ((seC nm D v m).drop (i * 5)).take 5 = [.string (nm i), .int .i64 (D i), .int .i64 1, .int .i64 0, .int .i64 v]
  | 0, h => by omega
  | m + 1, h => by
    have hl := se_len nm D v m
    rw [se_succ]
    rcases (by omega : i = m ∨ i < m) with rfl | h
    · rw [← hl, List.drop_left] <;> rfl
    · rw [List.drop_append_of_le_length (by omega), List.take_append_of_le_length (by rw [List.length_drop]; omega)]
      exact se_part h
theorem sh_part {i : Nat} : ∀ {m : Nat}, i < m → ((shC D s m).drop (i * 4)).take 4 = [.int .i64 (D (s + i)), .int .i64 1, .int .i64 0, .int .i64 0]
  | 0, h => by omega
  | m + 1, h => by
    have hl := sh_len D s m
    rw [sh_succ]
    rcases (by omega : i = m ∨ i < m) with rfl | h
    · rw [← hl, List.drop_left] <;> rfl
    · rw [List.drop_append_of_le_length (by omega), List.take_append_of_le_length (by rw [List.length_drop]; omega)]
      exact sh_part h
theorem of_ok (h : OfOk nm D v N s K) : SmallRes Tryz.prog 28 [off3 N K a b 0 1] [rSe nm D v N, rSh D s K] (.int .i64 0) [rSe nm D v N, rSh D s K] := by
  refine fnP_res hm cu3_ok (hs := hsO nm D v N s K a b) ?_
  rw [of_t]
  have hn := h.n
  have hk := h.k
  refine ⟨⟨?_⟩, ⟨(0 : Nat), ⟨by omega⟩, ?_, by first | trivial | rfl⟩, fun i hi => br_of (fun hd => ?_) (fun hd => ⟨⟨(0 : Nat), ⟨by omega⟩, ?_, by first | trivial | rfl⟩, fun k hk => br_of (fun hd => ?_) (fun hd => ?_)⟩)⟩
  · rw [show decide ((7 : Int) < N) = false from decide_eq_false (by omega), show decide ((5 : Int) < K) = false from decide_eq_false (by omega)] <;> rfl
  · repeat (first | exact trivial | refine ⟨by first | trivial | rfl, ?_⟩)
  · have hd := lt_of_dec hd
    simp only [Nat.zero_add, Int.toNat_natCast, up1 hd (Nat.le_trans hn (by omega)), seA.nmAt2, dAt]
    rw [show i * 5 / 5 = i by omega]
    have e1 : hasK (nm i) (knN nm i) = false := knN_no fun j hj => h.diff i j hj hd
    have hv := h.v
    refine ⟨⟨by omega, by omega⟩, ⟨?_⟩, ⟨knN_all nm i⟩, ⟨?_⟩, ⟨knN_all nm i, e1⟩, i + 1, ⟨hd⟩, ⟨by omega⟩, ?_, ?_⟩
    · rw [se_len, if_pos (by omega), se_part hd]
    · rw [h.name i hd, e1, wi_in (h.d i hd), wi_in (n := v) (lo := 0) (hi := 1000000) (by omega)] <;> rfl
    · repeat (first | exact trivial | refine ⟨by first | trivial | rfl, ?_⟩)
    · rw [knN_succ]
  · repeat (first | exact trivial | refine ⟨by first | trivial | rfl, ?_⟩)
  · have hd := lt_of_dec hd
    simp only [Nat.zero_add, Nat.add_zero, Int.toNat_natCast, up1 hd (Nat.le_trans h.k (by omega)), prd1 hd (Nat.le_trans h.k (by omega)), dAt]
    rw [show k * 4 / 4 = k by omega, show (k - 1) * 4 / 4 = k - 1 by omega, wi_in (h.ds k hd)]
    refine ⟨⟨by omega, by omega⟩, ⟨?_⟩, br_of (fun hb => ?_) (fun hb => ?_)⟩
    · rw [sh_len, if_pos (by omega), sh_part hd]
    · have hb : 0 < k := by have := of_decide_eq_true hb; omega
      have hu := h.up (k - 1) (by omega)
      rw [show s + (k - 1) + 1 = s + k by omega] at hu
      refine ⟨⟨by omega, by omega⟩, ⟨(sh_at (by omega)).1⟩, ⟨?_⟩, k + 1, ⟨hd⟩, ⟨by omega⟩, ?_, by first | trivial | rfl⟩
      · rw [show decide (D (s + k) < D (s + (k - 1))) = false from decide_eq_false (by omega)] <;> rfl
      · repeat (first | exact trivial | refine ⟨by first | trivial | rfl, ?_⟩)
    · refine ⟨⟨rfl⟩, k + 1, ⟨hd⟩, ⟨by omega⟩, ?_, by first | trivial | rfl⟩
      repeat (first | exact trivial | refine ⟨by first | trivial | rfl, ?_⟩)
  · exact ⟨by first | trivial | rfl, by first | trivial | rfl⟩
end
noncomputable def orcOf (nm : Nat → ByteArray) (D : Nat → Int) (v : Int) (s : Nat) : OrcV
  | [.agg ⟨[.slice (some ⟨0, 0, none⟩) N _, .slice (some ⟨1, 0, none⟩) K _]⟩], [some (.row e 5 true false true), some (.row g 4 true false true)] =>
    some (.int .i64 0, [some (.row e 5 true false true), some (.row g 4 true false true)], (e = seC nm D v N ∧ g = shC D s K) ∧ OfOk nm D v N s K)
  | _, _ => none
theorem okOf (nm : Nat → ByteArray) (D : Nat → Int) (v : Int) (s : Nat) : OkV Tryz.prog 28 (orcOf nm D v s) := by
  intro args H ret H' vc h hv
  unfold orcOf at h
  split at h
  · cases h
    obtain ⟨⟨rfl, rfl⟩, h1⟩ := hv
    exact of_ok h1
  · cases h
end
end Qq
end
section
/- The choices of plans. -/
open Go Go.Vm Go.Proofs Sp
namespace Sp
noncomputable section
noncomputable def q110 (s : Nat) : Int := ((s / 1 % 2 : Nat) : Int) - 1
noncomputable def q100 (s : Nat) : Int := ((s / 1 % 1 : Nat) : Int) - 1
noncomputable def q220 (s : Nat) : Int := ((s / 3 % 3 : Nat) : Int) - 1
noncomputable def q221 (s : Nat) : Int := ((s / 1 % 3 : Nat) : Int) - 1
noncomputable def q210 (s : Nat) : Int := ((s / 2 % 2 : Nat) : Int) - 1
noncomputable def q211 (s : Nat) : Int := ((s / 1 % 2 : Nat) : Int) - 1
noncomputable def q330 (s : Nat) : Int := ((s / 16 % 4 : Nat) : Int) - 1
noncomputable def q331 (s : Nat) : Int := ((s / 4 % 4 : Nat) : Int) - 1
noncomputable def q332 (s : Nat) : Int := ((s / 1 % 4 : Nat) : Int) - 1
noncomputable def q320 (s : Nat) : Int := ((s / 9 % 3 : Nat) : Int) - 1
noncomputable def q321 (s : Nat) : Int := ((s / 3 % 3 : Nat) : Int) - 1
noncomputable def q322 (s : Nat) : Int := ((s / 1 % 3 : Nat) : Int) - 1
end
end Sp
namespace Qq
noncomputable section
noncomputable def hcI (n : Int) (k a m b : Nat) (e g : List Value) : Heap := [some (.row [.int .i64 n] 0 false false true), some (.row [.slice (some ⟨2, 0, none⟩) k a, .slice (some ⟨3, 0, none⟩) m b] 0 false false false), some (.row e 5 true false true), some (.row g 4 true false true)]
noncomputable def cpL : List Value := [.pointer (some ⟨0, 0, none⟩), .pointer (some ⟨1, 0, none⟩)]
noncomputable def pl11 (s : Nat) : List Value := [.int .i64 (q110 s)]
noncomputable def ly11 (a b : Nat) (e g : List Value) (l : Nat) : Ly where
  σ := Nat
  E _ := slots 41 [(0, .func (.yield l) #[] #[]), (1, .pointer (some ⟨0, 0, none⟩)), (2, .pointer (some ⟨1, 0, none⟩)), (4, .slice (some ⟨4, 0, none⟩) 1 1)]
  Hp s := hcI 1 1 a 1 b e g ++ [some (.row (pl11 s) 1 false true true)]
  I s := s < 2
  m s := 2 - s
  gi s := s
noncomputable def hs11 (a b : Nat) (e g : List Value) (l : Nat) : Ys Tryz.prog where
  ys := [1]
  ly _ := some (ly11 a b e g l)
  cl q := if q = 1 then keep 41 [0, 1, 2, 4] else keep 41 [0, 1, 2, 4, 5]
  au := auCalls [(61, hCa Tryz.prog 61 orcRp okRp)]
theorem it11_t (a : Nat) (b : Nat) (e : List Value) (g : List Value) :
    (iterL Tryz.prog c0 (hs11 a b e g) (hcI (1 : Int) (1 : Nat) a (1 : Nat) b e g) (2 : Nat) (1 : Nat) pl11 (60 : FuncId) cpL) =
    (let z0 : AObj := AObj.row [Value.slice (some ⟨2, 0, none⟩) 1 a, Value.slice (some ⟨3, 0, none⟩) 1 b] 0 false false false; (∀ (l : Nat), Is ((-1 : Int) = (-1 : Int) ∧ (1 : Int) ≤ (1 : Int) ∧ (1 : Int) ≤ (3 : Int)) ∧ ((0 = 0 ∧ false = false) ∧ ∃ (s : Nat), Is (s < 2) ∧ Is (0 = s) ∧ [Value.func (Fn.yield l) #[] #[], Value.pointer (some ⟨0, 0, none⟩), Value.pointer (some ⟨1, 0, none⟩), poi, Value.slice (some ⟨4, 0, none⟩) 1 1, poi, poi, poi, poi, poi, poi, poi, poi, poi, poi, poi, poi, poi, poi, poi, poi, poi, poi, poi, poi, poi, poi, poi, poi, poi, poi, poi, poi, poi, poi, poi, poi, poi, poi, poi, poi] = [Value.func (Fn.yield l) #[] #[], Value.pointer (some ⟨0, 0, none⟩), Value.pointer (some ⟨1, 0, none⟩), poi, Value.slice (some ⟨4, 0, none⟩) 1 1, poi, poi, poi, poi, poi, poi, poi, poi, poi, poi, poi, poi, poi, poi, poi, poi, poi, poi, poi, poi, poi, poi, poi, poi, poi, poi, poi, poi, poi, poi, poi, poi, poi, poi, poi, poi] ∧ some (AObj.row [Value.int .i64 1] 0 false false true) :: some z0 :: some (AObj.row e 5 true false true) :: some (AObj.row g 4 true false true) :: some (AObj.row [Value.int .i64 (-1 : Int)] 1 false true true) :: noH = some (AObj.row [Value.int .i64 1] 0 false false true) :: some z0 :: some (AObj.row e 5 true false true) :: some (AObj.row g 4 true false true) :: some (AObj.row [Value.int .i64 (q110 s)] 1 false true true) :: noH) ∧ ∀ (s : Nat), Is (s < 2) → Is (s < 2) ∧ l = l ∧ 4 = List.length (some (AObj.row [Value.int .i64 1] 0 false false true) :: some z0 :: some (AObj.row e 5 true false true) :: some (AObj.row g 4 true false true) :: noH) ∧ 1 = 1 ∧ [Value.int .i64 (q110 s)] = [Value.int .i64 (q110 s)] ∧ Is (0 < 1 ∧ 0 < List.length [Value.int .i64 (q110 s)]) ∧ br (q110 s == (0 : Int)) (Is (s + 1 = 2 ∧ 0 < 2)) (false = false ∧ ∃ (s' : Nat), Is (s' < 2) ∧ Is (2 - s' < 2 - s) ∧ Is (s + 1 = s') ∧ [Value.func (Fn.yield l) #[] #[], Value.pointer (some ⟨0, 0, none⟩), Value.pointer (some ⟨1, 0, none⟩), poi, Value.slice (some ⟨4, 0, none⟩) 1 1, poi, poi, poi, poi, poi, poi, poi, poi, poi, poi, poi, poi, poi, poi, poi, poi, poi, poi, poi, poi, poi, poi, poi, poi, poi, poi, poi, poi, poi, poi, poi, poi, poi, poi, poi, poi] = [Value.func (Fn.yield l) #[] #[], Value.pointer (some ⟨0, 0, none⟩), Value.pointer (some ⟨1, 0, none⟩), poi, Value.slice (some ⟨4, 0, none⟩) 1 1, poi, poi, poi, poi, poi, poi, poi, poi, poi, poi, poi, poi, poi, poi, poi, poi, poi, poi, poi, poi, poi, poi, poi, poi, poi, poi, poi, poi, poi, poi, poi, poi, poi, poi, poi, poi] ∧ some (AObj.row [Value.int .i64 1] 0 false false true) :: some z0 :: some (AObj.row e 5 true false true) :: some (AObj.row g 4 true false true) :: some (AObj.row [Value.int .i64 (IntKind.wrap .i64 (q110 s + (1 : Int)))] 1 false true true) :: noH = some (AObj.row [Value.int .i64 1] 0 false false true) :: some z0 :: some (AObj.row e 5 true false true) :: some (AObj.row g 4 true false true) :: some (AObj.row [Value.int .i64 (q110 s')] 1 false true true) :: noH) ∧ Is True)) := by kernel_rfl
theorem it11_ok (a b : Nat) (e g : List Value) : Le.IterLent Tryz.prog 60 cpL (hcI 1 1 a 1 b e g) 2 1 pl11 := by
  refine iterL_ok hm c0_ok (hs := hs11 a b e g) ?_
  rw [it11_t]
  refine fun l => ⟨⟨by decide, by decide, by decide⟩, ⟨⟨rfl, rfl⟩, (0 : Nat), ⟨by omega⟩, ⟨rfl⟩, by first | trivial | rfl, by first | trivial | rfl⟩, fun s hs => ⟨hs, by first | trivial | rfl, rfl, by first | trivial | rfl, by first | trivial | rfl, ⟨by decide, by simp⟩, br_of (fun h0 => ?_) (fun h0 => ?_), ⟨trivial⟩⟩⟩
  · have hs := hs.out
    have h0 : q110 s = 0 := by simpa using h0
    simp only [q110] at h0
    exact ⟨by omega, by omega⟩
  · have hs := hs.out
    have h0 : ¬ q110 s = 0 := by simpa using h0
    simp only [q110] at h0
    refine ⟨by first | trivial | rfl, s + 1, ⟨by omega⟩, ⟨by omega⟩, ⟨rfl⟩, by first | trivial | rfl, ?_⟩
    have e0 : IntKind.wrap .i64 (q110 s + 1) = q110 (s + 1) := by rw [q110, q110, wrap_eq (by omega) (by omega)]; omega
    rw [e0] <;> rfl
noncomputable def pl10 (s : Nat) : List Value := [.int .i64 (q100 s)]
noncomputable def ly10 (a b : Nat) (e g : List Value) (l : Nat) : Ly where
  σ := Nat
  E _ := slots 41 [(0, .func (.yield l) #[] #[]), (1, .pointer (some ⟨0, 0, none⟩)), (2, .pointer (some ⟨1, 0, none⟩)), (4, .slice (some ⟨4, 0, none⟩) 1 1)]
  Hp s := hcI 1 1 a 0 b e g ++ [some (.row (pl10 s) 1 false true true)]
  I s := s < 1
  m s := 1 - s
  gi s := s
noncomputable def hs10 (a b : Nat) (e g : List Value) (l : Nat) : Ys Tryz.prog where
  ys := [1]
  ly _ := some (ly10 a b e g l)
  cl q := if q = 1 then keep 41 [0, 1, 2, 4] else keep 41 [0, 1, 2, 4, 5]
  au := auCalls [(61, hCa Tryz.prog 61 orcRp okRp)]
theorem it10_t (a : Nat) (b : Nat) (e : List Value) (g : List Value) :
    (iterL Tryz.prog c0 (hs10 a b e g) (hcI (1 : Int) (1 : Nat) a (0 : Nat) b e g) (1 : Nat) (1 : Nat) pl10 (60 : FuncId) cpL) =
    (let z0 : AObj := AObj.row [Value.slice (some ⟨2, 0, none⟩) 1 a, Value.slice (some ⟨3, 0, none⟩) 0 b] 0 false false false; (∀ (l : Nat), Is ((-1 : Int) = (-1 : Int) ∧ (1 : Int) ≤ (1 : Int) ∧ (1 : Int) ≤ (3 : Int)) ∧ ((0 = 0 ∧ false = false) ∧ ∃ (s : Nat), Is (s < 1) ∧ Is (0 = s) ∧ [Value.func (Fn.yield l) #[] #[], Value.pointer (some ⟨0, 0, none⟩), Value.pointer (some ⟨1, 0, none⟩), poi, Value.slice (some ⟨4, 0, none⟩) 1 1, poi, poi, poi, poi, poi, poi, poi, poi, poi, poi, poi, poi, poi, poi, poi, poi, poi, poi, poi, poi, poi, poi, poi, poi, poi, poi, poi, poi, poi, poi, poi, poi, poi, poi, poi, poi] = [Value.func (Fn.yield l) #[] #[], Value.pointer (some ⟨0, 0, none⟩), Value.pointer (some ⟨1, 0, none⟩), poi, Value.slice (some ⟨4, 0, none⟩) 1 1, poi, poi, poi, poi, poi, poi, poi, poi, poi, poi, poi, poi, poi, poi, poi, poi, poi, poi, poi, poi, poi, poi, poi, poi, poi, poi, poi, poi, poi, poi, poi, poi, poi, poi, poi, poi] ∧ some (AObj.row [Value.int .i64 1] 0 false false true) :: some z0 :: some (AObj.row e 5 true false true) :: some (AObj.row g 4 true false true) :: some (AObj.row [Value.int .i64 (-1 : Int)] 1 false true true) :: noH = some (AObj.row [Value.int .i64 1] 0 false false true) :: some z0 :: some (AObj.row e 5 true false true) :: some (AObj.row g 4 true false true) :: some (AObj.row [Value.int .i64 (q100 s)] 1 false true true) :: noH) ∧ ∀ (s : Nat), Is (s < 1) → Is (s < 1) ∧ l = l ∧ 4 = List.length (some (AObj.row [Value.int .i64 1] 0 false false true) :: some z0 :: some (AObj.row e 5 true false true) :: some (AObj.row g 4 true false true) :: noH) ∧ 1 = 1 ∧ [Value.int .i64 (q100 s)] = [Value.int .i64 (q100 s)] ∧ Is (0 < 1 ∧ 0 < List.length [Value.int .i64 (q100 s)]) ∧ br (q100 s == (-1 : Int)) (Is (s + 1 = 1 ∧ 0 < 1)) (false = false ∧ ∃ (s' : Nat), Is (s' < 1) ∧ Is (1 - s' < 1 - s) ∧ Is (s + 1 = s') ∧ [Value.func (Fn.yield l) #[] #[], Value.pointer (some ⟨0, 0, none⟩), Value.pointer (some ⟨1, 0, none⟩), poi, Value.slice (some ⟨4, 0, none⟩) 1 1, poi, poi, poi, poi, poi, poi, poi, poi, poi, poi, poi, poi, poi, poi, poi, poi, poi, poi, poi, poi, poi, poi, poi, poi, poi, poi, poi, poi, poi, poi, poi, poi, poi, poi, poi, poi] = [Value.func (Fn.yield l) #[] #[], Value.pointer (some ⟨0, 0, none⟩), Value.pointer (some ⟨1, 0, none⟩), poi, Value.slice (some ⟨4, 0, none⟩) 1 1, poi, poi, poi, poi, poi, poi, poi, poi, poi, poi, poi, poi, poi, poi, poi, poi, poi, poi, poi, poi, poi, poi, poi, poi, poi, poi, poi, poi, poi, poi, poi, poi, poi, poi, poi, poi] ∧ some (AObj.row [Value.int .i64 1] 0 false false true) :: some z0 :: some (AObj.row e 5 true false true) :: some (AObj.row g 4 true false true) :: some (AObj.row [Value.int .i64 (IntKind.wrap .i64 (q100 s + (1 : Int)))] 1 false true true) :: noH = some (AObj.row [Value.int .i64 1] 0 false false true) :: some z0 :: some (AObj.row e 5 true false true) :: some (AObj.row g 4 true false true) :: some (AObj.row [Value.int .i64 (q100 s')] 1 false true true) :: noH) ∧ Is True)) := by kernel_rfl
theorem it10_ok (a b : Nat) (e g : List Value) : Le.IterLent Tryz.prog 60 cpL (hcI 1 1 a 0 b e g) 1 1 pl10 := by
  refine iterL_ok hm c0_ok (hs := hs10 a b e g) ?_
  rw [it10_t]
  refine fun l => ⟨⟨by decide, by decide, by decide⟩, ⟨⟨rfl, rfl⟩, (0 : Nat), ⟨by omega⟩, ⟨rfl⟩, by first | trivial | rfl, by first | trivial | rfl⟩, fun s hs => ⟨hs, by first | trivial | rfl, rfl, by first | trivial | rfl, by first | trivial | rfl, ⟨by decide, by simp⟩, br_of (fun h0 => ?_) (fun h0 => ?_), ⟨trivial⟩⟩⟩
  · have hs := hs.out
    have h0 : q100 s = -1 := by simpa using h0
    simp only [q100] at h0
    exact ⟨by omega, by omega⟩
  · have hs := hs.out
    have h0 : ¬ q100 s = -1 := by simpa using h0
    simp only [q100] at h0
    refine ⟨by first | trivial | rfl, s + 1, ⟨by omega⟩, ⟨by omega⟩, ⟨rfl⟩, by first | trivial | rfl, ?_⟩
    have e0 : IntKind.wrap .i64 (q100 s + 1) = q100 (s + 1) := by rw [q100, q100, wrap_eq (by omega) (by omega)]; omega
    rw [e0] <;> rfl
noncomputable def pl22 (s : Nat) : List Value := [.int .i64 (q220 s), .int .i64 (q221 s)]
noncomputable def ly22 (a b : Nat) (e g : List Value) (l : Nat) : Ly where
  σ := Nat
  E _ := slots 41 [(0, .func (.yield l) #[] #[]), (1, .pointer (some ⟨0, 0, none⟩)), (2, .pointer (some ⟨1, 0, none⟩)), (4, .slice (some ⟨4, 0, none⟩) 2 2)]
  Hp s := hcI 2 2 a 2 b e g ++ [some (.row (pl22 s) 1 false true true)]
  I s := s < 9
  m s := 9 - s
  gi s := s
noncomputable def hs22 (a b : Nat) (e g : List Value) (l : Nat) : Ys Tryz.prog where
  ys := [1]
  ly _ := some (ly22 a b e g l)
  cl q := if q = 1 then keep 41 [0, 1, 2, 4] else keep 41 [0, 1, 2, 4, 5]
  au := auCalls [(61, hCa Tryz.prog 61 orcRp okRp)]
theorem it22_t (a : Nat) (b : Nat) (e : List Value) (g : List Value) :
    (iterL Tryz.prog c0 (hs22 a b e g) (hcI (2 : Int) (2 : Nat) a (2 : Nat) b e g) (9 : Nat) (2 : Nat) pl22 (60 : FuncId) cpL) =
    (let z0 : AObj := AObj.row [Value.slice (some ⟨2, 0, none⟩) 2 a, Value.slice (some ⟨3, 0, none⟩) 2 b] 0 false false false; (∀ (l : Nat), Is ((-1 : Int) = (-1 : Int) ∧ (1 : Int) ≤ (2 : Int) ∧ (2 : Int) ≤ (3 : Int)) ∧ ((0 = 0 ∧ false = false) ∧ ∃ (s : Nat), Is (s < 9) ∧ Is (0 = s) ∧ [Value.func (Fn.yield l) #[] #[], Value.pointer (some ⟨0, 0, none⟩), Value.pointer (some ⟨1, 0, none⟩), poi, Value.slice (some ⟨4, 0, none⟩) 2 2, poi, poi, poi, poi, poi, poi, poi, poi, poi, poi, poi, poi, poi, poi, poi, poi, poi, poi, poi, poi, poi, poi, poi, poi, poi, poi, poi, poi, poi, poi, poi, poi, poi, poi, poi, poi] = [Value.func (Fn.yield l) #[] #[], Value.pointer (some ⟨0, 0, none⟩), Value.pointer (some ⟨1, 0, none⟩), poi, Value.slice (some ⟨4, 0, none⟩) 2 2, poi, poi, poi, poi, poi, poi, poi, poi, poi, poi, poi, poi, poi, poi, poi, poi, poi, poi, poi, poi, poi, poi, poi, poi, poi, poi, poi, poi, poi, poi, poi, poi, poi, poi, poi, poi] ∧ some (AObj.row [Value.int .i64 2] 0 false false true) :: some z0 :: some (AObj.row e 5 true false true) :: some (AObj.row g 4 true false true) :: some (AObj.row [Value.int .i64 (-1 : Int), Value.int .i64 (-1 : Int)] 1 false true true) :: noH = some (AObj.row [Value.int .i64 2] 0 false false true) :: some z0 :: some (AObj.row e 5 true false true) :: some (AObj.row g 4 true false true) :: some (AObj.row [Value.int .i64 (q220 s), Value.int .i64 (q221 s)] 1 false true true) :: noH) ∧ ∀ (s : Nat), Is (s < 9) → Is (s < 9) ∧ l = l ∧ 4 = List.length (some (AObj.row [Value.int .i64 2] 0 false false true) :: some z0 :: some (AObj.row e 5 true false true) :: some (AObj.row g 4 true false true) :: noH) ∧ 2 = 2 ∧ [Value.int .i64 (q220 s), Value.int .i64 (q221 s)] = [Value.int .i64 (q220 s), Value.int .i64 (q221 s)] ∧ Is (0 < 2 ∧ 0 < List.length [Value.int .i64 (q220 s), Value.int .i64 (q221 s)]) ∧ br (q221 s == (1 : Int)) (br (q220 s == (1 : Int)) (Is (s + 1 = 9 ∧ 0 < 9)) (false = false ∧ ∃ (s' : Nat), Is (s' < 9) ∧ Is (9 - s' < 9 - s) ∧ Is (s + 1 = s') ∧ [Value.func (Fn.yield l) #[] #[], Value.pointer (some ⟨0, 0, none⟩), Value.pointer (some ⟨1, 0, none⟩), poi, Value.slice (some ⟨4, 0, none⟩) 2 2, poi, poi, poi, poi, poi, poi, poi, poi, poi, poi, poi, poi, poi, poi, poi, poi, poi, poi, poi, poi, poi, poi, poi, poi, poi, poi, poi, poi, poi, poi, poi, poi, poi, poi, poi, poi] = [Value.func (Fn.yield l) #[] #[], Value.pointer (some ⟨0, 0, none⟩), Value.pointer (some ⟨1, 0, none⟩), poi, Value.slice (some ⟨4, 0, none⟩) 2 2, poi, poi, poi, poi, poi, poi, poi, poi, poi, poi, poi, poi, poi, poi, poi, poi, poi, poi, poi, poi, poi, poi, poi, poi, poi, poi, poi, poi, poi, poi, poi, poi, poi, poi, poi, poi] ∧ some (AObj.row [Value.int .i64 2] 0 false false true) :: some z0 :: some (AObj.row e 5 true false true) :: some (AObj.row g 4 true false true) :: some (AObj.row [Value.int .i64 (IntKind.wrap .i64 (q220 s + (1 : Int))), Value.int .i64 (-1 : Int)] 1 false true (true && List.all [Value.int .i64 (-1 : Int)] atom && List.all [Value.int .i64 (IntKind.wrap .i64 (q220 s + (1 : Int)))] atom)) :: noH = some (AObj.row [Value.int .i64 2] 0 false false true) :: some z0 :: some (AObj.row e 5 true false true) :: some (AObj.row g 4 true false true) :: some (AObj.row [Value.int .i64 (q220 s'), Value.int .i64 (q221 s')] 1 false true true) :: noH)) (false = false ∧ ∃ (s' : Nat), Is (s' < 9) ∧ Is (9 - s' < 9 - s) ∧ Is (s + 1 = s') ∧ [Value.func (Fn.yield l) #[] #[], Value.pointer (some ⟨0, 0, none⟩), Value.pointer (some ⟨1, 0, none⟩), poi, Value.slice (some ⟨4, 0, none⟩) 2 2, poi, poi, poi, poi, poi, poi, poi, poi, poi, poi, poi, poi, poi, poi, poi, poi, poi, poi, poi, poi, poi, poi, poi, poi, poi, poi, poi, poi, poi, poi, poi, poi, poi, poi, poi, poi] = [Value.func (Fn.yield l) #[] #[], Value.pointer (some ⟨0, 0, none⟩), Value.pointer (some ⟨1, 0, none⟩), poi, Value.slice (some ⟨4, 0, none⟩) 2 2, poi, poi, poi, poi, poi, poi, poi, poi, poi, poi, poi, poi, poi, poi, poi, poi, poi, poi, poi, poi, poi, poi, poi, poi, poi, poi, poi, poi, poi, poi, poi, poi, poi, poi, poi, poi] ∧ some (AObj.row [Value.int .i64 2] 0 false false true) :: some z0 :: some (AObj.row e 5 true false true) :: some (AObj.row g 4 true false true) :: some (AObj.row [Value.int .i64 (q220 s), Value.int .i64 (IntKind.wrap .i64 (q221 s + (1 : Int)))] 1 false true true) :: noH = some (AObj.row [Value.int .i64 2] 0 false false true) :: some z0 :: some (AObj.row e 5 true false true) :: some (AObj.row g 4 true false true) :: some (AObj.row [Value.int .i64 (q220 s'), Value.int .i64 (q221 s')] 1 false true true) :: noH) ∧ Is True)) := by kernel_rfl
theorem it22_ok (a b : Nat) (e g : List Value) : Le.IterLent Tryz.prog 60 cpL (hcI 2 2 a 2 b e g) 9 2 pl22 := by
  refine iterL_ok hm c0_ok (hs := hs22 a b e g) ?_
  rw [it22_t]
  refine fun l => ⟨⟨by decide, by decide, by decide⟩, ⟨⟨rfl, rfl⟩, (0 : Nat), ⟨by omega⟩, ⟨rfl⟩, by first | trivial | rfl, by first | trivial | rfl⟩, fun s hs => ⟨hs, by first | trivial | rfl, rfl, by first | trivial | rfl, by first | trivial | rfl, ⟨by decide, by simp⟩, br_of (fun h1 => br_of (fun h0 => ?_) (fun h0 => ?_)) (fun h1 => ?_), ⟨trivial⟩⟩⟩
  · have hs := hs.out
    have h1 : q221 s = 1 := by simpa using h1
    have h0 : q220 s = 1 := by simpa using h0
    simp only [q221, q220] at h1 h0
    exact ⟨by omega, by omega⟩
  · have hs := hs.out
    have h1 : q221 s = 1 := by simpa using h1
    have h0 : ¬ q220 s = 1 := by simpa using h0
    simp only [q221, q220] at h1 h0
    refine ⟨by first | trivial | rfl, s + 1, ⟨by omega⟩, ⟨by omega⟩, ⟨rfl⟩, by first | trivial | rfl, ?_⟩
    have e0 : IntKind.wrap .i64 (q220 s + 1) = q220 (s + 1) := by rw [q220, q220, wrap_eq (by omega) (by omega)]; omega
    have e1 : (-1 : Int) = q221 (s + 1) := by rw [q221]; omega
    rw [e0, ← e1] <;> rfl
  · have hs := hs.out
    have h1 : ¬ q221 s = 1 := by simpa using h1
    simp only [q221] at h1
    refine ⟨by first | trivial | rfl, s + 1, ⟨by omega⟩, ⟨by omega⟩, ⟨rfl⟩, by first | trivial | rfl, ?_⟩
    have e0 : q220 s = q220 (s + 1) := by rw [q220, q220]; omega
    have e1 : IntKind.wrap .i64 (q221 s + 1) = q221 (s + 1) := by rw [q221, q221, wrap_eq (by omega) (by omega)]; omega
    rw [e0, e1] <;> rfl
noncomputable def pl21 (s : Nat) : List Value := [.int .i64 (q210 s), .int .i64 (q211 s)]
noncomputable def ly21 (a b : Nat) (e g : List Value) (l : Nat) : Ly where
  σ := Nat
  E _ := slots 41 [(0, .func (.yield l) #[] #[]), (1, .pointer (some ⟨0, 0, none⟩)), (2, .pointer (some ⟨1, 0, none⟩)), (4, .slice (some ⟨4, 0, none⟩) 2 2)]
  Hp s := hcI 2 2 a 1 b e g ++ [some (.row (pl21 s) 1 false true true)]
  I s := s < 4
  m s := 4 - s
  gi s := s
noncomputable def hs21 (a b : Nat) (e g : List Value) (l : Nat) : Ys Tryz.prog where
  ys := [1]
  ly _ := some (ly21 a b e g l)
  cl q := if q = 1 then keep 41 [0, 1, 2, 4] else keep 41 [0, 1, 2, 4, 5]
  au := auCalls [(61, hCa Tryz.prog 61 orcRp okRp)]
theorem it21_t (a : Nat) (b : Nat) (e : List Value) (g : List Value) :
    (iterL Tryz.prog c0 (hs21 a b e g) (hcI (2 : Int) (2 : Nat) a (1 : Nat) b e g) (4 : Nat) (2 : Nat) pl21 (60 : FuncId) cpL) =
    (let z0 : AObj := AObj.row [Value.slice (some ⟨2, 0, none⟩) 2 a, Value.slice (some ⟨3, 0, none⟩) 1 b] 0 false false false; (∀ (l : Nat), Is ((-1 : Int) = (-1 : Int) ∧ (1 : Int) ≤ (2 : Int) ∧ (2 : Int) ≤ (3 : Int)) ∧ ((0 = 0 ∧ false = false) ∧ ∃ (s : Nat), Is (s < 4) ∧ Is (0 = s) ∧ [Value.func (Fn.yield l) #[] #[], Value.pointer (some ⟨0, 0, none⟩), Value.pointer (some ⟨1, 0, none⟩), poi, Value.slice (some ⟨4, 0, none⟩) 2 2, poi, poi, poi, poi, poi, poi, poi, poi, poi, poi, poi, poi, poi, poi, poi, poi, poi, poi, poi, poi, poi, poi, poi, poi, poi, poi, poi, poi, poi, poi, poi, poi, poi, poi, poi, poi] = [Value.func (Fn.yield l) #[] #[], Value.pointer (some ⟨0, 0, none⟩), Value.pointer (some ⟨1, 0, none⟩), poi, Value.slice (some ⟨4, 0, none⟩) 2 2, poi, poi, poi, poi, poi, poi, poi, poi, poi, poi, poi, poi, poi, poi, poi, poi, poi, poi, poi, poi, poi, poi, poi, poi, poi, poi, poi, poi, poi, poi, poi, poi, poi, poi, poi, poi] ∧ some (AObj.row [Value.int .i64 2] 0 false false true) :: some z0 :: some (AObj.row e 5 true false true) :: some (AObj.row g 4 true false true) :: some (AObj.row [Value.int .i64 (-1 : Int), Value.int .i64 (-1 : Int)] 1 false true true) :: noH = some (AObj.row [Value.int .i64 2] 0 false false true) :: some z0 :: some (AObj.row e 5 true false true) :: some (AObj.row g 4 true false true) :: some (AObj.row [Value.int .i64 (q210 s), Value.int .i64 (q211 s)] 1 false true true) :: noH) ∧ ∀ (s : Nat), Is (s < 4) → Is (s < 4) ∧ l = l ∧ 4 = List.length (some (AObj.row [Value.int .i64 2] 0 false false true) :: some z0 :: some (AObj.row e 5 true false true) :: some (AObj.row g 4 true false true) :: noH) ∧ 2 = 2 ∧ [Value.int .i64 (q210 s), Value.int .i64 (q211 s)] = [Value.int .i64 (q210 s), Value.int .i64 (q211 s)] ∧ Is (0 < 2 ∧ 0 < List.length [Value.int .i64 (q210 s), Value.int .i64 (q211 s)]) ∧ br (q211 s == (0 : Int)) (br (q210 s == (0 : Int)) (Is (s + 1 = 4 ∧ 0 < 4)) (false = false ∧ ∃ (s' : Nat), Is (s' < 4) ∧ Is (4 - s' < 4 - s) ∧ Is (s + 1 = s') ∧ [Value.func (Fn.yield l) #[] #[], Value.pointer (some ⟨0, 0, none⟩), Value.pointer (some ⟨1, 0, none⟩), poi, Value.slice (some ⟨4, 0, none⟩) 2 2, poi, poi, poi, poi, poi, poi, poi, poi, poi, poi, poi, poi, poi, poi, poi, poi, poi, poi, poi, poi, poi, poi, poi, poi, poi, poi, poi, poi, poi, poi, poi, poi, poi, poi, poi, poi] = [Value.func (Fn.yield l) #[] #[], Value.pointer (some ⟨0, 0, none⟩), Value.pointer (some ⟨1, 0, none⟩), poi, Value.slice (some ⟨4, 0, none⟩) 2 2, poi, poi, poi, poi, poi, poi, poi, poi, poi, poi, poi, poi, poi, poi, poi, poi, poi, poi, poi, poi, poi, poi, poi, poi, poi, poi, poi, poi, poi, poi, poi, poi, poi, poi, poi, poi] ∧ some (AObj.row [Value.int .i64 2] 0 false false true) :: some z0 :: some (AObj.row e 5 true false true) :: some (AObj.row g 4 true false true) :: some (AObj.row [Value.int .i64 (IntKind.wrap .i64 (q210 s + (1 : Int))), Value.int .i64 (-1 : Int)] 1 false true (true && List.all [Value.int .i64 (-1 : Int)] atom && List.all [Value.int .i64 (IntKind.wrap .i64 (q210 s + (1 : Int)))] atom)) :: noH = some (AObj.row [Value.int .i64 2] 0 false false true) :: some z0 :: some (AObj.row e 5 true false true) :: some (AObj.row g 4 true false true) :: some (AObj.row [Value.int .i64 (q210 s'), Value.int .i64 (q211 s')] 1 false true true) :: noH)) (false = false ∧ ∃ (s' : Nat), Is (s' < 4) ∧ Is (4 - s' < 4 - s) ∧ Is (s + 1 = s') ∧ [Value.func (Fn.yield l) #[] #[], Value.pointer (some ⟨0, 0, none⟩), Value.pointer (some ⟨1, 0, none⟩), poi, Value.slice (some ⟨4, 0, none⟩) 2 2, poi, poi, poi, poi, poi, poi, poi, poi, poi, poi, poi, poi, poi, poi, poi, poi, poi, poi, poi, poi, poi, poi, poi, poi, poi, poi, poi, poi, poi, poi, poi, poi, poi, poi, poi, poi] = [Value.func (Fn.yield l) #[] #[], Value.pointer (some ⟨0, 0, none⟩), Value.pointer (some ⟨1, 0, none⟩), poi, Value.slice (some ⟨4, 0, none⟩) 2 2, poi, poi, poi, poi, poi, poi, poi, poi, poi, poi, poi, poi, poi, poi, poi, poi, poi, poi, poi, poi, poi, poi, poi, poi, poi, poi, poi, poi, poi, poi, poi, poi, poi, poi, poi, poi] ∧ some (AObj.row [Value.int .i64 2] 0 false false true) :: some z0 :: some (AObj.row e 5 true false true) :: some (AObj.row g 4 true false true) :: some (AObj.row [Value.int .i64 (q210 s), Value.int .i64 (IntKind.wrap .i64 (q211 s + (1 : Int)))] 1 false true true) :: noH = some (AObj.row [Value.int .i64 2] 0 false false true) :: some z0 :: some (AObj.row e 5 true false true) :: some (AObj.row g 4 true false true) :: some (AObj.row [Value.int .i64 (q210 s'), Value.int .i64 (q211 s')] 1 false true true) :: noH) ∧ Is True)) := by kernel_rfl
theorem it21_ok (a b : Nat) (e g : List Value) : Le.IterLent Tryz.prog 60 cpL (hcI 2 2 a 1 b e g) 4 2 pl21 := by
  refine iterL_ok hm c0_ok (hs := hs21 a b e g) ?_
  rw [it21_t]
  refine fun l => ⟨⟨by decide, by decide, by decide⟩, ⟨⟨rfl, rfl⟩, (0 : Nat), ⟨by omega⟩, ⟨rfl⟩, by first | trivial | rfl, by first | trivial | rfl⟩, fun s hs => ⟨hs, by first | trivial | rfl, rfl, by first | trivial | rfl, by first | trivial | rfl, ⟨by decide, by simp⟩, br_of (fun h1 => br_of (fun h0 => ?_) (fun h0 => ?_)) (fun h1 => ?_), ⟨trivial⟩⟩⟩
  · have hs := hs.out
    have h1 : q211 s = 0 := by simpa using h1
    have h0 : q210 s = 0 := by simpa using h0
    simp only [q211, q210] at h1 h0
    exact ⟨by omega, by omega⟩
  · have hs := hs.out
    have h1 : q211 s = 0 := by simpa using h1
    have h0 : ¬ q210 s = 0 := by simpa using h0
    simp only [q211, q210] at h1 h0
    refine ⟨by first | trivial | rfl, s + 1, ⟨by omega⟩, ⟨by omega⟩, ⟨rfl⟩, by first | trivial | rfl, ?_⟩
    have e0 : IntKind.wrap .i64 (q210 s + 1) = q210 (s + 1) := by rw [q210, q210, wrap_eq (by omega) (by omega)]; omega
    have e1 : (-1 : Int) = q211 (s + 1) := by rw [q211]; omega
    rw [e0, ← e1] <;> rfl
  · have hs := hs.out
    have h1 : ¬ q211 s = 0 := by simpa using h1
    simp only [q211] at h1
    refine ⟨by first | trivial | rfl, s + 1, ⟨by omega⟩, ⟨by omega⟩, ⟨rfl⟩, by first | trivial | rfl, ?_⟩
    have e0 : q210 s = q210 (s + 1) := by rw [q210, q210]; omega
    have e1 : IntKind.wrap .i64 (q211 s + 1) = q211 (s + 1) := by rw [q211, q211, wrap_eq (by omega) (by omega)]; omega
    rw [e0, e1] <;> rfl
noncomputable def pl33 (s : Nat) : List Value := [.int .i64 (q330 s), .int .i64 (q331 s), .int .i64 (q332 s)]
noncomputable def ly33 (a b : Nat) (e g : List Value) (l : Nat) : Ly where
  σ := Nat
  E _ := slots 41 [(0, .func (.yield l) #[] #[]), (1, .pointer (some ⟨0, 0, none⟩)), (2, .pointer (some ⟨1, 0, none⟩)), (4, .slice (some ⟨4, 0, none⟩) 3 3)]
  Hp s := hcI 3 3 a 3 b e g ++ [some (.row (pl33 s) 1 false true true)]
  I s := s < 64
  m s := 64 - s
  gi s := s
noncomputable def hs33 (a b : Nat) (e g : List Value) (l : Nat) : Ys Tryz.prog where
  ys := [1]
  ly _ := some (ly33 a b e g l)
  cl q := if q = 1 then keep 41 [0, 1, 2, 4] else keep 41 [0, 1, 2, 4, 5]
  au := auCalls [(61, hCa Tryz.prog 61 orcRp okRp)]
theorem it33_t (a : Nat) (b : Nat) (e : List Value) (g : List Value) :
    (iterL Tryz.prog c0 (hs33 a b e g) (hcI (3 : Int) (3 : Nat) a (3 : Nat) b e g) (64 : Nat) (3 : Nat) pl33 (60 : FuncId) cpL) =
    (let z0 : AObj := AObj.row [Value.slice (some ⟨2, 0, none⟩) 3 a, Value.slice (some ⟨3, 0, none⟩) 3 b] 0 false false false; (∀ (l : Nat), Is ((-1 : Int) = (-1 : Int) ∧ (1 : Int) ≤ (3 : Int) ∧ (3 : Int) ≤ (3 : Int)) ∧ ((0 = 0 ∧ false = false) ∧ ∃ (s : Nat), Is (s < 64) ∧ Is (0 = s) ∧ [Value.func (Fn.yield l) #[] #[], Value.pointer (some ⟨0, 0, none⟩), Value.pointer (some ⟨1, 0, none⟩), poi, Value.slice (some ⟨4, 0, none⟩) 3 3, poi, poi, poi, poi, poi, poi, poi, poi, poi, poi, poi, poi, poi, poi, poi, poi, poi, poi, poi, poi, poi, poi, poi, poi, poi, poi, poi, poi, poi, poi, poi, poi, poi, poi, poi, poi] = [Value.func (Fn.yield l) #[] #[], Value.pointer (some ⟨0, 0, none⟩), Value.pointer (some ⟨1, 0, none⟩), poi, Value.slice (some ⟨4, 0, none⟩) 3 3, poi, poi, poi, poi, poi, poi, poi, poi, poi, poi, poi, poi, poi, poi, poi, poi, poi, poi, poi, poi, poi, poi, poi, poi, poi, poi, poi, poi, poi, poi, poi, poi, poi, poi, poi, poi] ∧ some (AObj.row [Value.int .i64 3] 0 false false true) :: some z0 :: some (AObj.row e 5 true false true) :: some (AObj.row g 4 true false true) :: some (AObj.row [Value.int .i64 (-1 : Int), Value.int .i64 (-1 : Int), Value.int .i64 (-1 : Int)] 1 false true true) :: noH = some (AObj.row [Value.int .i64 3] 0 false false true) :: some z0 :: some (AObj.row e 5 true false true) :: some (AObj.row g 4 true false true) :: some (AObj.row [Value.int .i64 (q330 s), Value.int .i64 (q331 s), Value.int .i64 (q332 s)] 1 false true true) :: noH) ∧ ∀ (s : Nat), Is (s < 64) → Is (s < 64) ∧ l = l ∧ 4 = List.length (some (AObj.row [Value.int .i64 3] 0 false false true) :: some z0 :: some (AObj.row e 5 true false true) :: some (AObj.row g 4 true false true) :: noH) ∧ 3 = 3 ∧ [Value.int .i64 (q330 s), Value.int .i64 (q331 s), Value.int .i64 (q332 s)] = [Value.int .i64 (q330 s), Value.int .i64 (q331 s), Value.int .i64 (q332 s)] ∧ Is (0 < 3 ∧ 0 < List.length [Value.int .i64 (q330 s), Value.int .i64 (q331 s), Value.int .i64 (q332 s)]) ∧ br (q332 s == (2 : Int)) (br (q331 s == (2 : Int)) (br (q330 s == (2 : Int)) (Is (s + 1 = 64 ∧ 0 < 64)) (false = false ∧ ∃ (s' : Nat), Is (s' < 64) ∧ Is (64 - s' < 64 - s) ∧ Is (s + 1 = s') ∧ [Value.func (Fn.yield l) #[] #[], Value.pointer (some ⟨0, 0, none⟩), Value.pointer (some ⟨1, 0, none⟩), poi, Value.slice (some ⟨4, 0, none⟩) 3 3, poi, poi, poi, poi, poi, poi, poi, poi, poi, poi, poi, poi, poi, poi, poi, poi, poi, poi, poi, poi, poi, poi, poi, poi, poi, poi, poi, poi, poi, poi, poi, poi, poi, poi, poi, poi] = [Value.func (Fn.yield l) #[] #[], Value.pointer (some ⟨0, 0, none⟩), Value.pointer (some ⟨1, 0, none⟩), poi, Value.slice (some ⟨4, 0, none⟩) 3 3, poi, poi, poi, poi, poi, poi, poi, poi, poi, poi, poi, poi, poi, poi, poi, poi, poi, poi, poi, poi, poi, poi, poi, poi, poi, poi, poi, poi, poi, poi, poi, poi, poi, poi, poi, poi] ∧ some (AObj.row [Value.int .i64 3] 0 false false true) :: some z0 :: some (AObj.row e 5 true false true) :: some (AObj.row g 4 true false true) :: some (AObj.row [Value.int .i64 (IntKind.wrap .i64 (q330 s + (1 : Int))), Value.int .i64 (-1 : Int), Value.int .i64 (-1 : Int)] 1 false true (true && List.all [Value.int .i64 (-1 : Int)] atom && List.all [Value.int .i64 (-1 : Int)] atom && List.all [Value.int .i64 (IntKind.wrap .i64 (q330 s + (1 : Int)))] atom)) :: noH = some (AObj.row [Value.int .i64 3] 0 false false true) :: some z0 :: some (AObj.row e 5 true false true) :: some (AObj.row g 4 true false true) :: some (AObj.row [Value.int .i64 (q330 s'), Value.int .i64 (q331 s'), Value.int .i64 (q332 s')] 1 false true true) :: noH)) (false = false ∧ ∃ (s' : Nat), Is (s' < 64) ∧ Is (64 - s' < 64 - s) ∧ Is (s + 1 = s') ∧ [Value.func (Fn.yield l) #[] #[], Value.pointer (some ⟨0, 0, none⟩), Value.pointer (some ⟨1, 0, none⟩), poi, Value.slice (some ⟨4, 0, none⟩) 3 3, poi, poi, poi, poi, poi, poi, poi, poi, poi, poi, poi, poi, poi, poi, poi, poi, poi, poi, poi, poi, poi, poi, poi, poi, poi, poi, poi, poi, poi, poi, poi, poi, poi, poi, poi, poi] = [Value.func (Fn.yield l) #[] #[], Value.pointer (some ⟨0, 0, none⟩), Value.pointer (some ⟨1, 0, none⟩), poi, Value.slice (some ⟨4, 0, none⟩) 3 3, poi, poi, poi, poi, poi, poi, poi, poi, poi, poi, poi, poi, poi, poi, poi, poi, poi, poi, poi, poi, poi, poi, poi, poi, poi, poi, poi, poi, poi, poi, poi, poi, poi, poi, poi, poi] ∧ some (AObj.row [Value.int .i64 3] 0 false false true) :: some z0 :: some (AObj.row e 5 true false true) :: some (AObj.row g 4 true false true) :: some (AObj.row [Value.int .i64 (q330 s), Value.int .i64 (IntKind.wrap .i64 (q331 s + (1 : Int))), Value.int .i64 (-1 : Int)] 1 false true (true && List.all [Value.int .i64 (-1 : Int)] atom && List.all [Value.int .i64 (IntKind.wrap .i64 (q331 s + (1 : Int)))] atom)) :: noH = some (AObj.row [Value.int .i64 3] 0 false false true) :: some z0 :: some (AObj.row e 5 true false true) :: some (AObj.row g 4 true false true) :: some (AObj.row [Value.int .i64 (q330 s'), Value.int .i64 (q331 s'), Value.int .i64 (q332 s')] 1 false true true) :: noH)) (false = false ∧ ∃ (s' : Nat), Is (s' < 64) ∧ Is (64 - s' < 64 - s) ∧ Is (s + 1 = s') ∧ [Value.func (Fn.yield l) #[] #[], Value.pointer (some ⟨0, 0, none⟩), Value.pointer (some ⟨1, 0, none⟩), poi, Value.slice (some ⟨4, 0, none⟩) 3 3, poi, poi, poi, poi, poi, poi, poi, poi, poi, poi, poi, poi, poi, poi, poi, poi, poi, poi, poi, poi, poi, poi, poi, poi, poi, poi, poi, poi, poi, poi, poi, poi, poi, poi, poi, poi] = [Value.func (Fn.yield l) #[] #[], Value.pointer (some ⟨0, 0, none⟩), Value.pointer (some ⟨1, 0, none⟩), poi, Value.slice (some ⟨4, 0, none⟩) 3 3, poi, poi, poi, poi, poi, poi, poi, poi, poi, poi, poi, poi, poi, poi, poi, poi, poi, poi, poi, poi, poi, poi, poi, poi, poi, poi, poi, poi, poi, poi, poi, poi, poi, poi, poi, poi] ∧ some (AObj.row [Value.int .i64 3] 0 false false true) :: some z0 :: some (AObj.row e 5 true false true) :: some (AObj.row g 4 true false true) :: some (AObj.row [Value.int .i64 (q330 s), Value.int .i64 (q331 s), Value.int .i64 (IntKind.wrap .i64 (q332 s + (1 : Int)))] 1 false true true) :: noH = some (AObj.row [Value.int .i64 3] 0 false false true) :: some z0 :: some (AObj.row e 5 true false true) :: some (AObj.row g 4 true false true) :: some (AObj.row [Value.int .i64 (q330 s'), Value.int .i64 (q331 s'), Value.int .i64 (q332 s')] 1 false true true) :: noH) ∧ Is True)) := by kernel_rfl
theorem it33_ok (a b : Nat) (e g : List Value) : Le.IterLent Tryz.prog 60 cpL (hcI 3 3 a 3 b e g) 64 3 pl33 := by
  refine iterL_ok hm c0_ok (hs := hs33 a b e g) ?_
  rw [it33_t]
  refine fun l => ⟨⟨by decide, by decide, by decide⟩, ⟨⟨rfl, rfl⟩, (0 : Nat), ⟨by omega⟩, ⟨rfl⟩, by first | trivial | rfl, by first | trivial | rfl⟩, fun s hs => ⟨hs, by first | trivial | rfl, rfl, by first | trivial | rfl, by first | trivial | rfl, ⟨by decide, by simp⟩, br_of (fun h2 => br_of (fun h1 => br_of (fun h0 => ?_) (fun h0 => ?_)) (fun h1 => ?_)) (fun h2 => ?_), ⟨trivial⟩⟩⟩
  · have hs := hs.out
    have h2 : q332 s = 2 := by simpa using h2
    have h1 : q331 s = 2 := by simpa using h1
    have h0 : q330 s = 2 := by simpa using h0
    simp only [q332, q331, q330] at h2 h1 h0
    exact ⟨by omega, by omega⟩
  · have hs := hs.out
    have h2 : q332 s = 2 := by simpa using h2
    have h1 : q331 s = 2 := by simpa using h1
    have h0 : ¬ q330 s = 2 := by simpa using h0
    simp only [q332, q331, q330] at h2 h1 h0
    refine ⟨by first | trivial | rfl, s + 1, ⟨by omega⟩, ⟨by omega⟩, ⟨rfl⟩, by first | trivial | rfl, ?_⟩
    have e0 : IntKind.wrap .i64 (q330 s + 1) = q330 (s + 1) := by rw [q330, q330, wrap_eq (by omega) (by omega)]; omega
    have e1 : (-1 : Int) = q331 (s + 1) := by rw [q331]; omega
    have e2 : (-1 : Int) = q332 (s + 1) := by rw [q332]; omega
    rw [e0, ← e1, ← e2] <;> rfl
  · have hs := hs.out
    have h2 : q332 s = 2 := by simpa using h2
    have h1 : ¬ q331 s = 2 := by simpa using h1
    simp only [q332, q331] at h2 h1
    refine ⟨by first | trivial | rfl, s + 1, ⟨by omega⟩, ⟨by omega⟩, ⟨rfl⟩, by first | trivial | rfl, ?_⟩
    have e0 : q330 s = q330 (s + 1) := by rw [q330, q330]; omega
    have e1 : IntKind.wrap .i64 (q331 s + 1) = q331 (s + 1) := by rw [q331, q331, wrap_eq (by omega) (by omega)]; omega
    have e2 : (-1 : Int) = q332 (s + 1) := by rw [q332]; omega
    rw [e0, e1, ← e2] <;> rfl
  · have hs := hs.out
    have h2 : ¬ q332 s = 2 := by simpa using h2
    simp only [q332] at h2
    refine ⟨by first | trivial | rfl, s + 1, ⟨by omega⟩, ⟨by omega⟩, ⟨rfl⟩, by first | trivial | rfl, ?_⟩
    have e0 : q330 s = q330 (s + 1) := by rw [q330, q330]; omega
    have e1 : q331 s = q331 (s + 1) := by rw [q331, q331]; omega
    have e2 : IntKind.wrap .i64 (q332 s + 1) = q332 (s + 1) := by rw [q332, q332, wrap_eq (by omega) (by omega)]; omega
    rw [e0, e1, e2] <;> rfl
noncomputable def pl32 (s : Nat) : List Value := [.int .i64 (q320 s), .int .i64 (q321 s), .int .i64 (q322 s)]
noncomputable def ly32 (a b : Nat) (e g : List Value) (l : Nat) : Ly where
  σ := Nat
  E _ := slots 41 [(0, .func (.yield l) #[] #[]), (1, .pointer (some ⟨0, 0, none⟩)), (2, .pointer (some ⟨1, 0, none⟩)), (4, .slice (some ⟨4, 0, none⟩) 3 3)]
  Hp s := hcI 3 3 a 2 b e g ++ [some (.row (pl32 s) 1 false true true)]
  I s := s < 27
  m s := 27 - s
  gi s := s
noncomputable def hs32 (a b : Nat) (e g : List Value) (l : Nat) : Ys Tryz.prog where
  ys := [1]
  ly _ := some (ly32 a b e g l)
  cl q := if q = 1 then keep 41 [0, 1, 2, 4] else keep 41 [0, 1, 2, 4, 5]
  au := auCalls [(61, hCa Tryz.prog 61 orcRp okRp)]
theorem it32_t (a : Nat) (b : Nat) (e : List Value) (g : List Value) :
    (iterL Tryz.prog c0 (hs32 a b e g) (hcI (3 : Int) (3 : Nat) a (2 : Nat) b e g) (27 : Nat) (3 : Nat) pl32 (60 : FuncId) cpL) =
    (let z0 : AObj := AObj.row [Value.slice (some ⟨2, 0, none⟩) 3 a, Value.slice (some ⟨3, 0, none⟩) 2 b] 0 false false false; (∀ (l : Nat), Is ((-1 : Int) = (-1 : Int) ∧ (1 : Int) ≤ (3 : Int) ∧ (3 : Int) ≤ (3 : Int)) ∧ ((0 = 0 ∧ false = false) ∧ ∃ (s : Nat), Is (s < 27) ∧ Is (0 = s) ∧ [Value.func (Fn.yield l) #[] #[], Value.pointer (some ⟨0, 0, none⟩), Value.pointer (some ⟨1, 0, none⟩), poi, Value.slice (some ⟨4, 0, none⟩) 3 3, poi, poi, poi, poi, poi, poi, poi, poi, poi, poi, poi, poi, poi, poi, poi, poi, poi, poi, poi, poi, poi, poi, poi, poi, poi, poi, poi, poi, poi, poi, poi, poi, poi, poi, poi, poi] = [Value.func (Fn.yield l) #[] #[], Value.pointer (some ⟨0, 0, none⟩), Value.pointer (some ⟨1, 0, none⟩), poi, Value.slice (some ⟨4, 0, none⟩) 3 3, poi, poi, poi, poi, poi, poi, poi, poi, poi, poi, poi, poi, poi, poi, poi, poi, poi, poi, poi, poi, poi, poi, poi, poi, poi, poi, poi, poi, poi, poi, poi, poi, poi, poi, poi, poi] ∧ some (AObj.row [Value.int .i64 3] 0 false false true) :: some z0 :: some (AObj.row e 5 true false true) :: some (AObj.row g 4 true false true) :: some (AObj.row [Value.int .i64 (-1 : Int), Value.int .i64 (-1 : Int), Value.int .i64 (-1 : Int)] 1 false true true) :: noH = some (AObj.row [Value.int .i64 3] 0 false false true) :: some z0 :: some (AObj.row e 5 true false true) :: some (AObj.row g 4 true false true) :: some (AObj.row [Value.int .i64 (q320 s), Value.int .i64 (q321 s), Value.int .i64 (q322 s)] 1 false true true) :: noH) ∧ ∀ (s : Nat), Is (s < 27) → Is (s < 27) ∧ l = l ∧ 4 = List.length (some (AObj.row [Value.int .i64 3] 0 false false true) :: some z0 :: some (AObj.row e 5 true false true) :: some (AObj.row g 4 true false true) :: noH) ∧ 3 = 3 ∧ [Value.int .i64 (q320 s), Value.int .i64 (q321 s), Value.int .i64 (q322 s)] = [Value.int .i64 (q320 s), Value.int .i64 (q321 s), Value.int .i64 (q322 s)] ∧ Is (0 < 3 ∧ 0 < List.length [Value.int .i64 (q320 s), Value.int .i64 (q321 s), Value.int .i64 (q322 s)]) ∧ br (q322 s == (1 : Int)) (br (q321 s == (1 : Int)) (br (q320 s == (1 : Int)) (Is (s + 1 = 27 ∧ 0 < 27)) (false = false ∧ ∃ (s' : Nat), Is (s' < 27) ∧ Is (27 - s' < 27 - s) ∧ Is (s + 1 = s') ∧ [Value.func (Fn.yield l) #[] #[], Value.pointer (some ⟨0, 0, none⟩), Value.pointer (some ⟨1, 0, none⟩), poi, Value.slice (some ⟨4, 0, none⟩) 3 3, poi, poi, poi, poi, poi, poi, poi, poi, poi, poi, poi, poi, poi, poi, poi, poi, poi, poi, poi, poi, poi, poi, poi, poi, poi, poi, poi, poi, poi, poi, poi, poi, poi, poi, poi, poi] = [Value.func (Fn.yield l) #[] #[], Value.pointer (some ⟨0, 0, none⟩), Value.pointer (some ⟨1, 0, none⟩), poi, Value.slice (some ⟨4, 0, none⟩) 3 3, poi, poi, poi, poi, poi, poi, poi, poi, poi, poi, poi, poi, poi, poi, poi, poi, poi, poi, poi, poi, poi, poi, poi, poi, poi, poi, poi, poi, poi, poi, poi, poi, poi, poi, poi, poi] ∧ some (AObj.row [Value.int .i64 3] 0 false false true) :: some z0 :: some (AObj.row e 5 true false true) :: some (AObj.row g 4 true false true) :: some (AObj.row [Value.int .i64 (IntKind.wrap .i64 (q320 s + (1 : Int))), Value.int .i64 (-1 : Int), Value.int .i64 (-1 : Int)] 1 false true (true && List.all [Value.int .i64 (-1 : Int)] atom && List.all [Value.int .i64 (-1 : Int)] atom && List.all [Value.int .i64 (IntKind.wrap .i64 (q320 s + (1 : Int)))] atom)) :: noH = some (AObj.row [Value.int .i64 3] 0 false false true) :: some z0 :: some (AObj.row e 5 true false true) :: some (AObj.row g 4 true false true) :: some (AObj.row [Value.int .i64 (q320 s'), Value.int .i64 (q321 s'), Value.int .i64 (q322 s')] 1 false true true) :: noH)) (false = false ∧ ∃ (s' : Nat), Is (s' < 27) ∧ Is (27 - s' < 27 - s) ∧ Is (s + 1 = s') ∧ [Value.func (Fn.yield l) #[] #[], Value.pointer (some ⟨0, 0, none⟩), Value.pointer (some ⟨1, 0, none⟩), poi, Value.slice (some ⟨4, 0, none⟩) 3 3, poi, poi, poi, poi, poi, poi, poi, poi, poi, poi, poi, poi, poi, poi, poi, poi, poi, poi, poi, poi, poi, poi, poi, poi, poi, poi, poi, poi, poi, poi, poi, poi, poi, poi, poi, poi] = [Value.func (Fn.yield l) #[] #[], Value.pointer (some ⟨0, 0, none⟩), Value.pointer (some ⟨1, 0, none⟩), poi, Value.slice (some ⟨4, 0, none⟩) 3 3, poi, poi, poi, poi, poi, poi, poi, poi, poi, poi, poi, poi, poi, poi, poi, poi, poi, poi, poi, poi, poi, poi, poi, poi, poi, poi, poi, poi, poi, poi, poi, poi, poi, poi, poi, poi] ∧ some (AObj.row [Value.int .i64 3] 0 false false true) :: some z0 :: some (AObj.row e 5 true false true) :: some (AObj.row g 4 true false true) :: some (AObj.row [Value.int .i64 (q320 s), Value.int .i64 (IntKind.wrap .i64 (q321 s + (1 : Int))), Value.int .i64 (-1 : Int)] 1 false true (true && List.all [Value.int .i64 (-1 : Int)] atom && List.all [Value.int .i64 (IntKind.wrap .i64 (q321 s + (1 : Int)))] atom)) :: noH = some (AObj.row [Value.int .i64 3] 0 false false true) :: some z0 :: some (AObj.row e 5 true false true) :: some (AObj.row g 4 true false true) :: some (AObj.row [Value.int .i64 (q320 s'), Value.int .i64 (q321 s'), Value.int .i64 (q322 s')] 1 false true true) :: noH)) (false = false ∧ ∃ (s' : Nat), Is (s' < 27) ∧ Is (27 - s' < 27 - s) ∧ Is (s + 1 = s') ∧ [Value.func (Fn.yield l) #[] #[], Value.pointer (some ⟨0, 0, none⟩), Value.pointer (some ⟨1, 0, none⟩), poi, Value.slice (some ⟨4, 0, none⟩) 3 3, poi, poi, poi, poi, poi, poi, poi, poi, poi, poi, poi, poi, poi, poi, poi, poi, poi, poi, poi, poi, poi, poi, poi, poi, poi, poi, poi, poi, poi, poi, poi, poi, poi, poi, poi, poi] = [Value.func (Fn.yield l) #[] #[], Value.pointer (some ⟨0, 0, none⟩), Value.pointer (some ⟨1, 0, none⟩), poi, Value.slice (some ⟨4, 0, none⟩) 3 3, poi, poi, poi, poi, poi, poi, poi, poi, poi, poi, poi, poi, poi, poi, poi, poi, poi, poi, poi, poi, poi, poi, poi, poi, poi, poi, poi, poi, poi, poi, poi, poi, poi, poi, poi, poi] ∧ some (AObj.row [Value.int .i64 3] 0 false false true) :: some z0 :: some (AObj.row e 5 true false true) :: some (AObj.row g 4 true false true) :: some (AObj.row [Value.int .i64 (q320 s), Value.int .i64 (q321 s), Value.int .i64 (IntKind.wrap .i64 (q322 s + (1 : Int)))] 1 false true true) :: noH = some (AObj.row [Value.int .i64 3] 0 false false true) :: some z0 :: some (AObj.row e 5 true false true) :: some (AObj.row g 4 true false true) :: some (AObj.row [Value.int .i64 (q320 s'), Value.int .i64 (q321 s'), Value.int .i64 (q322 s')] 1 false true true) :: noH) ∧ Is True)) := by kernel_rfl
theorem it32_ok (a b : Nat) (e g : List Value) : Le.IterLent Tryz.prog 60 cpL (hcI 3 3 a 2 b e g) 27 3 pl32 := by
  refine iterL_ok hm c0_ok (hs := hs32 a b e g) ?_
  rw [it32_t]
  refine fun l => ⟨⟨by decide, by decide, by decide⟩, ⟨⟨rfl, rfl⟩, (0 : Nat), ⟨by omega⟩, ⟨rfl⟩, by first | trivial | rfl, by first | trivial | rfl⟩, fun s hs => ⟨hs, by first | trivial | rfl, rfl, by first | trivial | rfl, by first | trivial | rfl, ⟨by decide, by simp⟩, br_of (fun h2 => br_of (fun h1 => br_of (fun h0 => ?_) (fun h0 => ?_)) (fun h1 => ?_)) (fun h2 => ?_), ⟨trivial⟩⟩⟩
  · have hs := hs.out
    have h2 : q322 s = 1 := by simpa using h2
    have h1 : q321 s = 1 := by simpa using h1
    have h0 : q320 s = 1 := by simpa using h0
    simp only [q322, q321, q320] at h2 h1 h0
    exact ⟨by omega, by omega⟩
  · have hs := hs.out
    have h2 : q322 s = 1 := by simpa using h2
    have h1 : q321 s = 1 := by simpa using h1
    have h0 : ¬ q320 s = 1 := by simpa using h0
    simp only [q322, q321, q320] at h2 h1 h0
    refine ⟨by first | trivial | rfl, s + 1, ⟨by omega⟩, ⟨by omega⟩, ⟨rfl⟩, by first | trivial | rfl, ?_⟩
    have e0 : IntKind.wrap .i64 (q320 s + 1) = q320 (s + 1) := by rw [q320, q320, wrap_eq (by omega) (by omega)]; omega
    have e1 : (-1 : Int) = q321 (s + 1) := by rw [q321]; omega
    have e2 : (-1 : Int) = q322 (s + 1) := by rw [q322]; omega
    rw [e0, ← e1, ← e2] <;> rfl
  · have hs := hs.out
    have h2 : q322 s = 1 := by simpa using h2
    have h1 : ¬ q321 s = 1 := by simpa using h1
    simp only [q322, q321] at h2 h1
    refine ⟨by first | trivial | rfl, s + 1, ⟨by omega⟩, ⟨by omega⟩, ⟨rfl⟩, by first | trivial | rfl, ?_⟩
    have e0 : q320 s = q320 (s + 1) := by rw [q320, q320]; omega
    have e1 : IntKind.wrap .i64 (q321 s + 1) = q321 (s + 1) := by rw [q321, q321, wrap_eq (by omega) (by omega)]; omega
    have e2 : (-1 : Int) = q322 (s + 1) := by rw [q322]; omega
    rw [e0, e1, ← e2] <;> rfl
  · have hs := hs.out
    have h2 : ¬ q322 s = 1 := by simpa using h2
    simp only [q322] at h2
    refine ⟨by first | trivial | rfl, s + 1, ⟨by omega⟩, ⟨by omega⟩, ⟨rfl⟩, by first | trivial | rfl, ?_⟩
    have e0 : q320 s = q320 (s + 1) := by rw [q320, q320]; omega
    have e1 : q321 s = q321 (s + 1) := by rw [q321, q321]; omega
    have e2 : IntKind.wrap .i64 (q322 s + 1) = q322 (s + 1) := by rw [q322, q322, wrap_eq (by omega) (by omega)]; omega
    rw [e0, e1, e2] <;> rfl
end
end Qq
end
