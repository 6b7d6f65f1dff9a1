/- Parts of the proof: QO, QP, QT, QU, QV, QW, QX, QY, QZ, QAA, QLR, QLC, QXP, QFF, QDD, QHH, RA, RB, RC, RD, RF, FlC. -/
import Derived.Test.YtapnpmehjbaomaaGreatDoorZAD
import Derived.Test.YtapnpmehjbaomaaGreatDoorZAC
section
/- Parts of a section, and their sums. -/
open Go Go.Vm Go.Proofs Sp
namespace Sp
noncomputable section
/-- A sum over pairs. -/
noncomputable def sumP (g : Int → Int → Int) : List Int → Int
  | d :: x :: r => g d x + sumP g r
  | _ => 0
noncomputable def d0 (zs : List Int) (off : Nat) : Int := zs.getD off 0
noncomputable def sX (zs : List Int) (off i : Nat) : Int := sumP (fun d _ => d - d0 zs off) ((zs.drop off).take (i * 2))
noncomputable def sY (zs : List Int) (off i : Nat) : Int := sumP (fun _ x => x) ((zs.drop off).take (i * 2))
noncomputable def sXX (zs : List Int) (off i : Nat) : Int := sumP (fun d _ => (d - d0 zs off) * (d - d0 zs off)) ((zs.drop off).take (i * 2))
noncomputable def sXY (zs : List Int) (off i : Nat) : Int := sumP (fun d x => (d - d0 zs off) * x) ((zs.drop off).take (i * 2))
noncomputable def lvl (zs : List Int) (off m : Nat) : Int := sY zs off m * sXX zs off m - sX zs off m * sXY zs off m
noncomputable def slp (zs : List Int) (off m : Nat) : Int := m * sXY zs off m - sX zs off m * sY zs off m
noncomputable def dn (zs : List Int) (off m : Nat) : Int := m * sXX zs off m - sX zs off m * sX zs off m
/-- Where a period ends. -/
noncomputable def upto (zs : List Int) (ks : List (Int × ByteArray)) (n k i : Nat) : Nat := if i < k then frm zs ks (i + 1) else n
end
end Sp
namespace Qq
noncomputable section
noncomputable def sp2 (zs : List Int) (ks : List (Int × ByteArray)) (n k off : Nat) : Value := .agg #[.int .i64 (Int.ofNat (frm zs ks (off / 2))), .int .i64 (Int.ofNat (upto zs ks n k (off / 2)))]
noncomputable def hsPd (zs : List Int) (ks : List (Int × ByteArray)) (n k : Nat) : Hs Tryz.prog where
  op y := if y = 103 then some (hIa Tryz.prog) else if y = 104 then some (hLd Tryz.prog (sp2 zs ks n k)) else if y = 206 then some (hSl Tryz.prog) else none
  au := auCalls [(47, hCa Tryz.prog 47 (orcPerV zs ks) (per_okV zs ks))]
theorem pd_t (nm : ByteArray) (zs : List Int) (ks : List (Int × ByteArray)) (n : Nat) (c : Nat) (k : Nat) (d : Nat) (p : Int) (K : Value → Heap → Prop) :
    (fnP Tryz.prog c0 (hsPd zs ks n k) (77 : FuncId) [Value.agg (List.toArray (secA nm (0 : Nat) n c (1 : Nat) k d)), Value.int IntKind.i64 p] (hp2 zs ks true true true true []) K) =
    (Is (isSec zs ks n k (ints zs) (acs ks) ∧ mchk zs (-1 : Int) = (0 : Int) ∧ achk ks (-1 : Int) = (0 : Int)) ∧ Is ((0 : Int) ≤ p ∧ p < (↑(k + (1 : Nat)) : Int)) ∧ Is ((if (0 : Nat) + Int.toNat p * (2 : Nat) + (2 : Nat) ≤ List.length (ints (spans zs ks n k)) then some (Value.agg (List.toArray (List.take (2 : Nat) (List.drop ((0 : Nat) + Int.toNat p * (2 : Nat)) (ints (spans zs ks n k)))))) else none) = some (Value.agg #[Value.int IntKind.i64 (↑(frm zs ks (((0 : Nat) + Int.toNat p * (2 : Nat)) / (2 : Nat))) : Int), Value.int IntKind.i64 (↑(upto zs ks n k (((0 : Nat) + Int.toNat p * (2 : Nat)) / (2 : Nat))) : Int)])) ∧ Is ((0 : Int) ≤ (↑(frm zs ks (((0 : Nat) + Int.toNat p * (2 : Nat)) / (2 : Nat))) : Int) ∧ (↑(frm zs ks (((0 : Nat) + Int.toNat p * (2 : Nat)) / (2 : Nat))) : Int) ≤ (↑(upto zs ks n k (((0 : Nat) + Int.toNat p * (2 : Nat)) / (2 : Nat))) : Int) ∧ (↑(upto zs ks n k (((0 : Nat) + Int.toNat p * (2 : Nat)) / (2 : Nat))) : Int) ≤ (↑n : Int)) ∧ K (Value.slice (some { block := (0 : Nat), off := (0 : Nat) + Int.toNat (↑(frm zs ks (((0 : Nat) + Int.toNat p * (2 : Nat)) / (2 : Nat))) : Int) * (2 : Nat) }) (Int.toNat (↑(upto zs ks n k (((0 : Nat) + Int.toNat p * (2 : Nat)) / (2 : Nat))) : Int) - Int.toNat (↑(frm zs ks (((0 : Nat) + Int.toNat p * (2 : Nat)) / (2 : Nat))) : Int)) (18446744073709551616 : Nat)) (some (AObj.row (ints zs) (2 : Nat) true true true) :: some (AObj.row (acs ks) (2 : Nat) true true true) :: noH)) := by kernel_rfl
/- The program's sums. -/
noncomputable def lpFt (zs : List Int) (off m c : Nat) (m1 w1 : Bool) : Lp where
  σ := Nat
  E i := slots 71 [(0, .slice (some ⟨0, off, none⟩) m c), (2, .pointer (some ⟨1, 0, none⟩)), (3, .int .i64 (Int.ofNat m)), (4, .int .i64 (sX zs off i)), (5, .int .i64 (sY zs off i)), (6, .int .i64 (sXX zs off i)), (7, .int .i64 (sXY zs off i)),
    (13, .slice (some ⟨0, off, none⟩) m c), (14, .int .i64 (Int.ofNat m)), (15, .int .i64 (Int.ofNat i))]
  Hp _ := [some (.row (ints zs) 2 m1 w1 true), some (.row [.int .i64 0, .int .i64 0, .int .i64 0, .int .i64 0] 0 false true true)]
  I i := i ≤ m
  m i := m - i
noncomputable def hsFt (zs : List Int) (off m c : Nat) (m1 w1 : Bool) : Hs Tryz.prog where
  op y := if [500, 603, 1001].contains y then some (hIa Tryz.prog) else if y = 501 then some (hLd Tryz.prog (z2 zs)) else if [605, 1003].contains y then some (hLd Tryz.prog (zI zs)) else none
  lp _ := some (lpFt zs off m c m1 w1)
  cl _ := keep 71 [0, 2, 3, 4, 5, 6, 7, 13, 14, 15]
  au := au0 Tryz.prog
theorem ft_t (zs : List Int) (off : Nat) (m : Nat) (c : Nat) (m1 : Bool) (w1 : Bool) (K : Value → Heap → Prop) :
    (fnP Tryz.prog c0 (hsFt zs off m c m1 w1) (78 : FuncId) [Value.slice (some { block := (0 : Nat), off := off }) m c] [some (AObj.row (ints zs) (2 : Nat) m1 w1 true)] K) =
    ((∃ s, Is (s ≤ m) ∧ [Value.slice (some { block := (0 : Nat), off := off }) m c, poi, Value.pointer (some { block := (1 : Nat), off := (0 : Nat) }), Value.int IntKind.i64 (↑m : Int), Value.int IntKind.i64 (0 : Int), Value.int IntKind.i64 (0 : Int), Value.int IntKind.i64 (0 : Int), Value.int IntKind.i64 (0 : Int), poi, poi, poi, poi, poi, Value.slice (some { block := (0 : Nat), off := off }) m c, Value.int IntKind.i64 (↑m : Int), Value.int IntKind.i64 (0 : Int), poi, poi, poi, poi, poi, poi, poi, poi, poi, poi, poi, poi, poi, poi, poi, poi, poi, poi, poi, poi, poi, poi, poi, poi, poi, poi, poi, poi, poi, poi, poi, poi, poi, poi, poi, poi, poi, poi, poi, poi, poi, poi, poi, poi, poi, poi, poi, poi, poi, poi, poi, poi, poi, poi, poi] = [Value.slice (some { block := (0 : Nat), off := off }) m c, poi, Value.pointer (some { block := (1 : Nat), off := (0 : Nat) }), Value.int IntKind.i64 (↑m : Int), Value.int IntKind.i64 (sX zs off s), Value.int IntKind.i64 (sY zs off s), Value.int IntKind.i64 (sXX zs off s), Value.int IntKind.i64 (sXY zs off s), poi, poi, poi, poi, poi, Value.slice (some { block := (0 : Nat), off := off }) m c, Value.int IntKind.i64 (↑m : Int), Value.int IntKind.i64 (↑s : Int), poi, poi, poi, poi, poi, poi, poi, poi, poi, poi, poi, poi, poi, poi, poi, poi, poi, poi, poi, poi, poi, poi, poi, poi, poi, poi, poi, poi, poi, poi, poi, poi, poi, poi, poi, poi, poi, poi, poi, poi, poi, poi, poi, poi, poi, poi, poi, poi, poi, poi, poi, poi, poi, poi, poi] ∧ some (AObj.row (ints zs) (2 : Nat) m1 w1 true) :: some (AObj.row [Value.int IntKind.i64 (0 : Int), Value.int IntKind.i64 (0 : Int), Value.int IntKind.i64 (0 : Int), Value.int IntKind.i64 (0 : Int)] (0 : Nat) false true true) :: noH = some (AObj.row (ints zs) (2 : Nat) m1 w1 true) :: some (AObj.row [Value.int IntKind.i64 (0 : Int), Value.int IntKind.i64 (0 : Int), Value.int IntKind.i64 (0 : Int), Value.int IntKind.i64 (0 : Int)] (0 : Nat) false true true) :: noH) ∧ ∀ (s : Nat), Is (s ≤ m) → br (decide ((↑s : Int) < (↑m : Int))) (Is ((0 : Int) ≤ (↑s : Int) ∧ (↑s : Int) < (↑m : Int)) ∧ Is ((if off + Int.toNat (↑s : Int) * (2 : Nat) + (2 : Nat) ≤ List.length (ints zs) then some (Value.agg (List.toArray (List.take (2 : Nat) (List.drop (off + Int.toNat (↑s : Int) * (2 : Nat)) (ints zs))))) else none) = some (Value.agg #[Value.int IntKind.i64 (List.getD zs (off + Int.toNat (↑s : Int) * (2 : Nat)) (0 : Int)), Value.int IntKind.i64 (List.getD zs (off + Int.toNat (↑s : Int) * (2 : Nat) + (1 : Nat)) (0 : Int))])) ∧ Is ((0 : Int) ≤ (0 : Int) ∧ (0 : Int) < (↑m : Int)) ∧ Is ((ints zs)[off + (0 : Nat) + (0 : Nat)]? = some (Value.int IntKind.i64 (List.getD zs (off + (0 : Nat) + (0 : Nat)) (0 : Int)))) ∧ ∃ s', Is (s' ≤ m) ∧ Is (m - s' < m - s) ∧ [Value.slice (some { block := (0 : Nat), off := off }) m c, poi, Value.pointer (some { block := (1 : Nat), off := (0 : Nat) }), Value.int IntKind.i64 (↑m : Int), Value.int IntKind.i64 (IntKind.wrap IntKind.i64 (sX zs off s + IntKind.wrap IntKind.i64 (List.getD zs (off + Int.toNat (↑s : Int) * (2 : Nat)) (0 : Int) - List.getD zs (off + (0 : Nat) + (0 : Nat)) (0 : Int)))), Value.int IntKind.i64 (IntKind.wrap IntKind.i64 (sY zs off s + List.getD zs (off + Int.toNat (↑s : Int) * (2 : Nat) + (1 : Nat)) (0 : Int))), Value.int IntKind.i64 (IntKind.wrap IntKind.i64 (sXX zs off s + IntKind.wrap IntKind.i64 (IntKind.wrap IntKind.i64 (List.getD zs (off + Int.toNat (↑s : Int) * (2 : Nat)) (0 : Int) - List.getD zs (off + (0 : Nat) + (0 : Nat)) (0 : Int)) * IntKind.wrap IntKind.i64 (List.getD zs (off + Int.toNat (↑s : Int) * (2 : Nat)) (0 : Int) - List.getD zs (off + (0 : Nat) + (0 : Nat)) (0 : Int))))), Value.int IntKind.i64 (IntKind.wrap IntKind.i64 (sXY zs off s + IntKind.wrap IntKind.i64 (IntKind.wrap IntKind.i64 (List.getD zs (off + Int.toNat (↑s : Int) * (2 : Nat)) (0 : Int) - List.getD zs (off + (0 : Nat) + (0 : Nat)) (0 : Int)) * List.getD zs (off + Int.toNat (↑s : Int) * (2 : Nat) + (1 : Nat)) (0 : Int)))), poi, poi, poi, poi, poi, Value.slice (some { block := (0 : Nat), off := off }) m c, Value.int IntKind.i64 (↑m : Int), Value.int IntKind.i64 (IntKind.wrap IntKind.i64 ((↑s : Int) + (1 : Int))), poi, poi, poi, poi, poi, poi, poi, poi, poi, poi, poi, poi, poi, poi, poi, poi, poi, poi, poi, poi, poi, poi, poi, poi, poi, poi, poi, poi, poi, poi, poi, poi, poi, poi, poi, poi, poi, poi, poi, poi, poi, poi, poi, poi, poi, poi, poi, poi, poi, poi, poi, poi, poi, poi, poi] = [Value.slice (some { block := (0 : Nat), off := off }) m c, poi, Value.pointer (some { block := (1 : Nat), off := (0 : Nat) }), Value.int IntKind.i64 (↑m : Int), Value.int IntKind.i64 (sX zs off s'), Value.int IntKind.i64 (sY zs off s'), Value.int IntKind.i64 (sXX zs off s'), Value.int IntKind.i64 (sXY zs off s'), poi, poi, poi, poi, poi, Value.slice (some { block := (0 : Nat), off := off }) m c, Value.int IntKind.i64 (↑m : Int), Value.int IntKind.i64 (↑s' : Int), poi, poi, poi, poi, poi, poi, poi, poi, poi, poi, poi, poi, poi, poi, poi, poi, poi, poi, poi, poi, poi, poi, poi, poi, poi, poi, poi, poi, poi, poi, poi, poi, poi, poi, poi, poi, poi, poi, poi, poi, poi, poi, poi, poi, poi, poi, poi, poi, poi, poi, poi, poi, poi, poi, poi] ∧ some (AObj.row (ints zs) (2 : Nat) m1 w1 true) :: some (AObj.row [Value.int IntKind.i64 (0 : Int), Value.int IntKind.i64 (0 : Int), Value.int IntKind.i64 (0 : Int), Value.int IntKind.i64 (0 : Int)] (0 : Nat) false true true) :: noH = some (AObj.row (ints zs) (2 : Nat) m1 w1 true) :: some (AObj.row [Value.int IntKind.i64 (0 : Int), Value.int IntKind.i64 (0 : Int), Value.int IntKind.i64 (0 : Int), Value.int IntKind.i64 (0 : Int)] (0 : Nat) false true true) :: noH) (Is ((0 : Int) ≤ (0 : Int) ∧ (0 : Int) < (↑m : Int)) ∧ Is ((ints zs)[off + (0 : Nat) + (0 : Nat)]? = some (Value.int IntKind.i64 (List.getD zs (off + (0 : Nat) + (0 : Nat)) (0 : Int)))) ∧ K (Value.agg #[Value.int IntKind.i64 (List.getD zs (off + (0 : Nat) + (0 : Nat)) (0 : Int)), Value.int IntKind.i64 (IntKind.wrap IntKind.i64 (IntKind.wrap IntKind.i64 (sY zs off s * sXX zs off s) - IntKind.wrap IntKind.i64 (sX zs off s * sXY zs off s))), Value.int IntKind.i64 (IntKind.wrap IntKind.i64 (IntKind.wrap IntKind.i64 ((↑m : Int) * sXY zs off s) - IntKind.wrap IntKind.i64 (sX zs off s * sY zs off s))), Value.int IntKind.i64 (IntKind.wrap IntKind.i64 (IntKind.wrap IntKind.i64 ((↑m : Int) * sXX zs off s) - IntKind.wrap IntKind.i64 (sX zs off s * sX zs off s)))]) (some (AObj.row (ints zs) (2 : Nat) m1 w1 true) :: noH))) := by kernel_rfl
/- The reference's sums. -/
theorem sumP_take (g : Int → Int → Int) : ∀ (L : List Int) (i : Nat), i * 2 + 2 ≤ L.length → sumP g (L.take ((i + 1) * 2)) = sumP g (L.take (i * 2)) + g (L.getD (i * 2) 0) (L.getD (i * 2 + 1) 0)
  | [], i, h => by simp at h
  | [_], i, h => by simp at h
  | a :: b :: r, 0, _ => by simp [sumP]
  | a :: b :: r, i + 1, h => by
    have ih := sumP_take g r i (by simp only [List.length_cons] at h; omega)
    have e1 : (i + 1 + 1) * 2 = (i + 1) * 2 + 1 + 1 := by omega
    have e2 : (i + 1) * 2 = i * 2 + 1 + 1 := by omega
    have e3 : (a :: b :: r).getD ((i + 1) * 2) 0 = r.getD (i * 2) 0 := by rw [e2]; rfl
    have e4 : (a :: b :: r).getD ((i + 1) * 2 + 1) 0 = r.getD (i * 2 + 1) 0 := by rw [show (i + 1) * 2 + 1 = i * 2 + 1 + 1 + 1 by omega]; rfl
    rw [e3, e4, e1, List.take_succ_cons, List.take_succ_cons]
    rw [show (a :: b :: r).take ((i + 1) * 2) = a :: b :: r.take (i * 2) by rw [e2, List.take_succ_cons, List.take_succ_cons]]
    simp only [sumP]
    rw [ih]
    omega
theorem getD_drop (zs : List Int) (off j : Nat) : (zs.drop off).getD j 0 = zs.getD (off + j) 0 := by
  simp [List.getD_eq_getElem?_getD, List.getElem?_drop]
theorem sumP_step (g : Int → Int → Int) {zs : List Int} {off i : Nat} (h : off + i * 2 + 2 ≤ zs.length) :
    sumP g ((zs.drop off).take ((i + 1) * 2)) = sumP g ((zs.drop off).take (i * 2)) + g (zs.getD (off + i * 2) 0) (zs.getD (off + i * 2 + 1) 0) := by
  have := sumP_take g (zs.drop off) i (by rw [List.length_drop]; omega)
  rw [getD_drop, getD_drop] at this
  rw [this, Nat.add_assoc]
/-- A part whose sums do not leave the machine's integers. -/
structure Part (zs : List Int) (off m : Nat) : Prop where
  len : off + m * 2 ≤ zs.length
  few : m ≤ 32
  day : ∀ i, i < m → d0 zs off ≤ zs.getD (off + i * 2) 0 ∧ zs.getD (off + i * 2) 0 ≤ 100000
  idx : ∀ i, i < m → 0 ≤ zs.getD (off + i * 2 + 1) 0 ∧ zs.getD (off + i * 2 + 1) 0 ≤ 100000
  z0 : 0 ≤ d0 zs off
theorem sumP_le {g : Int → Int → Int} {zs : List Int} {off m : Nat} {B : Int} (hl : off + m * 2 ≤ zs.length) (hb : ∀ i, i < m → 0 ≤ g (zs.getD (off + i * 2) 0) (zs.getD (off + i * 2 + 1) 0) ∧ g (zs.getD (off + i * 2) 0) (zs.getD (off + i * 2 + 1) 0) ≤ B) :
    ∀ i : Nat, i ≤ m → 0 ≤ sumP g ((zs.drop off).take (i * 2)) ∧ sumP g ((zs.drop off).take (i * 2)) ≤ B * i
  | 0, _ => by simp [sumP]
  | i + 1, h => by
    obtain ⟨h1, h2⟩ := sumP_le hl hb i (by omega)
    obtain ⟨h3, h4⟩ := hb i (by omega)
    rw [sumP_step g (by omega)]
    have e : B * ((i + 1 : Nat) : Int) = B * (i : Int) + B := by rw [Int.natCast_add, Int.mul_add]; simp
    rw [e]
    omega
theorem mul_in {a b A B : Int} (a0 : 0 ≤ a) (aA : a ≤ A) (b0 : 0 ≤ b) (bB : b ≤ B) : 0 ≤ a * b ∧ a * b ≤ A * B :=
  ⟨Int.mul_nonneg a0 b0, Int.mul_le_mul aA bB b0 (Int.le_trans a0 aA)⟩
theorem Part.sums {zs : List Int} {off m : Nat} (h : Part zs off m) {i : Nat} (hi : i ≤ m) :
    (0 ≤ sX zs off i ∧ sX zs off i ≤ 3200000) ∧ (0 ≤ sY zs off i ∧ sY zs off i ≤ 3200000) ∧ (0 ≤ sXX zs off i ∧ sXX zs off i ≤ 320000000000) ∧ (0 ≤ sXY zs off i ∧ sXY zs off i ≤ 320000000000) := by
  have hd := h.z0
  have hm := h.few
  have up : ∀ {s B : Int}, 0 ≤ B → 0 ≤ s ∧ s ≤ B * i → 0 ≤ s ∧ s ≤ B * 32 := fun {s B} hB ⟨a, b⟩ => ⟨a, Int.le_trans b (Int.mul_le_mul_of_nonneg_left (by omega) hB)⟩
  refine ⟨up (B := 100000) (by omega) (sumP_le h.len (fun j hj => ?_) i hi), up (B := 100000) (by omega) (sumP_le h.len (fun j hj => h.idx j hj) i hi), up (B := 10000000000) (by omega) (sumP_le h.len (fun j hj => ?_) i hi), up (B := 10000000000) (by omega) (sumP_le h.len (fun j hj => ?_) i hi)⟩
  · have := h.day j hj; omega
  · obtain ⟨q1, q2⟩ := h.day j hj
    obtain ⟨u, hu⟩ : ∃ u, u = zs.getD (off + j * 2) 0 - Sp.d0 zs off := ⟨_, rfl⟩
    simp only [← hu]
    have hu : 0 ≤ u ∧ u ≤ 100000 := by omega
    have := mul_in hu.1 hu.2 hu.1 hu.2
    exact ⟨this.1, by omega⟩
  · obtain ⟨q1, q2⟩ := h.day j hj
    obtain ⟨q3, q4⟩ := h.idx j hj
    obtain ⟨u, hu⟩ : ∃ u, u = zs.getD (off + j * 2) 0 - Sp.d0 zs off := ⟨_, rfl⟩
    simp only [← hu]
    have hu : 0 ≤ u ∧ u ≤ 100000 := by omega
    have := mul_in hu.1 hu.2 q3 q4
    exact ⟨this.1, by omega⟩

/-- The numbers of the line do not leave the machine's integers. -/
theorem Part.line {zs : List Int} {off m : Nat} (h : Part zs off m) :
    (-1024000000000000000 ≤ lvl zs off m ∧ lvl zs off m ≤ 1024000000000000000) ∧ (-10240000000000 ≤ slp zs off m ∧ slp zs off m ≤ 10240000000000) ∧ (-10240000000000 ≤ dn zs off m ∧ dn zs off m ≤ 10240000000000) ∧
      W (W (sY zs off m * sXX zs off m) - W (sX zs off m * sXY zs off m)) = lvl zs off m ∧ W (W (m * sXY zs off m) - W (sX zs off m * sY zs off m)) = slp zs off m ∧ W (W (m * sXX zs off m) - W (sX zs off m * sX zs off m)) = dn zs off m := by
  obtain ⟨⟨x0, x1⟩, ⟨y0, y1⟩, ⟨p0, p1⟩, ⟨q0, q1⟩⟩ := h.sums (Nat.le_refl m)
  have hm := h.few
  have a1 := mul_in y0 y1 p0 p1
  have a2 := mul_in x0 x1 q0 q1
  have a3 := mul_in (show (0 : Int) ≤ m by omega) (show (m : Int) ≤ 32 by omega) q0 q1
  have a4 := mul_in x0 x1 y0 y1
  have a5 := mul_in (show (0 : Int) ≤ m by omega) (show (m : Int) ≤ 32 by omega) p0 p1
  have a6 := mul_in x0 x1 x0 x1
  simp only [lvl, slp, dn, W]
  rw [wrap_eq (x := sY zs off m * sXX zs off m) (by omega) (by omega), wrap_eq (x := sX zs off m * sXY zs off m) (by omega) (by omega), wrap_eq (x := m * sXY zs off m) (by omega) (by omega), wrap_eq (x := sX zs off m * sY zs off m) (by omega) (by omega),
    wrap_eq (x := m * sXX zs off m) (by omega) (by omega), wrap_eq (x := sX zs off m * sX zs off m) (by omega) (by omega)]
  refine ⟨⟨by omega, by omega⟩, ⟨by omega, by omega⟩, ⟨by omega, by omega⟩, wrap_eq (by omega) (by omega), wrap_eq (by omega) (by omega), wrap_eq (by omega) (by omega)⟩
theorem Part.step {zs : List Int} {off m i : Nat} (h : Part zs off m) (hi : i < m) :
    W (sX zs off i + W (zs.getD (off + i * 2) 0 - zs.getD off 0)) = sX zs off (i + 1) ∧ W (sY zs off i + zs.getD (off + i * 2 + 1) 0) = sY zs off (i + 1) ∧
      W (sXX zs off i + W (W (zs.getD (off + i * 2) 0 - zs.getD off 0) * W (zs.getD (off + i * 2) 0 - zs.getD off 0))) = sXX zs off (i + 1) ∧
      W (sXY zs off i + W (W (zs.getD (off + i * 2) 0 - zs.getD off 0) * zs.getD (off + i * 2 + 1) 0)) = sXY zs off (i + 1) := by
  have hl := h.len
  have g := h.sums (i := i + 1) hi
  have e1 : sX zs off (i + 1) = sX zs off i + (zs.getD (off + i * 2) 0 - d0 zs off) := sumP_step _ (by omega)
  have e2 : sY zs off (i + 1) = sY zs off i + zs.getD (off + i * 2 + 1) 0 := sumP_step _ (by omega)
  have e3 : sXX zs off (i + 1) = sXX zs off i + (zs.getD (off + i * 2) 0 - d0 zs off) * (zs.getD (off + i * 2) 0 - d0 zs off) := sumP_step _ (by omega)
  have e4 : sXY zs off (i + 1) = sXY zs off i + (zs.getD (off + i * 2) 0 - d0 zs off) * zs.getD (off + i * 2 + 1) 0 := sumP_step _ (by omega)
  obtain ⟨q1, q2⟩ := h.day i hi
  obtain ⟨q3, q4⟩ := h.idx i hi
  have hd := h.z0
  have hd0 : zs.getD off 0 = d0 zs off := rfl
  rw [hd0]
  obtain ⟨u, hu⟩ : ∃ u, u = zs.getD (off + i * 2) 0 - d0 zs off := ⟨_, rfl⟩
  rw [← hu] at e1 e3 e4 ⊢
  have hu : 0 ≤ u ∧ u ≤ 100000 := by omega
  have b1 := mul_in hu.1 hu.2 hu.1 hu.2
  have b2 := mul_in hu.1 hu.2 q3 q4
  obtain ⟨⟨x0, x1⟩, ⟨y0, y1⟩, ⟨p0, p1⟩, ⟨r0, r1⟩⟩ := g
  simp only [W]
  rw [wrap_eq (x := u) (by omega) (by omega), wrap_eq (x := u * u) (by omega) (by omega), wrap_eq (x := u * zs.getD (off + i * 2 + 1) 0) (by omega) (by omega), ← e1, ← e2, ← e3, ← e4]
  exact ⟨wrap_eq (by omega) (by omega), wrap_eq (by omega) (by omega), wrap_eq (by omega) (by omega), wrap_eq (by omega) (by omega)⟩
theorem spn_get (zs : List Int) (ks : List (Int × ByteArray)) : ∀ i j, j < i → (spn zs ks i)[j * 2]? = some ((frm zs ks j : Nat) : Int) ∧ (spn zs ks i)[j * 2 + 1]? = some ((frm zs ks (j + 1) : Nat) : Int)
  | 0, _, h => by omega
  | i + 1, j, h => by
    have hl := spn_len zs ks i
    simp only [spn]
    rcases Nat.lt_or_ge j i with h' | h'
    · rw [List.getElem?_append_left (by omega), List.getElem?_append_left (by omega)]
      exact spn_get zs ks i j h'
    · obtain rfl : j = i := by omega
      rw [List.getElem?_append_right (by omega), List.getElem?_append_right (by omega), hl]
      simp
theorem spans_get (zs : List Int) (ks : List (Int × ByteArray)) (n k : Nat) {j : Nat} (h : j ≤ k) :
    (spans zs ks n k).getD (j * 2) 0 = ((frm zs ks j : Nat) : Int) ∧ (spans zs ks n k).getD (j * 2 + 1) 0 = ((upto zs ks n k j : Nat) : Int) := by
  have hl := spn_len zs ks k
  simp only [spans, List.getD_eq_getElem?_getD]
  rcases Nat.lt_or_ge j k with h' | h'
  · obtain ⟨e1, e2⟩ := spn_get zs ks k j h'
    rw [List.getElem?_append_left (by omega), List.getElem?_append_left (by omega), e1, e2, upto, if_pos h']
    exact ⟨rfl, rfl⟩
  · obtain rfl : j = k := by omega
    rw [List.getElem?_append_right (by omega), List.getElem?_append_right (by omega), hl, upto, if_neg (by omega)]
    simp
theorem frm_le {zs : List Int} {ks : List (Int × ByteArray)} {n : Nat} (hz : zs.length = n * 2) (i : Nat) : frm zs ks i ≤ n := by
  cases i with
  | zero => exact Nat.zero_le _
  | succ i => have := cnt_le zs (ks.getD i (0, ⟨#[]⟩)).1; simp only [frm]; omega
theorem upto_le {zs : List Int} {ks : List (Int × ByteArray)} {n k i : Nat} (hz : zs.length = n * 2) (hk : ks.length = k) (ha : achk ks (-1) = 0) (_hi : i ≤ k) : frm zs ks i ≤ upto zs ks n k i ∧ upto zs ks n k i ≤ n := by
  simp only [upto]
  split
  · exact ⟨frm_up ha (by omega), frm_le hz _⟩
  · exact ⟨frm_le hz _, Nat.le_refl _⟩
set_option maxRecDepth 100000 in
theorem pd_ok {nm : ByteArray} {zs : List Int} {ks : List (Int × ByteArray)} {n c k d : Nat} {p : Int} (hz : zs.length = n * 2) (hk : ks.length = k) (hn : n ≤ 1000) (hk2 : k ≤ 1000) (hmm : mchk zs (-1) = 0) (ha : achk ks (-1) = 0) (p0 : 0 ≤ p) (p1 : p ≤ k) :
    SmallRes Tryz.prog 77 [.agg (secA nm 0 n c 1 k d).toArray, .int .i64 p] (hp2 zs ks true true true true [])
      (.slice (some ⟨0, frm zs ks p.toNat * 2, none⟩) (upto zs ks n k p.toNat - frm zs ks p.toNat) big) (hp2 zs ks true true true true []) := by
  refine fnP_res hm c0_ok (hs := hsPd zs ks n k) ?_
  rw [pd_t]
  obtain ⟨g1, g2⟩ := spans_get zs ks n k (j := p.toNat) (by omega)
  obtain ⟨u1, u2⟩ := upto_le (n := n) (i := p.toNat) hz hk ha (by omega)
  have e2 : p.toNat * 2 / 2 = p.toNat := by omega
  have hl := spans_len zs ks n k
  simp only [Nat.zero_add, Int.toNat_natCast, e2]
  refine ⟨⟨⟨rfl, rfl, hz, hk, hn, hk2⟩, hmm, ha⟩, ⟨p0, by omega⟩, ⟨?_⟩, ⟨by omega, by omega, by omega⟩, rfl, rfl⟩
  rw [ints_len, if_pos (by omega), ints_pair (by omega), g1, g2]
set_option maxRecDepth 100000 in
theorem ft_ok {zs : List Int} {off m c : Nat} {m1 w1 : Bool} (h : Part zs off m) (h0 : 0 < m) :
    SmallRes Tryz.prog 78 [.slice (some ⟨0, off, none⟩) m c] [some (.row (ints zs) 2 m1 w1 true)] (.agg #[.int .i64 (zs.getD off 0), .int .i64 (lvl zs off m), .int .i64 (slp zs off m), .int .i64 (dn zs off m)]) [some (.row (ints zs) 2 m1 w1 true)] := by
  refine fnP_res hm c0_ok (hs := hsFt zs off m c m1 w1) ?_
  rw [ft_t]
  have hl := h.len
  have hf := h.few
  refine ⟨⟨(0 : Nat), ⟨by omega⟩, by first | trivial | rfl, by first | trivial | rfl⟩, fun s hs => br_of (fun hc => ?_) (fun hc => ?_)⟩
  · have hc := lt_of_dec hc
    obtain ⟨s1, s2, s3, s4⟩ := h.step hc
    simp only [W] at s1 s2 s3 s4
    simp only [Nat.add_zero, Int.toNat_natCast]
    refine ⟨⟨by omega, by omega⟩, ⟨by rw [ints_len, if_pos (show off + s * 2 + 2 ≤ zs.length by omega), ints_pair (by omega)]⟩, ⟨by omega, by omega⟩, ⟨ints_at (by omega)⟩, s + 1, ⟨hc⟩, ⟨by omega⟩, ?_, by first | trivial | rfl⟩
    rw [s1, s2, s3, s4, up1 hc (by omega)]
  · have hc := ge_of_dec hc
    obtain rfl : s = m := by have := hs.out; omega
    obtain ⟨_, _, _, l1, l2, l3⟩ := h.line
    simp only [W] at l1 l2 l3
    simp only [Nat.add_zero]
    rw [l1, l2, l3]
    exact ⟨⟨by omega, by omega⟩, ⟨ints_at (by omega)⟩, by first | trivial | rfl, by first | trivial | rfl⟩
end
end Qq
end
section
/- Lines of periods. -/
open Go Go.Vm Go.Proofs Sp
namespace Qq
noncomputable section
theorem mchk_all : ∀ (zs : List Int) (last : Int), mchk zs last = 0 → ∀ i, i * 2 + 2 ≤ zs.length →
    last < zs.getD (i * 2) 0 ∧ 0 ≤ zs.getD (i * 2) 0 ∧ zs.getD (i * 2) 0 ≤ 100000 ∧ 0 ≤ zs.getD (i * 2 + 1) 0 ∧ zs.getD (i * 2 + 1) 0 ≤ 100000
  | [], _, _, i, h => by simp at h
  | [_], _, _, i, h => by simp at h
  | a :: b :: r, last, hm, i, h => by
    obtain ⟨h1, h2⟩ := mchk_cons hm
    simp only [mchk] at hm
    have h3 := fi_zero.1 (sel_zero.1 hm).1 (chkM a b) (by simp)
    have h4 := wi_zero.1 (fi_zero.1 h3 (wi a 0 100000) (by simp))
    have h5 := wi_zero.1 (fi_zero.1 h3 (wi b 0 100000) (by simp))
    cases i with
    | zero => simp; omega
    | succ i =>
      have := mchk_all r a h2 i (by simp only [List.length_cons] at h; omega)
      have e3 : (a :: b :: r).getD ((i + 1) * 2) 0 = r.getD (i * 2) 0 := by rw [show (i + 1) * 2 = i * 2 + 1 + 1 by omega]; rfl
      have e4 : (a :: b :: r).getD ((i + 1) * 2 + 1) 0 = r.getD (i * 2 + 1) 0 := by rw [show (i + 1) * 2 + 1 = i * 2 + 1 + 1 + 1 by omega]; rfl
      rw [e3, e4]
      omega
theorem mchk_up : ∀ (zs : List Int) (last : Int), mchk zs last = 0 → ∀ i j, i < j → j * 2 + 2 ≤ zs.length → zs.getD (i * 2) 0 < zs.getD (j * 2) 0
  | [], _, _, i, j, _, h => by simp at h
  | [_], _, _, i, j, _, h => by simp at h
  | a :: b :: r, last, hm, i, j, hij, h => by
    obtain ⟨h1, h2⟩ := mchk_cons hm
    obtain ⟨j, rfl⟩ : ∃ j', j = j' + 1 := ⟨j - 1, by omega⟩
    have hj : j * 2 + 2 ≤ r.length := by simp only [List.length_cons] at h; omega
    have e3 : (a :: b :: r).getD ((j + 1) * 2) 0 = r.getD (j * 2) 0 := by rw [show (j + 1) * 2 = j * 2 + 1 + 1 by omega]; rfl
    rw [e3]
    cases i with
    | zero => simpa using (mchk_all r a h2 j hj).1
    | succ i =>
      have e4 : (a :: b :: r).getD ((i + 1) * 2) 0 = r.getD (i * 2) 0 := by rw [show (i + 1) * 2 = i * 2 + 1 + 1 by omega]; rfl
      rw [e4]
      exact mchk_up r a h2 i j (by omega) hj
theorem part_of {zs : List Int} {n f m : Nat} (hz : zs.length = n * 2) (hn : n ≤ 32) (hm : mchk zs (-1) = 0) (h : f + m ≤ n) : Part zs (f * 2) m where
  len := by omega
  few := by omega
  day i hi := by
    have e : f * 2 + i * 2 = (f + i) * 2 := by omega
    rw [e]
    refine ⟨?_, (mchk_all zs (-1) hm (f + i) (by omega)).2.2.1⟩
    show zs.getD (f * 2) 0 ≤ _
    rcases Nat.eq_zero_or_pos i with h0 | h0
    · subst h0; exact Int.le_refl _
    · exact Int.le_of_lt (mchk_up zs (-1) hm f (f + i) (by omega) (by omega))
  idx i hi := by
    have e : f * 2 + i * 2 + 1 = (f + i) * 2 + 1 := by omega
    rw [e]
    exact (mchk_all zs (-1) hm (f + i) (by omega)).2.2.2
  z0 := by
    show 0 ≤ zs.getD (f * 2) 0
    rcases Nat.lt_or_ge f n with h' | h'
    · exact (mchk_all zs (-1) hm f (by omega)).2.1
    · rw [List.getD_eq_getElem?_getD, List.getElem?_eq_none (by omega)]; exact Int.le_refl _
/-- The squares of the differences from c. -/
theorem gap_eq (b c : Int) : ∀ (N : Nat) (L : List Int), L.length = N * 2 → sumP (fun d _ => (c - (d - b)) * (c - (d - b))) L = N * (c * c) - 2 * c * sumP (fun d _ => d - b) L + sumP (fun d _ => (d - b) * (d - b)) L
  | 0, [], _ => by simp [sumP]
  | N + 1, [_], h => by simp only [List.length_cons, List.length_nil] at h; omega
  | N + 1, u :: v :: r, h => by
    have ih := gap_eq b c N r (by simp only [List.length_cons] at h; omega)
    simp only [sumP]
    rw [ih]
    push_cast
    grind
theorem sumP_nonneg {g : Int → Int → Int} (hg : ∀ d x, 0 ≤ g d x) : ∀ L : List Int, 0 ≤ sumP g L
  | [] => by simp [sumP]
  | [_] => by simp [sumP]
  | a :: b :: r => by have := sumP_nonneg hg r; have := hg a b; simp only [sumP]; omega
theorem sq0 (x : Int) : 0 ≤ x * x := by
  rcases Int.le_total 0 x with h | h
  · exact Int.mul_nonneg h h
  · have := Int.mul_nonneg (show 0 ≤ -x by omega) (show 0 ≤ -x by omega)
    rwa [Int.neg_mul_neg] at this
theorem gap_pos (b : Int) : ∀ (N : Nat) (L : List Int), L.length = N * 2 → 0 ≤ N * sumP (fun d _ => (d - b) * (d - b)) L - sumP (fun d _ => d - b) L * sumP (fun d _ => d - b) L
  | 0, [], _ => by simp [sumP]
  | N + 1, [_], h => by simp only [List.length_cons, List.length_nil] at h; omega
  | N + 1, u :: v :: r, h => by
    have hr : r.length = N * 2 := by simp only [List.length_cons] at h; omega
    have ih := gap_pos b N r hr
    have e := gap_eq b (u - b) N r hr
    have p := sumP_nonneg (g := fun d _ => ((u - b) - (d - b)) * ((u - b) - (d - b))) (fun d x => sq0 _) r
    rw [e] at p
    simp only [sumP]
    push_cast
    grind
theorem gap_two (b : Int) (N : Nat) (u v w x : Int) (r : List Int) (hr : r.length = N * 2) (hne : u ≠ w) :
    0 < ((N + 2 : Nat) : Int) * sumP (fun d _ => (d - b) * (d - b)) (u :: v :: w :: x :: r) - sumP (fun d _ => d - b) (u :: v :: w :: x :: r) * sumP (fun d _ => d - b) (u :: v :: w :: x :: r) := by
  have ih := gap_pos b (N + 1) (w :: x :: r) (by simp only [List.length_cons]; omega)
  have e := gap_eq b (u - b) (N + 1) (w :: x :: r) (by simp only [List.length_cons]; omega)
  have p := sumP_nonneg (g := fun d _ => ((u - b) - (d - b)) * ((u - b) - (d - b))) (fun d x => sq0 _) r
  have q : 0 < ((u - b) - (w - b)) * ((u - b) - (w - b)) := by
    rcases Int.lt_or_gt_of_ne hne with h | h
    · have := Int.mul_pos (show 0 < w - u by omega) (show 0 < w - u by omega)
      grind
    · have := Int.mul_pos (show 0 < u - w by omega) (show 0 < u - w by omega)
      grind
  simp only [sumP] at *
  push_cast at *
  grind
theorem dn_pos {zs : List Int} {n f m : Nat} (hz : zs.length = n * 2) (hm : mchk zs (-1) = 0) (h : f + m ≤ n) (h2 : 2 ≤ m) : 0 < dn zs (f * 2) m := by
  simp only [dn, sX, sXX]
  have hL : ((zs.drop (f * 2)).take (m * 2)).length = m * 2 := by rw [List.length_take, List.length_drop]; omega
  have g : ∀ j, j < m * 2 → ((zs.drop (f * 2)).take (m * 2))[j]? = some (zs.getD (f * 2 + j) 0) := fun j hj => by
    rw [List.getElem?_take_of_lt hj, List.getElem?_drop, List.getD_eq_getElem?_getD, List.getElem?_eq_getElem (by omega)]
    rfl
  generalize (zs.drop (f * 2)).take (m * 2) = L at *
  obtain ⟨N, rfl⟩ : ∃ N, m = N + 2 := ⟨m - 2, by omega⟩
  obtain _ | ⟨u, _ | ⟨v, _ | ⟨w, _ | ⟨x, r⟩⟩⟩⟩ := L
  · simp at hL
  · simp at hL; omega
  · simp at hL; omega
  · simp at hL; omega
  · have g0 := g 0 (by omega)
    have g2 := g 2 (by omega)
    simp at g0 g2
    refine gap_two (d0 zs (f * 2)) N u v w x r (by simp only [List.length_cons] at hL; omega) ?_
    have := mchk_up zs (-1) hm f (f + 1) (by omega) (by omega)
    rw [show (f + 1) * 2 = f * 2 + 2 by omega] at this
    simp only [List.getD_eq_getElem?_getD] at this
    rw [g0, g2]
    omega
end
end Qq
end
section
/- Small contracts about sections and lines. -/
open Go Go.Vm Go.Proofs Sp
namespace Sp
noncomputable section
noncomputable def perE (nm : ByteArray) (zs : List Int) (n : Nat) (ks : List (Int × ByteArray)) (k : Nat) (p : Int) : Int := fi [secE nm zs n ks k, wh (decide (p < 0) || decide ((k : Int) < p)) 10]
end
end Sp
namespace Qq
noncomputable section
theorem flP_t (a : Int) (b : Int) (K : Value → Heap → Prop) :
    (fnP Tryz.prog c0 h4 (99 : FuncId) [Value.int IntKind.i64 a, Value.int IntKind.i64 b] [] K) =
    (Is (b ≠ (0 : Int)) ∧ br (decide (a < IntKind.wrap IntKind.i64 (IntKind.wrap IntKind.i64 (Int.tdiv a b) * b))) (K (Value.int IntKind.i64 (IntKind.wrap IntKind.i64 (IntKind.wrap IntKind.i64 (Int.tdiv a b) - (1 : Int)))) noH) (K (Value.int IntKind.i64 (IntKind.wrap IntKind.i64 (Int.tdiv a b))) noH)) := by kernel_rfl
noncomputable def hsCp (zs : List Int) (ks : List (Int × ByteArray)) : Hs Tryz.prog where
  au := auCalls [(33, hCa Tryz.prog 33 (orcCkV zs ks) (ck_okV zs ks))]
theorem cp_t (nm : ByteArray) (zs : List Int) (ks : List (Int × ByteArray)) (n : Nat) (c : Nat) (k : Nat) (d : Nat) (p : Int) (K : Value → Heap → Prop) :
    (fnP Tryz.prog c2 (hsCp zs ks) (38 : FuncId) [Value.agg (List.toArray (secA nm (0 : Nat) n c (1 : Nat) k d)), Value.int IntKind.i64 p] (hp2 zs ks true true true true []) K) =
    (Is (isSec zs ks n k (ints zs) (acs ks)) ∧ br (decide (p < (0 : Int))) (K (Value.int IntKind.i64 (fi [secE nm zs n ks k, (10 : Int)])) (some (AObj.row (ints zs) (2 : Nat) true true true) :: some (AObj.row (acs ks) (2 : Nat) true true true) :: noH)) (K (Value.int IntKind.i64 (fi [secE nm zs n ks k, wh (decide ((↑k : Int) < p)) (10 : Int)])) (some (AObj.row (ints zs) (2 : Nat) true true true) :: some (AObj.row (acs ks) (2 : Nat) true true true) :: noH))) := by kernel_rfl
theorem floor_law {a b : Int} (h0 : 0 < b) (h1 : b ≤ 4000000000000000000) (h2 : -4000000000000000000 ≤ a) (h3 : a ≤ 4000000000000000000) :
    W (a.tdiv b) = a.tdiv b ∧ W (a.tdiv b * b) = a.tdiv b * b ∧ W (a.tdiv b - 1) = a.tdiv b - 1 ∧ (a < a.tdiv b * b → a.tdiv b - 1 = a / b) ∧ (¬ a < a.tdiv b * b → a.tdiv b = a / b) := by
  have hq : (a.tdiv b).natAbs ≤ a.natAbs := Int.natAbs_tdiv_le_natAbs a b
  have e := Int.tdiv_eq_ediv (a := a) (b := b)
  have s : b.sign = 1 := Int.sign_eq_one_of_pos h0
  have m := Int.emod_add_mul_ediv a b
  have m0 := Int.emod_nonneg a (show b ≠ 0 by omega)
  have m1 := Int.emod_lt_of_pos a h0
  have c : b * (a / b) = (a / b) * b := Int.mul_comm ..
  rw [s] at e
  have hb : a.tdiv b * b = (a / b) * b ∨ a.tdiv b * b = (a / b) * b + b := by
    split at e
    · left; rw [e, Int.add_zero]
    · right; rw [e, Int.add_mul, Int.one_mul]
  refine ⟨wrap_eq (by omega) (by omega), wrap_eq (by omega) (by omega), wrap_eq (by omega) (by omega), fun h => ?_, fun h => ?_⟩
  · split at e
    · rw [e, Int.add_zero] at h; omega
    · omega
  · split at e
    · omega
    · rw [e, Int.add_mul, Int.one_mul] at h; omega
noncomputable def orcFl : OrcV
  | [.int .i64 a, .int .i64 b], [] => some (.int .i64 (a / b), [], 0 < b ∧ b ≤ 4000000000000000000 ∧ -4000000000000000000 ≤ a ∧ a ≤ 4000000000000000000)
  | _, _ => none
theorem okFlP : OkV Tryz.prog 99 orcFl := by
  intro args H ret H' vc h hv
  unfold orcFl at h
  split at h
  · cases h
    obtain ⟨v1, v2, v3, v4⟩ := hv
    refine fnP_res hm c0_ok (hs := h4) ?_
    rw [flP_t]
    obtain ⟨q1, q2, q3, q4, q5⟩ := floor_law v1 v2 v3 v4
    simp only [W] at q1 q2 q3
    rw [q1, q2, q3]
    exact ⟨⟨by omega⟩, br_of (fun h => ⟨by rw [q4 (of_decide_eq_true h)], rfl⟩) (fun h => ⟨by rw [q5 (of_decide_eq_false h)], rfl⟩)⟩
  · cases h
theorem cp_ok {nm : ByteArray} {zs : List Int} {ks : List (Int × ByteArray)} {n c k d : Nat} {p : Int} (hi : isSec zs ks n k (ints zs) (acs ks)) :
    SmallRes Tryz.prog 38 [.agg (secA nm 0 n c 1 k d).toArray, .int .i64 p] (hp2 zs ks true true true true []) (.int .i64 (perE nm zs n ks k p)) (hp2 zs ks true true true true []) := by
  refine fnP_res hm c2_ok (hs := hsCp zs ks) ?_
  rw [cp_t]
  refine ⟨⟨hi⟩, br_of (fun h => ⟨?_, rfl⟩) (fun h => ⟨?_, rfl⟩)⟩
  · rw [perE, h]; rfl
  · rw [perE, h]; rfl
end
end Qq
end
section
/- The program's lines of periods. -/
open Go Go.Vm Go.Proofs Sp
namespace Sp
noncomputable section
noncomputable def lz (m : Nat) (x : Int) : Int := if m < 2 then 0 else x
end
end Sp
namespace Qq
noncomputable section
/-- A valid section, and one of its periods. -/
noncomputable def isPer (zs : List Int) (ks : List (Int × ByteArray)) (n k : Nat) (p : Int) (e1 e2 : List Value) : Prop :=
  isSec zs ks n k e1 e2 ∧ mchk zs (-1) = 0 ∧ achk ks (-1) = 0 ∧ n ≤ 32 ∧ 0 ≤ p ∧ p ≤ k
noncomputable def pf (zs : List Int) (ks : List (Int × ByteArray)) (p : Int) : Nat := frm zs ks p.toNat
noncomputable def pm (zs : List Int) (ks : List (Int × ByteArray)) (n k : Nat) (p : Int) : Nat := upto zs ks n k p.toNat - frm zs ks p.toNat
noncomputable def orcPdV (zs : List Int) (ks : List (Int × ByteArray)) : OrcV
  | [.agg ⟨[.string _nm, .slice (some ⟨0, 0, none⟩) n _c, .slice (some ⟨1, 0, none⟩) k _d]⟩, .int .i64 p], [some (.row e1 2 true true true), some (.row e2 2 true true true)] => some (.slice (some ⟨0, pf zs ks p * 2, none⟩) (pm zs ks n k p) big, [some (.row e1 2 true true true), some (.row e2 2 true true true)], isPer zs ks n k p e1 e2)
  | _, _ => none
theorem pd_okV (zs : List Int) (ks : List (Int × ByteArray)) : OkV Tryz.prog 77 (orcPdV zs ks) := by
  intro args H ret H' vc h hv
  unfold orcPdV at h
  split at h
  · cases h
    obtain ⟨⟨rfl, rfl, h1, h2, h3, h4⟩, h5, h6, h7, h8, h9⟩ := hv
    exact pd_ok h1 h2 h3 h4 h5 h6 h8 h9
  · cases h
noncomputable def orcFtV (zs : List Int) : OrcV
  | [.slice (some ⟨0, off, none⟩) m _c], [some (.row e1 2 m1 w1 true)] => some (.agg #[.int .i64 (zs.getD off 0), .int .i64 (lvl zs off m), .int .i64 (slp zs off m), .int .i64 (dn zs off m)], [some (.row e1 2 m1 w1 true)], e1 = ints zs ∧ Part zs off m ∧ 0 < m)
  | _, _ => none
theorem ft_okV (zs : List Int) : OkV Tryz.prog 78 (orcFtV zs) := by
  intro args H ret H' vc h hv
  unfold orcFtV at h
  split at h
  · cases h
    obtain ⟨rfl, h1, h2⟩ := hv
    exact ft_ok h1 h2
  · cases h
noncomputable def hsLn (zs : List Int) (ks : List (Int × ByteArray)) : Hs Tryz.prog where
  au := auCalls [(77, hCa Tryz.prog 77 (orcPdV zs ks) (pd_okV zs ks)), (78, hCa Tryz.prog 78 (orcFtV zs) (ft_okV zs))]
theorem ln_t (nm : ByteArray) (zs : List Int) (ks : List (Int × ByteArray)) (n : Nat) (c : Nat) (k : Nat) (d : Nat) (p : Int) (K : Value → Heap → Prop) :
    (fnP Tryz.prog c2 (hsLn zs ks) (41 : FuncId) [Value.agg (List.toArray (secA nm (0 : Nat) n c (1 : Nat) k d)), Value.int IntKind.i64 p] (hp2 zs ks true true true true []) K) =
    (Is (isPer zs ks n k p (ints zs) (acs ks)) ∧ br (decide ((↑(pm zs ks n k p) : Int) < (2 : Int))) (K (Value.tuple #[Value.agg #[Value.int IntKind.i64 (0 : Int), Value.int IntKind.i64 (0 : Int), Value.int IntKind.i64 (0 : Int), Value.int IntKind.i64 (0 : Int)], Value.int IntKind.i64 (16 : Int)]) (some (AObj.row (ints zs) (2 : Nat) true true true) :: some (AObj.row (acs ks) (2 : Nat) true true true) :: noH)) (Is (ints zs = ints zs ∧ Part zs (pf zs ks p * (2 : Nat)) (pm zs ks n k p) ∧ (0 : Nat) < pm zs ks n k p) ∧ K (Value.tuple #[Value.agg #[Value.int IntKind.i64 (List.getD zs (pf zs ks p * (2 : Nat)) (0 : Int)), Value.int IntKind.i64 (lvl zs (pf zs ks p * (2 : Nat)) (pm zs ks n k p)), Value.int IntKind.i64 (slp zs (pf zs ks p * (2 : Nat)) (pm zs ks n k p)), Value.int IntKind.i64 (dn zs (pf zs ks p * (2 : Nat)) (pm zs ks n k p))], Value.int IntKind.i64 (0 : Int)]) (some (AObj.row (ints zs) (2 : Nat) true true true) :: some (AObj.row (acs ks) (2 : Nat) true true true) :: noH))) := by kernel_rfl
theorem per_part {zs : List Int} {ks : List (Int × ByteArray)} {n k : Nat} {p : Int} {e1 e2 : List Value} (h : isPer zs ks n k p e1 e2) : Part zs (pf zs ks p * 2) (pm zs ks n k p) ∧ (2 ≤ pm zs ks n k p → 0 < dn zs (pf zs ks p * 2) (pm zs ks n k p)) := by
  obtain ⟨⟨_, _, h1, h2, _, _⟩, h5, h6, h7, h8, h9⟩ := h
  obtain ⟨u1, u2⟩ := upto_le (n := n) (i := p.toNat) h1 h2 h6 (by omega)
  exact ⟨part_of h1 h7 h5 (by simp only [pf, pm]; omega), fun h => dn_pos h1 h5 (by simp only [pf, pm]; omega) h⟩
theorem ln_ok {nm : ByteArray} {zs : List Int} {ks : List (Int × ByteArray)} {n c k d : Nat} {p : Int} (hi : isPer zs ks n k p (ints zs) (acs ks)) :
    SmallRes Tryz.prog 41 [.agg (secA nm 0 n c 1 k d).toArray, .int .i64 p] (hp2 zs ks true true true true [])
      (.tuple #[.agg #[.int .i64 (lz (pm zs ks n k p) (zs.getD (pf zs ks p * 2) 0)), .int .i64 (lz (pm zs ks n k p) (lvl zs (pf zs ks p * 2) (pm zs ks n k p))), .int .i64 (lz (pm zs ks n k p) (slp zs (pf zs ks p * 2) (pm zs ks n k p))), .int .i64 (lz (pm zs ks n k p) (dn zs (pf zs ks p * 2) (pm zs ks n k p)))], .int .i64 (wh (decide (pm zs ks n k p < 2)) 16)])
      (hp2 zs ks true true true true []) := by
  refine fnP_res hm c2_ok (hs := hsLn zs ks) ?_
  rw [ln_t]
  obtain ⟨hp, _⟩ := per_part hi
  refine ⟨⟨hi⟩, br_of (fun h => ?_) (fun h => ?_)⟩
  · have h : pm zs ks n k p < 2 := by have := of_decide_eq_true h; omega
    simp only [lz, if_pos h, decide_eq_true h]
    exact ⟨by first | trivial | rfl, by first | trivial | rfl⟩
  · have h : ¬ pm zs ks n k p < 2 := by have := of_decide_eq_false h; omega
    simp only [lz, if_neg h, decide_eq_false h]
    exact ⟨⟨by first | trivial | rfl, hp, by omega⟩, by first | trivial | rfl, by first | trivial | rfl⟩
end
end Qq
end
section
/- The program's answers about lines. -/
open Go Go.Vm Go.Proofs Sp
namespace Qq
noncomputable section
noncomputable def orcLnV (zs : List Int) (ks : List (Int × ByteArray)) : OrcV
  | [.agg ⟨[.string _nm, .slice (some ⟨0, 0, none⟩) n _c, .slice (some ⟨1, 0, none⟩) k _d]⟩, .int .i64 p], [some (.row e1 2 true true true), some (.row e2 2 true true true)] =>
    some (.tuple #[.agg #[.int .i64 (lz (pm zs ks n k p) (zs.getD (pf zs ks p * 2) 0)), .int .i64 (lz (pm zs ks n k p) (lvl zs (pf zs ks p * 2) (pm zs ks n k p))), .int .i64 (lz (pm zs ks n k p) (slp zs (pf zs ks p * 2) (pm zs ks n k p))), .int .i64 (lz (pm zs ks n k p) (dn zs (pf zs ks p * 2) (pm zs ks n k p)))], .int .i64 (wh (decide (pm zs ks n k p < 2)) 16)],
      [some (.row e1 2 true true true), some (.row e2 2 true true true)], isPer zs ks n k p e1 e2)
  | _, _ => none
theorem ln_okV (zs : List Int) (ks : List (Int × ByteArray)) : OkV Tryz.prog 41 (orcLnV zs ks) := by
  intro args H ret H' vc h hv
  unfold orcLnV at h
  split at h
  · cases h
    obtain ⟨⟨rfl, rfl, h1⟩, h2⟩ := hv
    exact ln_ok ⟨⟨rfl, rfl, h1⟩, h2⟩
  · cases h
noncomputable def orcCpV (zs : List Int) (ks : List (Int × ByteArray)) : OrcV
  | [.agg ⟨[.string nm, .slice (some ⟨0, 0, none⟩) n _c, .slice (some ⟨1, 0, none⟩) k _d]⟩, .int .i64 p], [some (.row e1 2 true true true), some (.row e2 2 true true true)] =>
    some (.int .i64 (perE nm zs n ks k p), [some (.row e1 2 true true true), some (.row e2 2 true true true)], isSec zs ks n k e1 e2)
  | _, _ => none
theorem cp_okV (zs : List Int) (ks : List (Int × ByteArray)) : OkV Tryz.prog 38 (orcCpV zs ks) := by
  intro args H ret H' vc h hv
  unfold orcCpV at h
  split at h
  · cases h
    obtain ⟨rfl, rfl, h1⟩ := hv
    exact cp_ok ⟨rfl, rfl, h1⟩
  · cases h
noncomputable def hsFd (zs : List Int) (ks : List (Int × ByteArray)) : Hs Tryz.prog where
  au := auCalls [(38, hCa Tryz.prog 38 (orcCpV zs ks) (cp_okV zs ks)), (41, hCa Tryz.prog 41 (orcLnV zs ks) (ln_okV zs ks)), (42, hCa Tryz.prog 42 orcLow okLow)]
theorem fd_t (nm : ByteArray) (zs : List Int) (ks : List (Int × ByteArray)) (n : Nat) (c : Nat) (k : Nat) (d : Nat) (p : Int) (K : Value → Heap → Prop) :
    (fnP Tryz.prog c2 (hsFd zs ks) (13 : FuncId) [Value.agg (List.toArray (secA nm (0 : Nat) n c (1 : Nat) k d)), Value.int IntKind.i64 p] (hp2 zs ks true true true true []) K) =
    (Is (isSec zs ks n k (ints zs) (acs ks)) ∧ br (perE nm zs n ks k p != (0 : Int)) (K (Value.tuple #[Value.agg #[Value.int IntKind.i64 (0 : Int), Value.int IntKind.i64 (0 : Int), Value.int IntKind.i64 (0 : Int), Value.int IntKind.i64 (0 : Int), Value.int IntKind.i64 (0 : Int)], Value.int IntKind.i64 (perE nm zs n ks k p)]) (some (AObj.row (ints zs) (2 : Nat) true true true) :: some (AObj.row (acs ks) (2 : Nat) true true true) :: noH)) (Is (isPer zs ks n k p (ints zs) (acs ks)) ∧ br (wh (decide (pm zs ks n k p < (2 : Nat))) (16 : Int) != (0 : Int)) (K (Value.tuple #[Value.agg #[Value.int IntKind.i64 (0 : Int), Value.int IntKind.i64 (0 : Int), Value.int IntKind.i64 (0 : Int), Value.int IntKind.i64 (0 : Int), Value.int IntKind.i64 (0 : Int)], Value.int IntKind.i64 (wh (decide (pm zs ks n k p < (2 : Nat))) (16 : Int))]) (some (AObj.row (ints zs) (2 : Nat) true true true) :: some (AObj.row (acs ks) (2 : Nat) true true true) :: noH)) (Is ((0 : Int) < lz (pm zs ks n k p) (dn zs (pf zs ks p * (2 : Nat)) (pm zs ks n k p)) ∧ lz (pm zs ks n k p) (dn zs (pf zs ks p * (2 : Nat)) (pm zs ks n k p)) < (9223372036854775808 : Int) ∧ (-9223372036854775808 : Int) < lz (pm zs ks n k p) (lvl zs (pf zs ks p * (2 : Nat)) (pm zs ks n k p)) ∧ lz (pm zs ks n k p) (lvl zs (pf zs ks p * (2 : Nat)) (pm zs ks n k p)) < (9223372036854775808 : Int)) ∧ Is ((0 : Int) < lz (pm zs ks n k p) (dn zs (pf zs ks p * (2 : Nat)) (pm zs ks n k p)) ∧ lz (pm zs ks n k p) (dn zs (pf zs ks p * (2 : Nat)) (pm zs ks n k p)) < (9223372036854775808 : Int) ∧ (-9223372036854775808 : Int) < lz (pm zs ks n k p) (slp zs (pf zs ks p * (2 : Nat)) (pm zs ks n k p)) ∧ lz (pm zs ks n k p) (slp zs (pf zs ks p * (2 : Nat)) (pm zs ks n k p)) < (9223372036854775808 : Int)) ∧ K (Value.tuple #[Value.agg #[Value.int IntKind.i64 (lz (pm zs ks n k p) (List.getD zs (pf zs ks p * (2 : Nat)) (0 : Int))), Value.int IntKind.i64 (lowN (lz (pm zs ks n k p) (lvl zs (pf zs ks p * (2 : Nat)) (pm zs ks n k p))) (lz (pm zs ks n k p) (dn zs (pf zs ks p * (2 : Nat)) (pm zs ks n k p)))), Value.int IntKind.i64 (lowD (lz (pm zs ks n k p) (lvl zs (pf zs ks p * (2 : Nat)) (pm zs ks n k p))) (lz (pm zs ks n k p) (dn zs (pf zs ks p * (2 : Nat)) (pm zs ks n k p)))), Value.int IntKind.i64 (lowN (lz (pm zs ks n k p) (slp zs (pf zs ks p * (2 : Nat)) (pm zs ks n k p))) (lz (pm zs ks n k p) (dn zs (pf zs ks p * (2 : Nat)) (pm zs ks n k p)))), Value.int IntKind.i64 (lowD (lz (pm zs ks n k p) (slp zs (pf zs ks p * (2 : Nat)) (pm zs ks n k p))) (lz (pm zs ks n k p) (dn zs (pf zs ks p * (2 : Nat)) (pm zs ks n k p))))], Value.int IntKind.i64 (0 : Int)]) (some (AObj.row (ints zs) (2 : Nat) true true true) :: some (AObj.row (acs ks) (2 : Nat) true true true) :: noH)))) := by kernel_rfl
theorem secE_few {nm : ByteArray} {zs : List Int} {n : Nat} {ks : List (Int × ByteArray)} {k : Nat} (h : secE nm zs n ks k = 0) : n ≤ 32 := by
  simp only [secE, sel_zero] at h
  have := fi_zero.1 h.1 (wh (decide ((32 : Int) < n)) 5) (by simp)
  have := (wh_zero (by decide)).1 this
  have := of_decide_eq_false this
  omega
theorem perE_ok {nm : ByteArray} {zs : List Int} {n : Nat} {ks : List (Int × ByteArray)} {k : Nat} {p : Int} {e1 e2 : List Value} (hi : isSec zs ks n k e1 e2) (h : perE nm zs n ks k p = 0) : isPer zs ks n k p e1 e2 := by
  have h1 := fi_zero.1 h (secE nm zs n ks k) (by simp)
  have h2 := fi_zero.1 h (wh (decide (p < 0) || decide ((k : Int) < p)) 10) (by simp)
  have h2 := (wh_zero (by decide)).1 h2
  simp only [Bool.or_eq_false_iff, decide_eq_false_iff_not] at h2
  obtain ⟨h3, h4⟩ := secE_ok h1
  exact ⟨hi, h3, h4, secE_few h1, by omega, by omega⟩
end
end Qq
namespace Sp
noncomputable section
noncomputable def gz (e x : Int) : Int := if e = 0 then x else 0
end
end Sp
namespace Qq
noncomputable section
/-- The error of a question about the line of a period. -/
noncomputable def feE (nm : ByteArray) (zs : List Int) (n : Nat) (ks : List (Int × ByteArray)) (k : Nat) (p : Int) : Int := sel (perE nm zs n ks k p) (wh (decide (pm zs ks n k p < 2)) 16)
noncomputable def pL (zs : List Int) (ks : List (Int × ByteArray)) (n k : Nat) (p : Int) : Int := lvl zs (pf zs ks p * 2) (pm zs ks n k p)
noncomputable def pS (zs : List Int) (ks : List (Int × ByteArray)) (n k : Nat) (p : Int) : Int := slp zs (pf zs ks p * 2) (pm zs ks n k p)
noncomputable def pD (zs : List Int) (ks : List (Int × ByteArray)) (n k : Nat) (p : Int) : Int := dn zs (pf zs ks p * 2) (pm zs ks n k p)
theorem few_iff {m : Nat} : (wh (decide (m < 2)) 16 != 0) = decide (m < 2) := by
  cases decide (m < 2) <;> rfl
theorem fd_ok {nm : ByteArray} {zs : List Int} {ks : List (Int × ByteArray)} {n c k d : Nat} {p : Int} (hi : isSec zs ks n k (ints zs) (acs ks)) :
    SmallRes Tryz.prog 13 [.agg (secA nm 0 n c 1 k d).toArray, .int .i64 p] (hp2 zs ks true true true true [])
      (.tuple #[.agg #[.int .i64 (gz (feE nm zs n ks k p) (zs.getD (pf zs ks p * 2) 0)), .int .i64 (gz (feE nm zs n ks k p) (lowN (pL zs ks n k p) (pD zs ks n k p))), .int .i64 (gz (feE nm zs n ks k p) (lowD (pL zs ks n k p) (pD zs ks n k p))),
        .int .i64 (gz (feE nm zs n ks k p) (lowN (pS zs ks n k p) (pD zs ks n k p))), .int .i64 (gz (feE nm zs n ks k p) (lowD (pS zs ks n k p) (pD zs ks n k p)))], .int .i64 (feE nm zs n ks k p)]) (hp2 zs ks true true true true []) := by
  refine fnP_res hm c2_ok (hs := hsFd zs ks) ?_
  rw [fd_t]
  refine ⟨⟨hi⟩, br_of (fun h => ?_) (fun h => ?_)⟩
  · have h' : perE nm zs n ks k p ≠ 0 := by simpa using h
    have e : feE nm zs n ks k p = perE nm zs n ks k p := sel_ne h
    simp only [gz, e, if_neg h']
    exact ⟨by first | trivial | rfl, by first | trivial | rfl⟩
  · have h' : perE nm zs n ks k p = 0 := by simpa using h
    have e : feE nm zs n ks k p = wh (decide (pm zs ks n k p < 2)) 16 := sel_eq h
    have hp := perE_ok hi h'
    obtain ⟨h1, h2⟩ := per_part hp
    rw [few_iff]
    refine ⟨⟨hp⟩, br_of (fun h => ?_) (fun h => ?_)⟩
    · have hw : wh (decide (pm zs ks n k p < 2)) 16 = 16 := by rw [h]; rfl
      rw [e, hw]
      exact ⟨by first | trivial | rfl, by first | trivial | rfl⟩
    · have hw : wh (decide (pm zs ks n k p < 2)) 16 = 0 := by rw [h]; rfl
      have hn : ¬ pm zs ks n k p < 2 := of_decide_eq_false h
      have h2 := h2 (by omega)
      obtain ⟨l1, l2, l3, _⟩ := h1.line
      rw [e, hw]
      simp only [lz, if_neg hn]
      refine ⟨⟨by omega, by omega, by omega, by omega⟩, ⟨by omega, by omega, by omega, by omega⟩, by first | trivial | rfl, by first | trivial | rfl⟩
end
end Qq
end
section
/- The program's predictions. -/
open Go Go.Vm Go.Proofs Sp
namespace Qq
noncomputable section
theorem pr_t (nm : ByteArray) (zs : List Int) (ks : List (Int × ByteArray)) (n : Nat) (c : Nat) (k : Nat) (d : Nat) (p : Int) (x : Int) (K : Value → Heap → Prop) :
    (fnP Tryz.prog c2 (hsFd zs ks) (14 : FuncId) [Value.agg (List.toArray (secA nm (0 : Nat) n c (1 : Nat) k d)), Value.int IntKind.i64 p, Value.int IntKind.i64 x] (hp2 zs ks true true true true []) K) =
    (Is (isSec zs ks n k (ints zs) (acs ks)) ∧ br (fi [perE nm zs n ks k p, wi x (0 : Int) (100000 : Int)] != (0 : Int)) (K (Value.tuple #[Value.agg #[Value.int IntKind.i64 (0 : Int), Value.int IntKind.i64 (0 : Int)], Value.int IntKind.i64 (fi [perE nm zs n ks k p, wi x (0 : Int) (100000 : Int)])]) (some (AObj.row (ints zs) (2 : Nat) true true true) :: some (AObj.row (acs ks) (2 : Nat) true true true) :: noH)) (Is (isPer zs ks n k p (ints zs) (acs ks)) ∧ br (wh (decide (pm zs ks n k p < (2 : Nat))) (16 : Int) != (0 : Int)) (K (Value.tuple #[Value.agg #[Value.int IntKind.i64 (0 : Int), Value.int IntKind.i64 (0 : Int)], Value.int IntKind.i64 (wh (decide (pm zs ks n k p < (2 : Nat))) (16 : Int))]) (some (AObj.row (ints zs) (2 : Nat) true true true) :: some (AObj.row (acs ks) (2 : Nat) true true true) :: noH)) (Is ((0 : Int) < lz (pm zs ks n k p) (dn zs (pf zs ks p * (2 : Nat)) (pm zs ks n k p)) ∧ lz (pm zs ks n k p) (dn zs (pf zs ks p * (2 : Nat)) (pm zs ks n k p)) < (9223372036854775808 : Int) ∧ (-9223372036854775808 : Int) < IntKind.wrap IntKind.i64 (lz (pm zs ks n k p) (lvl zs (pf zs ks p * (2 : Nat)) (pm zs ks n k p)) + IntKind.wrap IntKind.i64 (lz (pm zs ks n k p) (slp zs (pf zs ks p * (2 : Nat)) (pm zs ks n k p)) * IntKind.wrap IntKind.i64 (x - lz (pm zs ks n k p) (List.getD zs (pf zs ks p * (2 : Nat)) (0 : Int))))) ∧ IntKind.wrap IntKind.i64 (lz (pm zs ks n k p) (lvl zs (pf zs ks p * (2 : Nat)) (pm zs ks n k p)) + IntKind.wrap IntKind.i64 (lz (pm zs ks n k p) (slp zs (pf zs ks p * (2 : Nat)) (pm zs ks n k p)) * IntKind.wrap IntKind.i64 (x - lz (pm zs ks n k p) (List.getD zs (pf zs ks p * (2 : Nat)) (0 : Int))))) < (9223372036854775808 : Int)) ∧ K (Value.tuple #[Value.agg #[Value.int IntKind.i64 (lowN (IntKind.wrap IntKind.i64 (lz (pm zs ks n k p) (lvl zs (pf zs ks p * (2 : Nat)) (pm zs ks n k p)) + IntKind.wrap IntKind.i64 (lz (pm zs ks n k p) (slp zs (pf zs ks p * (2 : Nat)) (pm zs ks n k p)) * IntKind.wrap IntKind.i64 (x - lz (pm zs ks n k p) (List.getD zs (pf zs ks p * (2 : Nat)) (0 : Int)))))) (lz (pm zs ks n k p) (dn zs (pf zs ks p * (2 : Nat)) (pm zs ks n k p)))), Value.int IntKind.i64 (lowD (IntKind.wrap IntKind.i64 (lz (pm zs ks n k p) (lvl zs (pf zs ks p * (2 : Nat)) (pm zs ks n k p)) + IntKind.wrap IntKind.i64 (lz (pm zs ks n k p) (slp zs (pf zs ks p * (2 : Nat)) (pm zs ks n k p)) * IntKind.wrap IntKind.i64 (x - lz (pm zs ks n k p) (List.getD zs (pf zs ks p * (2 : Nat)) (0 : Int)))))) (lz (pm zs ks n k p) (dn zs (pf zs ks p * (2 : Nat)) (pm zs ks n k p))))], Value.int IntKind.i64 (0 : Int)]) (some (AObj.row (ints zs) (2 : Nat) true true true) :: some (AObj.row (acs ks) (2 : Nat) true true true) :: noH)))) := by kernel_rfl
noncomputable def prE (nm : ByteArray) (zs : List Int) (n : Nat) (ks : List (Int × ByteArray)) (k : Nat) (p x : Int) : Int := sel (fi [perE nm zs n ks k p, wi x 0 100000]) (wh (decide (pm zs ks n k p < 2)) 16)
/-- The line's value on a day, times the denominator. -/
noncomputable def pA (zs : List Int) (ks : List (Int × ByteArray)) (n k : Nat) (p x : Int) : Int := pL zs ks n k p + pS zs ks n k p * (x - zs.getD (pf zs ks p * 2) 0)
theorem per_at {zs : List Int} {ks : List (Int × ByteArray)} {n k : Nat} {p x : Int} {e1 e2 : List Value} (h : isPer zs ks n k p e1 e2) (hm : 0 < pm zs ks n k p) (x0 : 0 ≤ x) (x1 : x ≤ 100000) :
    IntKind.wrap .i64 (pL zs ks n k p + IntKind.wrap .i64 (pS zs ks n k p * IntKind.wrap .i64 (x - zs.getD (pf zs ks p * 2) 0))) = pA zs ks n k p x ∧ -2100000000000000000 ≤ pA zs ks n k p x ∧ pA zs ks n k p x ≤ 2100000000000000000 := by
  obtain ⟨h1, _⟩ := per_part h
  obtain ⟨⟨l1, l2⟩, ⟨s1, s2⟩, _⟩ := h1.line
  have d1 := h1.z0
  have d2 := (h1.day 0 hm).2
  have e0 : d0 zs (pf zs ks p * 2) = zs.getD (pf zs ks p * 2) 0 := rfl
  rw [e0] at d1
  rw [Nat.zero_mul, Nat.add_zero] at d2
  have b : -1024000000000000000 ≤ pS zs ks n k p * (x - zs.getD (pf zs ks p * 2) 0) ∧ pS zs ks n k p * (x - zs.getD (pf zs ks p * 2) 0) ≤ 1024000000000000000 := by
    obtain ⟨u, hu⟩ : ∃ u, u = x - zs.getD (pf zs ks p * 2) 0 := ⟨_, rfl⟩
    rw [← hu]
    have hu : -100000 ≤ u ∧ u ≤ 100000 := by omega
    obtain ⟨s, hs⟩ : ∃ s, s = pS zs ks n k p := ⟨_, rfl⟩
    have hs2 : -10240000000000 ≤ s ∧ s ≤ 10240000000000 := by rw [hs]; exact ⟨s1, s2⟩
    rw [← hs]
    have := mul_in (a := s.natAbs) (b := u.natAbs) (A := 10240000000000) (B := 100000) (by omega) (by omega) (by omega) (by omega)
    rw [← Int.natCast_mul, ← Int.natAbs_mul] at this
    omega
  have e1 : IntKind.wrap .i64 (x - zs.getD (pf zs ks p * 2) 0) = x - zs.getD (pf zs ks p * 2) 0 := wrap_eq (by omega) (by omega)
  have l1 : -1024000000000000000 ≤ pL zs ks n k p := l1
  have l2 : pL zs ks n k p ≤ 1024000000000000000 := l2
  rw [e1, wrap_eq (x := pS zs ks n k p * (x - zs.getD (pf zs ks p * 2) 0)) (by omega) (by omega), wrap_eq (by omega) (by omega)]
  exact ⟨rfl, by rw [pA]; omega, by rw [pA]; omega⟩
theorem pr_ok {nm : ByteArray} {zs : List Int} {ks : List (Int × ByteArray)} {n c k d : Nat} {p x : Int} (hi : isSec zs ks n k (ints zs) (acs ks)) :
    SmallRes Tryz.prog 14 [.agg (secA nm 0 n c 1 k d).toArray, .int .i64 p, .int .i64 x] (hp2 zs ks true true true true [])
      (.tuple #[.agg #[.int .i64 (gz (prE nm zs n ks k p x) (lowN (pA zs ks n k p x) (pD zs ks n k p))), .int .i64 (gz (prE nm zs n ks k p x) (lowD (pA zs ks n k p x) (pD zs ks n k p)))], .int .i64 (prE nm zs n ks k p x)]) (hp2 zs ks true true true true []) := by
  refine fnP_res hm c2_ok (hs := hsFd zs ks) ?_
  rw [pr_t]
  refine ⟨⟨hi⟩, br_of (fun h => ?_) (fun h => ?_)⟩
  · have h' : fi [perE nm zs n ks k p, wi x 0 100000] ≠ 0 := by simpa using h
    have e : prE nm zs n ks k p x = fi [perE nm zs n ks k p, wi x 0 100000] := sel_ne h
    simp only [gz, e, if_neg h']
    exact ⟨by first | trivial | rfl, by first | trivial | rfl⟩
  · have h' : fi [perE nm zs n ks k p, wi x 0 100000] = 0 := by simpa using h
    have e : prE nm zs n ks k p x = wh (decide (pm zs ks n k p < 2)) 16 := sel_eq h
    have hp := perE_ok hi (fi_zero.1 h' (perE nm zs n ks k p) (by simp))
    have hx := wi_zero.1 (fi_zero.1 h' (wi x 0 100000) (by simp))
    obtain ⟨h1, h2⟩ := per_part hp
    rw [few_iff]
    refine ⟨⟨hp⟩, br_of (fun h => ?_) (fun h => ?_)⟩
    · have hw : wh (decide (pm zs ks n k p < 2)) 16 = 16 := by rw [h]; rfl
      rw [e, hw]
      exact ⟨by first | trivial | rfl, by first | trivial | rfl⟩
    · have hw : wh (decide (pm zs ks n k p < 2)) 16 = 0 := by rw [h]; rfl
      have hn : ¬ pm zs ks n k p < 2 := of_decide_eq_false h
      have h2 := h2 (by omega)
      obtain ⟨l1, l2, l3, _⟩ := h1.line
      obtain ⟨w1, w2, w3⟩ := per_at hp (by omega) hx.1 hx.2
      rw [e, hw]
      simp only [lz, if_neg hn]
      simp only [pL, pS] at w1
      rw [w1]
      refine ⟨⟨by omega, by omega, by omega, by omega⟩, by first | trivial | rfl, by first | trivial | rfl⟩
end
end Qq
end
section
/- When a line reaches a limit. -/
open Go Go.Vm Go.Proofs Sp
namespace Qq
noncomputable section
noncomputable def hsRc : Hs Tryz.prog where
  au := auCalls [(99, hCa Tryz.prog 99 orcFl okFlP)]
theorem rc_t (a : Int) (b : Int) (c : Int) (d : Int) (l : Int) (f : Int) (K : Value → Heap → Prop) :
    (fnP Tryz.prog c0 hsRc (75 : FuncId) [Value.agg #[Value.int IntKind.i64 a, Value.int IntKind.i64 b, Value.int IntKind.i64 c, Value.int IntKind.i64 d], Value.int IntKind.i64 l, Value.int IntKind.i64 f] [] K) =
    (br (decide (IntKind.wrap IntKind.i64 (IntKind.wrap IntKind.i64 (l * d) - IntKind.wrap IntKind.i64 (b + IntKind.wrap IntKind.i64 (c * IntKind.wrap IntKind.i64 (f - a)))) ≤ (0 : Int))) (K (Value.tuple #[Value.int IntKind.i64 f, Value.bool true]) noH) (br (decide (c ≤ (0 : Int))) (K (Value.tuple #[Value.int IntKind.i64 (0 : Int), Value.bool false]) noH) (Is ((0 : Int) < c ∧ c ≤ (4000000000000000000 : Int) ∧ (-4000000000000000000 : Int) ≤ IntKind.wrap IntKind.i64 ((0 : Int) - IntKind.wrap IntKind.i64 (IntKind.wrap IntKind.i64 (l * d) - IntKind.wrap IntKind.i64 (b + IntKind.wrap IntKind.i64 (c * IntKind.wrap IntKind.i64 (f - a))))) ∧ IntKind.wrap IntKind.i64 ((0 : Int) - IntKind.wrap IntKind.i64 (IntKind.wrap IntKind.i64 (l * d) - IntKind.wrap IntKind.i64 (b + IntKind.wrap IntKind.i64 (c * IntKind.wrap IntKind.i64 (f - a))))) ≤ (4000000000000000000 : Int)) ∧ K (Value.tuple #[Value.int IntKind.i64 (IntKind.wrap IntKind.i64 (f - IntKind.wrap IntKind.i64 ((0 : Int) - IntKind.wrap IntKind.i64 (IntKind.wrap IntKind.i64 (l * d) - IntKind.wrap IntKind.i64 (b + IntKind.wrap IntKind.i64 (c * IntKind.wrap IntKind.i64 (f - a))))) / c)), Value.bool (decide (IntKind.wrap IntKind.i64 (f - IntKind.wrap IntKind.i64 ((0 : Int) - IntKind.wrap IntKind.i64 (IntKind.wrap IntKind.i64 (l * d) - IntKind.wrap IntKind.i64 (b + IntKind.wrap IntKind.i64 (c * IntKind.wrap IntKind.i64 (f - a))))) / c) ≤ (100000 : Int)))]) noH))) := by kernel_rfl
noncomputable def hsLa (zs : List Int) : Hs Tryz.prog where
  op y := if [104].contains y then some (hIa Tryz.prog) else if [106].contains y then some (hLd Tryz.prog (zI zs)) else none
  au := au0 Tryz.prog
theorem la_t (zs : List Int) (off : Nat) (m : Nat) (c : Nat) (m1 : Bool) (w1 : Bool) (K : Value → Heap → Prop) :
    (fnP Tryz.prog c0 (hsLa zs) (76 : FuncId) [Value.slice (some { block := (0 : Nat), off := off }) m c] [some (AObj.row (ints zs) (2 : Nat) m1 w1 true)] K) =
    (Is ((0 : Int) ≤ IntKind.wrap IntKind.i64 ((↑m : Int) - (1 : Int)) ∧ IntKind.wrap IntKind.i64 ((↑m : Int) - (1 : Int)) < (↑m : Int)) ∧ Is ((ints zs)[off + Int.toNat (IntKind.wrap IntKind.i64 ((↑m : Int) - (1 : Int))) * (2 : Nat) + (0 : Nat)]? = some (Value.int IntKind.i64 (List.getD zs (off + Int.toNat (IntKind.wrap IntKind.i64 ((↑m : Int) - (1 : Int))) * (2 : Nat) + (0 : Nat)) (0 : Int)))) ∧ K (Value.int IntKind.i64 (List.getD zs (off + Int.toNat (IntKind.wrap IntKind.i64 ((↑m : Int) - (1 : Int))) * (2 : Nat) + (0 : Nat)) (0 : Int))) (some (AObj.row (ints zs) (2 : Nat) m1 w1 true) :: noH)) := by kernel_rfl
noncomputable def orcLaV (zs : List Int) : OrcV
  | [.slice (some ⟨0, off, none⟩) m _c], [some (.row e1 2 m1 w1 true)] => some (.int .i64 (zs.getD (off + (m - 1) * 2) 0), [some (.row e1 2 m1 w1 true)], e1 = ints zs ∧ 0 < m ∧ m ≤ 1000 ∧ off + m * 2 ≤ zs.length)
  | _, _ => none
theorem la_okV (zs : List Int) : OkV Tryz.prog 76 (orcLaV zs) := by
  intro args H ret H' vc h hv
  unfold orcLaV at h
  split at h
  · rename_i off m c e1 m1 w1
    cases h
    obtain ⟨rfl, h1, h2, h3⟩ := hv
    refine fnP_res hm c0_ok (hs := hsLa zs) ?_
    rw [la_t]
    have e : IntKind.wrap .i64 ((m : Int) - 1) = ((m - 1 : Nat) : Int) := by rw [wrap_eq (by omega) (by omega)]; omega
    rw [e]
    simp only [Nat.add_zero, Int.toNat_natCast]
    exact ⟨⟨by omega, by omega⟩, ⟨ints_at (by omega)⟩, by first | trivial | rfl, by first | trivial | rfl⟩
  · cases h
end
end Qq
end
section
/- When a line reaches a limit: the contract. -/
open Go Go.Vm Go.Proofs Sp
namespace Sp
noncomputable section
noncomputable def rcS (a b c d l f : Int) : Int := l * d - (b + c * (f - a))
noncomputable def rcN (a b c d l f : Int) : Int := if rcS a b c d l f ≤ 0 then f else if c ≤ 0 then 0 else f - (-rcS a b c d l f) / c
noncomputable def rcB (a b c d l f : Int) : Bool := decide (rcS a b c d l f ≤ 0) || (!decide (c ≤ 0) && decide (f - (-rcS a b c d l f) / c ≤ 100000))
structure RcOK (a b c d l f : Int) : Prop where
  a0 : 0 ≤ a
  a1 : a ≤ 100000
  f0 : 0 ≤ f
  f1 : f ≤ 100000
  b0 : -1024000000000000000 ≤ b
  b1 : b ≤ 1024000000000000000
  p0 : -1024000000000000000 ≤ c * (f - a)
  p1 : c * (f - a) ≤ 1024000000000000000
  c1 : c ≤ 10240000000000
  q0 : 0 ≤ l * d
  q1 : l * d ≤ 1024000000000000000
end
end Sp
namespace Qq
noncomputable section
noncomputable def orcRc : OrcV
  | [.agg ⟨[.int .i64 a, .int .i64 b, .int .i64 c, .int .i64 d]⟩, .int .i64 l, .int .i64 f], [] => some (.tuple #[.int .i64 (rcN a b c d l f), .bool (rcB a b c d l f)], [], RcOK a b c d l f)
  | _, _ => none
theorem okRc : OkV Tryz.prog 75 orcRc := by
  intro args H ret H' vc h hv
  unfold orcRc at h
  split at h
  · rename_i a b c d l f
    cases h
    obtain ⟨a0, a1, f0, f1, b0, b1, p0, p1, c1, q0, q1⟩ := hv
    refine fnP_res hm c0_ok (hs := hsRc) ?_
    rw [rc_t]
    have e1 : IntKind.wrap .i64 (f - a) = f - a := wrap_eq (by omega) (by omega)
    have e2 : IntKind.wrap .i64 (c * (f - a)) = c * (f - a) := wrap_eq (by omega) (by omega)
    have e3 : IntKind.wrap .i64 (b + c * (f - a)) = b + c * (f - a) := wrap_eq (by omega) (by omega)
    have e4 : IntKind.wrap .i64 (l * d) = l * d := wrap_eq (by omega) (by omega)
    have e5 : IntKind.wrap .i64 (l * d - (b + c * (f - a))) = rcS a b c d l f := wrap_eq (by omega) (by omega)
    have hs : rcS a b c d l f = l * d - (b + c * (f - a)) := rfl
    have e6 : IntKind.wrap .i64 (0 - rcS a b c d l f) = - rcS a b c d l f := by rw [wrap_eq (by omega) (by omega)]; omega
    rw [e1, e2, e3, e4, e5, e6]
    refine br_of (fun h => ?_) (fun h => br_of (fun h2 => ?_) (fun h2 => ?_))
    · have hh := of_decide_eq_true h
      rw [rcN, rcB, if_pos hh, h]
      exact ⟨rfl, rfl⟩
    · have hh := of_decide_eq_false h
      have hh2 := of_decide_eq_true h2
      rw [rcN, rcB, if_neg hh, if_pos hh2, h, h2]
      exact ⟨rfl, rfl⟩
    · have hh := of_decide_eq_false h
      have hh2 := of_decide_eq_false h2
      have k1 : (-rcS a b c d l f) / c ≤ 0 := Int.ediv_nonpos_of_nonpos_of_neg (by omega) (by omega)
      have k2 : -rcS a b c d l f ≤ (-rcS a b c d l f) / c := by
        refine Int.le_ediv_of_mul_le (by omega) ?_
        have := Int.mul_le_mul_of_nonneg_left (show 1 ≤ c by omega) (show 0 ≤ rcS a b c d l f by omega)
        rw [Int.neg_mul]; omega
      have e7 : IntKind.wrap .i64 (f - (-rcS a b c d l f) / c) = f - (-rcS a b c d l f) / c := wrap_eq (by omega) (by omega)
      rw [e7, rcN, rcB, if_neg hh, if_neg hh2, h, h2]
      exact ⟨⟨by omega, by omega, by omega, by omega⟩, rfl, rfl⟩
  · cases h
end
end Qq
end
section
/- The program's Reached. -/
open Go Go.Vm Go.Proofs Sp
namespace Qq
noncomputable section
noncomputable def hsRd (zs : List Int) (ks : List (Int × ByteArray)) : Hs Tryz.prog where
  au := auCalls [(41, hCa Tryz.prog 41 (orcLnV zs ks) (ln_okV zs ks)), (77, hCa Tryz.prog 77 (orcPdV zs ks) (pd_okV zs ks)), (76, hCa Tryz.prog 76 (orcLaV zs) (la_okV zs)), (75, hCa Tryz.prog 75 orcRc okRc)]
theorem rd_t (nm : ByteArray) (zs : List Int) (ks : List (Int × ByteArray)) (n : Nat) (c : Nat) (k : Nat) (d : Nat) (p : Int) (l : Int) (K : Value → Heap → Prop) :
    (fnP Tryz.prog c2 (hsRd zs ks) (40 : FuncId) [Value.agg (List.toArray (secA nm (0 : Nat) n c (1 : Nat) k d)), Value.int IntKind.i64 p, Value.int IntKind.i64 l] (hp2 zs ks true true true true []) K) =
    (Is (isPer zs ks n k p (ints zs) (acs ks)) ∧ br (wh (decide (pm zs ks n k p < (2 : Nat))) (16 : Int) != (0 : Int)) (K (Value.tuple #[Value.int IntKind.i64 (0 : Int), Value.int IntKind.i64 (wh (decide (pm zs ks n k p < (2 : Nat))) (16 : Int))]) (some (AObj.row (ints zs) (2 : Nat) true true true) :: some (AObj.row (acs ks) (2 : Nat) true true true) :: noH)) (Is (isPer zs ks n k p (ints zs) (acs ks)) ∧ Is (ints zs = ints zs ∧ (0 : Nat) < pm zs ks n k p ∧ pm zs ks n k p ≤ (1000 : Nat) ∧ pf zs ks p * (2 : Nat) + pm zs ks n k p * (2 : Nat) ≤ List.length zs) ∧ Is (RcOK (lz (pm zs ks n k p) (List.getD zs (pf zs ks p * (2 : Nat)) (0 : Int))) (lz (pm zs ks n k p) (lvl zs (pf zs ks p * (2 : Nat)) (pm zs ks n k p))) (lz (pm zs ks n k p) (slp zs (pf zs ks p * (2 : Nat)) (pm zs ks n k p))) (lz (pm zs ks n k p) (dn zs (pf zs ks p * (2 : Nat)) (pm zs ks n k p))) l (List.getD zs (pf zs ks p * (2 : Nat) + (pm zs ks n k p - (1 : Nat)) * (2 : Nat)) (0 : Int))) ∧ br (!rcB (lz (pm zs ks n k p) (List.getD zs (pf zs ks p * (2 : Nat)) (0 : Int))) (lz (pm zs ks n k p) (lvl zs (pf zs ks p * (2 : Nat)) (pm zs ks n k p))) (lz (pm zs ks n k p) (slp zs (pf zs ks p * (2 : Nat)) (pm zs ks n k p))) (lz (pm zs ks n k p) (dn zs (pf zs ks p * (2 : Nat)) (pm zs ks n k p))) l (List.getD zs (pf zs ks p * (2 : Nat) + (pm zs ks n k p - (1 : Nat)) * (2 : Nat)) (0 : Int))) (K (Value.tuple #[Value.int IntKind.i64 (0 : Int), Value.int IntKind.i64 (7 : Int)]) (some (AObj.row (ints zs) (2 : Nat) true true true) :: some (AObj.row (acs ks) (2 : Nat) true true true) :: noH)) (K (Value.tuple #[Value.int IntKind.i64 (rcN (lz (pm zs ks n k p) (List.getD zs (pf zs ks p * (2 : Nat)) (0 : Int))) (lz (pm zs ks n k p) (lvl zs (pf zs ks p * (2 : Nat)) (pm zs ks n k p))) (lz (pm zs ks n k p) (slp zs (pf zs ks p * (2 : Nat)) (pm zs ks n k p))) (lz (pm zs ks n k p) (dn zs (pf zs ks p * (2 : Nat)) (pm zs ks n k p))) l (List.getD zs (pf zs ks p * (2 : Nat) + (pm zs ks n k p - (1 : Nat)) * (2 : Nat)) (0 : Int))), Value.int IntKind.i64 (0 : Int)]) (some (AObj.row (ints zs) (2 : Nat) true true true) :: some (AObj.row (acs ks) (2 : Nat) true true true) :: noH)))) := by kernel_rfl
noncomputable def pZ (zs : List Int) (ks : List (Int × ByteArray)) (n k : Nat) (p : Int) : Int := zs.getD (pf zs ks p * 2 + (pm zs ks n k p - 1) * 2) 0
noncomputable def p0D (zs : List Int) (ks : List (Int × ByteArray)) (p : Int) : Int := zs.getD (pf zs ks p * 2) 0
noncomputable def rdN (zs : List Int) (ks : List (Int × ByteArray)) (n k : Nat) (p l : Int) : Int := rcN (p0D zs ks p) (pL zs ks n k p) (pS zs ks n k p) (pD zs ks n k p) l (pZ zs ks n k p)
noncomputable def rdB (zs : List Int) (ks : List (Int × ByteArray)) (n k : Nat) (p l : Int) : Bool := rcB (p0D zs ks p) (pL zs ks n k p) (pS zs ks n k p) (pD zs ks n k p) l (pZ zs ks n k p)
noncomputable def rdE (zs : List Int) (ks : List (Int × ByteArray)) (n k : Nat) (p l : Int) : Int := sel (wh (decide (pm zs ks n k p < 2)) 16) (wh (!rdB zs ks n k p l) 7)
theorem rc_in {zs : List Int} {ks : List (Int × ByteArray)} {n k : Nat} {p l : Int} {e1 e2 : List Value} (h : isPer zs ks n k p e1 e2) (hm : 2 ≤ pm zs ks n k p) (l0 : 0 ≤ l) (l1 : l ≤ 100000) :
    RcOK (p0D zs ks p) (pL zs ks n k p) (pS zs ks n k p) (pD zs ks n k p) l (pZ zs ks n k p) := by
  obtain ⟨h1, h2⟩ := per_part h
  have h2 := h2 hm
  obtain ⟨⟨b0, b1⟩, ⟨s1, s2⟩, ⟨d1, d2⟩, _⟩ := h1.line
  have z0 := h1.z0
  have y0 := (h1.day 0 (by omega)).2
  have y1 := h1.day (pm zs ks n k p - 1) (by omega)
  have e0 : d0 zs (pf zs ks p * 2) = p0D zs ks p := rfl
  rw [e0] at z0 y1
  rw [Nat.zero_mul, Nat.add_zero] at y0
  have y0 : p0D zs ks p ≤ 100000 := y0
  have y1 : p0D zs ks p ≤ pZ zs ks n k p ∧ pZ zs ks n k p ≤ 100000 := y1
  have s1 : -10240000000000 ≤ pS zs ks n k p := s1
  have s2 : pS zs ks n k p ≤ 10240000000000 := s2
  have hd : 0 < pD zs ks n k p := h2
  have d2 : pD zs ks n k p ≤ 10240000000000 := d2
  have b : -1024000000000000000 ≤ pS zs ks n k p * (pZ zs ks n k p - p0D zs ks p) ∧ pS zs ks n k p * (pZ zs ks n k p - p0D zs ks p) ≤ 1024000000000000000 := by
    have := mul_in (a := (pS zs ks n k p).natAbs) (b := (pZ zs ks n k p - p0D zs ks p).natAbs) (A := 10240000000000) (B := 100000) (by omega) (by omega) (by omega) (by omega)
    rw [← Int.natCast_mul, ← Int.natAbs_mul] at this
    omega
  have q := mul_in l0 l1 (show 0 ≤ pD zs ks n k p by omega) d2
  exact ⟨by omega, by omega, by omega, by omega, b0, b1, b.1, b.2, s2, q.1, by omega⟩
theorem rd_ok {nm : ByteArray} {zs : List Int} {ks : List (Int × ByteArray)} {n c k d : Nat} {p l : Int} (hp : isPer zs ks n k p (ints zs) (acs ks)) (l0 : 0 ≤ l) (l1 : l ≤ 100000) :
    SmallRes Tryz.prog 40 [.agg (secA nm 0 n c 1 k d).toArray, .int .i64 p, .int .i64 l] (hp2 zs ks true true true true [])
      (.tuple #[.int .i64 (gz (rdE zs ks n k p l) (rdN zs ks n k p l)), .int .i64 (rdE zs ks n k p l)]) (hp2 zs ks true true true true []) := by
  refine fnP_res hm c2_ok (hs := hsRd zs ks) ?_
  rw [rd_t]
  obtain ⟨h1, _⟩ := per_part hp
  rw [few_iff]
  refine ⟨⟨hp⟩, br_of (fun h => ?_) (fun h => ?_)⟩
  · have hw : wh (decide (pm zs ks n k p < 2)) 16 = 16 := by rw [h]; rfl
    rw [rdE, hw]
    exact ⟨by first | trivial | rfl, by first | trivial | rfl⟩
  · have hw : wh (decide (pm zs ks n k p < 2)) 16 = 0 := by rw [h]; rfl
    have hn : ¬ pm zs ks n k p < 2 := of_decide_eq_false h
    have hr := rc_in hp (by omega) l0 l1
    have hl := h1.len
    have hf := h1.few
    simp only [lz, if_neg hn]
    refine ⟨⟨hp⟩, ⟨by first | trivial | rfl, by omega, by omega, hl⟩, ⟨hr⟩, br_of (fun hb => ?_) (fun hb => ?_)⟩
    · have hb : (!rdB zs ks n k p l) = true := hb
      rw [rdE, hw, hb]
      exact ⟨by first | trivial | rfl, by first | trivial | rfl⟩
    · have hb : (!rdB zs ks n k p l) = false := hb
      rw [rdE, hw, hb]
      exact ⟨by first | trivial | rfl, by first | trivial | rfl⟩
end
end Qq
end
section
/- The program's Reached, with its checks. -/
open Go Go.Vm Go.Proofs Sp
namespace Qq
noncomputable section
noncomputable def orcRdV (zs : List Int) (ks : List (Int × ByteArray)) : OrcV
  | [.agg ⟨[.string _nm, .slice (some ⟨0, 0, none⟩) n _c, .slice (some ⟨1, 0, none⟩) k _d]⟩, .int .i64 p, .int .i64 l], [some (.row e1 2 true true true), some (.row e2 2 true true true)] =>
    some (.tuple #[.int .i64 (gz (rdE zs ks n k p l) (rdN zs ks n k p l)), .int .i64 (rdE zs ks n k p l)], [some (.row e1 2 true true true), some (.row e2 2 true true true)], isPer zs ks n k p e1 e2 ∧ 0 ≤ l ∧ l ≤ 100000)
  | _, _ => none
theorem rd_okV (zs : List Int) (ks : List (Int × ByteArray)) : OkV Tryz.prog 40 (orcRdV zs ks) := by
  intro args H ret H' vc h hv
  unfold orcRdV at h
  split at h
  · cases h
    obtain ⟨⟨⟨rfl, rfl, h1⟩, h2⟩, h3, h4⟩ := hv
    exact rd_ok ⟨⟨rfl, rfl, h1⟩, h2⟩ h3 h4
  · cases h
noncomputable def hsRe (zs : List Int) (ks : List (Int × ByteArray)) : Hs Tryz.prog where
  au := auCalls [(38, hCa Tryz.prog 38 (orcCpV zs ks) (cp_okV zs ks)), (40, hCa Tryz.prog 40 (orcRdV zs ks) (rd_okV zs ks))]
theorem re_t (nm : ByteArray) (zs : List Int) (ks : List (Int × ByteArray)) (n : Nat) (c : Nat) (k : Nat) (d : Nat) (p : Int) (l : Int) (K : Value → Heap → Prop) :
    (fnP Tryz.prog c2 (hsRe zs ks) (12 : FuncId) [Value.agg (List.toArray (secA nm (0 : Nat) n c (1 : Nat) k d)), Value.int IntKind.i64 p, Value.int IntKind.i64 l] (hp2 zs ks true true true true []) K) =
    (Is (isSec zs ks n k (ints zs) (acs ks)) ∧ br (fi [perE nm zs n ks k p, wi l (0 : Int) (100000 : Int)] != (0 : Int)) (K (Value.tuple #[Value.int IntKind.i64 (0 : Int), Value.int IntKind.i64 (fi [perE nm zs n ks k p, wi l (0 : Int) (100000 : Int)])]) (some (AObj.row (ints zs) (2 : Nat) true true true) :: some (AObj.row (acs ks) (2 : Nat) true true true) :: noH)) (Is (isPer zs ks n k p (ints zs) (acs ks) ∧ (0 : Int) ≤ l ∧ l ≤ (100000 : Int)) ∧ K (Value.tuple #[Value.int IntKind.i64 (gz (rdE zs ks n k p l) (rdN zs ks n k p l)), Value.int IntKind.i64 (rdE zs ks n k p l)]) (some (AObj.row (ints zs) (2 : Nat) true true true) :: some (AObj.row (acs ks) (2 : Nat) true true true) :: noH))) := by kernel_rfl
noncomputable def reE (nm : ByteArray) (zs : List Int) (n : Nat) (ks : List (Int × ByteArray)) (k : Nat) (p l : Int) : Int := sel (fi [perE nm zs n ks k p, wi l 0 100000]) (rdE zs ks n k p l)
theorem re_ok {nm : ByteArray} {zs : List Int} {ks : List (Int × ByteArray)} {n c k d : Nat} {p l : Int} (hi : isSec zs ks n k (ints zs) (acs ks)) :
    SmallRes Tryz.prog 12 [.agg (secA nm 0 n c 1 k d).toArray, .int .i64 p, .int .i64 l] (hp2 zs ks true true true true [])
      (.tuple #[.int .i64 (gz (reE nm zs n ks k p l) (rdN zs ks n k p l)), .int .i64 (reE nm zs n ks k p l)]) (hp2 zs ks true true true true []) := by
  refine fnP_res hm c2_ok (hs := hsRe zs ks) ?_
  rw [re_t]
  refine ⟨⟨hi⟩, br_of (fun h => ?_) (fun h => ?_)⟩
  · have h' : fi [perE nm zs n ks k p, wi l 0 100000] ≠ 0 := by simpa using h
    have e : reE nm zs n ks k p l = fi [perE nm zs n ks k p, wi l 0 100000] := sel_ne h
    simp only [gz, e, if_neg h']
    exact ⟨by first | trivial | rfl, by first | trivial | rfl⟩
  · have h' : fi [perE nm zs n ks k p, wi l 0 100000] = 0 := by simpa using h
    have e : reE nm zs n ks k p l = rdE zs ks n k p l := sel_eq h
    have hp := perE_ok hi (fi_zero.1 h' (perE nm zs n ks k p) (by simp))
    have hx := wi_zero.1 (fi_zero.1 h' (wi l 0 100000) (by simp))
    rw [e]
    exact ⟨⟨hp, hx.1, hx.2⟩, by first | trivial | rfl, by first | trivial | rfl⟩
end
end Qq
end
section
/- Quotients in lowest terms, and lines through two points: plain laws. -/
open Go Go.Vm Go.Proofs Sp
namespace Qq
noncomputable section

theorem low_spec {a d : Int} (h0 : 0 < d) (h1 : d < 9223372036854775808) (a0 : -9223372036854775808 < a) (a1 : a < 9223372036854775808) :
    ∃ g : Int, 0 < g ∧ lowN a d * g = a ∧ lowD a d * g = d ∧ 0 < lowD a d ∧ (lowN a d).natAbs.gcd (lowD a d).natAbs = 1 := by
  obtain ⟨g, hg⟩ : ∃ g, g = Nat.gcd a.natAbs d.natAbs := ⟨_, rfl⟩
  have g0 : 0 < g := by rw [hg]; exact Nat.gcd_pos_of_pos_right _ (by omega)
  obtain ⟨x, hx⟩ : (g : Int) ∣ a := by rw [hg]; exact Int.ofNat_dvd_left.2 (Nat.gcd_dvd_left _ _)
  obtain ⟨y, hy⟩ : (g : Int) ∣ d := by rw [hg]; exact Int.ofNat_dvd_left.2 (Nat.gcd_dvd_right _ _)
  have ea : a.natAbs = g * x.natAbs := by rw [hx, Int.natAbs_mul, Int.natAbs_natCast]
  have ed : d.natAbs = g * y.natAbs := by rw [hy, Int.natAbs_mul, Int.natAbs_natCast]
  have bx : x.natAbs ≤ a.natAbs := by rw [ea]; exact Nat.le_mul_of_pos_left _ g0
  have by' : y.natAbs ≤ d.natAbs := by rw [ed]; exact Nat.le_mul_of_pos_left _ g0
  have e1 : lowN a d = x := by
    rw [lowN, ← hg]
    have : a.tdiv (g : Int) = x := by rw [hx]; exact Int.mul_tdiv_cancel_left _ (by omega)
    rw [this, W, wrap_eq (by omega) (by omega)]
  have e2 : lowD a d = y := by
    rw [lowD, ← hg]
    have : d.tdiv (g : Int) = y := by rw [hy]; exact Int.mul_tdiv_cancel_left _ (by omega)
    rw [this, W, wrap_eq (by omega) (by omega)]
  have y0 : 0 < y := by
    by_cases h : 0 < y
    · exact h
    · have := Int.mul_nonneg (show (0 : Int) ≤ g by omega) (show 0 ≤ -y by omega)
      rw [Int.mul_neg] at this
      omega
  have c : x.natAbs.gcd y.natAbs = 1 := by
    rw [ea, ed, Nat.gcd_mul_left] at hg
    exact Nat.eq_of_mul_eq_mul_left g0 (by omega)
  rw [e1, e2]
  exact ⟨g, by omega, by rw [hx, Int.mul_comm], by rw [hy, Int.mul_comm], y0, c⟩

/-- A quotient in lowest terms. -/
structure Low (r : Int × Int) : Prop where
  pos : 0 < r.2
  one : r.1.natAbs.gcd r.2.natAbs = 1
theorem low_cross {r s : Int × Int} (h1 : Low r) (h2 : Low s) (h : r.1 * s.2 = s.1 * r.2) : r = s := by
  have p1 := h1.pos
  have p2 := h2.pos
  have h' : r.1.natAbs * s.2.natAbs = s.1.natAbs * r.2.natAbs := by rw [← Int.natAbs_mul, h, Int.natAbs_mul]
  have d12 : r.2.natAbs ∣ s.2.natAbs := Nat.Coprime.dvd_of_dvd_mul_left (Nat.Coprime.symm h1.one) (by rw [h']; exact Nat.dvd_mul_left _ _)
  have d21 : s.2.natAbs ∣ r.2.natAbs := Nat.Coprime.dvd_of_dvd_mul_left (Nat.Coprime.symm h2.one) (by rw [← h']; exact Nat.dvd_mul_left _ _)
  have e := Nat.dvd_antisymm d12 d21
  have e : r.2 = s.2 := by omega
  rw [e] at h
  exact Prod.ext (Int.eq_of_mul_eq_mul_right (by omega) h) e
noncomputable def low (a d : Int) : Int × Int := (lowN a d, lowD a d)
structure LowIn (a d : Int) : Prop where
  h0 : 0 < d
  h1 : d < 9223372036854775808
  a0 : -9223372036854775808 < a
  a1 : a < 9223372036854775808
theorem LowIn.low {a d : Int} (h : LowIn a d) : Low (low a d) := by
  obtain ⟨g, _, _, _, p, c⟩ := low_spec h.h0 h.h1 h.a0 h.a1
  exact ⟨p, c⟩
theorem low_le {a d b e : Int} (h : LowIn a d) (k : LowIn b e) : (low a d).1 * (low b e).2 ≤ (low b e).1 * (low a d).2 ↔ a * e ≤ b * d := by
  obtain ⟨g, g0, e1, e2, _⟩ := low_spec h.h0 h.h1 h.a0 h.a1
  obtain ⟨g', g0', e3, e4, _⟩ := low_spec k.h0 k.h1 k.a0 k.a1
  have p : 0 < g * g' := Int.mul_pos g0 g0'
  have l : a * e = (low a d).1 * (low b e).2 * (g * g') := by
    simp only [low]
    calc a * e = lowN a d * g * (lowD b e * g') := by rw [e1, e4]
      _ = lowN a d * lowD b e * (g * g') := by grind
  have r : b * d = (low b e).1 * (low a d).2 * (g * g') := by
    simp only [low]
    calc b * d = lowN b e * g' * (lowD a d * g) := by rw [e3, e2]
      _ = lowN b e * lowD a d * (g * g') := by grind
  rw [l, r]
  exact ⟨fun h => Int.mul_le_mul_of_nonneg_right h (by omega), fun h => Int.le_of_mul_le_mul_right h p⟩
theorem low_eq {a d b e : Int} (h : LowIn a d) (k : LowIn b e) : low a d = low b e ↔ a * e = b * d := by
  constructor
  · intro hh
    have h1 := (low_le h k).1 (by rw [hh]; exact Int.le_refl _)
    have h2 := (low_le k h).1 (by rw [hh]; exact Int.le_refl _)
    omega
  · intro hh
    have h1 := (low_le h k).2 (by omega)
    have h2 := (low_le k h).2 (by omega)
    exact low_cross h.low k.low (by omega)
end
end Qq
end
section
/- Lines through two measurements, each plus or less an error: as the program lists them, and as the reference does. -/
open Go Go.Vm Go.Proofs Sp
namespace Sp
noncomputable section
/-- A line: a day, the level there, the slope, the denominator. -/
abbrev Ln := Int × Int × Int × Int
noncomputable def lnat (l : Ln) (x : Int) : Int := l.2.1 + l.2.2.1 * (x - l.1)
noncomputable def fitB (w : Int) (l : Ln) : List Int → Bool
  | t :: y :: r => !decide (w * l.2.2.2 < ((lnat l t - y * l.2.2.2).natAbs : Int)) && fitB w l r
  | _ => true
noncomputable def sgR (a : Nat) : Int := 2 * a - 1
noncomputable def cqR (L : List Int) (w : Int) (i k a b : Nat) : Ln := (L.getD (i * 2) 0, L.getD (i * 2 + 1) 0 + sgR a * w, L.getD (k * 2) 0, L.getD (k * 2 + 1) 0 + sgR b * w)
noncomputable def lnOf (c : Ln) : Ln := (c.1, c.2.1 * (c.2.2.1 - c.1), c.2.2.2 - c.2.1, c.2.2.1 - c.1)
noncomputable def oneR (L : List Int) (w : Int) (i k a b : Nat) : List Ln := if fitB w (lnOf (cqR L w i k a b)) L = true then [cqR L w i k a b] else []
end
end Sp
namespace Qq
noncomputable section
end
end Qq
end
section
/- Lines of measurements that are near each other: plain laws. -/
open Go Go.Vm Go.Proofs Sp
namespace Qq
noncomputable section
/-- What a quotient in lowest terms stands for. -/
theorem low_rep {a d : Int} (h : LowIn a d) : lowN a d * d = a * lowD a d ∧ 0 < lowD a d ∧ lowD a d ≤ d ∧ (lowN a d).natAbs ≤ a.natAbs := by
  obtain ⟨g, g0, e1, e2, p, _⟩ := low_spec h.h0 h.h1 h.a0 h.a1
  refine ⟨?_, p, ?_, ?_⟩
  · generalize lowN a d = N at *
    generalize lowD a d = E at *
    subst e1; subst e2
    grind
  · have := Int.mul_le_mul_of_nonneg_left (show 1 ≤ g by omega) (show 0 ≤ lowD a d by omega)
    omega
  · have := Nat.le_mul_of_pos_right (lowN a d).natAbs (show 0 < g.natAbs by omega)
    rw [← Int.natAbs_mul, e1] at this
    exact this
theorem sum_line (zs : List Int) (off m : Nat) : m * lvl zs off m = sY zs off m * dn zs off m - sX zs off m * slp zs off m := by
  simp only [lvl, slp, dn]; grind
theorem sum_prod (zs : List Int) (off m : Nat) : sX zs off m * lvl zs off m = sXY zs off m * dn zs off m - sXX zs off m * slp zs off m := by
  simp only [lvl, slp, dn]; grind
/-- Measurements near the first one. -/
structure Near (zs : List Int) (off m : Nat) : Prop where
  len : off + m * 2 ≤ zs.length
  few : m ≤ 8
  day : ∀ i, i < m → 0 ≤ zs.getD (off + i * 2) 0 - d0 zs off ∧ zs.getD (off + i * 2) 0 - d0 zs off ≤ 400
  idx : ∀ i, i < m → 0 ≤ zs.getD (off + i * 2 + 1) 0 ∧ zs.getD (off + i * 2 + 1) 0 ≤ 400
theorem Near.sums {zs : List Int} {off m : Nat} (h : Near zs off m) {i : Nat} (hi : i ≤ m) :
    (0 ≤ sX zs off i ∧ sX zs off i ≤ 3200) ∧ (0 ≤ sY zs off i ∧ sY zs off i ≤ 3200) ∧ (0 ≤ sXX zs off i ∧ sXX zs off i ≤ 1280000) ∧ (0 ≤ sXY zs off i ∧ sXY zs off i ≤ 1280000) := by
  have hm := h.few
  have up : ∀ {s B : Int}, 0 ≤ B → 0 ≤ s ∧ s ≤ B * i → 0 ≤ s ∧ s ≤ B * 8 := fun {s B} hB ⟨a, b⟩ => ⟨a, Int.le_trans b (Int.mul_le_mul_of_nonneg_left (by omega) hB)⟩
  refine ⟨up (B := 400) (by omega) (sumP_le h.len (fun j hj => h.day j hj) i hi), up (B := 400) (by omega) (sumP_le h.len (fun j hj => h.idx j hj) i hi), up (B := 160000) (by omega) (sumP_le h.len (fun j hj => ?_) i hi), up (B := 160000) (by omega) (sumP_le h.len (fun j hj => ?_) i hi)⟩
  · obtain ⟨q1, q2⟩ := h.day j hj
    have := mul_in q1 q2 q1 q2
    exact ⟨this.1, by omega⟩
  · obtain ⟨q1, q2⟩ := h.day j hj
    obtain ⟨q3, q4⟩ := h.idx j hj
    have := mul_in q1 q2 q3 q4
    exact ⟨this.1, by omega⟩
theorem Near.line {zs : List Int} {off m : Nat} (h : Near zs off m) : (-4096000000 ≤ lvl zs off m ∧ lvl zs off m ≤ 4096000000) ∧ (-10240000 ≤ slp zs off m ∧ slp zs off m ≤ 10240000) ∧ dn zs off m ≤ 10240000 := by
  obtain ⟨⟨x0, x1⟩, ⟨y0, y1⟩, ⟨p0, p1⟩, ⟨q0, q1⟩⟩ := h.sums (Nat.le_refl m)
  have hm := h.few
  have a1 := mul_in y0 y1 p0 p1
  have a2 := mul_in x0 x1 q0 q1
  have a3 := mul_in (show (0 : Int) ≤ m by omega) (show (m : Int) ≤ 8 by omega) q0 q1
  have a4 := mul_in x0 x1 y0 y1
  have a5 := mul_in (show (0 : Int) ≤ m by omega) (show (m : Int) ≤ 8 by omega) p0 p1
  have a6 := mul_in x0 x1 x0 x1
  simp only [lvl, slp, dn]
  omega
end
end Qq
end
section
/- Lines that fit: the loops. -/
open Go Go.Vm Go.Proofs Sp
namespace Qq
noncomputable section
theorem bmul {a b A B : Int} (_ : 0 ≤ A) (_ : 0 ≤ B) (a0 : -A ≤ a) (a1 : a ≤ A) (b0 : -B ≤ b) (b1 : b ≤ B) : -(A * B) ≤ a * b ∧ a * b ≤ A * B := by
  have := mul_in (a := a.natAbs) (b := b.natAbs) (A := A) (B := B) (by omega) (by omega) (by omega) (by omega)
  rw [← Int.natCast_mul, ← Int.natAbs_mul] at this
  omega
/-- A line and measurements whose numbers do not leave the machine's integers. -/
structure FitIn (zs : List Int) (off m : Nat) (w a b s d : Int) : Prop where
  len : off + m * 2 ≤ zs.length
  few : m ≤ 1000
  w0 : 0 ≤ w
  w1 : w ≤ 100000
  a0 : 0 ≤ a
  a1 : a ≤ 100000
  b0 : -1000000000000 ≤ b
  b1 : b ≤ 1000000000000
  s0 : -1000000000000 ≤ s
  s1 : s ≤ 1000000000000
  d0 : 0 < d
  d1 : d ≤ 1000000000000
  day : ∀ i, i < m → 0 ≤ zs.getD (off + i * 2) 0 ∧ zs.getD (off + i * 2) 0 ≤ 100000
  idx : ∀ i, i < m → 0 ≤ zs.getD (off + i * 2 + 1) 0 ∧ zs.getD (off + i * 2 + 1) 0 ≤ 100000
/-- A line through two points, near measurements. -/
structure CoIn (zs : List Int) (off m : Nat) (w x y u v : Int) : Prop where
  len : off + m * 2 ≤ zs.length
  few : m ≤ 1000
  w0 : 0 ≤ w
  w1 : w ≤ 100000
  x0 : 0 ≤ x
  xu : x < u
  u1 : u ≤ 100000
  y0 : -200000 ≤ y
  y1 : y ≤ 200000
  v0 : -200000 ≤ v
  v1 : v ≤ 200000
  day : ∀ i, i < m → 0 ≤ zs.getD (off + i * 2) 0 ∧ zs.getD (off + i * 2) 0 ≤ 100000
  idx : ∀ i, i < m → 0 ≤ zs.getD (off + i * 2 + 1) 0 ∧ zs.getD (off + i * 2 + 1) 0 ≤ 100000
end
end Qq
end
section
/- The law about lines: its own functions. -/
open Go Go.Vm Go.Proofs Sp
namespace Qq
noncomputable section
noncomputable def orcFdV (zs : List Int) (ks : List (Int × ByteArray)) : OrcV
  | [.agg ⟨[.string nm, .slice (some ⟨0, 0, none⟩) n _c, .slice (some ⟨1, 0, none⟩) k _d]⟩, .int .i64 p], [some (.row e1 2 true true true), some (.row e2 2 true true true)] =>
    some (.tuple #[.agg #[.int .i64 (gz (feE nm zs n ks k p) (p0D zs ks p)), .int .i64 (gz (feE nm zs n ks k p) (lowN (pL zs ks n k p) (pD zs ks n k p))), .int .i64 (gz (feE nm zs n ks k p) (lowD (pL zs ks n k p) (pD zs ks n k p))),
        .int .i64 (gz (feE nm zs n ks k p) (lowN (pS zs ks n k p) (pD zs ks n k p))), .int .i64 (gz (feE nm zs n ks k p) (lowD (pS zs ks n k p) (pD zs ks n k p)))], .int .i64 (feE nm zs n ks k p)], [some (.row e1 2 true true true), some (.row e2 2 true true true)], isSec zs ks n k e1 e2)
  | _, _ => none
theorem fd_okV (zs : List Int) (ks : List (Int × ByteArray)) : OkV Tryz.prog 13 (orcFdV zs ks) := by
  intro args H ret H' vc h hv
  unfold orcFdV at h
  split at h
  · cases h
    obtain ⟨rfl, rfl, h1⟩ := hv
    exact fd_ok ⟨rfl, rfl, h1⟩
  · cases h
noncomputable def orcPrV (zs : List Int) (ks : List (Int × ByteArray)) : OrcV
  | [.agg ⟨[.string nm, .slice (some ⟨0, 0, none⟩) n _c, .slice (some ⟨1, 0, none⟩) k _d]⟩, .int .i64 p, .int .i64 x], [some (.row e1 2 true true true), some (.row e2 2 true true true)] =>
    some (.tuple #[.agg #[.int .i64 (gz (prE nm zs n ks k p x) (lowN (pA zs ks n k p x) (pD zs ks n k p))), .int .i64 (gz (prE nm zs n ks k p x) (lowD (pA zs ks n k p x) (pD zs ks n k p)))], .int .i64 (prE nm zs n ks k p x)], [some (.row e1 2 true true true), some (.row e2 2 true true true)], isSec zs ks n k e1 e2)
  | _, _ => none
theorem pr_okV (zs : List Int) (ks : List (Int × ByteArray)) : OkV Tryz.prog 14 (orcPrV zs ks) := by
  intro args H ret H' vc h hv
  unfold orcPrV at h
  split at h
  · cases h
    obtain ⟨rfl, rfl, h1⟩ := hv
    exact pr_ok ⟨rfl, rfl, h1⟩
  · cases h
noncomputable def orcReV (zs : List Int) (ks : List (Int × ByteArray)) : OrcV
  | [.agg ⟨[.string nm, .slice (some ⟨0, 0, none⟩) n _c, .slice (some ⟨1, 0, none⟩) k _d]⟩, .int .i64 p, .int .i64 l], [some (.row e1 2 true true true), some (.row e2 2 true true true)] =>
    some (.tuple #[.int .i64 (gz (reE nm zs n ks k p l) (rdN zs ks n k p l)), .int .i64 (reE nm zs n ks k p l)], [some (.row e1 2 true true true), some (.row e2 2 true true true)], isSec zs ks n k e1 e2)
  | _, _ => none
theorem re_okV (zs : List Int) (ks : List (Int × ByteArray)) : OkV Tryz.prog 12 (orcReV zs ks) := by
  intro args H ret H' vc h hv
  unfold orcReV at h
  split at h
  · cases h
    obtain ⟨rfl, rfl, h1⟩ := hv
    exact re_ok ⟨rfl, rfl, h1⟩
  · cases h
noncomputable def bx (cs : List Value) : Option AObj := some (.row cs 0 false true true)
noncomputable def i0 : Value := .int .i64 0
end
end Qq
end
section
/- Lines that are given, checked; Fits. -/
open Go Go.Vm Go.Proofs Sp
namespace Sp
noncomputable section
end
end Sp
namespace Qq
noncomputable section
theorem firstS_t (l : List Int) (n : Nat) (c : Nat) (es : Nat) (more : Bool) (rw : Bool) (K : Value → Heap → Prop) :
    (fnP Tryz.prog c0 (hFirst l n c es more rw) (25 : FuncId) [Value.slice (some { block := (0 : Nat), off := (0 : Nat) }) n c] [some (AObj.row (ints l) es more rw true)] K) =
    ((∃ s, Is (s ≤ List.length l ∧ fi (List.drop s l) = fi l) ∧ [poi, poi, poi, poi, poi, Value.slice (some { block := (0 : Nat), off := (0 : Nat) }) n c, Value.int IntKind.i64 (↑n : Int), Value.int IntKind.i64 (0 : Int), poi, poi, poi, poi, poi, poi, poi] = [poi, poi, poi, poi, poi, Value.slice (some { block := (0 : Nat), off := (0 : Nat) }) n c, Value.int IntKind.i64 (↑n : Int), Value.int IntKind.i64 (↑s : Int), poi, poi, poi, poi, poi, poi, poi] ∧ some (AObj.row (ints l) es more rw true) :: noH = some (AObj.row (ints l) es more rw true) :: noH) ∧ ∀ (s : Nat), Is (s ≤ List.length l ∧ fi (List.drop s l) = fi l) → br (decide ((↑s : Int) < (↑n : Int))) (Is ((0 : Int) ≤ (↑s : Int) ∧ (↑s : Int) < (↑n : Int)) ∧ Is ((ints l)[(0 : Nat) + Int.toNat (↑s : Int) * (1 : Nat)]? = some (Value.int IntKind.i64 (List.getD l ((0 : Nat) + Int.toNat (↑s : Int) * (1 : Nat)) (0 : Int)))) ∧ br (List.getD l ((0 : Nat) + Int.toNat (↑s : Int) * (1 : Nat)) (0 : Int) != (0 : Int)) (K (Value.int IntKind.i64 (List.getD l ((0 : Nat) + Int.toNat (↑s : Int) * (1 : Nat)) (0 : Int))) (some (AObj.row (ints l) es more rw true) :: noH)) (∃ s', Is (s' ≤ List.length l ∧ fi (List.drop s' l) = fi l) ∧ Is (List.length l - s' < List.length l - s) ∧ [poi, poi, poi, poi, poi, Value.slice (some { block := (0 : Nat), off := (0 : Nat) }) n c, Value.int IntKind.i64 (↑n : Int), Value.int IntKind.i64 (IntKind.wrap IntKind.i64 ((↑s : Int) + (1 : Int))), poi, poi, poi, poi, poi, poi, poi] = [poi, poi, poi, poi, poi, Value.slice (some { block := (0 : Nat), off := (0 : Nat) }) n c, Value.int IntKind.i64 (↑n : Int), Value.int IntKind.i64 (↑s' : Int), poi, poi, poi, poi, poi, poi, poi] ∧ some (AObj.row (ints l) es more rw true) :: noH = some (AObj.row (ints l) es more rw true) :: noH)) (K (Value.int IntKind.i64 (0 : Int)) (some (AObj.row (ints l) es more rw true) :: noH))) := by kernel_rfl
theorem whenS_t (b : Bool) (e : Int) (K : Value → Heap → Prop) :
    (fnP Tryz.prog c0 h0 (63 : FuncId) [Value.bool b, Value.int IntKind.i64 e] [] K) =
    (br b (K (Value.int IntKind.i64 e) noH) (K (Value.int IntKind.i64 (0 : Int)) noH)) := by kernel_rfl
theorem okWhenS : Ok Tryz.prog 63 orcWhen := by
  intro args H ret H' h
  unfold orcWhen at h
  split at h
  · cases h
    refine fnP_res hm c0_ok (hs := h0) ?_
    rw [whenS_t]
    exact br_of (fun h => by simp [wh, h]) (fun h => by simp [wh, h])
  · cases h
theorem okFirstS : Ok Tryz.prog 25 orcFirst := by
  intro args H ret H' h
  unfold orcFirst at h
  split at h
  · rename_i n c cells es more rw
    split at h
    · rename_i l hl
      split at h
      · rename_i hn
        cases h
        have := intsOf_eq hl
        subst this
        obtain ⟨hn, hlt⟩ := hn
        subst hn
        refine fnP_res hm c0_ok (hs := hFirst l l.length c es more rw) ?_
        rw [firstS_t]
        refine ⟨⟨(0 : Nat), ⟨by simp, by simp⟩, rfl, rfl⟩, fun s hs => ?_⟩
        obtain ⟨h1, h2⟩ := hs.out
        refine br_of (fun hc => ?_) (fun hc => ?_)
        · have hc : s < l.length := by simpa using hc
          refine ⟨⟨by omega, by omega⟩, ⟨by simpa using ints_at hc⟩, br_of (fun hd => ?_) (fun hd => ?_)⟩
          · have := fi_drop hc
            have hd' : l.getD s 0 ≠ 0 := by simpa using hd
            rw [if_neg hd'] at this
            simp [← h2, this]
          · have := fi_drop hc
            have hd' : l.getD s 0 = 0 := by simpa using hd
            rw [if_pos hd'] at this
            refine ⟨s + 1, ⟨hc, by rw [← this, h2]⟩, ⟨by omega⟩, ?_, rfl⟩
            rw [wrap_eq (by omega) (by omega)]
            rfl
        · have hc : l.length ≤ s := by simpa using hc
          have : s = l.length := by omega
          subst this
          simp [← h2, fi]
      · cases h
    · cases h
  · cases h
noncomputable def s1 : List (Nat × Orc) := [(63, orcWhen), (25, orcFirst)]
theorem s1_all : ∀ p ∈ s1, Ok Tryz.prog p.1 p.2 := all_cons okWhenS (all_cons okFirstS all_nil)
noncomputable def cs1 : CallF := ctx Tryz.prog s1
theorem cs1_ok : CallOK Tryz.prog cs1 := ctx_ok hm s1_all
theorem withinS_t (n : Int) (lo : Int) (hi : Int) (K : Value → Heap → Prop) :
    (fnP Tryz.prog cs1 h0 (27 : FuncId) [Value.int IntKind.i64 n, Value.int IntKind.i64 lo, Value.int IntKind.i64 hi] [] K) =
    (br (decide (n < lo)) (K (Value.int IntKind.i64 (3 : Int)) noH) (K (Value.int IntKind.i64 (wh (decide (hi < n)) (3 : Int))) noH)) := by kernel_rfl
theorem okWithinS : Ok Tryz.prog 27 orcWithin := by
  intro args H ret H' h
  unfold orcWithin at h
  split at h
  · cases h
    refine fnP_res hm cs1_ok (hs := h0) ?_
    rw [withinS_t]
    exact br_of (fun h => by simp [wi, of_decide_eq_true h]) (fun h => by simp [wi, wh, of_decide_eq_false h])
  · cases h
noncomputable def s2 : List (Nat × Orc) := (27, orcWithin) :: s1
theorem s2_all : ∀ p ∈ s2, Ok Tryz.prog p.1 p.2 := all_cons okWithinS s1_all
noncomputable def cs2 : CallF := ctx Tryz.prog s2
theorem cs2_ok : CallOK Tryz.prog cs2 := ctx_ok hm s2_all
/- The greatest common divisor. -/
/- The greatest of a list. -/
/- Lines, checked. -/
end
end Qq
end
section
/- Samples, checked. -/
open Go Go.Vm Go.Proofs Sp
namespace Sp
noncomputable section
/-- The integer of a sample. -/
noncomputable def lev (x : Nat) : Int := fInt (fMul x 1098907648)
noncomputable def sE (x : Nat) : Int := sel (wh (!Fl.finB x) 1) (wh (fLt x 3296722944 || (fGt x 1149239296 || fNe (fMul x 1098907648) (fOf (lev x)))) 3)
end
end Sp
namespace Qq
noncomputable section
noncomputable def orcSmp : Orc
  | [.float .f32 x, .int .i64 1024], [] => some (.int .i64 (sE x), [])
  | _, _ => none
noncomputable def orcSm1 : Orc
  | [.float .f32 x], [] => some (.int .i64 (sE x), [])
  | _, _ => none
end
end Qq
namespace Fl
open Ieee Sp
theorem of_val {n : Int} (h : n.natAbs < 2 ^ 24) : IsF (fOf n) ∧ val (fOf n) = n * (one : Int) := by
  have hs : Has (.number (decide (n < 0)) n.natAbs 0) (-149) (n * (one : Int)) := by
    refine ⟨_, _, _, rfl, by decide, ?_⟩
    have e : (0 + 400 : Int).toNat = 400 := rfl
    rw [e, sg_mul, sg_self, one_nat]
  have hp := one_pos
  refine has_fin (lo := -149) (hs.write (by decide) ⟨?_, n.natAbs, 400, ?_, h, by decide⟩)
  · rw [Int.natAbs_mul, Int.natAbs_natCast]
    have : n.natAbs * one ≤ 2 ^ 24 * one := Nat.mul_le_mul_right one (Nat.le_of_lt h)
    have h2 : 2 ^ 24 * one < 2 ^ 500 := by decide +kernel
    exact Nat.lt_of_le_of_lt this h2
  · rw [Int.natAbs_mul, Int.natAbs_natCast, one_nat]
/-- What a sample is. -/
structure Smp (x : Nat) : Prop where
  fin : IsF x
  v : val x * 16 = lev x * (one : Int)
  few : (lev x).natAbs ≤ 16384
  m1 : fMulOk x 1098907648
  m2 : fMulOk 1098907648 x
  i1 : fIntOk (fMul x 1098907648)
theorem fin_true {x : Nat} (h : IsF x) : finB x = true := (isF_iff x).1 h
theorem fin_false {x : Nat} (h : ¬ IsF x) : finB x = false := by
  cases hb : finB x
  · rfl
  · exact absurd ((isF_iff x).2 hb) h
theorem sE_not {x : Nat} (h : ¬ IsF x) : sE x = 1 := by
  rw [sE, fin_false h]; rfl
theorem sE_fin {x : Nat} (h : IsF x) : sE x = Sp.wh (fLt x 3296722944 || (fGt x 1149239296 || fNe (fMul x 1098907648) (fOf (lev x)))) 3 := by
  rw [sE, fin_true h]; rfl
theorem in_range {x : Nat} (h : IsF x) (h1 : fLt x 3296722944 = false) (h2 : fGt x 1149239296 = false) :
    (val x).natAbs ≤ 1024 * one ∧ fMulOk x 1098907648 ∧ fMulOk 1098907648 x ∧ fIntOk (fMul x 1098907648) ∧ IsF (fMul x 1098907648) ∧ val (fMul x 1098907648) = val x * 16 ∧ (lev x).natAbs ≤ 1048576 := by
  have hb := range_test h h1 h2
  obtain ⟨m1, m2, m3⟩ := mul_16 h hb
  obtain ⟨i1, i2, _⟩ := int_ok m2 (by rw [m3, Int.natAbs_mul, show Int.natAbs 16 = 16 from rfl]; omega)
  exact ⟨hb, m1, (mulOk_comm _ _).1 m1, i1, m2, m3, i2⟩
theorem smp {x : Nat} (h : sE x = 0) : Smp x := by
  have hf : IsF x := by
    by_cases hn : IsF x
    · exact hn
    · rw [sE_not hn] at h; cases h
  rw [sE_fin hf] at h
  have h := (Qq.wh_zero (by decide)).1 h
  simp only [Bool.or_eq_false_iff] at h
  obtain ⟨h1, h2, h3⟩ := h
  obtain ⟨hb, m1, m2, i1, f1, e1, l1⟩ := in_range hf h1 h2
  obtain ⟨f2, e2⟩ := of_val (n := lev x) (by omega)
  rw [ne_val f1 f2, e1, e2] at h3
  have h3 : val x * 16 = lev x * (one : Int) := by simpa using h3
  refine ⟨hf, h3, ?_, m1, m2, i1⟩
  have hp := one_pos
  have h4 : (lev x).natAbs * one ≤ 16384 * one := by
    have e := congrArg Int.natAbs h3
    rw [Int.natAbs_mul, Int.natAbs_mul] at e
    have e2 : (one : Int).natAbs = one := Int.natAbs_natCast one
    rw [e2, show Int.natAbs 16 = 16 from rfl] at e
    rw [← e]
    omega
  exact Nat.le_of_mul_le_mul_right h4 hp
theorem ne_comm {x y : Nat} (hx : IsF x) (hy : IsF y) : fNe x y = fNe y x := by
  rw [ne_val hx hy, ne_val hy hx]
  exact decide_eq_decide.2 ⟨fun h e => h e.symm, fun h e => h e.symm⟩
end Fl
namespace Qq
noncomputable section
noncomputable def hsFl1 : Hs Tryz.prog where
  nd y := if y = 102 then some (hDf Tryz.prog) else none
  au := auF []
noncomputable def hsFl0 : Hs Tryz.prog where
  au := auF []
theorem cpS_t (x : Nat) (K : Value → Heap → Prop) :
    (fnP Tryz.prog cs2 hsFl1 (89 : FuncId) [Value.float FloatKind.f32 x, Value.int IntKind.i64 (1024 : Int)] [] K) =
    (∀ (x_1 : Nat), Is (fDif x x x_1) → Is True ∧ br (fNe x_1 (0 : Nat)) (K (Value.int IntKind.i64 (1 : Int)) noH) (Is True ∧ Is True ∧ br (fLt x (3296722944 : Nat)) (K (Value.int IntKind.i64 (3 : Int)) noH) (Is True ∧ Is True ∧ br (fGt x (1149239296 : Nat)) (K (Value.int IntKind.i64 (3 : Int)) noH) (Is (fMulOk x (1098907648 : Nat)) ∧ Is (fMulOk x (1098907648 : Nat)) ∧ Is (fIntOk (fMul x (1098907648 : Nat))) ∧ Is True ∧ Is True ∧ K (Value.int IntKind.i64 (wh (fNe (fMul x (1098907648 : Nat)) (fOf (Sp.fInt (fMul x (1098907648 : Nat))))) (3 : Int))) noH)))) := by kernel_rfl
theorem cpSR_t (x : Nat) (K : Value → Heap → Prop) :
    (fnP Tryz.prog cs2 hsFl0 (62 : FuncId) [Value.float FloatKind.f32 x, Value.int IntKind.i64 (1024 : Int)] [] K) =
    (Is True ∧ br (fNe x x) (K (Value.int IntKind.i64 (1 : Int)) noH) (Is True ∧ br (fGt x (2139095039 : Nat)) (K (Value.int IntKind.i64 (1 : Int)) noH) (Is True ∧ br (fLt x (4286578687 : Nat)) (K (Value.int IntKind.i64 (1 : Int)) noH) (Is True ∧ Is True ∧ br (fLt x (3296722944 : Nat)) (K (Value.int IntKind.i64 (3 : Int)) noH) (Is True ∧ Is True ∧ br (fGt x (1149239296 : Nat)) (K (Value.int IntKind.i64 (3 : Int)) noH) (Is (fMulOk (1098907648 : Nat) x) ∧ Is (fIntOk (fMul (1098907648 : Nat) x)) ∧ Is True ∧ Is (fMulOk (1098907648 : Nat) x) ∧ Is True ∧ br (fNe (fOf (Sp.fInt (fMul (1098907648 : Nat) x))) (fMul (1098907648 : Nat) x)) (K (Value.int IntKind.i64 (3 : Int)) noH) (K (Value.int IntKind.i64 (0 : Int)) noH))))))) := by kernel_rfl
theorem lv_t (x : Nat) (K : Value → Heap → Prop) :
    (fnP Tryz.prog cs2 hsFl0 (104 : FuncId) [Value.float FloatKind.f32 x] [] K) =
    (Is (fMulOk (1098907648 : Nat) x) ∧ Is (fIntOk (fMul (1098907648 : Nat) x)) ∧ K (Value.int IntKind.i64 (Sp.fInt (fMul (1098907648 : Nat) x))) noH) := by kernel_rfl
theorem nz_t (x : Nat) (K : Value → Heap → Prop) :
    (fnP Tryz.prog cs2 hsFl0 (91 : FuncId) [Value.float FloatKind.f32 x] [] K) =
    (Is True ∧ K (Value.bool (fNe x (0 : Nat))) noH) := by kernel_rfl
theorem okSmp : Ok Tryz.prog 89 orcSmp := by
  intro args H ret H' h
  unfold orcSmp at h
  split at h
  · rename_i x
    cases h
    refine fnP_res hm cs2_ok (hs := hsFl1) ?_
    rw [cpS_t]
    intro r hr
    by_cases hf : Fl.IsF x
    · rw [Fl.dif_fin hf hr.out, Fl.sE_fin hf]
      refine ⟨⟨trivial⟩, br_of (fun h => by cases h) (fun _ => ⟨⟨trivial⟩, ⟨trivial⟩, br_of (fun h1 => ?_) (fun h1 => ⟨⟨trivial⟩, ⟨trivial⟩, br_of (fun h2 => ?_) (fun h2 => ?_)⟩)⟩)⟩
      · rw [h1]; exact ⟨by first | trivial | rfl, by first | trivial | rfl⟩
      · rw [h1, h2]; exact ⟨by first | trivial | rfl, by first | trivial | rfl⟩
      · obtain ⟨_, m1, _, i1, _⟩ := Fl.in_range hf h1 h2
        rw [h1, h2]
        exact ⟨⟨m1⟩, ⟨m1⟩, ⟨i1⟩, ⟨trivial⟩, ⟨trivial⟩, by first | trivial | rfl, by first | trivial | rfl⟩
    · rw [Fl.dif_not hf hr.out, Fl.sE_not hf]
      exact ⟨⟨trivial⟩, br_of (fun _ => ⟨by first | trivial | rfl, by first | trivial | rfl⟩) (fun h => by cases h)⟩
  · cases h
theorem okSmpR : Ok Tryz.prog 62 orcSmp := by
  intro args H ret H' h
  unfold orcSmp at h
  split at h
  · rename_i x
    cases h
    refine fnP_res hm cs2_ok (hs := hsFl0) ?_
    rw [cpSR_t]
    have ht := Fl.form_test x
    by_cases hf : Fl.IsF x
    · rw [Fl.fin_true hf] at ht
      simp only [Bool.or_eq_false_iff, Bool.not_true] at ht
      obtain ⟨t1, t2, t3⟩ := ht
      rw [t1, t2, t3, Fl.sE_fin hf]
      refine ⟨⟨trivial⟩, br_of (fun h => by cases h) (fun _ => ⟨⟨trivial⟩, br_of (fun h => by cases h) (fun _ => ⟨⟨trivial⟩, br_of (fun h => by cases h) (fun _ => ⟨⟨trivial⟩, ⟨trivial⟩, br_of (fun h1 => ?_) (fun h1 => ⟨⟨trivial⟩, ⟨trivial⟩, br_of (fun h2 => ?_) (fun h2 => ?_)⟩)⟩)⟩)⟩)⟩
      · rw [h1]; exact ⟨by first | trivial | rfl, by first | trivial | rfl⟩
      · rw [h1, h2]; exact ⟨by first | trivial | rfl, by first | trivial | rfl⟩
      · obtain ⟨_, m1, m2, i1, f1, e1, l1⟩ := Fl.in_range hf h1 h2
        obtain ⟨f2, _⟩ := Fl.of_val (n := lev x) (by omega)
        rw [h1, h2, Fl.mul_comm16 1098907648 x]
        have ec : fNe (fOf (Sp.fInt (fMul x 1098907648))) (fMul x 1098907648) = fNe (fMul x 1098907648) (fOf (lev x)) := Fl.ne_comm f2 f1
        rw [ec]
        refine ⟨⟨m2⟩, ⟨i1⟩, ⟨trivial⟩, ⟨m2⟩, ⟨trivial⟩, br_of (fun h3 => ?_) (fun h3 => ?_)⟩
        · rw [h3]; exact ⟨by first | trivial | rfl, by first | trivial | rfl⟩
        · rw [h3]; exact ⟨by first | trivial | rfl, by first | trivial | rfl⟩
    · rw [Fl.fin_false hf] at ht
      simp only [Bool.not_false, Bool.or_eq_true] at ht
      rw [Fl.sE_not hf]
      refine ⟨⟨trivial⟩, br_of (fun _ => ⟨by first | trivial | rfl, by first | trivial | rfl⟩) (fun t1 => ⟨⟨trivial⟩, br_of (fun _ => ⟨by first | trivial | rfl, by first | trivial | rfl⟩) (fun t2 => ⟨⟨trivial⟩, br_of (fun _ => ⟨by first | trivial | rfl, by first | trivial | rfl⟩) (fun t3 => ?_)⟩)⟩)⟩
      rw [t1, t2, t3] at ht
      simp at ht
  · cases h
noncomputable def s3 : List (Nat × Orc) := (89, orcSmp) :: s2
theorem s3_all : ∀ p ∈ s3, Ok Tryz.prog p.1 p.2 := all_cons okSmp s2_all
noncomputable def cs3 : CallF := ctx Tryz.prog s3
theorem cs3_ok : CallOK Tryz.prog cs3 := ctx_ok hm s3_all
noncomputable def sr3 : List (Nat × Orc) := [(62, orcSmp)]
noncomputable def csr3 : CallF := ctx Tryz.prog sr3
theorem csr3_ok : CallOK Tryz.prog csr3 := ctx_ok hm (all_cons okSmpR all_nil)
theorem cs1_t (x : Nat) (K : Value → Heap → Prop) :
    (fnP Tryz.prog cs3 h0 (66 : FuncId) [Value.float FloatKind.f32 x] [] K) =
    (K (Value.int IntKind.i64 (sE x)) noH) := by kernel_rfl
theorem csr1_t (x : Nat) (K : Value → Heap → Prop) :
    (fnP Tryz.prog csr3 h0 (24 : FuncId) [Value.float FloatKind.f32 x] [] K) =
    (K (Value.int IntKind.i64 (sE x)) noH) := by kernel_rfl
theorem okSm1 : Ok Tryz.prog 66 orcSm1 := by
  intro args H ret H' h
  unfold orcSm1 at h
  split at h
  · cases h
    refine fnP_res hm cs3_ok (hs := h0) ?_
    rw [cs1_t]
    exact ⟨by first | trivial | rfl, by first | trivial | rfl⟩
  · cases h
theorem okSm1R : Ok Tryz.prog 24 orcSm1 := by
  intro args H ret H' h
  unfold orcSm1 at h
  split at h
  · cases h
    refine fnP_res hm csr3_ok (hs := h0) ?_
    rw [csr1_t]
    exact ⟨by first | trivial | rfl, by first | trivial | rfl⟩
  · cases h
/- The integer of a sample. -/
noncomputable def orcLev : OrcV
  | [.float .f32 x], [] => some (.int .i64 (lev x), [], sE x = 0)
  | _, _ => none
theorem okLev : OkV Tryz.prog 104 orcLev := by
  intro args H ret H' vc h hv
  unfold orcLev at h
  split at h
  · rename_i x
    cases h
    have hs := Fl.smp hv
    refine fnP_res hm cs2_ok (hs := hsFl0) ?_
    rw [lv_t, Fl.mul_comm16 1098907648 x]
    exact ⟨⟨hs.m2⟩, ⟨hs.i1⟩, by first | trivial | rfl, by first | trivial | rfl⟩
  · cases h
noncomputable def orcNz : Orc
  | [.float .f32 x], [] => some (.bool (fNe x 0), [])
  | _, _ => none
theorem okNz : Ok Tryz.prog 91 orcNz := by
  intro args H ret H' h
  unfold orcNz at h
  split at h
  · cases h
    refine fnP_res hm cs2_ok (hs := hsFl0) ?_
    rw [nz_t]
    exact ⟨⟨trivial⟩, by first | trivial | rfl, by first | trivial | rfl⟩
  · cases h
end
end Qq
end
section
/- Holes, and what is known. -/
open Go Go.Vm Go.Proofs Sp
namespace Sp
noncomputable section
noncomputable def flts (xs : List Nat) : List Value := xs.map (Value.float .f32)
/-- Whether an index lies in no hole. -/
noncomputable def knB : List Int → Int → Bool
  | a :: b :: r, i => !(decide (a ≤ i) && decide (i < b)) && knB r i
  | _, _ => true
noncomputable def hix : List Int → Int → Nat → Int
  | a :: b :: r, i, k => if (decide (a ≤ i) && decide (i < b)) = true then (k : Int) else hix r i (k + 1)
  | _, _, _ => -1
noncomputable def hchk (n : Int) : List Int → Int → Int
  | a :: b :: r, last => sel (fi [wh (decide (a < 0) || (decide (b ≤ a) || decide (n < b))) 14, wh (decide (a ≤ last)) 11]) (hchk n r b)
  | _, _ => 0
noncomputable def nzB (x : Nat) : Bool := fNe x 0
noncomputable def nzI : List Nat → Nat → Int
  | [], _ => -1
  | x :: r, k => if nzB x = true then (k : Int) else nzI r (k + 1)
/-- Nothing but 0 in the holes. -/
noncomputable def hzH (xs : List Nat) : List Int → Bool
  | a :: b :: r => !((xs.drop a.toNat).take (b.toNat - a.toNat)).any nzB && hzH xs r
  | _ => true
end
end Sp
namespace Qq
noncomputable section
noncomputable def runA (nm : ByteArray) (f : Int) (i n c j k d : Nat) : List Value := [.string nm, .int .i64 f, .slice (some ⟨i, 0, none⟩) n c, .slice (some ⟨j, 0, none⟩) k d]
noncomputable def hp2r (xs : List Nat) (hs : List Int) (m1 w1 m2 w2 : Bool) (l : List (Option AObj)) : Heap := some (.row (flts xs) 1 m1 w1 true) :: some (.row (ints hs) 2 m2 w2 true) :: l
noncomputable def xF (xs : List Nat) (off : Nat) : Value := .float .f32 (xs.getD off 0)
/- An index within a hole. -/
theorem h1_t (a : Int) (b : Int) (i : Int) (K : Value → Heap → Prop) :
    (fnP Tryz.prog c0 h0 (106 : FuncId) [Value.agg #[Value.int IntKind.i64 a, Value.int IntKind.i64 b], Value.pointer (some { block := (0 : Nat), off := (0 : Nat) })] [some (AObj.row [Value.int IntKind.i64 i] (0 : Nat) false true true)] K) =
    (br (decide (a ≤ i)) (K (Value.bool (decide (i < b))) (some (AObj.row [Value.int IntKind.i64 i] (0 : Nat) false true true) :: noH)) (K (Value.bool false) (some (AObj.row [Value.int IntKind.i64 i] (0 : Nat) false true true) :: noH))) := by kernel_rfl
noncomputable def orcH1 : Orc
  | [.agg ⟨[.int .i64 a, .int .i64 b]⟩, .pointer (some ⟨0, 0, none⟩)], [some (.row [.int .i64 i] 0 false true true)] => some (.bool (decide (a ≤ i) && decide (i < b)), [some (.row [.int .i64 i] 0 false true true)])
  | _, _ => none
theorem okH1 : Ok Tryz.prog 106 orcH1 := by
  intro args H ret H' h
  unfold orcH1 at h
  split at h
  · cases h
    refine fnP_res hm c0_ok (hs := h0) ?_
    rw [h1_t]
    refine br_of (fun h => ?_) (fun h => ?_)
    · rw [h]; exact ⟨by first | trivial | rfl, by first | trivial | rfl⟩
    · rw [h]; exact ⟨by first | trivial | rfl, by first | trivial | rfl⟩
  · cases h
noncomputable def cloH : Value := .func (.func 106) #[] #[.pointer (some ⟨1, 0, none⟩)]
noncomputable def lpHx (hs : List Int) (k c : Nat) (m : Bool) (i : Int) : Lp where
  σ := Nat
  E s := slots 19 [(0, .slice (some ⟨0, 0, none⟩) k c), (1, cloH), (7, .int .i64 (Int.ofNat k)), (8, .int .i64 (Int.ofNat s))]
  Hp _ := [some (.row (ints hs) 2 m false true), some (.row [.int .i64 i] 0 false true true)]
  I s := s ≤ k ∧ hix (hs.drop (s * 2)) i s = hix hs i 0
  m s := k - s
noncomputable def hsHx (hs : List Int) (k c : Nat) (m : Bool) (i : Int) : Hs Tryz.prog where
  op y := if y = 403 then some (hIa Tryz.prog) else if y = 404 then some (hLd Tryz.prog (z2 hs)) else none
  lp _ := some (lpHx hs k c m i)
  cl _ := keep 19 [0, 1, 7, 8]
  au := au0 Tryz.prog
noncomputable def tH1 : List (Nat × Orc) := [(106, orcH1)]
noncomputable def cH1 : CallF := ctx Tryz.prog tH1
theorem cH1_ok : CallOK Tryz.prog cH1 := ctx_ok hm (all_cons okH1 all_nil)
theorem hx_t (hs : List Int) (k : Nat) (c : Nat) (m : Bool) (i : Int) (K : Value → Heap → Prop) :
    (fnP Tryz.prog cH1 (hsHx hs k c m i) (107 : FuncId) [Value.slice (some { block := (0 : Nat), off := (0 : Nat) }) k c, cloH] [some (AObj.row (ints hs) (2 : Nat) m false true), some (AObj.row [Value.int IntKind.i64 i] (0 : Nat) false true true)] K) =
    ((∃ (s : Nat), Is (s ≤ k ∧ hix (List.drop (s * (2 : Nat)) hs) i s = hix hs i (0 : Nat)) ∧ [Value.slice (some { block := (0 : Nat), off := (0 : Nat) }) k c, Value.func (Fn.func (106 : Nat)) #[] #[Value.pointer (some { block := (1 : Nat), off := (0 : Nat) })], poi, poi, poi, poi, poi, Value.int IntKind.i64 (↑k : Int), Value.int IntKind.i64 (0 : Int), poi, poi, poi, poi, poi, poi, poi, poi, poi, poi] = [Value.slice (some { block := (0 : Nat), off := (0 : Nat) }) k c, Value.func (Fn.func (106 : Nat)) #[] #[Value.pointer (some { block := (1 : Nat), off := (0 : Nat) })], poi, poi, poi, poi, poi, Value.int IntKind.i64 (↑k : Int), Value.int IntKind.i64 (↑s : Int), poi, poi, poi, poi, poi, poi, poi, poi, poi, poi] ∧ some (AObj.row (ints hs) (2 : Nat) m false true) :: some (AObj.row [Value.int IntKind.i64 i] (0 : Nat) false true true) :: noH = some (AObj.row (ints hs) (2 : Nat) m false true) :: some (AObj.row [Value.int IntKind.i64 i] (0 : Nat) false true true) :: noH) ∧ ∀ (s : Nat), Is (s ≤ k ∧ hix (List.drop (s * (2 : Nat)) hs) i s = hix hs i (0 : Nat)) → br (decide ((↑s : Int) < (↑k : Int))) (Is ((0 : Int) ≤ (↑s : Int) ∧ (↑s : Int) < (↑k : Int)) ∧ Is ((if (0 : Nat) + Int.toNat (↑s : Int) * (2 : Nat) + (2 : Nat) ≤ List.length (ints hs) then some (Value.agg (List.toArray (List.take (2 : Nat) (List.drop ((0 : Nat) + Int.toNat (↑s : Int) * (2 : Nat)) (ints hs))))) else none) = some (Value.agg #[Value.int IntKind.i64 (List.getD hs ((0 : Nat) + Int.toNat (↑s : Int) * (2 : Nat)) (0 : Int)), Value.int IntKind.i64 (List.getD hs ((0 : Nat) + Int.toNat (↑s : Int) * (2 : Nat) + (1 : Nat)) (0 : Int))])) ∧ br (decide (List.getD hs ((0 : Nat) + Int.toNat (↑s : Int) * (2 : Nat)) (0 : Int) ≤ i) && decide (i < List.getD hs ((0 : Nat) + Int.toNat (↑s : Int) * (2 : Nat) + (1 : Nat)) (0 : Int))) (K (Value.int IntKind.i64 (↑s : Int)) (some (AObj.row (ints hs) (2 : Nat) m false true) :: some (AObj.row [Value.int IntKind.i64 i] (0 : Nat) false true true) :: noH)) (∃ (s' : Nat), Is (s' ≤ k ∧ hix (List.drop (s' * (2 : Nat)) hs) i s' = hix hs i (0 : Nat)) ∧ Is (k - s' < k - s) ∧ [Value.slice (some { block := (0 : Nat), off := (0 : Nat) }) k c, Value.func (Fn.func (106 : Nat)) #[] #[Value.pointer (some { block := (1 : Nat), off := (0 : Nat) })], poi, poi, poi, poi, poi, Value.int IntKind.i64 (↑k : Int), Value.int IntKind.i64 (IntKind.wrap IntKind.i64 ((↑s : Int) + (1 : Int))), poi, poi, poi, poi, poi, poi, poi, poi, poi, poi] = [Value.slice (some { block := (0 : Nat), off := (0 : Nat) }) k c, Value.func (Fn.func (106 : Nat)) #[] #[Value.pointer (some { block := (1 : Nat), off := (0 : Nat) })], poi, poi, poi, poi, poi, Value.int IntKind.i64 (↑k : Int), Value.int IntKind.i64 (↑s' : Int), poi, poi, poi, poi, poi, poi, poi, poi, poi, poi] ∧ some (AObj.row (ints hs) (2 : Nat) m false true) :: some (AObj.row [Value.int IntKind.i64 i] (0 : Nat) false true true) :: noH = some (AObj.row (ints hs) (2 : Nat) m false true) :: some (AObj.row [Value.int IntKind.i64 i] (0 : Nat) false true true) :: noH)) (K (Value.int IntKind.i64 (-1 : Int)) (some (AObj.row (ints hs) (2 : Nat) m false true) :: some (AObj.row [Value.int IntKind.i64 i] (0 : Nat) false true true) :: noH))) := by kernel_rfl
/- IsKnown of the reference. -/
/- A sample that is not 0. -/
noncomputable def lpNz (xs : List Nat) (off n c : Nat) : Lp where
  σ := Nat
  E s := slots 19 [(0, .slice (some ⟨0, off, none⟩) n c), (1, .func (.func 91) #[] #[]), (7, .int .i64 (Int.ofNat n)), (8, .int .i64 (Int.ofNat s))]
  Hp _ := [some (.row (flts xs) 1 true true true)]
  I s := s ≤ n ∧ nzI (((xs.drop off).take n).drop s) s = nzI ((xs.drop off).take n) 0
  m s := n - s
noncomputable def hsNz (xs : List Nat) (off n c : Nat) : Hs Tryz.prog where
  op y := if y = 403 then some (hIa Tryz.prog) else if y = 404 then some (hLd Tryz.prog (xF xs)) else none
  lp _ := some (lpNz xs off n c)
  cl _ := keep 19 [0, 1, 7, 8]
  au := au0 Tryz.prog
noncomputable def tNz : List (Nat × Orc) := [(91, orcNz)]
noncomputable def cNz : CallF := ctx Tryz.prog tNz
theorem cNz_ok : CallOK Tryz.prog cNz := ctx_ok hm (all_cons okNz all_nil)
theorem nzi_t (xs : List Nat) (off : Nat) (n : Nat) (c : Nat) (K : Value → Heap → Prop) :
    (fnP Tryz.prog cNz (hsNz xs off n c) (100 : FuncId) [Value.slice (some { block := (0 : Nat), off := off }) n c, Value.func (Fn.func (91 : FuncId)) #[] #[]] [some (AObj.row (flts xs) (1 : Nat) true true true)] K) =
    ((∃ (s : Nat), Is (s ≤ n ∧ nzI (List.drop s (List.take n (List.drop off xs))) s = nzI (List.take n (List.drop off xs)) (0 : Nat)) ∧ [Value.slice (some { block := (0 : Nat), off := off }) n c, Value.func (Fn.func (91 : Nat)) #[] #[], poi, poi, poi, poi, poi, Value.int IntKind.i64 (↑n : Int), Value.int IntKind.i64 (0 : Int), poi, poi, poi, poi, poi, poi, poi, poi, poi, poi] = [Value.slice (some { block := (0 : Nat), off := off }) n c, Value.func (Fn.func (91 : Nat)) #[] #[], poi, poi, poi, poi, poi, Value.int IntKind.i64 (↑n : Int), Value.int IntKind.i64 (↑s : Int), poi, poi, poi, poi, poi, poi, poi, poi, poi, poi] ∧ some (AObj.row (flts xs) (1 : Nat) true true true) :: noH = some (AObj.row (flts xs) (1 : Nat) true true true) :: noH) ∧ ∀ (s : Nat), Is (s ≤ n ∧ nzI (List.drop s (List.take n (List.drop off xs))) s = nzI (List.take n (List.drop off xs)) (0 : Nat)) → br (decide ((↑s : Int) < (↑n : Int))) (Is ((0 : Int) ≤ (↑s : Int) ∧ (↑s : Int) < (↑n : Int)) ∧ Is ((flts xs)[off + Int.toNat (↑s : Int) * (1 : Nat)]? = some (Value.float FloatKind.f32 (List.getD xs (off + Int.toNat (↑s : Int) * (1 : Nat)) (0 : Nat)))) ∧ br (fNe (List.getD xs (off + Int.toNat (↑s : Int) * (1 : Nat)) (0 : Nat)) (0 : Nat)) (K (Value.int IntKind.i64 (↑s : Int)) (some (AObj.row (flts xs) (1 : Nat) true true true) :: noH)) (∃ (s' : Nat), Is (s' ≤ n ∧ nzI (List.drop s' (List.take n (List.drop off xs))) s' = nzI (List.take n (List.drop off xs)) (0 : Nat)) ∧ Is (n - s' < n - s) ∧ [Value.slice (some { block := (0 : Nat), off := off }) n c, Value.func (Fn.func (91 : Nat)) #[] #[], poi, poi, poi, poi, poi, Value.int IntKind.i64 (↑n : Int), Value.int IntKind.i64 (IntKind.wrap IntKind.i64 ((↑s : Int) + (1 : Int))), poi, poi, poi, poi, poi, poi, poi, poi, poi, poi] = [Value.slice (some { block := (0 : Nat), off := off }) n c, Value.func (Fn.func (91 : Nat)) #[] #[], poi, poi, poi, poi, poi, Value.int IntKind.i64 (↑n : Int), Value.int IntKind.i64 (↑s' : Int), poi, poi, poi, poi, poi, poi, poi, poi, poi, poi] ∧ some (AObj.row (flts xs) (1 : Nat) true true true) :: noH = some (AObj.row (flts xs) (1 : Nat) true true true) :: noH)) (K (Value.int IntKind.i64 (-1 : Int)) (some (AObj.row (flts xs) (1 : Nat) true true true) :: noH))) := by kernel_rfl
theorem flts_len (xs : List Nat) : (flts xs).length = xs.length := by simp [flts]
theorem flts_at {xs : List Nat} {i : Nat} (h : i < xs.length) : (flts xs)[i]? = some (.float .f32 (xs.getD i 0)) := by
  simp [flts, List.getElem?_map, List.getElem?_eq_getElem h, List.getD_eq_getElem?_getD]
theorem flts_atom (xs : List Nat) : ∀ v ∈ flts xs, atom v = true := fun v hv => by
  obtain ⟨x, _, rfl⟩ := List.mem_map.1 hv
  rfl
theorem spn_drop {hs : List Int} {s : Nat} (h : s * 2 + 2 ≤ hs.length) : hs.drop (s * 2) = hs.getD (s * 2) 0 :: hs.getD (s * 2 + 1) 0 :: hs.drop ((s + 1) * 2) := by
  have h1 : s * 2 < hs.length := by omega
  have h2 : s * 2 + 1 < hs.length := by omega
  have e : (s + 1) * 2 = s * 2 + 1 + 1 := by omega
  rw [List.drop_eq_getElem_cons h1, List.drop_eq_getElem_cons h2, e]
  simp only [List.getD_eq_getElem?_getD, List.getElem?_eq_getElem h1, List.getElem?_eq_getElem h2, Option.getD_some]
theorem ldh {hs : List Int} {i : Nat} (h : i + 2 ≤ hs.length) : (if i + 2 ≤ (ints hs).length then some (Value.agg (List.toArray (List.take 2 (List.drop i (ints hs))))) else none) =
    some (.agg #[.int .i64 (hs.getD i 0), .int .i64 (hs.getD (i + 1) 0)]) := by
  rw [ints_len, if_pos h, ints_pair h]
theorem hix_kn : ∀ (hs : List Int) (i : Int) (k : Nat), decide (0 ≤ hix hs i k) = !knB hs i
  | [], _, _ => rfl
  | [_], _, _ => rfl
  | a :: b :: r, i, k => by
    rw [hix, knB]
    cases h : decide (a ≤ i) && decide (i < b) with
    | true => simp
    | false => simpa using hix_kn r i (k + 1)
set_option maxRecDepth 100000 in
theorem hx_ok {hs : List Int} {k c : Nat} {m : Bool} {i : Int} (hk : hs.length = k * 2) (h9 : k ≤ 100000) :
    SmallRes Tryz.prog 107 [.slice (some ⟨0, 0, none⟩) k c, cloH] [some (.row (ints hs) 2 m false true), some (.row [.int .i64 i] 0 false true true)] (.int .i64 (hix hs i 0)) [some (.row (ints hs) 2 m false true), some (.row [.int .i64 i] 0 false true true)] := by
  refine fnP_res hm cH1_ok (hs := hsHx hs k c m i) ?_
  rw [hx_t]
  refine ⟨⟨(0 : Nat), ⟨by omega, by rw [Nat.zero_mul, List.drop_zero]⟩, by first | trivial | rfl, by first | trivial | rfl⟩, fun s hs' => br_of (fun hc => ?_) (fun hc => ?_)⟩
  · have hc := lt_of_dec hc
    obtain ⟨i1, i2⟩ := hs'.out
    rw [spn_drop (show s * 2 + 2 ≤ hs.length by omega), hix] at i2
    simp only [Nat.zero_add, Int.toNat_natCast]
    refine ⟨⟨by omega, by omega⟩, ⟨ldh (by omega)⟩, br_of (fun hb => ?_) (fun hb => ⟨s + 1, ⟨hc, ?_⟩, ⟨by omega⟩, by rw [up1 hc (by omega)], by first | trivial | rfl⟩)⟩
    · rw [if_pos hb] at i2
      rw [← i2]
      exact ⟨by first | trivial | rfl, by first | trivial | rfl⟩
    · rw [if_neg (by rw [hb]; decide)] at i2
      exact i2
  · have hc := ge_of_dec hc
    obtain ⟨i1, i2⟩ := hs'.out
    rw [List.drop_eq_nil_of_le (by omega), hix] at i2
    · rw [← i2]
      exact ⟨by first | trivial | rfl, by first | trivial | rfl⟩
    · intro a b r h; cases h
noncomputable def orcHx (hs : List Int) : OrcV
  | [.slice (some ⟨0, 0, none⟩) k _, .func (.func 106) ⟨[]⟩ ⟨[.pointer (some ⟨1, 0, none⟩)]⟩], [some (.row e1 2 m false true), some (.row [.int .i64 i] 0 false true true)] =>
    some (.int .i64 (hix hs i 0), [some (.row e1 2 m false true), some (.row [.int .i64 i] 0 false true true)], e1 = ints hs ∧ hs.length = k * 2 ∧ k ≤ 100000)
  | _, _ => none
theorem okHx (hs : List Int) : OkV Tryz.prog 107 (orcHx hs) := by
  intro args H ret H' vc h hv
  unfold orcHx at h
  split at h
  · cases h
    obtain ⟨rfl, h1, h2⟩ := hv
    exact hx_ok h1 h2
  · cases h
noncomputable def hsHc (hs : List Int) : Hs Tryz.prog where
  au := auCalls [(107, hCa Tryz.prog 107 (orcHx hs) (okHx hs))]
theorem hc_t (hs : List Int) (k : Nat) (c : Nat) (m : Bool) (i : Int) (K : Value → Heap → Prop) :
    (fnP Tryz.prog c0 (hsHc hs) (105 : FuncId) [Value.slice (some { block := (0 : Nat), off := (0 : Nat) }) k c, cloH] [some (AObj.row (ints hs) (2 : Nat) m false true), some (AObj.row [Value.int IntKind.i64 i] (0 : Nat) false true true)] K) =
    (Is (ints hs = ints hs ∧ List.length hs = k * (2 : Nat) ∧ k ≤ (100000 : Nat)) ∧ K (Value.bool (decide ((0 : Int) ≤ hix hs i (0 : Nat)))) (some (AObj.row (ints hs) (2 : Nat) m false true) :: some (AObj.row [Value.int IntKind.i64 i] (0 : Nat) false true true) :: noH)) := by kernel_rfl
noncomputable def orcHc (hs : List Int) : OrcV
  | [.slice (some ⟨0, 0, none⟩) k _, .func (.func 106) ⟨[]⟩ ⟨[.pointer (some ⟨1, 0, none⟩)]⟩], [some (.row e1 2 m false true), some (.row [.int .i64 i] 0 false true true)] =>
    some (.bool (!knB hs i), [some (.row e1 2 m false true), some (.row [.int .i64 i] 0 false true true)], e1 = ints hs ∧ hs.length = k * 2 ∧ k ≤ 100000)
  | _, _ => none
theorem okHc (hs : List Int) : OkV Tryz.prog 105 (orcHc hs) := by
  intro args H ret H' vc h hv
  unfold orcHc at h
  split at h
  · rename_i k c e1 m i
    cases h
    obtain ⟨rfl, h1, h2⟩ := hv
    refine fnP_res hm c0_ok (hs := hsHc hs) ?_
    show fnP Tryz.prog c0 (hsHc hs) 105 [_, cloH] _ _
    rw [hc_t, ← hix_kn hs i 0]
    exact ⟨⟨by first | trivial | rfl, h1, h2⟩, by first | trivial | rfl, by first | trivial | rfl⟩
  · cases h
noncomputable def hsHd (hs : List Int) : Hs Tryz.prog where
  au := auCalls [(105, hCa Tryz.prog 105 (orcHc hs) (okHc hs))]
theorem hd_t (nm : ByteArray) (f : Int) (n : Nat) (c : Nat) (k : Nat) (d : Nat) (xs : List Nat) (hs : List Int) (m1 : Bool) (m2 : Bool) (i : Int) (K : Value → Heap → Prop) :
    (fnP Tryz.prog c0 (hsHd hs) (102 : FuncId) [Value.agg (List.toArray (runA nm f (0 : Nat) n c (1 : Nat) k d)), Value.int IntKind.i64 i] (hp2r xs hs m1 false m2 false []) K) =
    (Is (ints hs = ints hs ∧ List.length hs = k * (2 : Nat) ∧ k ≤ (100000 : Nat)) ∧ K (Value.bool !knB hs i) (some (AObj.row (flts xs) (1 : Nat) m1 false true) :: some (AObj.row (ints hs) (2 : Nat) m2 false true) :: noH)) := by kernel_rfl
noncomputable def isRn0 (xs : List Nat) (hs : List Int) (k : Nat) (e1 e2 : List Value) : Prop := e1 = flts xs ∧ e2 = ints hs ∧ hs.length = k * 2 ∧ k ≤ 100000
theorem hd_ok {nm : ByteArray} {f : Int} {n c k d : Nat} {xs : List Nat} {hs : List Int} {m1 m2 : Bool} {i : Int} (h1 : hs.length = k * 2) (h2 : k ≤ 100000) :
    SmallRes Tryz.prog 102 [.agg (runA nm f 0 n c 1 k d).toArray, .int .i64 i] (hp2r xs hs m1 false m2 false []) (.bool (!knB hs i)) (hp2r xs hs m1 false m2 false []) := by
  refine fnP_res hm c0_ok (hs := hsHd hs) ?_
  rw [hd_t]
  exact ⟨⟨by first | trivial | rfl, h1, h2⟩, by first | trivial | rfl, by first | trivial | rfl⟩
noncomputable def orcHd (xs : List Nat) (hs : List Int) : OrcV
  | [.agg ⟨[.string _, .int .i64 _, .slice (some ⟨0, 0, none⟩) _ _, .slice (some ⟨1, 0, none⟩) k _]⟩, .int .i64 i], [some (.row e1 1 m1 w true), some (.row e2 2 m2 w2 true)] =>
    some (.bool (!knB hs i), [some (.row e1 1 m1 w true), some (.row e2 2 m2 w2 true)], isRn0 xs hs k e1 e2 ∧ w = w2)
  | _, _ => none
theorem okHd (xs : List Nat) (hs : List Int) : OkV Tryz.prog 102 (orcHd xs hs) := by
  intro args H ret H' vc h hv
  unfold orcHd at h
  split at h
  · rename_i nm f n c k d i e1 m1 w e2 m2 w2
    cases h
    obtain ⟨⟨rfl, rfl, h1, h2⟩, rfl⟩ := hv
    cases w with
    | false => exact hd_ok h1 h2
    | true => exact regain (H := hp2r xs hs m1 true m2 true []) [0, 1] (hd_ok (m1 := m1) (m2 := m2) h1 h2) (by rfl) (by rfl)
  · cases h
set_option maxRecDepth 100000 in
theorem nzi_ok {xs : List Nat} {off n c : Nat} (hn : off + n ≤ xs.length) (h9 : n ≤ 100000) :
    SmallRes Tryz.prog 100 [.slice (some ⟨0, off, none⟩) n c, .func (.func 91) #[] #[]] [some (.row (flts xs) 1 true true true)] (.int .i64 (nzI ((xs.drop off).take n) 0)) [some (.row (flts xs) 1 true true true)] := by
  refine fnP_res hm cNz_ok (hs := hsNz xs off n c) ?_
  rw [nzi_t]
  have hl : ((xs.drop off).take n).length = n := by rw [List.length_take, List.length_drop]; omega
  refine ⟨⟨(0 : Nat), ⟨by omega, by rw [List.drop_zero]⟩, by first | trivial | rfl, by first | trivial | rfl⟩, fun s hs' => br_of (fun hc => ?_) (fun hc => ?_)⟩
  · have hc := lt_of_dec hc
    obtain ⟨i1, i2⟩ := hs'.out
    have e : ((xs.drop off).take n).drop s = xs.getD (off + s) 0 :: ((xs.drop off).take n).drop (s + 1) := by
      rw [List.drop_eq_getElem_cons (by omega)]
      congr 1
      simp only [List.getElem_take, List.getElem_drop, List.getD_eq_getElem?_getD, List.getElem?_eq_getElem (show off + s < xs.length by omega), Option.getD_some]
    rw [e, nzI] at i2
    simp only [Nat.mul_one, Int.toNat_natCast]
    refine ⟨⟨by omega, by omega⟩, ⟨flts_at (by omega)⟩, br_of (fun hb => ?_) (fun hb => ⟨s + 1, ⟨hc, ?_⟩, ⟨by omega⟩, by rw [up1 hc (by omega)], by first | trivial | rfl⟩)⟩
    · have hb : nzB (xs.getD (off + s) 0) = true := hb
      rw [if_pos hb] at i2
      rw [← i2]
      exact ⟨by first | trivial | rfl, by first | trivial | rfl⟩
    · have hb : nzB (xs.getD (off + s) 0) = false := hb
      rw [if_neg (by rw [hb]; decide)] at i2
      exact i2
  · have hc := ge_of_dec hc
    obtain ⟨i1, i2⟩ := hs'.out
    rw [List.drop_eq_nil_of_le (by omega), nzI] at i2
    rw [← i2]
    exact ⟨by first | trivial | rfl, by first | trivial | rfl⟩
theorem nzI_any : ∀ (l : List Nat) (k : Nat), decide (0 ≤ nzI l k) = l.any nzB
  | [], _ => rfl
  | x :: r, k => by
    rw [nzI, List.any_cons]
    cases h : nzB x with
    | true => simp
    | false => simpa using nzI_any r (k + 1)
noncomputable def orcNzi (xs : List Nat) : OrcV
  | [.slice (some ⟨0, off, none⟩) n _, .func (.func 91) ⟨[]⟩ ⟨[]⟩], [some (.row e1 1 true true true)] => some (.int .i64 (nzI ((xs.drop off).take n) 0), [some (.row e1 1 true true true)], e1 = flts xs ∧ off + n ≤ xs.length ∧ n ≤ 100000)
  | _, _ => none
theorem okNzi (xs : List Nat) : OkV Tryz.prog 100 (orcNzi xs) := by
  intro args H ret H' vc h hv
  unfold orcNzi at h
  split at h
  · cases h
    obtain ⟨rfl, h1, h2⟩ := hv
    exact nzi_ok h1 h2
  · cases h
noncomputable def hsNc (xs : List Nat) : Hs Tryz.prog where
  au := auCalls [(100, hCa Tryz.prog 100 (orcNzi xs) (okNzi xs))]
theorem nc_t (xs : List Nat) (off : Nat) (n : Nat) (c : Nat) (K : Value → Heap → Prop) :
    (fnP Tryz.prog c0 (hsNc xs) (90 : FuncId) [Value.slice (some { block := (0 : Nat), off := off }) n c, Value.func (Fn.func (91 : FuncId)) #[] #[]] [some (AObj.row (flts xs) (1 : Nat) true true true)] K) =
    (Is (flts xs = flts xs ∧ off + n ≤ List.length xs ∧ n ≤ (100000 : Nat)) ∧ K (Value.bool (decide ((0 : Int) ≤ nzI (List.take n (List.drop off xs)) (0 : Nat)))) (some (AObj.row (flts xs) (1 : Nat) true true true) :: noH)) := by kernel_rfl
noncomputable def orcNc (xs : List Nat) : OrcV
  | [.slice (some ⟨0, off, none⟩) n _, .func (.func 91) ⟨[]⟩ ⟨[]⟩], [some (.row e1 1 true true true)] => some (.bool (((xs.drop off).take n).any nzB), [some (.row e1 1 true true true)], e1 = flts xs ∧ off + n ≤ xs.length ∧ n ≤ 100000)
  | _, _ => none
theorem okNc (xs : List Nat) : OkV Tryz.prog 90 (orcNc xs) := by
  intro args H ret H' vc h hv
  unfold orcNc at h
  split at h
  · rename_i off n c e1
    cases h
    obtain ⟨rfl, h1, h2⟩ := hv
    refine fnP_res hm c0_ok (hs := hsNc xs) ?_
    show fnP Tryz.prog c0 (hsNc xs) 90 [_, .func (.func 91) #[] #[]] _ _
    rw [nc_t, ← nzI_any _ 0]
    exact ⟨⟨by first | trivial | rfl, h1, h2⟩, by first | trivial | rfl, by first | trivial | rfl⟩
  · cases h
end
end Qq
end
section
/- Runs, checked: the program. -/
open Go Go.Vm Go.Proofs Sp
namespace Sp
noncomputable section
noncomputable def runE (nm : ByteArray) (f : Int) (xs : List Nat) (n : Nat) (hs : List Int) : Int :=
  sel (fi [wh (!nameB nm) 8, wi f 0 100000000, wh (decide ((4096 : Int) < n)) 5]) (sel (fi [fi (xs.map sE), wh (decide ((100000000 : Int) < f + n)) 4]) (sel (hchk n hs (-1)) (wh (!hzH xs hs) 1)))
end
end Sp
namespace Qq
noncomputable section
/- The errors of samples. -/
noncomputable def fS1 : Value := .func (.func 66) #[] #[]
noncomputable def oneR (l : List Int) : Option AObj := some (.row (ints l) 1 true true true)
noncomputable def fR (xs : List Nat) : Option AObj := some (.row (flts xs) 1 true true true)
noncomputable def lpMe0 (xs : List Nat) (n c : Nat) : Lp where
  σ := Nat
  E _ := slots 22 [(0, .slice (some ⟨0, 0, none⟩) n c), (1, fS1), (5, .slice (some ⟨1, 0, none⟩) 0 0)]
  Hp _ := [fR xs, oneR []]
  I s := s = 0
  m _ := 0
noncomputable def lpMe (xs : List Nat) (n c : Nat) : Lp where
  σ := Nat
  E i := slots 22 [(1, fS1), (5, .slice (some ⟨1, 0, none⟩) i 0), (8, .slice (some ⟨0, 0, none⟩) n c), (9, .int .i64 (Int.ofNat n)), (10, .int .i64 (Int.ofNat i))]
  Hp i := [fR xs, oneR ((xs.take i).map sE)]
  I i := i ≤ n
  m i := n - i
noncomputable def hsMe (xs : List Nat) (n c : Nat) : Hs Tryz.prog where
  op y := if y = 400 then some (hIa Tryz.prog) else if y = 401 then some (hLd Tryz.prog (xF xs)) else if y = 505 then some (hAp Tryz.prog) else none
  cut y := if y = 2 then some (lpMe0 xs n c) else none
  lp _ := some (lpMe xs n c)
  cl y := if y = 2 then keep 22 [0, 1, 5] else keep 22 [1, 5, 8, 9, 10]
  nl y := if y = 2 then [.slot 5 1] else []
  au := au0 Tryz.prog
noncomputable def tMe : List (Nat × Orc) := [(66, orcSm1)]
noncomputable def cMe : CallF := ctx Tryz.prog tMe
theorem cMe_ok : CallOK Tryz.prog cMe := ctx_ok hm (all_cons okSm1 all_nil)
theorem me_t (xs : List Nat) (n : Nat) (c : Nat) (K : Value → Heap → Prop) :
    (fnP Tryz.prog cMe (hsMe xs n c) (65 : FuncId) [Value.slice (some { block := (0 : Nat), off := (0 : Nat) }) n c, fS1] [fR xs] K) =
    ((∃ (s : Nat), Is (s = (0 : Nat)) ∧ [Value.slice (some { block := (0 : Nat), off := (0 : Nat) }) n c, Value.func (Fn.func (66 : Nat)) #[] #[], poi, poi, poi, Value.slice (some { block := (1 : Nat), off := (0 : Nat) }) (0 : Nat) (0 : Nat), poi, poi, poi, poi, poi, poi, poi, poi, poi, poi, poi, poi, poi, poi, poi, poi] = [Value.slice (some { block := (0 : Nat), off := (0 : Nat) }) n c, Value.func (Fn.func (66 : Nat)) #[] #[], poi, poi, poi, Value.slice (some { block := (1 : Nat), off := (0 : Nat) }) (0 : Nat) (0 : Nat), poi, poi, poi, poi, poi, poi, poi, poi, poi, poi, poi, poi, poi, poi, poi, poi] ∧ some (AObj.row (flts xs) (1 : Nat) true true true) :: some (AObj.row [] (1 : Nat) true true true) :: noH = some (AObj.row (flts xs) (1 : Nat) true true true) :: some (AObj.row [] (1 : Nat) true true true) :: noH) ∧ ∀ (s : Nat), Is (s = (0 : Nat)) → (∃ (s : Nat), Is (s ≤ n) ∧ [poi, Value.func (Fn.func (66 : Nat)) #[] #[], poi, poi, poi, Value.slice (some { block := (1 : Nat), off := (0 : Nat) }) (0 : Nat) (0 : Nat), poi, poi, Value.slice (some { block := (0 : Nat), off := (0 : Nat) }) n c, Value.int IntKind.i64 (↑n : Int), Value.int IntKind.i64 (0 : Int), poi, poi, poi, poi, poi, poi, poi, poi, poi, poi, poi] = [poi, Value.func (Fn.func (66 : Nat)) #[] #[], poi, poi, poi, Value.slice (some { block := (1 : Nat), off := (0 : Nat) }) s (0 : Nat), poi, poi, Value.slice (some { block := (0 : Nat), off := (0 : Nat) }) n c, Value.int IntKind.i64 (↑n : Int), Value.int IntKind.i64 (↑s : Int), poi, poi, poi, poi, poi, poi, poi, poi, poi, poi, poi] ∧ some (AObj.row (flts xs) (1 : Nat) true true true) :: some (AObj.row [] (1 : Nat) true true true) :: noH = some (AObj.row (flts xs) (1 : Nat) true true true) :: some (AObj.row (ints (List.map sE (List.take s xs))) (1 : Nat) true true true) :: noH) ∧ ∀ (s : Nat), Is (s ≤ n) → br (decide ((↑s : Int) < (↑n : Int))) (Is ((0 : Int) ≤ (↑s : Int) ∧ (↑s : Int) < (↑n : Int)) ∧ Is ((flts xs)[(0 : Nat) + Int.toNat (↑s : Int) * (1 : Nat)]? = some (Value.float FloatKind.f32 (List.getD xs ((0 : Nat) + Int.toNat (↑s : Int) * (1 : Nat)) (0 : Nat)))) ∧ Is (List.length (ints (List.map sE (List.take s xs))) = s * (1 : Nat) ∧ (s + (1 : Nat)) * (8 : Nat) ≤ (140737488355328 : Nat) ∧ s + (1 : Nat) ≤ (9223372036854775807 : Nat)) ∧ ∃ (s' : Nat), Is (s' ≤ n) ∧ Is (n - s' < n - s) ∧ [poi, Value.func (Fn.func (66 : Nat)) #[] #[], poi, poi, poi, Value.slice (some { block := (1 : Nat), off := (0 : Nat) }) (s + (1 : Nat)) (0 : Nat), poi, poi, Value.slice (some { block := (0 : Nat), off := (0 : Nat) }) n c, Value.int IntKind.i64 (↑n : Int), Value.int IntKind.i64 (IntKind.wrap IntKind.i64 ((↑s : Int) + (1 : Int))), poi, poi, poi, poi, poi, poi, poi, poi, poi, poi, poi] = [poi, Value.func (Fn.func (66 : Nat)) #[] #[], poi, poi, poi, Value.slice (some { block := (1 : Nat), off := (0 : Nat) }) s' (0 : Nat), poi, poi, Value.slice (some { block := (0 : Nat), off := (0 : Nat) }) n c, Value.int IntKind.i64 (↑n : Int), Value.int IntKind.i64 (↑s' : Int), poi, poi, poi, poi, poi, poi, poi, poi, poi, poi, poi] ∧ some (AObj.row (flts xs) (1 : Nat) true true true) :: some (AObj.row (ints (List.map sE (List.take s xs)) ++ [Value.int IntKind.i64 (sE (List.getD xs ((0 : Nat) + Int.toNat (↑s : Int) * (1 : Nat)) (0 : Nat)))]) (1 : Nat) true true (List.all [Value.int IntKind.i64 (sE (List.getD xs ((0 : Nat) + Int.toNat (↑s : Int) * (1 : Nat)) (0 : Nat)))] atom)) :: noH = some (AObj.row (flts xs) (1 : Nat) true true true) :: some (AObj.row (ints (List.map sE (List.take s' xs))) (1 : Nat) true true true) :: noH) (K (Value.slice (some { block := (1 : Nat), off := (0 : Nat) }) s (0 : Nat)) (some (AObj.row (flts xs) (1 : Nat) true true true) :: some (AObj.row (ints (List.map sE (List.take s xs))) (1 : Nat) true true true) :: noH))) := by kernel_rfl
/- Holes. -/
noncomputable def runO (nm : ByteArray) (f : Int) (n c k d : Nat) : Option AObj := some (.row (runA nm f 0 n c 1 k d) 0 false true false)
noncomputable def lpCh1 (nm : ByteArray) (f : Int) (n c k d : Nat) (xs : List Nat) (hs : List Int) : Lp where
  σ := Nat × Int
  E s := slots 64 [(1, .pointer (some ⟨2, 0, none⟩)), (3, .int .i64 s.2), (10, .slice (some ⟨1, 0, none⟩) k d), (11, .int .i64 (Int.ofNat k)), (12, .int .i64 (Int.ofNat s.1))]
  Hp _ := hp2r xs hs true true true true [runO nm f n c k d]
  I s := s.1 ≤ k ∧ hchk n (hs.drop (s.1 * 2)) s.2 = hchk n hs (-1)
  m s := k - s.1
noncomputable def lpCh2 (nm : ByteArray) (f : Int) (n c k d : Nat) (xs : List Nat) (hs : List Int) : Lp where
  σ := Nat
  E s := slots 64 [(1, .pointer (some ⟨2, 0, none⟩)), (49, .slice (some ⟨1, 0, none⟩) k d), (50, .int .i64 (Int.ofNat k)), (51, .int .i64 (Int.ofNat s))]
  Hp _ := hp2r xs hs true true true true [runO nm f n c k d]
  I s := s ≤ k ∧ hzH xs (hs.drop (s * 2)) = hzH xs hs
  m s := k - s
noncomputable def hsCh (nm : ByteArray) (f : Int) (n c k d : Nat) (xs : List Nat) (hs : List Int) : Hs Tryz.prog where
  op y := if [400, 1200].contains y then some (hIa Tryz.prog) else if [401, 1201].contains y then some (hLd Tryz.prog (z2 hs)) else if y = 1306 then some (hSl Tryz.prog) else none
  lp y := if y = 3 then some (lpCh1 nm f n c k d xs hs) else some (lpCh2 nm f n c k d xs hs)
  cl y := if y = 3 then keep 64 [1, 3, 10, 11, 12] else keep 64 [1, 49, 50, 51]
  au := auCalls [(90, hCa Tryz.prog 90 (orcNc xs) (okNc xs))]
theorem ch_t (nm : ByteArray) (f : Int) (n : Nat) (c : Nat) (k : Nat) (d : Nat) (xs : List Nat) (hs : List Int) (K : Value → Heap → Prop) :
    (fnP Tryz.prog cs2 (hsCh nm f n c k d xs hs) (67 : FuncId) [Value.agg (List.toArray (runA nm f (0 : Nat) n c (1 : Nat) k d))] (hp2r xs hs true true true true []) K) =
    ((∃ (s : Nat × Int), Is (Prod.fst s ≤ k ∧ hchk (↑n : Int) (List.drop (Prod.fst s * (2 : Nat)) hs) (Prod.snd s) = hchk (↑n : Int) hs (-1 : Int)) ∧ [poi, Value.pointer (some { block := (2 : Nat), off := (0 : Nat) }), poi, Value.int IntKind.i64 (-1 : Int), poi, poi, poi, poi, poi, poi, Value.slice (some { block := (1 : Nat), off := (0 : Nat) }) k d, Value.int IntKind.i64 (↑k : Int), Value.int IntKind.i64 (0 : Int), poi, poi, poi, poi, poi, poi, poi, poi, poi, poi, poi, poi, poi, poi, poi, poi, poi, poi, poi, poi, poi, poi, poi, poi, poi, poi, poi, poi, poi, poi, poi, poi, poi, poi, poi, poi, poi, poi, poi, poi, poi, poi, poi, poi, poi, poi, poi, poi, poi, poi, poi] = [poi, Value.pointer (some { block := (2 : Nat), off := (0 : Nat) }), poi, Value.int IntKind.i64 (Prod.snd s), poi, poi, poi, poi, poi, poi, Value.slice (some { block := (1 : Nat), off := (0 : Nat) }) k d, Value.int IntKind.i64 (↑k : Int), Value.int IntKind.i64 (↑(Prod.fst s) : Int), poi, poi, poi, poi, poi, poi, poi, poi, poi, poi, poi, poi, poi, poi, poi, poi, poi, poi, poi, poi, poi, poi, poi, poi, poi, poi, poi, poi, poi, poi, poi, poi, poi, poi, poi, poi, poi, poi, poi, poi, poi, poi, poi, poi, poi, poi, poi, poi, poi, poi, poi] ∧ some (AObj.row (flts xs) (1 : Nat) true true true) :: some (AObj.row (ints hs) (2 : Nat) true true true) :: some (AObj.row [Value.string nm, Value.int IntKind.i64 f, Value.slice (some { block := (0 : Nat), off := (0 : Nat) }) n c, Value.slice (some { block := (1 : Nat), off := (0 : Nat) }) k d] (0 : Nat) false true (List.all [Value.string nm, Value.int IntKind.i64 f, Value.slice (some { block := (0 : Nat), off := (0 : Nat) }) n c, Value.slice (some { block := (1 : Nat), off := (0 : Nat) }) k d] atom)) :: noH = some (AObj.row (flts xs) (1 : Nat) true true true) :: some (AObj.row (ints hs) (2 : Nat) true true true) :: some (AObj.row [Value.string nm, Value.int IntKind.i64 f, Value.slice (some { block := (0 : Nat), off := (0 : Nat) }) n c, Value.slice (some { block := (1 : Nat), off := (0 : Nat) }) k d] (0 : Nat) false true false) :: noH) ∧ ∀ (s : Nat × Int), Is (Prod.fst s ≤ k ∧ hchk (↑n : Int) (List.drop (Prod.fst s * (2 : Nat)) hs) (Prod.snd s) = hchk (↑n : Int) hs (-1 : Int)) → br (decide ((↑(Prod.fst s) : Int) < (↑k : Int))) (Is ((0 : Int) ≤ (↑(Prod.fst s) : Int) ∧ (↑(Prod.fst s) : Int) < (↑k : Int)) ∧ Is ((if (0 : Nat) + Int.toNat (↑(Prod.fst s) : Int) * (2 : Nat) + (2 : Nat) ≤ List.length (ints hs) then some (Value.agg (List.toArray (List.take (2 : Nat) (List.drop ((0 : Nat) + Int.toNat (↑(Prod.fst s) : Int) * (2 : Nat)) (ints hs))))) else none) = some (Value.agg #[Value.int IntKind.i64 (List.getD hs ((0 : Nat) + Int.toNat (↑(Prod.fst s) : Int) * (2 : Nat)) (0 : Int)), Value.int IntKind.i64 (List.getD hs ((0 : Nat) + Int.toNat (↑(Prod.fst s) : Int) * (2 : Nat) + (1 : Nat)) (0 : Int))])) ∧ br (decide (List.getD hs ((0 : Nat) + Int.toNat (↑(Prod.fst s) : Int) * (2 : Nat)) (0 : Int) < (0 : Int))) (K (Value.int IntKind.i64 (fi [(14 : Int), wh (decide (List.getD hs ((0 : Nat) + Int.toNat (↑(Prod.fst s) : Int) * (2 : Nat)) (0 : Int) ≤ Prod.snd s)) (11 : Int)])) (some (AObj.row (flts xs) (1 : Nat) true true true) :: some (AObj.row (ints hs) (2 : Nat) true true true) :: noH)) (br (decide (List.getD hs ((0 : Nat) + Int.toNat (↑(Prod.fst s) : Int) * (2 : Nat) + (1 : Nat)) (0 : Int) ≤ List.getD hs ((0 : Nat) + Int.toNat (↑(Prod.fst s) : Int) * (2 : Nat)) (0 : Int))) (K (Value.int IntKind.i64 (fi [(14 : Int), wh (decide (List.getD hs ((0 : Nat) + Int.toNat (↑(Prod.fst s) : Int) * (2 : Nat)) (0 : Int) ≤ Prod.snd s)) (11 : Int)])) (some (AObj.row (flts xs) (1 : Nat) true true true) :: some (AObj.row (ints hs) (2 : Nat) true true true) :: noH)) (br (fi [wh (decide ((↑n : Int) < List.getD hs ((0 : Nat) + Int.toNat (↑(Prod.fst s) : Int) * (2 : Nat) + (1 : Nat)) (0 : Int))) (14 : Int), wh (decide (List.getD hs ((0 : Nat) + Int.toNat (↑(Prod.fst s) : Int) * (2 : Nat)) (0 : Int) ≤ Prod.snd s)) (11 : Int)] != (0 : Int)) (K (Value.int IntKind.i64 (fi [wh (decide ((↑n : Int) < List.getD hs ((0 : Nat) + Int.toNat (↑(Prod.fst s) : Int) * (2 : Nat) + (1 : Nat)) (0 : Int))) (14 : Int), wh (decide (List.getD hs ((0 : Nat) + Int.toNat (↑(Prod.fst s) : Int) * (2 : Nat)) (0 : Int) ≤ Prod.snd s)) (11 : Int)])) (some (AObj.row (flts xs) (1 : Nat) true true true) :: some (AObj.row (ints hs) (2 : Nat) true true true) :: noH)) (∃ (s' : Nat × Int), Is (Prod.fst s' ≤ k ∧ hchk (↑n : Int) (List.drop (Prod.fst s' * (2 : Nat)) hs) (Prod.snd s') = hchk (↑n : Int) hs (-1 : Int)) ∧ Is (k - Prod.fst s' < k - Prod.fst s) ∧ [poi, Value.pointer (some { block := (2 : Nat), off := (0 : Nat) }), poi, Value.int IntKind.i64 (List.getD hs ((0 : Nat) + Int.toNat (↑(Prod.fst s) : Int) * (2 : Nat) + (1 : Nat)) (0 : Int)), poi, poi, poi, poi, poi, poi, Value.slice (some { block := (1 : Nat), off := (0 : Nat) }) k d, Value.int IntKind.i64 (↑k : Int), Value.int IntKind.i64 (IntKind.wrap IntKind.i64 ((↑(Prod.fst s) : Int) + (1 : Int))), poi, poi, poi, poi, poi, poi, poi, poi, poi, poi, poi, poi, poi, poi, poi, poi, poi, poi, poi, poi, poi, poi, poi, poi, poi, poi, poi, poi, poi, poi, poi, poi, poi, poi, poi, poi, poi, poi, poi, poi, poi, poi, poi, poi, poi, poi, poi, poi, poi, poi, poi] = [poi, Value.pointer (some { block := (2 : Nat), off := (0 : Nat) }), poi, Value.int IntKind.i64 (Prod.snd s'), poi, poi, poi, poi, poi, poi, Value.slice (some { block := (1 : Nat), off := (0 : Nat) }) k d, Value.int IntKind.i64 (↑k : Int), Value.int IntKind.i64 (↑(Prod.fst s') : Int), poi, poi, poi, poi, poi, poi, poi, poi, poi, poi, poi, poi, poi, poi, poi, poi, poi, poi, poi, poi, poi, poi, poi, poi, poi, poi, poi, poi, poi, poi, poi, poi, poi, poi, poi, poi, poi, poi, poi, poi, poi, poi, poi, poi, poi, poi, poi, poi, poi, poi, poi] ∧ some (AObj.row (flts xs) (1 : Nat) true true true) :: some (AObj.row (ints hs) (2 : Nat) true true true) :: some (AObj.row [Value.string nm, Value.int IntKind.i64 f, Value.slice (some { block := (0 : Nat), off := (0 : Nat) }) n c, Value.slice (some { block := (1 : Nat), off := (0 : Nat) }) k d] (0 : Nat) false true false) :: noH = some (AObj.row (flts xs) (1 : Nat) true true true) :: some (AObj.row (ints hs) (2 : Nat) true true true) :: some (AObj.row [Value.string nm, Value.int IntKind.i64 f, Value.slice (some { block := (0 : Nat), off := (0 : Nat) }) n c, Value.slice (some { block := (1 : Nat), off := (0 : Nat) }) k d] (0 : Nat) false true false) :: noH)))) ((∃ (s : Nat), Is (s ≤ k ∧ hzH xs (List.drop (s * (2 : Nat)) hs) = hzH xs hs) ∧ [poi, Value.pointer (some { block := (2 : Nat), off := (0 : Nat) }), poi, poi, poi, poi, poi, poi, poi, poi, poi, poi, poi, poi, poi, poi, poi, poi, poi, poi, poi, poi, poi, poi, poi, poi, poi, poi, poi, poi, poi, poi, poi, poi, poi, poi, poi, poi, poi, poi, poi, poi, poi, poi, poi, poi, poi, poi, poi, Value.slice (some { block := (1 : Nat), off := (0 : Nat) }) k d, Value.int IntKind.i64 (↑k : Int), Value.int IntKind.i64 (0 : Int), poi, poi, poi, poi, poi, poi, poi, poi, poi, poi, poi, poi] = [poi, Value.pointer (some { block := (2 : Nat), off := (0 : Nat) }), poi, poi, poi, poi, poi, poi, poi, poi, poi, poi, poi, poi, poi, poi, poi, poi, poi, poi, poi, poi, poi, poi, poi, poi, poi, poi, poi, poi, poi, poi, poi, poi, poi, poi, poi, poi, poi, poi, poi, poi, poi, poi, poi, poi, poi, poi, poi, Value.slice (some { block := (1 : Nat), off := (0 : Nat) }) k d, Value.int IntKind.i64 (↑k : Int), Value.int IntKind.i64 (↑s : Int), poi, poi, poi, poi, poi, poi, poi, poi, poi, poi, poi, poi] ∧ some (AObj.row (flts xs) (1 : Nat) true true true) :: some (AObj.row (ints hs) (2 : Nat) true true true) :: some (AObj.row [Value.string nm, Value.int IntKind.i64 f, Value.slice (some { block := (0 : Nat), off := (0 : Nat) }) n c, Value.slice (some { block := (1 : Nat), off := (0 : Nat) }) k d] (0 : Nat) false true false) :: noH = some (AObj.row (flts xs) (1 : Nat) true true true) :: some (AObj.row (ints hs) (2 : Nat) true true true) :: some (AObj.row [Value.string nm, Value.int IntKind.i64 f, Value.slice (some { block := (0 : Nat), off := (0 : Nat) }) n c, Value.slice (some { block := (1 : Nat), off := (0 : Nat) }) k d] (0 : Nat) false true false) :: noH) ∧ ∀ (s : Nat), Is (s ≤ k ∧ hzH xs (List.drop (s * (2 : Nat)) hs) = hzH xs hs) → br (decide ((↑s : Int) < (↑k : Int))) (Is ((0 : Int) ≤ (↑s : Int) ∧ (↑s : Int) < (↑k : Int)) ∧ Is ((if (0 : Nat) + Int.toNat (↑s : Int) * (2 : Nat) + (2 : Nat) ≤ List.length (ints hs) then some (Value.agg (List.toArray (List.take (2 : Nat) (List.drop ((0 : Nat) + Int.toNat (↑s : Int) * (2 : Nat)) (ints hs))))) else none) = some (Value.agg #[Value.int IntKind.i64 (List.getD hs ((0 : Nat) + Int.toNat (↑s : Int) * (2 : Nat)) (0 : Int)), Value.int IntKind.i64 (List.getD hs ((0 : Nat) + Int.toNat (↑s : Int) * (2 : Nat) + (1 : Nat)) (0 : Int))])) ∧ Is ((0 : Int) ≤ List.getD hs ((0 : Nat) + Int.toNat (↑s : Int) * (2 : Nat)) (0 : Int) ∧ List.getD hs ((0 : Nat) + Int.toNat (↑s : Int) * (2 : Nat)) (0 : Int) ≤ List.getD hs ((0 : Nat) + Int.toNat (↑s : Int) * (2 : Nat) + (1 : Nat)) (0 : Int) ∧ List.getD hs ((0 : Nat) + Int.toNat (↑s : Int) * (2 : Nat) + (1 : Nat)) (0 : Int) ≤ (↑n : Int)) ∧ Is (flts xs = flts xs ∧ (0 : Nat) + Int.toNat (List.getD hs ((0 : Nat) + Int.toNat (↑s : Int) * (2 : Nat)) (0 : Int)) * (1 : Nat) + (Int.toNat (List.getD hs ((0 : Nat) + Int.toNat (↑s : Int) * (2 : Nat) + (1 : Nat)) (0 : Int)) - Int.toNat (List.getD hs ((0 : Nat) + Int.toNat (↑s : Int) * (2 : Nat)) (0 : Int))) ≤ List.length xs ∧ Int.toNat (List.getD hs ((0 : Nat) + Int.toNat (↑s : Int) * (2 : Nat) + (1 : Nat)) (0 : Int)) - Int.toNat (List.getD hs ((0 : Nat) + Int.toNat (↑s : Int) * (2 : Nat)) (0 : Int)) ≤ (100000 : Nat)) ∧ br (List.any (List.take (Int.toNat (List.getD hs ((0 : Nat) + Int.toNat (↑s : Int) * (2 : Nat) + (1 : Nat)) (0 : Int)) - Int.toNat (List.getD hs ((0 : Nat) + Int.toNat (↑s : Int) * (2 : Nat)) (0 : Int))) (List.drop ((0 : Nat) + Int.toNat (List.getD hs ((0 : Nat) + Int.toNat (↑s : Int) * (2 : Nat)) (0 : Int)) * (1 : Nat)) xs)) nzB) (K (Value.int IntKind.i64 (1 : Int)) (some (AObj.row (flts xs) (1 : Nat) true true true) :: some (AObj.row (ints hs) (2 : Nat) true true true) :: noH)) (∃ (s' : Nat), Is (s' ≤ k ∧ hzH xs (List.drop (s' * (2 : Nat)) hs) = hzH xs hs) ∧ Is (k - s' < k - s) ∧ [poi, Value.pointer (some { block := (2 : Nat), off := (0 : Nat) }), poi, poi, poi, poi, poi, poi, poi, poi, poi, poi, poi, poi, poi, poi, poi, poi, poi, poi, poi, poi, poi, poi, poi, poi, poi, poi, poi, poi, poi, poi, poi, poi, poi, poi, poi, poi, poi, poi, poi, poi, poi, poi, poi, poi, poi, poi, poi, Value.slice (some { block := (1 : Nat), off := (0 : Nat) }) k d, Value.int IntKind.i64 (↑k : Int), Value.int IntKind.i64 (IntKind.wrap IntKind.i64 ((↑s : Int) + (1 : Int))), poi, poi, poi, poi, poi, poi, poi, poi, poi, poi, poi, poi] = [poi, Value.pointer (some { block := (2 : Nat), off := (0 : Nat) }), poi, poi, poi, poi, poi, poi, poi, poi, poi, poi, poi, poi, poi, poi, poi, poi, poi, poi, poi, poi, poi, poi, poi, poi, poi, poi, poi, poi, poi, poi, poi, poi, poi, poi, poi, poi, poi, poi, poi, poi, poi, poi, poi, poi, poi, poi, poi, Value.slice (some { block := (1 : Nat), off := (0 : Nat) }) k d, Value.int IntKind.i64 (↑k : Int), Value.int IntKind.i64 (↑s' : Int), poi, poi, poi, poi, poi, poi, poi, poi, poi, poi, poi, poi] ∧ some (AObj.row (flts xs) (1 : Nat) true true true) :: some (AObj.row (ints hs) (2 : Nat) true true true) :: some (AObj.row [Value.string nm, Value.int IntKind.i64 f, Value.slice (some { block := (0 : Nat), off := (0 : Nat) }) n c, Value.slice (some { block := (1 : Nat), off := (0 : Nat) }) k d] (0 : Nat) false true false) :: noH = some (AObj.row (flts xs) (1 : Nat) true true true) :: some (AObj.row (ints hs) (2 : Nat) true true true) :: some (AObj.row [Value.string nm, Value.int IntKind.i64 f, Value.slice (some { block := (0 : Nat), off := (0 : Nat) }) n c, Value.slice (some { block := (1 : Nat), off := (0 : Nat) }) k d] (0 : Nat) false true false) :: noH)) (K (Value.int IntKind.i64 (0 : Int)) (some (AObj.row (flts xs) (1 : Nat) true true true) :: some (AObj.row (ints hs) (2 : Nat) true true true) :: noH)))) := by kernel_rfl
theorem take_one {xs : List Nat} {s : Nat} (h : s < xs.length) : xs.take (s + 1) = xs.take s ++ [xs.getD s 0] := by
  rw [List.take_add_one]
  simp [List.getD_eq_getElem?_getD, h]
set_option maxRecDepth 100000 in
theorem me_ok {xs : List Nat} {n c : Nat} (hn : xs.length = n) (h9 : n ≤ 100000) :
    SmallRes Tryz.prog 65 [.slice (some ⟨0, 0, none⟩) n c, fS1] [fR xs] (.slice (some ⟨1, 0, none⟩) n 0) [fR xs, oneR (xs.map sE)] := by
  refine fnP_res hm cMe_ok (hs := hsMe xs n c) ?_
  rw [me_t]
  refine ⟨⟨(0 : Nat), ⟨rfl⟩, by first | trivial | rfl, by first | trivial | rfl⟩, fun _ _ => ⟨⟨(0 : Nat), ⟨by omega⟩, by first | trivial | rfl, by first | trivial | rfl⟩, fun s hs' => br_of (fun hc => ?_) (fun hc => ?_)⟩⟩
  · have hc := lt_of_dec hc
    simp only [Nat.zero_add, Nat.mul_one, Int.toNat_natCast]
    refine ⟨⟨by omega, by omega⟩, ⟨flts_at (by omega)⟩, ⟨by rw [ints_len, List.length_map, List.length_take]; omega, by omega, by omega⟩, s + 1, ⟨hc⟩, ⟨by omega⟩, ?_, ?_⟩
    · rw [up1 hc (by omega)]
    · rw [take_one (by omega), List.map_append, ← ints_app]; rfl
  · have hc := ge_of_dec hc
    have : s = n := by have := hs'.out; omega
    subst this
    rw [← hn, List.take_length]
    exact ⟨by first | trivial | rfl, by first | trivial | rfl⟩
noncomputable def orcMe (xs : List Nat) : OrcV
  | [.slice (some ⟨0, 0, none⟩) n _, .func (.func 66) ⟨[]⟩ ⟨[]⟩], [some (.row e1 1 true true true)] => some (.slice (some ⟨1, 0, none⟩) n 0, [some (.row e1 1 true true true), oneR (xs.map sE)], e1 = flts xs ∧ xs.length = n ∧ n ≤ 100000)
  | _, _ => none
theorem okMe (xs : List Nat) : OkV Tryz.prog 65 (orcMe xs) := by
  intro args H ret H' vc h hv
  unfold orcMe at h
  split at h
  · cases h
    obtain ⟨rfl, h1, h2⟩ := hv
    exact me_ok h1 h2
  · cases h
set_option maxRecDepth 100000 in
theorem firstS_ok {l : List Int} {n c : Nat} {more rw' : Bool} (hn : l.length = n) (hlt : n ≤ 100000) :
    SmallRes Tryz.prog 25 [.slice (some ⟨0, 0, none⟩) n c] [some (.row (ints l) 1 more rw' true)] (.int .i64 (fi l)) [some (.row (ints l) 1 more rw' true)] := by
  subst hn
  refine fnP_res hm c0_ok (hs := hFirst l l.length c 1 more rw') ?_
  rw [firstS_t]
  refine ⟨⟨(0 : Nat), ⟨by simp, by simp⟩, rfl, rfl⟩, fun s hs => ?_⟩
  obtain ⟨h1, h2⟩ := hs.out
  refine br_of (fun hc => ?_) (fun hc => ?_)
  · have hc : s < l.length := by simpa using hc
    refine ⟨⟨by omega, by omega⟩, ⟨by simpa using ints_at hc⟩, br_of (fun hd => ?_) (fun hd => ?_)⟩
    · have := fi_drop hc
      have hd' : l.getD s 0 ≠ 0 := by simpa using hd
      rw [if_neg hd'] at this
      simp [← h2, this]
    · have := fi_drop hc
      have hd' : l.getD s 0 = 0 := by simpa using hd
      rw [if_pos hd'] at this
      refine ⟨s + 1, ⟨hc, by rw [← this, h2]⟩, ⟨by omega⟩, ?_, rfl⟩
      rw [wrap_eq (by omega) (by omega)]
      rfl
  · have hc : l.length ≤ s := by simpa using hc
    have : s = l.length := by omega
    subst this
    simp [← h2, fi]
noncomputable def orcFiV (l : List Int) : OrcV
  | [.slice (some ⟨0, 0, none⟩) n _], [some (.row e1 1 m w true)] => some (.int .i64 (fi l), [some (.row e1 1 m w true)], e1 = ints l ∧ l.length = n ∧ n ≤ 100000)
  | _, _ => none
theorem okFiV (l : List Int) : OkV Tryz.prog 25 (orcFiV l) := by
  intro args H ret H' vc h hv
  unfold orcFiV at h
  split at h
  · cases h
    obtain ⟨rfl, h1, h2⟩ := hv
    exact firstS_ok h1 h2
  · cases h
/-- A span that is checked. -/
theorem hchk_all {n : Int} : ∀ (hs : List Int) (last : Int), hchk n hs last = 0 → ∀ i, i * 2 + 2 ≤ hs.length → last < hs.getD (i * 2) 0 ∧ 0 ≤ hs.getD (i * 2) 0 ∧ hs.getD (i * 2) 0 < hs.getD (i * 2 + 1) 0 ∧ hs.getD (i * 2 + 1) 0 ≤ n
  | [], _, _, i, h => by simp at h
  | [_], _, _, i, h => by simp only [List.length_cons, List.length_nil] at h; omega
  | a :: b :: r, last, h, i, hi => by
    rw [hchk] at h
    obtain ⟨h1, h2⟩ := sel_zero.1 h
    have k1 := (wh_zero (by decide)).1 (fi_zero.1 h1 (wh (decide (a < 0) || (decide (b ≤ a) || decide (n < b))) 14) (by simp))
    have k2 := (wh_zero (by decide)).1 (fi_zero.1 h1 (wh (decide (a ≤ last)) 11) (by simp))
    simp only [Bool.or_eq_false_iff, decide_eq_false_iff_not] at k1 k2
    match i with
    | 0 => simp only [Nat.zero_mul, Nat.zero_add, List.getD_cons_zero, List.getD_cons_succ]; omega
    | i + 1 =>
      have := hchk_all r b h2 i (by simp only [List.length_cons] at hi; omega)
      rw [show (i + 1) * 2 = i * 2 + 1 + 1 by omega]
      simp only [List.getD_cons_succ]
      omega
set_option maxRecDepth 100000 in
theorem ch_ok {nm : ByteArray} {f : Int} {n c k d : Nat} {xs : List Nat} {hs : List Int} (hn : xs.length = n) (h9 : n ≤ 100000) (hk : hs.length = k * 2) (hk9 : k ≤ 100000) :
    SmallRes Tryz.prog 67 [.agg (runA nm f 0 n c 1 k d).toArray] (hp2r xs hs true true true true []) (.int .i64 (sel (hchk n hs (-1)) (wh (!hzH xs hs) 1))) (hp2r xs hs true true true true []) := by
  refine fnP_res hm cs2_ok (hs := hsCh nm f n c k d xs hs) ?_
  rw [ch_t]
  refine ⟨⟨((0 : Nat), (-1 : Int)), ⟨by omega, by rw [Nat.zero_mul, List.drop_zero]⟩, by first | trivial | rfl, by first | trivial | rfl⟩, fun s hs' => br_of (fun hc => ?_) (fun hc => ?_)⟩
  · have hc := lt_of_dec hc
    obtain ⟨i1, i2⟩ := hs'.out
    rw [spn_drop (show s.1 * 2 + 2 ≤ hs.length by omega), hchk] at i2
    simp only [Nat.zero_add, Int.toNat_natCast]
    have out : ∀ {e : Int}, fi [wh (decide (hs.getD (s.1 * 2) 0 < 0) || (decide (hs.getD (s.1 * 2 + 1) 0 ≤ hs.getD (s.1 * 2) 0) || decide ((n : Int) < hs.getD (s.1 * 2 + 1) 0))) 14, wh (decide (hs.getD (s.1 * 2) 0 ≤ s.2)) 11] = e → e ≠ 0 → sel (hchk n hs (-1)) (wh (!hzH xs hs) 1) = e := fun h h0 => by
      rw [h, sel, if_neg h0] at i2
      rw [← i2, sel, if_neg h0]
    refine ⟨⟨by omega, by omega⟩, ⟨ldh (by omega)⟩, br_of (fun h1 => ?_) (fun h1 => br_of (fun h2 => ?_) (fun h2 => br_of (fun h3 => ?_) (fun h3 => ⟨(s.1 + 1, hs.getD (s.1 * 2 + 1) 0), ⟨hc, ?_⟩, ⟨by simp only; omega⟩, ?_, by first | trivial | rfl⟩)))⟩
    · rw [out (e := fi [14, wh (decide (hs.getD (s.1 * 2) 0 ≤ s.2)) 11]) (by rw [h1]; rfl) (by simp [fi])]
      exact ⟨by first | trivial | rfl, by first | trivial | rfl⟩
    · rw [out (e := fi [14, wh (decide (hs.getD (s.1 * 2) 0 ≤ s.2)) 11]) (by rw [h1, h2]; rfl) (by simp [fi])]
      exact ⟨by first | trivial | rfl, by first | trivial | rfl⟩
    · rw [out (e := fi [wh (decide ((n : Int) < hs.getD (s.1 * 2 + 1) 0)) 14, wh (decide (hs.getD (s.1 * 2) 0 ≤ s.2)) 11]) (by rw [h1, h2]; rfl) (by simpa using h3)]
      exact ⟨by first | trivial | rfl, by first | trivial | rfl⟩
    · have h3 : fi [wh (decide ((n : Int) < hs.getD (s.1 * 2 + 1) 0)) 14, wh (decide (hs.getD (s.1 * 2) 0 ≤ s.2)) 11] = 0 := by simpa using h3
      rw [h1, h2, Bool.false_or, Bool.false_or, h3, sel, if_pos rfl] at i2
      exact i2
    · rw [up1 hc (by omega)]
  · have hc := ge_of_dec hc
    obtain ⟨i1, i2⟩ := hs'.out
    have m0 : hchk n hs (-1) = 0 := by
      rw [← i2, List.drop_eq_nil_of_le (by omega)]
      rfl
    have hall := hchk_all hs (-1) m0
    rw [m0]
    refine ⟨⟨(0 : Nat), ⟨by omega, by rw [Nat.zero_mul, List.drop_zero]⟩, by first | trivial | rfl, by first | trivial | rfl⟩, fun r hr => br_of (fun hc2 => ?_) (fun hc2 => ?_)⟩
    · have hc2 := lt_of_dec hc2
      obtain ⟨j1, j2⟩ := hr.out
      obtain ⟨_, a0, a1, a2⟩ := hall r (by omega)
      rw [spn_drop (show r * 2 + 2 ≤ hs.length by omega), hzH] at j2
      simp only [Nat.zero_add, Nat.mul_one, Int.toNat_natCast]
      refine ⟨⟨by omega, by omega⟩, ⟨ldh (by omega)⟩, ⟨by omega, by omega, by omega⟩, ⟨by first | trivial | rfl, by omega, by omega⟩, br_of (fun hb => ?_) (fun hb => ⟨r + 1, ⟨hc2, ?_⟩, ⟨by omega⟩, by rw [up1 hc2 (by omega)], by first | trivial | rfl⟩)⟩
      · rw [hb] at j2
        rw [← j2]
        exact ⟨by first | trivial | rfl, by first | trivial | rfl⟩
      · rw [hb, Bool.not_false, Bool.true_and] at j2
        exact j2
    · have hc2 := ge_of_dec hc2
      obtain ⟨j1, j2⟩ := hr.out
      rw [List.drop_eq_nil_of_le (by omega)] at j2
      rw [← j2]
      exact ⟨by first | trivial | rfl, by first | trivial | rfl⟩
noncomputable def isRun (xs : List Nat) (hs : List Int) (n k : Nat) (e1 e2 : List Value) : Prop := e1 = flts xs ∧ e2 = ints hs ∧ xs.length = n ∧ n ≤ 100000 ∧ hs.length = k * 2 ∧ k ≤ 100000
noncomputable def orcCh (xs : List Nat) (hs : List Int) : OrcV
  | [.agg ⟨[.string _, .int .i64 _, .slice (some ⟨0, 0, none⟩) n _, .slice (some ⟨1, 0, none⟩) k _]⟩], [some (.row e1 1 true true true), some (.row e2 2 true true true)] =>
    some (.int .i64 (sel (hchk n hs (-1)) (wh (!hzH xs hs) 1)), [some (.row e1 1 true true true), some (.row e2 2 true true true)], isRun xs hs n k e1 e2)
  | _, _ => none
theorem okCh (xs : List Nat) (hs : List Int) : OkV Tryz.prog 67 (orcCh xs hs) := by
  intro args H ret H' vc h hv
  unfold orcCh at h
  split at h
  · cases h
    obtain ⟨rfl, rfl, h1, h2, h3, h4⟩ := hv
    exact ch_ok h1 h2 h3 h4
  · cases h
noncomputable def s4 : List (Nat × Orc) := (64, orcName) :: s2
theorem s4_all : ∀ p ∈ s4, Ok Tryz.prog p.1 p.2 := all_cons okName s2_all
noncomputable def cs4 : CallF := ctx Tryz.prog s4
theorem cs4_ok : CallOK Tryz.prog cs4 := ctx_ok hm s4_all
noncomputable def hsCr (xs : List Nat) (hs : List Int) : Hs Tryz.prog where
  op y := if y = 403 then some (hCa Tryz.prog 25 (orcFiV (xs.map sE)) (okFiV _)) else none
  au := auCalls [(65, hCa Tryz.prog 65 (orcMe xs) (okMe xs)), (67, hCa Tryz.prog 67 (orcCh xs hs) (okCh xs hs))]
theorem cr_t (nm : ByteArray) (f : Int) (n : Nat) (c : Nat) (k : Nat) (d : Nat) (xs : List Nat) (hs : List Int) (K : Value → Heap → Prop) :
    (fnP Tryz.prog cs4 (hsCr xs hs) (26 : FuncId) [Value.agg (List.toArray (runA nm f (0 : Nat) n c (1 : Nat) k d))] (hp2r xs hs true true true true []) K) =
    (br (fi [wh (!nameB nm) (8 : Int), wi f (0 : Int) (100000000 : Int), wh (decide ((4096 : Int) < (↑n : Int))) (5 : Int)] != (0 : Int)) (K (Value.int IntKind.i64 (fi [wh (!nameB nm) (8 : Int), wi f (0 : Int) (100000000 : Int), wh (decide ((4096 : Int) < (↑n : Int))) (5 : Int)])) (some (AObj.row (flts xs) (1 : Nat) true true true) :: some (AObj.row (ints hs) (2 : Nat) true true true) :: noH)) (Is (flts xs = flts xs ∧ List.length xs = n ∧ n ≤ (100000 : Nat)) ∧ Is (ints (List.map sE xs) = ints (List.map sE xs) ∧ List.length (List.map sE xs) = n ∧ n ≤ (100000 : Nat)) ∧ br (fi [fi (List.map sE xs), wh (decide ((100000000 : Int) < IntKind.wrap IntKind.i64 (f + (↑n : Int)))) (4 : Int)] != (0 : Int)) (K (Value.int IntKind.i64 (fi [fi (List.map sE xs), wh (decide ((100000000 : Int) < IntKind.wrap IntKind.i64 (f + (↑n : Int)))) (4 : Int)])) (some (AObj.row (flts xs) (1 : Nat) true true true) :: some (AObj.row (ints hs) (2 : Nat) true true true) :: noH)) (Is (isRun xs hs n k (flts xs) (ints hs)) ∧ K (Value.int IntKind.i64 (sel (hchk (↑n : Int) hs (-1 : Int)) (wh (!hzH xs hs) (1 : Int)))) (some (AObj.row (flts xs) (1 : Nat) true true true) :: some (AObj.row (ints hs) (2 : Nat) true true true) :: noH)))) := by kernel_rfl
end
end Qq
end
section
/- Runs, checked: the reference; both say the same. -/
open Go Go.Vm Go.Proofs Sp
namespace Qq
noncomputable section
noncomputable def orcCrP (xs : List Nat) (hs : List Int) : OrcV
  | [.agg ⟨[.string nm, .int .i64 f, .slice (some ⟨0, 0, none⟩) n _, .slice (some ⟨1, 0, none⟩) k _]⟩], [some (.row e1 1 true true true), some (.row e2 2 true true true)] =>
    some (.int .i64 (runE nm f xs n hs), [some (.row e1 1 true true true), some (.row e2 2 true true true)], isRun xs hs n k e1 e2)
  | _, _ => none
theorem okCrP (xs : List Nat) (hs : List Int) : OkV Tryz.prog 26 (orcCrP xs hs) := by
  intro args H ret H' vc h hv
  unfold orcCrP at h
  split at h
  · rename_i nm f n c k d e1 e2
    cases h
    obtain ⟨rfl, rfl, h1, h2, h3, h4⟩ := hv
    refine fnP_res hm cs4_ok (hs := hsCr xs hs) ?_
    show fnP Tryz.prog cs4 (hsCr xs hs) 26 [.agg (runA nm f 0 n c 1 k d).toArray] (hp2r xs hs true true true true []) _
    rw [cr_t]
    refine br_of (fun h => ?_) (fun h => ⟨⟨rfl, h1, h2⟩, ⟨rfl, by rw [List.length_map]; exact h1, h2⟩, ?_⟩)
    · rw [runE, sel_ne h]; exact ⟨by first | trivial | rfl, by first | trivial | rfl⟩
    have h0 : fi [wh (!nameB nm) 8, wi f 0 100000000, wh (decide ((4096 : Int) < n)) 5] = 0 := by simpa using h
    have hf := wi_zero.1 (fi_zero.1 h0 (wi f 0 100000000) (by simp))
    rw [wrap_eq (x := f + n) (by omega) (by omega)]
    refine br_of (fun h3' => ?_) (fun h3' => ⟨⟨rfl, rfl, h1, h2, h3, h4⟩, ?_⟩)
    · rw [runE, sel_eq h, sel_ne h3']; exact ⟨by first | trivial | rfl, by first | trivial | rfl⟩
    · rw [runE, sel_eq h, sel_eq h3']; exact ⟨by first | trivial | rfl, by first | trivial | rfl⟩
  · cases h
/- The reference. -/
noncomputable def fRs (xs : List Nat) : Option AObj := some (.row (flts xs) 1 false false true)
noncomputable def lpSmR (xs : List Nat) (n c : Nat) : Lp where
  σ := Nat
  E s := slots 19 [(0, .slice (some ⟨0, 0, none⟩) n c), (3, .int .i64 (Int.ofNat s))]
  Hp _ := [fRs xs]
  I s := s ≤ n ∧ fi ((xs.drop s).map sE) = fi (xs.map sE)
  m s := n - s
noncomputable def hsSmR (xs : List Nat) (n c : Nat) : Hs Tryz.prog where
  op y := if y = 402 then some (hIa Tryz.prog) else if y = 403 then some (hLd Tryz.prog (xF xs)) else none
  lp _ := some (lpSmR xs n c)
  cl _ := keep 19 [0, 3]
  au := au0 Tryz.prog
noncomputable def csr4 : CallF := ctx Tryz.prog [(24, orcSm1)]
theorem csr4_ok : CallOK Tryz.prog csr4 := ctx_ok hm (all_cons okSm1R all_nil)
theorem smR_t (xs : List Nat) (n : Nat) (c : Nat) (K : Value → Heap → Prop) :
    (fnP Tryz.prog csr4 (hsSmR xs n c) (7 : FuncId) [Value.slice (some { block := (0 : Nat), off := (0 : Nat) }) n c] [fRs xs] K) =
    ((∃ (s : Nat), Is (s ≤ n ∧ fi (List.map sE (List.drop s xs)) = fi (List.map sE xs)) ∧ [Value.slice (some { block := (0 : Nat), off := (0 : Nat) }) n c, poi, poi, Value.int IntKind.i64 (0 : Int), poi, poi, poi, poi, poi, poi, poi, poi, poi, poi, poi, poi, poi, poi, poi] = [Value.slice (some { block := (0 : Nat), off := (0 : Nat) }) n c, poi, poi, Value.int IntKind.i64 (↑s : Int), poi, poi, poi, poi, poi, poi, poi, poi, poi, poi, poi, poi, poi, poi, poi] ∧ some (AObj.row (flts xs) (1 : Nat) false false true) :: noH = some (AObj.row (flts xs) (1 : Nat) false false true) :: noH) ∧ ∀ (s : Nat), Is (s ≤ n ∧ fi (List.map sE (List.drop s xs)) = fi (List.map sE xs)) → br (decide ((↑s : Int) < (↑n : Int))) (Is ((0 : Int) ≤ (↑s : Int) ∧ (↑s : Int) < (↑n : Int)) ∧ Is ((flts xs)[(0 : Nat) + Int.toNat (↑s : Int) * (1 : Nat)]? = some (Value.float FloatKind.f32 (List.getD xs ((0 : Nat) + Int.toNat (↑s : Int) * (1 : Nat)) (0 : Nat)))) ∧ br (sE (List.getD xs ((0 : Nat) + Int.toNat (↑s : Int) * (1 : Nat)) (0 : Nat)) != (0 : Int)) (K (Value.int IntKind.i64 (sE (List.getD xs ((0 : Nat) + Int.toNat (↑s : Int) * (1 : Nat)) (0 : Nat)))) (some (AObj.row (flts xs) (1 : Nat) false false true) :: noH)) (∃ (s' : Nat), Is (s' ≤ n ∧ fi (List.map sE (List.drop s' xs)) = fi (List.map sE xs)) ∧ Is (n - s' < n - s) ∧ [Value.slice (some { block := (0 : Nat), off := (0 : Nat) }) n c, poi, poi, Value.int IntKind.i64 (IntKind.wrap IntKind.i64 ((↑s : Int) + (1 : Int))), poi, poi, poi, poi, poi, poi, poi, poi, poi, poi, poi, poi, poi, poi, poi] = [Value.slice (some { block := (0 : Nat), off := (0 : Nat) }) n c, poi, poi, Value.int IntKind.i64 (↑s' : Int), poi, poi, poi, poi, poi, poi, poi, poi, poi, poi, poi, poi, poi, poi, poi] ∧ some (AObj.row (flts xs) (1 : Nat) false false true) :: noH = some (AObj.row (flts xs) (1 : Nat) false false true) :: noH)) (K (Value.int IntKind.i64 (0 : Int)) (some (AObj.row (flts xs) (1 : Nat) false false true) :: noH))) := by kernel_rfl
theorem fi_one {l : List Int} {i : Nat} (h : i < l.length) : fi (l.drop i) = if l.getD i 0 ≠ 0 then l.getD i 0 else fi (l.drop (i + 1)) := by
  rw [List.drop_eq_getElem_cons h, fi]
  simp only [List.getD_eq_getElem?_getD, List.getElem?_eq_getElem h, Option.getD_some]
  by_cases h0 : l[i] = 0 <;> simp [h0]
theorem map_getD {xs : List Nat} {i : Nat} (h : i < xs.length) : (xs.map sE).getD i 0 = sE (xs.getD i 0) := by
  simp [List.getD_eq_getElem?_getD, List.getElem?_eq_getElem h]
set_option maxRecDepth 100000 in
theorem smR_ok {xs : List Nat} {n c : Nat} (hn : xs.length = n) (h9 : n ≤ 100000) :
    SmallRes Tryz.prog 7 [.slice (some ⟨0, 0, none⟩) n c] [fRs xs] (.int .i64 (fi (xs.map sE))) [fRs xs] := by
  refine fnP_res hm csr4_ok (hs := hsSmR xs n c) ?_
  rw [smR_t]
  refine ⟨⟨(0 : Nat), ⟨by omega, by rw [List.drop_zero]⟩, by first | trivial | rfl, by first | trivial | rfl⟩, fun s hs' => br_of (fun hc => ?_) (fun hc => ?_)⟩
  · have hc := lt_of_dec hc
    obtain ⟨i1, i2⟩ := hs'.out
    have e := fi_one (l := xs.map sE) (i := s) (by rw [List.length_map]; omega)
    rw [map_getD (by omega)] at e
    rw [List.map_drop, e] at i2
    simp only [Nat.zero_add, Nat.mul_one, Int.toNat_natCast]
    refine ⟨⟨by omega, by omega⟩, ⟨flts_at (by omega)⟩, br_of (fun h => ?_) (fun h => ⟨s + 1, ⟨hc, ?_⟩, ⟨by omega⟩, by rw [up1 hc (by omega)], by first | trivial | rfl⟩)⟩
    · rw [if_pos (by simpa using h)] at i2
      rw [← i2]
      exact ⟨by first | trivial | rfl, by first | trivial | rfl⟩
    · rw [if_neg (by simpa using h)] at i2
      rw [List.map_drop]
      exact i2
  · have hc := ge_of_dec hc
    obtain ⟨i1, i2⟩ := hs'.out
    rw [List.drop_eq_nil_of_le (by omega)] at i2
    rw [← i2]
    exact ⟨by first | trivial | rfl, by first | trivial | rfl⟩
noncomputable def orcSmR (xs : List Nat) : OrcV
  | [.slice (some ⟨0, 0, none⟩) n _], [some (.row e1 1 false false true)] => some (.int .i64 (fi (xs.map sE)), [some (.row e1 1 false false true)], e1 = flts xs ∧ xs.length = n ∧ n ≤ 100000)
  | _, _ => none
theorem okSmR (xs : List Nat) : OkV Tryz.prog 7 (orcSmR xs) := by
  intro args H ret H' vc h hv
  unfold orcSmR at h
  split at h
  · cases h
    obtain ⟨rfl, h1, h2⟩ := hv
    exact smR_ok h1 h2
  · cases h
end
end Qq
end
section
/- Moments of a run. -/
open Go Go.Vm Go.Proofs Sp
namespace Sp
noncomputable section
noncomputable def addM (m : Int × Int × Int) (v : Int) : Int × Int × Int := (m.1 + 1, m.2.1 + v, m.2.2 + v * v)
/-- The moments of so many samples from an index on. -/
noncomputable def mo (xs : List Nat) (hs : List Int) (a : Nat) : Nat → Int × Int × Int
  | 0 => (0, 0, 0)
  | i + 1 => if knB hs ((a + i : Nat) : Int) = true then addM (mo xs hs a i) (lev (xs.getD (a + i) 0)) else mo xs hs a i
end
end Sp
namespace Qq
noncomputable section
noncomputable def moC (m : Int × Int × Int) : List Value := [.int .i64 m.1, .int .i64 m.2.1, .int .i64 m.2.2]
/- The reference. -/
/- Copies; short runs. -/
/-- What a run that is checked says. -/
theorem run_zero {nm : ByteArray} {f : Int} {xs : List Nat} {n : Nat} {hs : List Int} (h : runE nm f xs n hs = 0) :
    nameB nm = true ∧ (0 ≤ f ∧ f ≤ 100000000) ∧ n ≤ 4096 ∧ f + n ≤ 100000000 ∧ fi (xs.map sE) = 0 ∧ hchk n hs (-1) = 0 ∧ hzH xs hs = true := by
  obtain ⟨h1, h2⟩ := sel_zero.1 h
  obtain ⟨h3, h4⟩ := sel_zero.1 h2
  obtain ⟨h5, h6⟩ := sel_zero.1 h4
  have k1 := (wh_zero (by decide)).1 (fi_zero.1 h1 (wh (!nameB nm) 8) (by simp))
  have k2 := wi_zero.1 (fi_zero.1 h1 (wi f 0 100000000) (by simp))
  have k3 := of_decide_eq_false ((wh_zero (by decide)).1 (fi_zero.1 h1 (wh (decide ((4096 : Int) < n)) 5) (by simp)))
  have k4 := fi_zero.1 h3 (fi (xs.map sE)) (by simp)
  have k5 := of_decide_eq_false ((wh_zero (by decide)).1 (fi_zero.1 h3 (wh (decide ((100000000 : Int) < f + n)) 4) (by simp)))
  have k6 := (wh_zero (by decide)).1 h6
  exact ⟨by simpa using k1, k2, by omega, by omega, k4, h5, by simpa using k6⟩
theorem smps {xs : List Nat} (h : fi (xs.map sE) = 0) {j : Nat} (hj : j < xs.length) : sE (xs.getD j 0) = 0 := by
  refine fi_zero.1 h _ (List.mem_map.2 ⟨xs.getD j 0, ?_, rfl⟩)
  rw [List.getD_eq_getElem?_getD, List.getElem?_eq_getElem hj]
  exact List.getElem_mem _
theorem sq_bd {v : Int} (h : v.natAbs ≤ 16384) : 0 ≤ v * v ∧ v * v ≤ 268435456 := by
  have := sq_le (a := v) (M := 16384) (by omega) (by omega)
  exact ⟨by rw [← Int.natAbs_mul_self]; omega, by omega⟩
/-- Moments are bounded. -/
structure MoB (m : Int × Int × Int) (i : Nat) : Prop where
  c0 : 0 ≤ m.1
  c1 : m.1 ≤ i
  s0 : -(16384 * (i : Int)) ≤ m.2.1
  s1 : m.2.1 ≤ 16384 * i
  q0 : 0 ≤ m.2.2
  q1 : m.2.2 ≤ 268435456 * i
theorem MoB.zero : MoB (0, 0, 0) 0 := ⟨by simp, by simp, by simp, by simp, by simp, by simp⟩
theorem MoB.more {m : Int × Int × Int} {i : Nat} (h : MoB m i) : MoB m (i + 1) := by
  obtain ⟨a, b, c, d, e, f⟩ := h
  exact ⟨a, by omega, by omega, by omega, e, by omega⟩
theorem MoB.add {m : Int × Int × Int} {i : Nat} {v : Int} (h : MoB m i) (hv : v.natAbs ≤ 16384) : MoB (addM m v) (i + 1) := by
  obtain ⟨a, b, c, d, e, f⟩ := h
  obtain ⟨q0, q1⟩ := sq_bd hv
  exact ⟨by simp only [addM]; omega, by simp only [addM]; omega, by simp only [addM]; omega, by simp only [addM]; omega, by simp only [addM]; omega, by simp only [addM]; omega⟩
/-- Each step is one of the machine's. -/
theorem MoB.wraps {m : Int × Int × Int} {i : Nat} {v : Int} (h : MoB m i) (hi : i ≤ 100000) (hv : v.natAbs ≤ 16384) :
    [Value.int .i64 (IntKind.wrap .i64 (m.1 + 1)), .int .i64 (IntKind.wrap .i64 (m.2.1 + v)), .int .i64 (IntKind.wrap .i64 (m.2.2 + IntKind.wrap .i64 (v * v)))] = moC (addM m v) := by
  obtain ⟨a, b, c, d, e, f⟩ := h
  obtain ⟨q0, q1⟩ := sq_bd hv
  rw [wrap_eq (x := m.1 + 1) (by omega) (by omega), wrap_eq (x := m.2.1 + v) (by omega) (by omega), wrap_eq (x := v * v) (by omega) (by omega), wrap_eq (x := m.2.2 + v * v) (by omega) (by omega)]
  rfl
theorem mo_bd {xs : List Nat} {hs : List Int} {a : Nat} (hx : fi (xs.map sE) = 0) : ∀ i, a + i ≤ xs.length → MoB (mo xs hs a i) i
  | 0, _ => .zero
  | i + 1, h => by
    have ih := mo_bd (hs := hs) (a := a) hx i (by omega)
    rw [mo]
    split
    · exact ih.add (Fl.smp (smps hx (j := a + i) (by omega))).few
    · exact ih.more
end
end Qq
end
section
/- Samples that are made of integers. -/
open Go
namespace Sp
noncomputable section
/-- The sample of an integer. -/
def smO (n : Int) : Nat := fDiv (fOf n) 1098907648
end
end Sp
namespace Fl
open Ieee Sp
theorem shl_div {m a b : Nat} (h : b ≤ a) : m <<< a / 2 ^ b = m * 2 ^ (a - b) ∧ m <<< a % 2 ^ b = 0 := by
  have e : m <<< a = m * 2 ^ (a - b) * 2 ^ b := by rw [Nat.shiftLeft_eq, Nat.mul_assoc, ← Nat.pow_add, Nat.sub_add_cancel h]
  rw [e]
  exact ⟨Nat.mul_div_cancel _ (Nat.pow_pos (by decide)), Nat.mul_mod_left _ _⟩
theorem pow4 {m a b c : Nat} (h : a + c + 1 + 4 = b) : 2 * (m * 2 ^ a) * 2 ^ c * 16 = m * 2 ^ b := by
  subst h
  simp only [Nat.pow_add, Nat.pow_one]
  have e : (2 : Nat) ^ 4 = 16 := rfl
  rw [e]
  generalize 2 ^ a = x
  generalize 2 ^ c = y
  grind
theorem read_16 : single.read 1098907648 = .number false (2 ^ 23) (-19) := by decide +kernel
theorem log_23 : (2 ^ 23).log2 = 23 := by decide +kernel
theorem Has.div16 {x : Nat} (h : IsF x) : ∃ r t, (single.read x).quotient 25 (single.read 1098907648) = some r ∧ Has r (-200) t ∧ t * 16 = val x := by
  obtain ⟨s, m, i, h1, h2, h3, h4⟩ := h
  rw [h1, read_16]
  have hl : m.log2 ≤ 23 := by
    by_cases h0 : m = 0
    · subst h0; decide
    · exact Nat.le_of_lt_succ ((Nat.log2_lt h0).2 h2)
  have hv : val x = sg s (m * 2 ^ (i + 400).toNat) := by rw [val, h1]
  rw [hv]
  obtain ⟨q1, q2⟩ := shl_div (m := m) (a := 25 + 23 - m.log2) (b := 23) (by omega)
  have e0 : (2 ^ 23 : Nat) ≠ 0 := by decide
  have hq : Datum.quotient 25 (.number s m i) (.number false (2 ^ 23) (-19)) = some (.number s (2 * (m * 2 ^ (25 + 23 - m.log2 - 23))) (i - -19 - ((25 + 23 - m.log2 : Nat) : Int) - 1)) := by
    simp only [Datum.quotient, if_neg e0, log_23, q1, q2, Bool.xor_false]
    rfl
  refine ⟨_, _, hq, ⟨_, _, _, rfl, by omega, rfl⟩, ?_⟩
  have e16 : (16 : Int) = ((16 : Nat) : Int) := rfl
  rw [e16, ← sg_mul]
  refine congrArg (sg s) ?_
  generalize hA : (i - -19 - ((25 + 23 - m.log2 : Nat) : Int) - 1 + 400).toNat = c
  generalize hB : (i + 400).toNat = b
  exact pow4 (by omega)
theorem pow_at {a b : Nat} (h : a + b = 400) : (2 : Nat) ^ a * 2 ^ b = one := by
  rw [← Nat.pow_add, h, one_nat]
theorem one_split {a b k : Nat} (h : a + b = 400) (hk : 2 ^ b = k) : ((2 ^ a : Nat) : Int) * (k : Int) = (one : Int) := by
  rw [← pow_at h, hk, Int.natCast_mul]
theorem rep_pow {n t : Int} {K : Nat} (h : n.natAbs < 2 ^ 24) (h1 : 24 + K ≤ 500) (h2 : 251 ≤ K) (ht : t = n * ((2 ^ K : Nat) : Int)) : Rep t := by
  have h3 := pow_up h1
  rw [ht]
  refine ⟨?_, n.natAbs, K, ?_, h, h2⟩
  · rw [Int.natAbs_mul, Int.natAbs_natCast]
    exact Nat.lt_of_lt_of_le (Nat.mul_lt_mul_of_pos_right h (Nat.pow_pos (by decide))) (by rw [← Nat.pow_add]; exact h3)
  · rw [Int.natAbs_mul, Int.natAbs_natCast]
theorem sm_ok {n : Int} (h : n.natAbs < 2 ^ 24) : fDivOk (fOf n) 1098907648 ∧ IsF (smO n) ∧ val (smO n) * 16 = n * (one : Int) := by
  obtain ⟨f1, f2⟩ := of_val h
  obtain ⟨r, t, e1, h1, e2⟩ := Has.div16 f1
  rw [f2] at e2
  have es : single.div (fOf n) 1098907648 = some (single.write r) := by
    have e3 : single.div (fOf n) 1098907648 = ((single.read (fOf n)).quotient 25 (single.read 1098907648)).map single.write := rfl
    rw [e3, e1]; rfl
  have ht : t = n * ((2 ^ 396 : Nat) : Int) := by
    have e4 : ((2 ^ 396 : Nat) : Int) * 16 = (one : Int) := one_split (a := 396) (b := 4) (k := 16) rfl rfl
    rw [← e4, ← Int.mul_assoc] at e2
    omega
  have hr : Rep t := rep_pow h (by decide) (by decide) ht
  have hw := has_fin (h1.write (by decide) hr)
  have em : smO n = single.write r := by rw [smO, fDiv, fmt32, es]; rfl
  exact ⟨by rw [fDivOk, fmt32, es]; rfl, by rw [em]; exact hw.1, by rw [em, hw.2, e2]⟩
theorem lev_sm {n : Int} (h : n.natAbs ≤ 16384) : lev (smO n) = n ∧ sE (smO n) = 0 := by
  obtain ⟨_, f1, e1⟩ := sm_ok (n := n) (by omega)
  have hp := one_pos
  have hb : (val (smO n)).natAbs ≤ 1024 * one := by
    have e := congrArg Int.natAbs e1
    rw [Int.natAbs_mul, Int.natAbs_mul] at e
    have e2 : (one : Int).natAbs = one := Int.natAbs_natCast one
    rw [e2, show Int.natAbs 16 = 16 from rfl] at e
    have := Nat.mul_le_mul_right one h
    omega
  obtain ⟨m1, m2, m3⟩ := mul_16 f1 hb
  rw [e1] at m3
  obtain ⟨i1, _, s, i3, i4⟩ := int_ok m2 (by
    rw [m3, Int.natAbs_mul, show Int.natAbs (one : Int) = one from Int.natAbs_natCast one]
    exact Nat.mul_le_mul_right one (by omega))
  have hl : lev (smO n) = n := by
    rw [lev, i4]
    rw [m3] at i3 ⊢
    rw [Int.natAbs_mul, show Int.natAbs (one : Int) = one from Int.natAbs_natCast one] at i3 ⊢
    rw [Nat.mul_div_cancel _ hp]
    rw [sg_mul] at i3
    exact Int.eq_of_mul_eq_mul_right (by omega) i3
  refine ⟨hl, ?_⟩
  obtain ⟨f2, e2⟩ := of_val (n := n) (by omega)
  rw [sE_fin f1, hl]
  refine (Qq.wh_zero (by decide)).2 ?_
  have q1 : fLt (smO n) 3296722944 = false := by
    rw [lt_val f1 fin_m1024.1, fin_m1024.2]; exact decide_eq_false (by omega)
  have q2 : fGt (smO n) 1149239296 = false := by
    rw [gt_val f1 fin_1024.1, fin_1024.2]; exact decide_eq_false (by omega)
  have q3 : fNe (fMul (smO n) 1098907648) (fOf n) = false := by
    rw [ne_val m2 f2, m3, e2]; exact decide_eq_false (by simp)
  rw [q1, q2, q3]; rfl
end Fl
end
