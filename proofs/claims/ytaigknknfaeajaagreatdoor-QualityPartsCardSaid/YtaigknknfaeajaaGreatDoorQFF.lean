/- Lines that fit: the loops. -/
import Derived.Test.YtaigknknfaeajaaGreatDoorZJ
open Go Go.Vm Go.Proofs Sp
namespace Qq
noncomputable section
noncomputable def lnC (a b c d : Int) : List Value := [.int .i64 a, .int .i64 b, .int .i64 c, .int .i64 d]
noncomputable def lpSf (zs : List Int) (off m c : Nat) (m1 w1 : Bool) (w a b s d : Int) : Lp where
  σ := Nat
  E i := slots 38 [(2, .int .i64 w), (3, .pointer (some ⟨1, 0, none⟩)), (7, .bool true), (11, .slice (some ⟨0, off, none⟩) m c), (12, .int .i64 (Int.ofNat m)), (13, .int .i64 (Int.ofNat i))]
  Hp _ := [some (.row (ints zs) 2 m1 w1 true), some (.row (lnC a b s d) 0 false true true)]
  I i := i ≤ m ∧ fitB w (a, b, s, d) (((zs.drop off).take (m * 2)).drop (i * 2)) = fitB w (a, b, s, d) ((zs.drop off).take (m * 2))
  m i := m - i
noncomputable def hsSf (zs : List Int) (off m c : Nat) (m1 w1 : Bool) (w a b s d : Int) : Hs Tryz.prog where
  op y := if y = 400 then some (hIa Tryz.prog) else if y = 401 then some (hLd Tryz.prog (z2 zs)) else none
  lp _ := some (lpSf zs off m c m1 w1 w a b s d)
  cl _ := keep 38 [2, 3, 7, 11, 12, 13]
  au := au0 Tryz.prog
theorem sf_t (zs : List Int) (off : Nat) (m : Nat) (c : Nat) (m1 : Bool) (w1 : Bool) (w : Int) (a : Int) (b : Int) (s : Int) (d : Int) (K : Value → Heap → Prop) :
    (fnP Tryz.prog c0 (hsSf zs off m c m1 w1 w a b s d) (141 : FuncId) [Value.agg (List.toArray (lnC a b s d)), Value.slice (some { block := (0 : Nat), off := off }) m c, Value.int IntKind.i64 w] [some (AObj.row (ints zs) (2 : Nat) m1 w1 true)] K) =
    ((∃ s_1, Is (s_1 ≤ m ∧ fitB w (a, b, s, d) (List.drop (s_1 * (2 : Nat)) (List.take (m * (2 : Nat)) (List.drop off zs))) = fitB w (a, b, s, d) (List.take (m * (2 : Nat)) (List.drop off zs))) ∧ [poi, poi, Value.int IntKind.i64 w, Value.pointer (some { block := (1 : Nat), off := (0 : Nat) }), poi, poi, poi, Value.bool true, poi, poi, poi, Value.slice (some { block := (0 : Nat), off := off }) m c, Value.int IntKind.i64 (↑m : Int), Value.int IntKind.i64 (0 : Int), poi, poi, poi, poi, poi, poi, poi, poi, poi, poi, poi, poi, poi, poi, poi, poi, poi, poi, poi, poi, poi, poi, poi, poi] = [poi, poi, Value.int IntKind.i64 w, Value.pointer (some { block := (1 : Nat), off := (0 : Nat) }), poi, poi, poi, Value.bool true, poi, poi, poi, Value.slice (some { block := (0 : Nat), off := off }) m c, Value.int IntKind.i64 (↑m : Int), Value.int IntKind.i64 (↑s_1 : Int), poi, poi, poi, poi, poi, poi, poi, poi, poi, poi, poi, poi, poi, poi, poi, poi, poi, poi, poi, poi, poi, poi, poi, poi] ∧ some (AObj.row (ints zs) (2 : Nat) m1 w1 true) :: some (AObj.row [Value.int IntKind.i64 a, Value.int IntKind.i64 b, Value.int IntKind.i64 s, Value.int IntKind.i64 d] (0 : Nat) false true (List.all [Value.int IntKind.i64 a, Value.int IntKind.i64 b, Value.int IntKind.i64 s, Value.int IntKind.i64 d] atom)) :: noH = some (AObj.row (ints zs) (2 : Nat) m1 w1 true) :: some (AObj.row [Value.int IntKind.i64 a, Value.int IntKind.i64 b, Value.int IntKind.i64 s, Value.int IntKind.i64 d] (0 : Nat) false true true) :: noH) ∧ ∀ (s_1 : Nat), Is (s_1 ≤ m ∧ fitB w (a, b, s, d) (List.drop (s_1 * (2 : Nat)) (List.take (m * (2 : Nat)) (List.drop off zs))) = fitB w (a, b, s, d) (List.take (m * (2 : Nat)) (List.drop off zs))) → br (decide ((↑s_1 : Int) < (↑m : Int))) (Is ((0 : Int) ≤ (↑s_1 : Int) ∧ (↑s_1 : Int) < (↑m : Int)) ∧ Is ((if off + Int.toNat (↑s_1 : Int) * (2 : Nat) + (2 : Nat) ≤ List.length (ints zs) then some (Value.agg (List.toArray (List.take (2 : Nat) (List.drop (off + Int.toNat (↑s_1 : Int) * (2 : Nat)) (ints zs))))) else none) = some (Value.agg #[Value.int IntKind.i64 (List.getD zs (off + Int.toNat (↑s_1 : Int) * (2 : Nat)) (0 : Int)), Value.int IntKind.i64 (List.getD zs (off + Int.toNat (↑s_1 : Int) * (2 : Nat) + (1 : Nat)) (0 : Int))])) ∧ br (decide (IntKind.wrap IntKind.i64 (w * d) < if IntKind.wrap IntKind.i64 ((0 : Int) - IntKind.wrap IntKind.i64 (IntKind.wrap IntKind.i64 (b + IntKind.wrap IntKind.i64 (s * IntKind.wrap IntKind.i64 (List.getD zs (off + Int.toNat (↑s_1 : Int) * (2 : Nat)) (0 : Int) - a))) - IntKind.wrap IntKind.i64 (List.getD zs (off + Int.toNat (↑s_1 : Int) * (2 : Nat) + (1 : Nat)) (0 : Int) * d))) > IntKind.wrap IntKind.i64 (IntKind.wrap IntKind.i64 (b + IntKind.wrap IntKind.i64 (s * IntKind.wrap IntKind.i64 (List.getD zs (off + Int.toNat (↑s_1 : Int) * (2 : Nat)) (0 : Int) - a))) - IntKind.wrap IntKind.i64 (List.getD zs (off + Int.toNat (↑s_1 : Int) * (2 : Nat) + (1 : Nat)) (0 : Int) * d)) then IntKind.wrap IntKind.i64 ((0 : Int) - IntKind.wrap IntKind.i64 (IntKind.wrap IntKind.i64 (b + IntKind.wrap IntKind.i64 (s * IntKind.wrap IntKind.i64 (List.getD zs (off + Int.toNat (↑s_1 : Int) * (2 : Nat)) (0 : Int) - a))) - IntKind.wrap IntKind.i64 (List.getD zs (off + Int.toNat (↑s_1 : Int) * (2 : Nat) + (1 : Nat)) (0 : Int) * d))) else IntKind.wrap IntKind.i64 (IntKind.wrap IntKind.i64 (b + IntKind.wrap IntKind.i64 (s * IntKind.wrap IntKind.i64 (List.getD zs (off + Int.toNat (↑s_1 : Int) * (2 : Nat)) (0 : Int) - a))) - IntKind.wrap IntKind.i64 (List.getD zs (off + Int.toNat (↑s_1 : Int) * (2 : Nat) + (1 : Nat)) (0 : Int) * d)))) (K (Value.bool false) (some (AObj.row (ints zs) (2 : Nat) m1 w1 true) :: noH)) (∃ s', Is (s' ≤ m ∧ fitB w (a, b, s, d) (List.drop (s' * (2 : Nat)) (List.take (m * (2 : Nat)) (List.drop off zs))) = fitB w (a, b, s, d) (List.take (m * (2 : Nat)) (List.drop off zs))) ∧ Is (m - s' < m - s_1) ∧ [poi, poi, Value.int IntKind.i64 w, Value.pointer (some { block := (1 : Nat), off := (0 : Nat) }), poi, poi, poi, Value.bool true, poi, poi, poi, Value.slice (some { block := (0 : Nat), off := off }) m c, Value.int IntKind.i64 (↑m : Int), Value.int IntKind.i64 (IntKind.wrap IntKind.i64 ((↑s_1 : Int) + (1 : Int))), poi, poi, poi, poi, poi, poi, poi, poi, poi, poi, poi, poi, poi, poi, poi, poi, poi, poi, poi, poi, poi, poi, poi, poi] = [poi, poi, Value.int IntKind.i64 w, Value.pointer (some { block := (1 : Nat), off := (0 : Nat) }), poi, poi, poi, Value.bool true, poi, poi, poi, Value.slice (some { block := (0 : Nat), off := off }) m c, Value.int IntKind.i64 (↑m : Int), Value.int IntKind.i64 (↑s' : Int), poi, poi, poi, poi, poi, poi, poi, poi, poi, poi, poi, poi, poi, poi, poi, poi, poi, poi, poi, poi, poi, poi, poi, poi] ∧ some (AObj.row (ints zs) (2 : Nat) m1 w1 true) :: some (AObj.row [Value.int IntKind.i64 a, Value.int IntKind.i64 b, Value.int IntKind.i64 s, Value.int IntKind.i64 d] (0 : Nat) false true true) :: noH = some (AObj.row (ints zs) (2 : Nat) m1 w1 true) :: some (AObj.row [Value.int IntKind.i64 a, Value.int IntKind.i64 b, Value.int IntKind.i64 s, Value.int IntKind.i64 d] (0 : Nat) false true true) :: noH)) (K (Value.bool true) (some (AObj.row (ints zs) (2 : Nat) m1 w1 true) :: noH))) := by kernel_rfl
noncomputable def liC (a b c d e : Int) : List Value := [.int .i64 a, .int .i64 b, .int .i64 c, .int .i64 d, .int .i64 e]
noncomputable def lpFtR (zs : List Int) (off m c : Nat) (m1 w1 : Bool) (w a p q r t : Int) : Lp where
  σ := Nat
  E i := slots 61 [(0, .slice (some ⟨0, off, none⟩) m c), (1, .int .i64 w), (5, .pointer (some ⟨1, 0, none⟩)), (7, .int .i64 (W (q * t))), (8, .int .i64 (Int.ofNat i))]
  Hp _ := [some (.row (ints zs) 2 m1 w1 true), some (.row (liC a p q r t) 0 false true true)]
  I i := i ≤ m ∧ fitB w (a, p * t, r * q, q * t) (((zs.drop off).take (m * 2)).drop (i * 2)) = fitB w (a, p * t, r * q, q * t) ((zs.drop off).take (m * 2))
  m i := m - i
noncomputable def hsFtR (zs : List Int) (off m c : Nat) (m1 w1 : Bool) (w a p q r t : Int) : Hs Tryz.prog where
  op y := if [512, 603].contains y then some (hIa Tryz.prog) else if [514, 605].contains y then some (hLd Tryz.prog (zI zs)) else none
  lp _ := some (lpFtR zs off m c m1 w1 w a p q r t)
  cl _ := keep 61 [0, 1, 5, 7, 8]
  au := au0 Tryz.prog
theorem ftR_t (zs : List Int) (off : Nat) (m : Nat) (c : Nat) (m1 : Bool) (w1 : Bool) (w : Int) (a : Int) (p : Int) (q : Int) (r : Int) (t : Int) (K : Value → Heap → Prop) :
    (fnP Tryz.prog c0 (hsFtR zs off m c m1 w1 w a p q r t) (56 : FuncId) [Value.slice (some { block := (0 : Nat), off := off }) m c, Value.int IntKind.i64 w, Value.agg (List.toArray (liC a p q r t))] [some (AObj.row (ints zs) (2 : Nat) m1 w1 true)] K) =
    ((∃ s, Is (s ≤ m ∧ fitB w (a, p * t, r * q, q * t) (List.drop (s * (2 : Nat)) (List.take (m * (2 : Nat)) (List.drop off zs))) = fitB w (a, p * t, r * q, q * t) (List.take (m * (2 : Nat)) (List.drop off zs))) ∧ [Value.slice (some { block := (0 : Nat), off := off }) m c, Value.int IntKind.i64 w, poi, poi, poi, Value.pointer (some { block := (1 : Nat), off := (0 : Nat) }), poi, Value.int IntKind.i64 (IntKind.wrap IntKind.i64 (q * t)), Value.int IntKind.i64 (0 : Int), poi, poi, poi, poi, poi, poi, poi, poi, poi, poi, poi, poi, poi, poi, poi, poi, poi, poi, poi, poi, poi, poi, poi, poi, poi, poi, poi, poi, poi, poi, poi, poi, poi, poi, poi, poi, poi, poi, poi, poi, poi, poi, poi, poi, poi, poi, poi, poi, poi, poi, poi, poi] = [Value.slice (some { block := (0 : Nat), off := off }) m c, Value.int IntKind.i64 w, poi, poi, poi, Value.pointer (some { block := (1 : Nat), off := (0 : Nat) }), poi, Value.int IntKind.i64 (W (q * t)), Value.int IntKind.i64 (↑s : Int), poi, poi, poi, poi, poi, poi, poi, poi, poi, poi, poi, poi, poi, poi, poi, poi, poi, poi, poi, poi, poi, poi, poi, poi, poi, poi, poi, poi, poi, poi, poi, poi, poi, poi, poi, poi, poi, poi, poi, poi, poi, poi, poi, poi, poi, poi, poi, poi, poi, poi, poi, poi] ∧ some (AObj.row (ints zs) (2 : Nat) m1 w1 true) :: some (AObj.row [Value.int IntKind.i64 a, Value.int IntKind.i64 p, Value.int IntKind.i64 q, Value.int IntKind.i64 r, Value.int IntKind.i64 t] (0 : Nat) false true (List.all [Value.int IntKind.i64 a, Value.int IntKind.i64 p, Value.int IntKind.i64 q, Value.int IntKind.i64 r, Value.int IntKind.i64 t] atom)) :: noH = some (AObj.row (ints zs) (2 : Nat) m1 w1 true) :: some (AObj.row [Value.int IntKind.i64 a, Value.int IntKind.i64 p, Value.int IntKind.i64 q, Value.int IntKind.i64 r, Value.int IntKind.i64 t] (0 : Nat) false true true) :: noH) ∧ ∀ (s : Nat), Is (s ≤ m ∧ fitB w (a, p * t, r * q, q * t) (List.drop (s * (2 : Nat)) (List.take (m * (2 : Nat)) (List.drop off zs))) = fitB w (a, p * t, r * q, q * t) (List.take (m * (2 : Nat)) (List.drop off zs))) → br (decide ((↑s : Int) < (↑m : Int))) (Is ((0 : Int) ≤ (↑s : Int) ∧ (↑s : Int) < (↑m : Int)) ∧ Is ((ints zs)[off + Int.toNat (↑s : Int) * (2 : Nat) + (0 : Nat)]? = some (Value.int IntKind.i64 (List.getD zs (off + Int.toNat (↑s : Int) * (2 : Nat) + (0 : Nat)) (0 : Int)))) ∧ Is ((0 : Int) ≤ (↑s : Int) ∧ (↑s : Int) < (↑m : Int)) ∧ Is ((ints zs)[off + Int.toNat (↑s : Int) * (2 : Nat) + (1 : Nat)]? = some (Value.int IntKind.i64 (List.getD zs (off + Int.toNat (↑s : Int) * (2 : Nat) + (1 : Nat)) (0 : Int)))) ∧ br (decide (IntKind.wrap IntKind.i64 (w * W (q * t)) < if IntKind.wrap IntKind.i64 ((0 : Int) - IntKind.wrap IntKind.i64 (IntKind.wrap IntKind.i64 (IntKind.wrap IntKind.i64 (p * t) + IntKind.wrap IntKind.i64 (IntKind.wrap IntKind.i64 (r * IntKind.wrap IntKind.i64 (List.getD zs (off + Int.toNat (↑s : Int) * (2 : Nat) + (0 : Nat)) (0 : Int) - a)) * q)) - IntKind.wrap IntKind.i64 (List.getD zs (off + Int.toNat (↑s : Int) * (2 : Nat) + (1 : Nat)) (0 : Int) * W (q * t)))) > IntKind.wrap IntKind.i64 (IntKind.wrap IntKind.i64 (IntKind.wrap IntKind.i64 (p * t) + IntKind.wrap IntKind.i64 (IntKind.wrap IntKind.i64 (r * IntKind.wrap IntKind.i64 (List.getD zs (off + Int.toNat (↑s : Int) * (2 : Nat) + (0 : Nat)) (0 : Int) - a)) * q)) - IntKind.wrap IntKind.i64 (List.getD zs (off + Int.toNat (↑s : Int) * (2 : Nat) + (1 : Nat)) (0 : Int) * W (q * t))) then IntKind.wrap IntKind.i64 ((0 : Int) - IntKind.wrap IntKind.i64 (IntKind.wrap IntKind.i64 (IntKind.wrap IntKind.i64 (p * t) + IntKind.wrap IntKind.i64 (IntKind.wrap IntKind.i64 (r * IntKind.wrap IntKind.i64 (List.getD zs (off + Int.toNat (↑s : Int) * (2 : Nat) + (0 : Nat)) (0 : Int) - a)) * q)) - IntKind.wrap IntKind.i64 (List.getD zs (off + Int.toNat (↑s : Int) * (2 : Nat) + (1 : Nat)) (0 : Int) * W (q * t)))) else IntKind.wrap IntKind.i64 (IntKind.wrap IntKind.i64 (IntKind.wrap IntKind.i64 (p * t) + IntKind.wrap IntKind.i64 (IntKind.wrap IntKind.i64 (r * IntKind.wrap IntKind.i64 (List.getD zs (off + Int.toNat (↑s : Int) * (2 : Nat) + (0 : Nat)) (0 : Int) - a)) * q)) - IntKind.wrap IntKind.i64 (List.getD zs (off + Int.toNat (↑s : Int) * (2 : Nat) + (1 : Nat)) (0 : Int) * W (q * t))))) (K (Value.bool false) (some (AObj.row (ints zs) (2 : Nat) m1 w1 true) :: noH)) (∃ s', Is (s' ≤ m ∧ fitB w (a, p * t, r * q, q * t) (List.drop (s' * (2 : Nat)) (List.take (m * (2 : Nat)) (List.drop off zs))) = fitB w (a, p * t, r * q, q * t) (List.take (m * (2 : Nat)) (List.drop off zs))) ∧ Is (m - s' < m - s) ∧ [Value.slice (some { block := (0 : Nat), off := off }) m c, Value.int IntKind.i64 w, poi, poi, poi, Value.pointer (some { block := (1 : Nat), off := (0 : Nat) }), poi, Value.int IntKind.i64 (W (q * t)), Value.int IntKind.i64 (IntKind.wrap IntKind.i64 ((↑s : Int) + (1 : Int))), poi, poi, poi, poi, poi, poi, poi, poi, poi, poi, poi, poi, poi, poi, poi, poi, poi, poi, poi, poi, poi, poi, poi, poi, poi, poi, poi, poi, poi, poi, poi, poi, poi, poi, poi, poi, poi, poi, poi, poi, poi, poi, poi, poi, poi, poi, poi, poi, poi, poi, poi, poi] = [Value.slice (some { block := (0 : Nat), off := off }) m c, Value.int IntKind.i64 w, poi, poi, poi, Value.pointer (some { block := (1 : Nat), off := (0 : Nat) }), poi, Value.int IntKind.i64 (W (q * t)), Value.int IntKind.i64 (↑s' : Int), poi, poi, poi, poi, poi, poi, poi, poi, poi, poi, poi, poi, poi, poi, poi, poi, poi, poi, poi, poi, poi, poi, poi, poi, poi, poi, poi, poi, poi, poi, poi, poi, poi, poi, poi, poi, poi, poi, poi, poi, poi, poi, poi, poi, poi, poi, poi, poi, poi, poi, poi, poi] ∧ some (AObj.row (ints zs) (2 : Nat) m1 w1 true) :: some (AObj.row [Value.int IntKind.i64 a, Value.int IntKind.i64 p, Value.int IntKind.i64 q, Value.int IntKind.i64 r, Value.int IntKind.i64 t] (0 : Nat) false true true) :: noH = some (AObj.row (ints zs) (2 : Nat) m1 w1 true) :: some (AObj.row [Value.int IntKind.i64 a, Value.int IntKind.i64 p, Value.int IntKind.i64 q, Value.int IntKind.i64 r, Value.int IntKind.i64 t] (0 : Nat) false true true) :: noH)) (K (Value.bool true) (some (AObj.row (ints zs) (2 : Nat) m1 w1 true) :: noH))) := by kernel_rfl
noncomputable def lpCo (zs : List Int) (off m c : Nat) (m1 w1 : Bool) (w x y u v : Int) : Lp where
  σ := Nat
  E i := slots 42 [(0, .slice (some ⟨0, off, none⟩) m c), (1, .int .i64 w), (5, .pointer (some ⟨1, 0, none⟩)), (7, .int .i64 (W (u - x))), (8, .int .i64 (Int.ofNat i))]
  Hp _ := [some (.row (ints zs) 2 m1 w1 true), some (.row (lnC x y u v) 0 false true true)]
  I i := i ≤ m ∧ fitB w (lnOf (x, y, u, v)) (((zs.drop off).take (m * 2)).drop (i * 2)) = fitB w (lnOf (x, y, u, v)) ((zs.drop off).take (m * 2))
  m i := m - i
noncomputable def hsCo (zs : List Int) (off m c : Nat) (m1 w1 : Bool) (w x y u v : Int) : Hs Tryz.prog where
  op y := if [503, 509].contains y then some (hIa Tryz.prog) else if [505, 511].contains y then some (hLd Tryz.prog (zI zs)) else none
  lp _ := some (lpCo zs off m c m1 w1 w x y u v)
  cl _ := keep 42 [0, 1, 5, 7, 8]
  au := au0 Tryz.prog
theorem co_t (zs : List Int) (off : Nat) (m : Nat) (c : Nat) (m1 : Bool) (w1 : Bool) (w : Int) (x : Int) (y : Int) (u : Int) (v : Int) (K : Value → Heap → Prop) :
    (fnP Tryz.prog c0 (hsCo zs off m c m1 w1 w x y u v) (156 : FuncId) [Value.slice (some { block := (0 : Nat), off := off }) m c, Value.int IntKind.i64 w, Value.agg (List.toArray (lnC x y u v))] [some (AObj.row (ints zs) (2 : Nat) m1 w1 true)] K) =
    ((∃ s, Is (s ≤ m ∧ fitB w (x, y * (u - x), v - y, u - x) (List.drop (s * (2 : Nat)) (List.take (m * (2 : Nat)) (List.drop off zs))) = fitB w (x, y * (u - x), v - y, u - x) (List.take (m * (2 : Nat)) (List.drop off zs))) ∧ [Value.slice (some { block := (0 : Nat), off := off }) m c, Value.int IntKind.i64 w, poi, poi, poi, Value.pointer (some { block := (1 : Nat), off := (0 : Nat) }), poi, Value.int IntKind.i64 (IntKind.wrap IntKind.i64 (u - x)), Value.int IntKind.i64 (0 : Int), poi, poi, poi, poi, poi, poi, poi, poi, poi, poi, poi, poi, poi, poi, poi, poi, poi, poi, poi, poi, poi, poi, poi, poi, poi, poi, poi, poi, poi, poi, poi, poi, poi] = [Value.slice (some { block := (0 : Nat), off := off }) m c, Value.int IntKind.i64 w, poi, poi, poi, Value.pointer (some { block := (1 : Nat), off := (0 : Nat) }), poi, Value.int IntKind.i64 (W (u - x)), Value.int IntKind.i64 (↑s : Int), poi, poi, poi, poi, poi, poi, poi, poi, poi, poi, poi, poi, poi, poi, poi, poi, poi, poi, poi, poi, poi, poi, poi, poi, poi, poi, poi, poi, poi, poi, poi, poi, poi] ∧ some (AObj.row (ints zs) (2 : Nat) m1 w1 true) :: some (AObj.row [Value.int IntKind.i64 x, Value.int IntKind.i64 y, Value.int IntKind.i64 u, Value.int IntKind.i64 v] (0 : Nat) false true (List.all [Value.int IntKind.i64 x, Value.int IntKind.i64 y, Value.int IntKind.i64 u, Value.int IntKind.i64 v] atom)) :: noH = some (AObj.row (ints zs) (2 : Nat) m1 w1 true) :: some (AObj.row [Value.int IntKind.i64 x, Value.int IntKind.i64 y, Value.int IntKind.i64 u, Value.int IntKind.i64 v] (0 : Nat) false true true) :: noH) ∧ ∀ (s : Nat), Is (s ≤ m ∧ fitB w (x, y * (u - x), v - y, u - x) (List.drop (s * (2 : Nat)) (List.take (m * (2 : Nat)) (List.drop off zs))) = fitB w (x, y * (u - x), v - y, u - x) (List.take (m * (2 : Nat)) (List.drop off zs))) → br (decide ((↑s : Int) < (↑m : Int))) (Is ((0 : Int) ≤ (↑s : Int) ∧ (↑s : Int) < (↑m : Int)) ∧ Is ((ints zs)[off + Int.toNat (↑s : Int) * (2 : Nat) + (0 : Nat)]? = some (Value.int IntKind.i64 (List.getD zs (off + Int.toNat (↑s : Int) * (2 : Nat) + (0 : Nat)) (0 : Int)))) ∧ Is ((0 : Int) ≤ (↑s : Int) ∧ (↑s : Int) < (↑m : Int)) ∧ Is ((ints zs)[off + Int.toNat (↑s : Int) * (2 : Nat) + (1 : Nat)]? = some (Value.int IntKind.i64 (List.getD zs (off + Int.toNat (↑s : Int) * (2 : Nat) + (1 : Nat)) (0 : Int)))) ∧ br (decide (IntKind.wrap IntKind.i64 (w * W (u - x)) < if IntKind.wrap IntKind.i64 ((0 : Int) - IntKind.wrap IntKind.i64 (IntKind.wrap IntKind.i64 (IntKind.wrap IntKind.i64 (y * IntKind.wrap IntKind.i64 (u - List.getD zs (off + Int.toNat (↑s : Int) * (2 : Nat) + (0 : Nat)) (0 : Int))) + IntKind.wrap IntKind.i64 (v * IntKind.wrap IntKind.i64 (List.getD zs (off + Int.toNat (↑s : Int) * (2 : Nat) + (0 : Nat)) (0 : Int) - x))) - IntKind.wrap IntKind.i64 (List.getD zs (off + Int.toNat (↑s : Int) * (2 : Nat) + (1 : Nat)) (0 : Int) * W (u - x)))) > IntKind.wrap IntKind.i64 (IntKind.wrap IntKind.i64 (IntKind.wrap IntKind.i64 (y * IntKind.wrap IntKind.i64 (u - List.getD zs (off + Int.toNat (↑s : Int) * (2 : Nat) + (0 : Nat)) (0 : Int))) + IntKind.wrap IntKind.i64 (v * IntKind.wrap IntKind.i64 (List.getD zs (off + Int.toNat (↑s : Int) * (2 : Nat) + (0 : Nat)) (0 : Int) - x))) - IntKind.wrap IntKind.i64 (List.getD zs (off + Int.toNat (↑s : Int) * (2 : Nat) + (1 : Nat)) (0 : Int) * W (u - x))) then IntKind.wrap IntKind.i64 ((0 : Int) - IntKind.wrap IntKind.i64 (IntKind.wrap IntKind.i64 (IntKind.wrap IntKind.i64 (y * IntKind.wrap IntKind.i64 (u - List.getD zs (off + Int.toNat (↑s : Int) * (2 : Nat) + (0 : Nat)) (0 : Int))) + IntKind.wrap IntKind.i64 (v * IntKind.wrap IntKind.i64 (List.getD zs (off + Int.toNat (↑s : Int) * (2 : Nat) + (0 : Nat)) (0 : Int) - x))) - IntKind.wrap IntKind.i64 (List.getD zs (off + Int.toNat (↑s : Int) * (2 : Nat) + (1 : Nat)) (0 : Int) * W (u - x)))) else IntKind.wrap IntKind.i64 (IntKind.wrap IntKind.i64 (IntKind.wrap IntKind.i64 (y * IntKind.wrap IntKind.i64 (u - List.getD zs (off + Int.toNat (↑s : Int) * (2 : Nat) + (0 : Nat)) (0 : Int))) + IntKind.wrap IntKind.i64 (v * IntKind.wrap IntKind.i64 (List.getD zs (off + Int.toNat (↑s : Int) * (2 : Nat) + (0 : Nat)) (0 : Int) - x))) - IntKind.wrap IntKind.i64 (List.getD zs (off + Int.toNat (↑s : Int) * (2 : Nat) + (1 : Nat)) (0 : Int) * W (u - x))))) (K (Value.bool false) (some (AObj.row (ints zs) (2 : Nat) m1 w1 true) :: noH)) (∃ s', Is (s' ≤ m ∧ fitB w (x, y * (u - x), v - y, u - x) (List.drop (s' * (2 : Nat)) (List.take (m * (2 : Nat)) (List.drop off zs))) = fitB w (x, y * (u - x), v - y, u - x) (List.take (m * (2 : Nat)) (List.drop off zs))) ∧ Is (m - s' < m - s) ∧ [Value.slice (some { block := (0 : Nat), off := off }) m c, Value.int IntKind.i64 w, poi, poi, poi, Value.pointer (some { block := (1 : Nat), off := (0 : Nat) }), poi, Value.int IntKind.i64 (W (u - x)), Value.int IntKind.i64 (IntKind.wrap IntKind.i64 ((↑s : Int) + (1 : Int))), poi, poi, poi, poi, poi, poi, poi, poi, poi, poi, poi, poi, poi, poi, poi, poi, poi, poi, poi, poi, poi, poi, poi, poi, poi, poi, poi, poi, poi, poi, poi, poi, poi] = [Value.slice (some { block := (0 : Nat), off := off }) m c, Value.int IntKind.i64 w, poi, poi, poi, Value.pointer (some { block := (1 : Nat), off := (0 : Nat) }), poi, Value.int IntKind.i64 (W (u - x)), Value.int IntKind.i64 (↑s' : Int), poi, poi, poi, poi, poi, poi, poi, poi, poi, poi, poi, poi, poi, poi, poi, poi, poi, poi, poi, poi, poi, poi, poi, poi, poi, poi, poi, poi, poi, poi, poi, poi, poi] ∧ some (AObj.row (ints zs) (2 : Nat) m1 w1 true) :: some (AObj.row [Value.int IntKind.i64 x, Value.int IntKind.i64 y, Value.int IntKind.i64 u, Value.int IntKind.i64 v] (0 : Nat) false true true) :: noH = some (AObj.row (ints zs) (2 : Nat) m1 w1 true) :: some (AObj.row [Value.int IntKind.i64 x, Value.int IntKind.i64 y, Value.int IntKind.i64 u, Value.int IntKind.i64 v] (0 : Nat) false true true) :: noH)) (K (Value.bool true) (some (AObj.row (ints zs) (2 : Nat) m1 w1 true) :: noH))) := by kernel_rfl
theorem bmul {a b A B : Int} (_ : 0 ≤ A) (_ : 0 ≤ B) (a0 : -A ≤ a) (a1 : a ≤ A) (b0 : -B ≤ b) (b1 : b ≤ B) : -(A * B) ≤ a * b ∧ a * b ≤ A * B := by
  have := mul_in (a := a.natAbs) (b := b.natAbs) (A := A) (B := B) (by omega) (by omega) (by omega) (by omega)
  rw [← Int.natCast_mul, ← Int.natAbs_mul] at this
  omega
/-- A line and measurements whose numbers do not leave the machine's integers. -/
structure FitIn (zs : List Int) (off m : Nat) (w a b s d : Int) : Prop where
  len : off + m * 2 ≤ zs.length
  few : m ≤ 1000
  w0 : 0 ≤ w
  w1 : w ≤ 100000
  a0 : 0 ≤ a
  a1 : a ≤ 100000
  b0 : -1000000000000 ≤ b
  b1 : b ≤ 1000000000000
  s0 : -1000000000000 ≤ s
  s1 : s ≤ 1000000000000
  d0 : 0 < d
  d1 : d ≤ 1000000000000
  day : ∀ i, i < m → 0 ≤ zs.getD (off + i * 2) 0 ∧ zs.getD (off + i * 2) 0 ≤ 100000
  idx : ∀ i, i < m → 0 ≤ zs.getD (off + i * 2 + 1) 0 ∧ zs.getD (off + i * 2 + 1) 0 ≤ 100000
theorem Part.pts {zs : List Int} {off m : Nat} (h : Part zs off m) : ∀ i, i < m → 0 ≤ zs.getD (off + i * 2) 0 ∧ zs.getD (off + i * 2) 0 ≤ 100000 := fun i hi => by
  have := h.day i hi
  have := h.z0
  omega
theorem fitB_at {L : List Int} {i : Nat} (w : Int) (l : Ln) (h : i * 2 + 2 ≤ L.length) :
    fitB w l (L.drop (i * 2)) = (!decide (w * l.2.2.2 < ((lnat l (L.getD (i * 2) 0) - L.getD (i * 2 + 1) 0 * l.2.2.2).natAbs : Int)) && fitB w l (L.drop ((i + 1) * 2))) := by
  have h1 : i * 2 < L.length := by omega
  have h2 : i * 2 + 1 < L.length := by omega
  have e : (i + 1) * 2 = i * 2 + 1 + 1 := by omega
  rw [List.drop_eq_getElem_cons h1, List.drop_eq_getElem_cons h2, e]
  simp only [fitB, List.getD_eq_getElem?_getD, List.getElem?_eq_getElem h1, List.getElem?_eq_getElem h2, Option.getD_some]
theorem fitB_part {zs : List Int} {off m i : Nat} (w : Int) (l : Ln) (hl : off + m * 2 ≤ zs.length) (hi : i < m) :
    fitB w l (((zs.drop off).take (m * 2)).drop (i * 2)) = (!decide (w * l.2.2.2 < ((lnat l (zs.getD (off + i * 2) 0) - zs.getD (off + i * 2 + 1) 0 * l.2.2.2).natAbs : Int)) && fitB w l (((zs.drop off).take (m * 2)).drop ((i + 1) * 2))) := by
  rw [fitB_at w l (by rw [List.length_take, List.length_drop]; omega), pP_get (by omega), pP_get (by omega), ← Nat.add_assoc]
theorem fitB_end {zs : List Int} {off m : Nat} (w : Int) (l : Ln) : fitB w l (((zs.drop off).take (m * 2)).drop (m * 2)) = true := by
  rw [List.drop_eq_nil_of_le (by rw [List.length_take]; omega)]; rfl
theorem FitIn.bounds {zs : List Int} {off m : Nat} {w a b s d : Int} (h : FitIn zs off m w a b s d) {i : Nat} (hi : i < m) :
    (-100000000000000000 ≤ s * (zs.getD (off + i * 2) 0 - a) ∧ s * (zs.getD (off + i * 2) 0 - a) ≤ 100000000000000000) ∧ (0 ≤ zs.getD (off + i * 2 + 1) 0 * d ∧ zs.getD (off + i * 2 + 1) 0 * d ≤ 100000000000000000) ∧ (0 ≤ w * d ∧ w * d ≤ 100000000000000000) := by
  obtain ⟨t0, t1⟩ := h.day i hi
  obtain ⟨y0, y1⟩ := h.idx i hi
  have ha := h.a0
  have hb := h.a1
  have b1 := bmul (A := 1000000000000) (B := 100000) (by omega) (by omega) h.s0 h.s1 (show -100000 ≤ zs.getD (off + i * 2) 0 - a by omega) (show zs.getD (off + i * 2) 0 - a ≤ 100000 by omega)
  have b2 := mul_in y0 y1 (show 0 ≤ d from Int.le_of_lt h.d0) h.d1
  have b3 := mul_in h.w0 h.w1 (show 0 ≤ d from Int.le_of_lt h.d0) h.d1
  omega
theorem fit_cmp {w X D d : Int} (hX : X = D) (h1 : -4000000000000000000 ≤ D) (h2 : D ≤ 4000000000000000000) (hw : IntKind.wrap .i64 (w * d) = w * d) :
    decide (IntKind.wrap .i64 (w * d) < if IntKind.wrap .i64 (0 - X) > X then IntKind.wrap .i64 (0 - X) else X) = decide (w * d < (D.natAbs : Int)) := by
  have := max_abs (n := D) (by omega) (by omega)
  simp only [W] at this
  rw [hX, hw, this]
set_option maxRecDepth 100000 in
theorem sf_ok {zs : List Int} {off m c : Nat} {m1 w1 : Bool} {w a b s d : Int} (h : FitIn zs off m w a b s d) :
    SmallRes Tryz.prog 141 [.agg (lnC a b s d).toArray, .slice (some ⟨0, off, none⟩) m c, .int .i64 w] [some (.row (ints zs) 2 m1 w1 true)] (.bool (fitB w (a, b, s, d) ((zs.drop off).take (m * 2)))) [some (.row (ints zs) 2 m1 w1 true)] := by
  refine fnP_res hm c0_ok (hs := hsSf zs off m c m1 w1 w a b s d) ?_
  rw [sf_t]
  have hl := h.len
  have hf := h.few
  refine ⟨⟨(0 : Nat), ⟨by omega, by rw [Nat.zero_mul, List.drop_zero]⟩, by first | trivial | rfl, by first | trivial | rfl⟩, fun i hs => br_of (fun hc => ?_) (fun hc => ?_)⟩
  · have hc := lt_of_dec hc
    obtain ⟨i0, i1⟩ := hs.out
    obtain ⟨⟨p0, p1⟩, ⟨q0, q1⟩, ⟨r0, r1⟩⟩ := h.bounds hc
    obtain ⟨t0, t1⟩ := h.day i hc
    have a0 := h.a0
    have a1 := h.a1
    have b0 := h.b0
    have b1 := h.b1
    have st : fitB w (a, b, s, d) (((zs.drop off).take (m * 2)).drop (i * 2)) = (!decide (w * d < ((b + s * (zs.getD (off + i * 2) 0 - a) - zs.getD (off + i * 2 + 1) 0 * d).natAbs : Int)) && fitB w (a, b, s, d) (((zs.drop off).take (m * 2)).drop ((i + 1) * 2))) := fitB_part w (a, b, s, d) hl hc
    simp only [Int.toNat_natCast]
    have e1 : IntKind.wrap .i64 (zs.getD (off + i * 2) 0 - a) = zs.getD (off + i * 2) 0 - a := wrap_eq (by omega) (by omega)
    have e2 : IntKind.wrap .i64 (s * (zs.getD (off + i * 2) 0 - a)) = s * (zs.getD (off + i * 2) 0 - a) := wrap_eq (by omega) (by omega)
    have e3 : IntKind.wrap .i64 (b + s * (zs.getD (off + i * 2) 0 - a)) = b + s * (zs.getD (off + i * 2) 0 - a) := wrap_eq (by omega) (by omega)
    have e4 : IntKind.wrap .i64 (zs.getD (off + i * 2 + 1) 0 * d) = zs.getD (off + i * 2 + 1) 0 * d := wrap_eq (by omega) (by omega)
    have e5 : IntKind.wrap .i64 (b + s * (zs.getD (off + i * 2) 0 - a) - zs.getD (off + i * 2 + 1) 0 * d) = b + s * (zs.getD (off + i * 2) 0 - a) - zs.getD (off + i * 2 + 1) 0 * d := wrap_eq (by omega) (by omega)
    rw [e1, e2, e3, e4, fit_cmp e5 (by omega) (by omega) (wrap_eq (by omega) (by omega))]
    refine ⟨⟨by omega, by omega⟩, ⟨by rw [ints_len, if_pos (show off + i * 2 + 2 ≤ zs.length by omega), ints_pair (by omega)]⟩, br_of (fun hb => ?_) (fun hb => ?_)⟩
    · rw [← i1, st, hb]
      exact ⟨by first | trivial | rfl, by first | trivial | rfl⟩
    · rw [hb] at st
      exact ⟨i + 1, ⟨by omega, by rw [← i1, st]; rfl⟩, ⟨by omega⟩, by rw [up1 hc (by omega)], by first | trivial | rfl⟩
  · have hc := ge_of_dec hc
    obtain ⟨i0, i1⟩ := hs.out
    obtain rfl : i = m := by omega
    rw [← i1, fitB_end]
    exact ⟨by first | trivial | rfl, by first | trivial | rfl⟩
set_option maxRecDepth 100000 in
theorem ftR_ok {zs : List Int} {off m c : Nat} {m1 w1 : Bool} {w a p q r t : Int} (h : FitIn zs off m w a (p * t) (r * q) (q * t)) (r0 : -1000000 ≤ r) (r1 : r ≤ 1000000) :
    SmallRes Tryz.prog 56 [.slice (some ⟨0, off, none⟩) m c, .int .i64 w, .agg (liC a p q r t).toArray] [some (.row (ints zs) 2 m1 w1 true)] (.bool (fitB w (a, p * t, r * q, q * t) ((zs.drop off).take (m * 2)))) [some (.row (ints zs) 2 m1 w1 true)] := by
  refine fnP_res hm c0_ok (hs := hsFtR zs off m c m1 w1 w a p q r t) ?_
  rw [ftR_t]
  have hl := h.len
  have hf := h.few
  have b0 := h.b0
  have b1 := h.b1
  have d0 := h.d0
  have d1 := h.d1
  have f1 : IntKind.wrap .i64 (q * t) = q * t := wrap_eq (by omega) (by omega)
  have f2 : IntKind.wrap .i64 (p * t) = p * t := wrap_eq (by omega) (by omega)
  simp only [W, f1]
  refine ⟨⟨(0 : Nat), ⟨by omega, by rw [Nat.zero_mul, List.drop_zero]⟩, by first | trivial | rfl, by first | trivial | rfl⟩, fun i hs => br_of (fun hc => ?_) (fun hc => ?_)⟩
  · have hc := lt_of_dec hc
    obtain ⟨i0, i1⟩ := hs.out
    obtain ⟨⟨p0, p1⟩, ⟨q0, q1⟩, ⟨w0, w1'⟩⟩ := h.bounds hc
    obtain ⟨t0, t1⟩ := h.day i hc
    have a0 := h.a0
    have a1 := h.a1
    have st : fitB w (a, p * t, r * q, q * t) (((zs.drop off).take (m * 2)).drop (i * 2)) = (!decide (w * (q * t) < ((p * t + r * q * (zs.getD (off + i * 2) 0 - a) - zs.getD (off + i * 2 + 1) 0 * (q * t)).natAbs : Int)) && fitB w (a, p * t, r * q, q * t) (((zs.drop off).take (m * 2)).drop ((i + 1) * 2))) := fitB_part w (a, p * t, r * q, q * t) hl hc
    simp only [Int.toNat_natCast, Nat.add_zero]
    have e1 : IntKind.wrap .i64 (zs.getD (off + i * 2) 0 - a) = zs.getD (off + i * 2) 0 - a := wrap_eq (by omega) (by omega)
    have g1 := bmul (A := 1000000) (B := 100000) (by omega) (by omega) r0 r1 (show -100000 ≤ zs.getD (off + i * 2) 0 - a by omega) (show zs.getD (off + i * 2) 0 - a ≤ 100000 by omega)
    have e2 : IntKind.wrap .i64 (r * (zs.getD (off + i * 2) 0 - a)) = r * (zs.getD (off + i * 2) 0 - a) := wrap_eq (by omega) (by omega)
    have e0 : r * (zs.getD (off + i * 2) 0 - a) * q = r * q * (zs.getD (off + i * 2) 0 - a) := Int.mul_right_comm ..
    have e3 : IntKind.wrap .i64 (r * q * (zs.getD (off + i * 2) 0 - a)) = r * q * (zs.getD (off + i * 2) 0 - a) := wrap_eq (by omega) (by omega)
    have e4 : IntKind.wrap .i64 (p * t + r * q * (zs.getD (off + i * 2) 0 - a)) = p * t + r * q * (zs.getD (off + i * 2) 0 - a) := wrap_eq (by omega) (by omega)
    have e5 : IntKind.wrap .i64 (zs.getD (off + i * 2 + 1) 0 * (q * t)) = zs.getD (off + i * 2 + 1) 0 * (q * t) := wrap_eq (by omega) (by omega)
    have e6 : IntKind.wrap .i64 (p * t + r * q * (zs.getD (off + i * 2) 0 - a) - zs.getD (off + i * 2 + 1) 0 * (q * t)) = p * t + r * q * (zs.getD (off + i * 2) 0 - a) - zs.getD (off + i * 2 + 1) 0 * (q * t) := wrap_eq (by omega) (by omega)
    rw [f2, e1, e2, e0, e3, e4, e5, fit_cmp e6 (by omega) (by omega) (wrap_eq (by omega) (by omega))]
    refine ⟨⟨by omega, by omega⟩, ⟨ints_at (by omega)⟩, ⟨by omega, by omega⟩, ⟨ints_at (by omega)⟩, br_of (fun hb => ?_) (fun hb => ?_)⟩
    · rw [← i1, st, hb]
      exact ⟨by first | trivial | rfl, by first | trivial | rfl⟩
    · rw [hb] at st
      exact ⟨i + 1, ⟨by omega, by rw [← i1, st]; rfl⟩, ⟨by omega⟩, by rw [up1 hc (by omega)], by first | trivial | rfl⟩
  · have hc := ge_of_dec hc
    obtain ⟨i0, i1⟩ := hs.out
    obtain rfl : i = m := by omega
    rw [← i1, fitB_end]
    exact ⟨by first | trivial | rfl, by first | trivial | rfl⟩
/-- A line through two points, near measurements. -/
structure CoIn (zs : List Int) (off m : Nat) (w x y u v : Int) : Prop where
  len : off + m * 2 ≤ zs.length
  few : m ≤ 1000
  w0 : 0 ≤ w
  w1 : w ≤ 100000
  x0 : 0 ≤ x
  xu : x < u
  u1 : u ≤ 100000
  y0 : -200000 ≤ y
  y1 : y ≤ 200000
  v0 : -200000 ≤ v
  v1 : v ≤ 200000
  day : ∀ i, i < m → 0 ≤ zs.getD (off + i * 2) 0 ∧ zs.getD (off + i * 2) 0 ≤ 100000
  idx : ∀ i, i < m → 0 ≤ zs.getD (off + i * 2 + 1) 0 ∧ zs.getD (off + i * 2 + 1) 0 ≤ 100000
theorem CoIn.fit {zs : List Int} {off m : Nat} {w x y u v : Int} (h : CoIn zs off m w x y u v) : FitIn zs off m w x (y * (u - x)) (v - y) (u - x) := by
  obtain ⟨h1, h2, h3, h4, h5, h6, h7, h8, h9, h10, h11, h12, h13⟩ := h
  have g1 := bmul (A := 200000) (B := 100000) (by omega) (by omega) h8 h9 (show -100000 ≤ u - x by omega) (show u - x ≤ 100000 by omega)
  exact ⟨h1, h2, h3, h4, h5, by omega, by omega, by omega, by omega, by omega, by omega, by omega, h12, h13⟩
set_option maxRecDepth 100000 in
theorem co_ok {zs : List Int} {off m c : Nat} {m1 w1 : Bool} {w x y u v : Int} (hh : CoIn zs off m w x y u v) :
    SmallRes Tryz.prog 156 [.slice (some ⟨0, off, none⟩) m c, .int .i64 w, .agg (lnC x y u v).toArray] [some (.row (ints zs) 2 m1 w1 true)] (.bool (fitB w (lnOf (x, y, u, v)) ((zs.drop off).take (m * 2)))) [some (.row (ints zs) 2 m1 w1 true)] := by
  refine fnP_res hm c0_ok (hs := hsCo zs off m c m1 w1 w x y u v) ?_
  rw [co_t]
  have h := hh.fit
  have hl := h.len
  have hf := h.few
  have d0 := h.d0
  have d1 := h.d1
  have x0 := hh.x0
  have xu := hh.xu
  have u1 := hh.u1
  have f1 : IntKind.wrap .i64 (u - x) = u - x := wrap_eq (by omega) (by omega)
  simp only [W, f1]
  refine ⟨⟨(0 : Nat), ⟨by omega, by rw [Nat.zero_mul, List.drop_zero]⟩, by first | trivial | rfl, by first | trivial | rfl⟩, fun i hs => br_of (fun hc => ?_) (fun hc => ?_)⟩
  · have hc := lt_of_dec hc
    obtain ⟨i0, i1⟩ := hs.out
    obtain ⟨⟨p0, p1⟩, ⟨q0, q1⟩, ⟨w0, w1'⟩⟩ := h.bounds hc
    obtain ⟨t0, t1⟩ := h.day i hc
    have b0 := h.b0
    have b1 := h.b1
    have st : fitB w (x, y * (u - x), v - y, u - x) (((zs.drop off).take (m * 2)).drop (i * 2)) = (!decide (w * (u - x) < ((y * (u - x) + (v - y) * (zs.getD (off + i * 2) 0 - x) - zs.getD (off + i * 2 + 1) 0 * (u - x)).natAbs : Int)) && fitB w (x, y * (u - x), v - y, u - x) (((zs.drop off).take (m * 2)).drop ((i + 1) * 2))) := fitB_part w (x, y * (u - x), v - y, u - x) hl hc
    simp only [Int.toNat_natCast, Nat.add_zero]
    have e1 : IntKind.wrap .i64 (u - zs.getD (off + i * 2) 0) = u - zs.getD (off + i * 2) 0 := wrap_eq (by omega) (by omega)
    have e2 : IntKind.wrap .i64 (zs.getD (off + i * 2) 0 - x) = zs.getD (off + i * 2) 0 - x := wrap_eq (by omega) (by omega)
    have g1 := bmul (A := 200000) (B := 100000) (by omega) (by omega) hh.y0 hh.y1 (show -100000 ≤ u - zs.getD (off + i * 2) 0 by omega) (show u - zs.getD (off + i * 2) 0 ≤ 100000 by omega)
    have g2 := bmul (A := 200000) (B := 100000) (by omega) (by omega) hh.v0 hh.v1 (show -100000 ≤ zs.getD (off + i * 2) 0 - x by omega) (show zs.getD (off + i * 2) 0 - x ≤ 100000 by omega)
    have e3 : IntKind.wrap .i64 (y * (u - zs.getD (off + i * 2) 0)) = y * (u - zs.getD (off + i * 2) 0) := wrap_eq (by omega) (by omega)
    have e4 : IntKind.wrap .i64 (v * (zs.getD (off + i * 2) 0 - x)) = v * (zs.getD (off + i * 2) 0 - x) := wrap_eq (by omega) (by omega)
    have e0 : y * (u - zs.getD (off + i * 2) 0) + v * (zs.getD (off + i * 2) 0 - x) = y * (u - x) + (v - y) * (zs.getD (off + i * 2) 0 - x) := by grind
    have e5 : IntKind.wrap .i64 (y * (u - x) + (v - y) * (zs.getD (off + i * 2) 0 - x)) = y * (u - x) + (v - y) * (zs.getD (off + i * 2) 0 - x) := wrap_eq (by omega) (by omega)
    have e6 : IntKind.wrap .i64 (zs.getD (off + i * 2 + 1) 0 * (u - x)) = zs.getD (off + i * 2 + 1) 0 * (u - x) := wrap_eq (by omega) (by omega)
    have e7 : IntKind.wrap .i64 (y * (u - x) + (v - y) * (zs.getD (off + i * 2) 0 - x) - zs.getD (off + i * 2 + 1) 0 * (u - x)) = y * (u - x) + (v - y) * (zs.getD (off + i * 2) 0 - x) - zs.getD (off + i * 2 + 1) 0 * (u - x) := wrap_eq (by omega) (by omega)
    rw [e1, e2, e3, e4, e0, e5, e6, fit_cmp e7 (by omega) (by omega) (wrap_eq (by omega) (by omega))]
    refine ⟨⟨by omega, by omega⟩, ⟨ints_at (by omega)⟩, ⟨by omega, by omega⟩, ⟨ints_at (by omega)⟩, br_of (fun hb => ?_) (fun hb => ?_)⟩
    · rw [show lnOf (x, y, u, v) = (x, y * (u - x), v - y, u - x) from rfl, ← i1, st, hb]
      exact ⟨by first | trivial | rfl, by first | trivial | rfl⟩
    · rw [hb] at st
      exact ⟨i + 1, ⟨by omega, by rw [← i1, st]; rfl⟩, ⟨by omega⟩, by rw [up1 hc (by omega)], by first | trivial | rfl⟩
  · have hc := ge_of_dec hc
    obtain ⟨i0, i1⟩ := hs.out
    obtain rfl : i = m := by omega
    rw [show lnOf (x, y, u, v) = (x, y * (u - x), v - y, u - x) from rfl, ← i1, fitB_end]
    exact ⟨by first | trivial | rfl, by first | trivial | rfl⟩
noncomputable def orcSfV (zs : List Int) : OrcV
  | [.agg ⟨[.int .i64 a, .int .i64 b, .int .i64 s, .int .i64 d]⟩, .slice (some ⟨0, off, none⟩) m _c, .int .i64 w], [some (.row e1 2 m1 w1 true)] => some (.bool (fitB w (a, b, s, d) ((zs.drop off).take (m * 2))), [some (.row e1 2 m1 w1 true)], e1 = ints zs ∧ FitIn zs off m w a b s d)
  | _, _ => none
theorem sf_okV (zs : List Int) : OkV Tryz.prog 141 (orcSfV zs) := by
  intro args H ret H' vc h hv
  unfold orcSfV at h
  split at h
  · cases h
    obtain ⟨rfl, h1⟩ := hv
    exact sf_ok h1
  · cases h
noncomputable def orcFtRV (zs : List Int) : OrcV
  | [.slice (some ⟨0, off, none⟩) m _c, .int .i64 w, .agg ⟨[.int .i64 a, .int .i64 p, .int .i64 q, .int .i64 r, .int .i64 t]⟩], [some (.row e1 2 m1 w1 true)] => some (.bool (fitB w (a, p * t, r * q, q * t) ((zs.drop off).take (m * 2))), [some (.row e1 2 m1 w1 true)], e1 = ints zs ∧ FitIn zs off m w a (p * t) (r * q) (q * t) ∧ -1000000 ≤ r ∧ r ≤ 1000000)
  | _, _ => none
theorem ftR_okV (zs : List Int) : OkV Tryz.prog 56 (orcFtRV zs) := by
  intro args H ret H' vc h hv
  unfold orcFtRV at h
  split at h
  · cases h
    obtain ⟨rfl, h1, h2, h3⟩ := hv
    exact ftR_ok h1 h2 h3
  · cases h
noncomputable def orcCoV (zs : List Int) : OrcV
  | [.slice (some ⟨0, off, none⟩) m _c, .int .i64 w, .agg ⟨[.int .i64 x, .int .i64 y, .int .i64 u, .int .i64 v]⟩], [some (.row e1 2 m1 w1 true)] => some (.bool (fitB w (lnOf (x, y, u, v)) ((zs.drop off).take (m * 2))), [some (.row e1 2 m1 w1 true)], e1 = ints zs ∧ CoIn zs off m w x y u v)
  | _, _ => none
theorem co_okV (zs : List Int) : OkV Tryz.prog 156 (orcCoV zs) := by
  intro args H ret H' vc h hv
  unfold orcCoV at h
  split at h
  · cases h
    obtain ⟨rfl, h1⟩ := hv
    exact co_ok h1
  · cases h
end
end Qq
