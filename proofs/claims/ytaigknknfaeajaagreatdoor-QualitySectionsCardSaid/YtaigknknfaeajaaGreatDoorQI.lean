/- Periods of sections, and the law about them. -/
import Derived.Test.YtaigknknfaeajaaGreatDoorQH
open Go Go.Vm Go.Proofs Sp
namespace Sp
noncomputable section
noncomputable def cnt : List Int → Int → Nat
  | d :: _ :: r, x => (if d < x then 1 else 0) + cnt r x
  | _, _ => 0
noncomputable def frm (zs : List Int) (ks : List (Int × ByteArray)) : Nat → Nat
  | 0 => 0
  | i + 1 => cnt zs (ks.getD i (0, ⟨#[]⟩)).1
noncomputable def spn (zs : List Int) (ks : List (Int × ByteArray)) : Nat → List Int
  | 0 => []
  | i + 1 => spn zs ks i ++ [((frm zs ks i : Nat) : Int), ((frm zs ks (i + 1) : Nat) : Int)]
noncomputable def spans (zs : List Int) (ks : List (Int × ByteArray)) (n k : Nat) : List Int := spn zs ks k ++ [((frm zs ks k : Nat) : Int), (n : Int)]
noncomputable def shortS (nm : ByteArray) (n : Nat) (ks : List (Int × ByteArray)) (k : Nat) : Bool :=
  ks.all (fun a => !decide ((40 : Int) < a.2.size)) && (decide ((nm.size : Int) ≤ 40) && ((decide ((n : Int) ≤ 12) || (n : Int) == 33) && (decide ((k : Int) ≤ 6) || (k : Int) == 17)))
noncomputable def isInts (e : List Value) (n : Nat) : Prop := ∃ xs, e = ints xs ∧ xs.length = n * 2
end
end Sp
namespace Qq
noncomputable section
noncomputable def isSec (zs : List Int) (ks : List (Int × ByteArray)) (n k : Nat) (e1 e2 : List Value) : Prop := e1 = ints zs ∧ e2 = acs ks ∧ zs.length = n * 2 ∧ ks.length = k ∧ n ≤ 1000 ∧ k ≤ 1000
noncomputable def kS (ks : List (Int × ByteArray)) (off : Nat) : Value := .string (ks.getD (off / 2) (0, ⟨#[]⟩)).2
noncomputable def secR (nm : ByteArray) (n c k d : Nat) : Option AObj := some (.row (secA nm 0 n c 1 k d) 0 false true false)
noncomputable def lst2 (l : List Int) : Option AObj := some (.row (ints l) 2 true true true)
/- The reference's first. -/
noncomputable def lpF (nm : ByteArray) (zs : List Int) (ks : List (Int × ByteArray)) (n c k d : Nat) (m1 w1 m2 w2 : Bool) (x : Int) : Lp where
  σ := Nat
  E i := slots 25 [(1, .int .i64 x), (2, .pointer (some ⟨2, 0, none⟩)), (5, .int .i64 (Int.ofNat (cnt (zs.take (i * 2)) x))), (6, .int .i64 (Int.ofNat i))]
  Hp _ := hp2 zs ks m1 w1 m2 w2 [secR nm n c k d]
  I i := i ≤ n
  m i := n - i
noncomputable def hsF (nm : ByteArray) (zs : List Int) (ks : List (Int × ByteArray)) (n c k d : Nat) (m1 w1 m2 w2 : Bool) (x : Int) : Hs Tryz.prog where
  op y := if y = 503 then some (hIa Tryz.prog) else if y = 505 then some (hLd Tryz.prog (zI zs)) else none
  lp _ := some (lpF nm zs ks n c k d m1 w1 m2 w2 x)
  cl _ := keep 25 [1, 2, 5, 6]
  au := au0 Tryz.prog
theorem cntR_t (nm : ByteArray) (zs : List Int) (ks : List (Int × ByteArray)) (n : Nat) (c : Nat) (k : Nat) (d : Nat) (m1 : Bool) (w1 : Bool) (m2 : Bool) (w2 : Bool) (x : Int) (K : Value → Heap → Prop) :
    (fnP Tryz.prog c0 (hsF nm zs ks n c k d m1 w1 m2 w2 x) (125 : FuncId) [Value.agg (List.toArray (secA nm (0 : Nat) n c (1 : Nat) k d)), Value.int IntKind.i64 x] (hp2 zs ks m1 w1 m2 w2 []) K) =
    ((∃ s, Is (s ≤ n) ∧ [poi, Value.int IntKind.i64 x, Value.pointer (some { block := (2 : Nat), off := (0 : Nat) }), poi, poi, Value.int IntKind.i64 (0 : Int), Value.int IntKind.i64 (0 : Int), poi, poi, poi, poi, poi, poi, poi, poi, poi, poi, poi, poi, poi, poi, poi, poi, poi, poi] = [poi, Value.int IntKind.i64 x, Value.pointer (some { block := (2 : Nat), off := (0 : Nat) }), poi, poi, Value.int IntKind.i64 (↑(cnt (List.take (s * (2 : Nat)) zs) x) : Int), Value.int IntKind.i64 (↑s : Int), poi, poi, poi, poi, poi, poi, poi, poi, poi, poi, poi, poi, poi, poi, poi, poi, poi, poi] ∧ some (AObj.row (ints zs) (2 : Nat) m1 w1 true) :: some (AObj.row (acs ks) (2 : Nat) m2 w2 true) :: some (AObj.row [Value.string nm, Value.slice (some { block := (0 : Nat), off := (0 : Nat) }) n c, Value.slice (some { block := (1 : Nat), off := (0 : Nat) }) k d] (0 : Nat) false true (List.all [Value.string nm, Value.slice (some { block := (0 : Nat), off := (0 : Nat) }) n c, Value.slice (some { block := (1 : Nat), off := (0 : Nat) }) k d] atom)) :: noH = some (AObj.row (ints zs) (2 : Nat) m1 w1 true) :: some (AObj.row (acs ks) (2 : Nat) m2 w2 true) :: some (AObj.row [Value.string nm, Value.slice (some { block := (0 : Nat), off := (0 : Nat) }) n c, Value.slice (some { block := (1 : Nat), off := (0 : Nat) }) k d] (0 : Nat) false true false) :: noH) ∧ ∀ (s : Nat), Is (s ≤ n) → br (decide ((↑s : Int) < (↑n : Int))) (Is ((0 : Int) ≤ (↑s : Int) ∧ (↑s : Int) < (↑n : Int)) ∧ Is ((ints zs)[(0 : Nat) + Int.toNat (↑s : Int) * (2 : Nat) + (0 : Nat)]? = some (Value.int IntKind.i64 (List.getD zs ((0 : Nat) + Int.toNat (↑s : Int) * (2 : Nat) + (0 : Nat)) (0 : Int)))) ∧ br (decide (List.getD zs ((0 : Nat) + Int.toNat (↑s : Int) * (2 : Nat) + (0 : Nat)) (0 : Int) < x)) (∃ s', Is (s' ≤ n) ∧ Is (n - s' < n - s) ∧ [poi, Value.int IntKind.i64 x, Value.pointer (some { block := (2 : Nat), off := (0 : Nat) }), poi, poi, Value.int IntKind.i64 (IntKind.wrap IntKind.i64 ((↑(cnt (List.take (s * (2 : Nat)) zs) x) : Int) + (1 : Int))), Value.int IntKind.i64 (IntKind.wrap IntKind.i64 ((↑s : Int) + (1 : Int))), poi, poi, poi, poi, poi, poi, poi, poi, poi, poi, poi, poi, poi, poi, poi, poi, poi, poi] = [poi, Value.int IntKind.i64 x, Value.pointer (some { block := (2 : Nat), off := (0 : Nat) }), poi, poi, Value.int IntKind.i64 (↑(cnt (List.take (s' * (2 : Nat)) zs) x) : Int), Value.int IntKind.i64 (↑s' : Int), poi, poi, poi, poi, poi, poi, poi, poi, poi, poi, poi, poi, poi, poi, poi, poi, poi, poi] ∧ some (AObj.row (ints zs) (2 : Nat) m1 w1 true) :: some (AObj.row (acs ks) (2 : Nat) m2 w2 true) :: some (AObj.row [Value.string nm, Value.slice (some { block := (0 : Nat), off := (0 : Nat) }) n c, Value.slice (some { block := (1 : Nat), off := (0 : Nat) }) k d] (0 : Nat) false true false) :: noH = some (AObj.row (ints zs) (2 : Nat) m1 w1 true) :: some (AObj.row (acs ks) (2 : Nat) m2 w2 true) :: some (AObj.row [Value.string nm, Value.slice (some { block := (0 : Nat), off := (0 : Nat) }) n c, Value.slice (some { block := (1 : Nat), off := (0 : Nat) }) k d] (0 : Nat) false true false) :: noH) (∃ s', Is (s' ≤ n) ∧ Is (n - s' < n - s) ∧ [poi, Value.int IntKind.i64 x, Value.pointer (some { block := (2 : Nat), off := (0 : Nat) }), poi, poi, Value.int IntKind.i64 (↑(cnt (List.take (s * (2 : Nat)) zs) x) : Int), Value.int IntKind.i64 (IntKind.wrap IntKind.i64 ((↑s : Int) + (1 : Int))), poi, poi, poi, poi, poi, poi, poi, poi, poi, poi, poi, poi, poi, poi, poi, poi, poi, poi] = [poi, Value.int IntKind.i64 x, Value.pointer (some { block := (2 : Nat), off := (0 : Nat) }), poi, poi, Value.int IntKind.i64 (↑(cnt (List.take (s' * (2 : Nat)) zs) x) : Int), Value.int IntKind.i64 (↑s' : Int), poi, poi, poi, poi, poi, poi, poi, poi, poi, poi, poi, poi, poi, poi, poi, poi, poi, poi] ∧ some (AObj.row (ints zs) (2 : Nat) m1 w1 true) :: some (AObj.row (acs ks) (2 : Nat) m2 w2 true) :: some (AObj.row [Value.string nm, Value.slice (some { block := (0 : Nat), off := (0 : Nat) }) n c, Value.slice (some { block := (1 : Nat), off := (0 : Nat) }) k d] (0 : Nat) false true false) :: noH = some (AObj.row (ints zs) (2 : Nat) m1 w1 true) :: some (AObj.row (acs ks) (2 : Nat) m2 w2 true) :: some (AObj.row [Value.string nm, Value.slice (some { block := (0 : Nat), off := (0 : Nat) }) n c, Value.slice (some { block := (1 : Nat), off := (0 : Nat) }) k d] (0 : Nat) false true false) :: noH)) (K (Value.int IntKind.i64 (↑(cnt (List.take (s * (2 : Nat)) zs) x) : Int)) (some (AObj.row (ints zs) (2 : Nat) m1 w1 true) :: some (AObj.row (acs ks) (2 : Nat) m2 w2 true) :: noH))) := by kernel_rfl
/- The program's periods. -/
noncomputable def lpP1 (nm : ByteArray) (zs : List Int) (ks : List (Int × ByteArray)) (n c k d : Nat) (m1 w1 m2 w2 : Bool) : Lp where
  σ := Nat
  E i := slots 50 [(1, .pointer (some ⟨2, 0, none⟩)), (3, .slice (some ⟨3, 0, none⟩) i 0), (4, .int .i64 (Int.ofNat (frm zs ks i))), (9, .slice (some ⟨1, 0, none⟩) k d), (10, .int .i64 (Int.ofNat k)), (11, .int .i64 (Int.ofNat i))]
  Hp i := hp2 zs ks m1 w1 m2 w2 [secR nm n c k d, lst2 (spn zs ks i)]
  I i := i ≤ k
  m i := k - i
noncomputable def lpP2 (nm : ByteArray) (zs : List Int) (ks : List (Int × ByteArray)) (n c k d : Nat) (m1 w1 m2 w2 : Bool) (i : Nat) : Lp where
  σ := Nat
  E t := slots 50 [(1, .pointer (some ⟨2, 0, none⟩)), (3, .slice (some ⟨3, 0, none⟩) i 0), (4, .int .i64 (Int.ofNat (frm zs ks i))), (6, .pointer (some ⟨4, 0, none⟩)), (7, .int .i64 (Int.ofNat t)), (9, .slice (some ⟨1, 0, none⟩) k d), (10, .int .i64 (Int.ofNat k)), (11, .int .i64 (Int.ofNat i))]
  Hp t := hp2 zs ks m1 w1 m2 w2 [secR nm n c k d, lst2 (spn zs ks i), some (.row [.int .i64 (ks.getD i (0, ⟨#[]⟩)).1, .string (ks.getD i (0, ⟨#[]⟩)).2] 0 false true true)]
  I t := t ≤ frm zs ks (i + 1)
  m t := n - t
noncomputable def hsP (nm : ByteArray) (zs : List Int) (ks : List (Int × ByteArray)) (n c k d : Nat) (m1 w1 m2 w2 : Bool) : Hs Tryz.prog where
  op y := if [500, 709].contains y then some (hIa Tryz.prog) else if y = 501 then some (hLd Tryz.prog (k2 ks)) else if y = 711 then some (hLd Tryz.prog (zI zs)) else if [905, 1207].contains y then some (hAp Tryz.prog) else none
  lp y := if y = 4 then some (lpP1 nm zs ks n c k d m1 w1 m2 w2) else none
  lq _ := some ⟨Nat, lpP2 nm zs ks n c k d m1 w1 m2 w2⟩
  cl y := if y = 4 then keep 50 [1, 3, 4, 9, 10, 11] else keep 50 [1, 3, 4, 6, 7, 9, 10, 11]
  nl y := if y = 4 then [.slot 3 2] else []
  au := au0 Tryz.prog
theorem per_t (nm : ByteArray) (zs : List Int) (ks : List (Int × ByteArray)) (n : Nat) (c : Nat) (k : Nat) (d : Nat) (m1 : Bool) (w1 : Bool) (m2 : Bool) (w2 : Bool) (K : Value → Heap → Prop) :
    (fnP Tryz.prog c0 (hsP nm zs ks n c k d m1 w1 m2 w2) (124 : FuncId) [Value.agg (List.toArray (secA nm (0 : Nat) n c (1 : Nat) k d))] (hp2 zs ks m1 w1 m2 w2 []) K) =
    ((∃ s, Is (s ≤ k) ∧ [poi, Value.pointer (some { block := (2 : Nat), off := (0 : Nat) }), poi, Value.slice (some { block := (3 : Nat), off := (0 : Nat) }) (0 : Nat) (0 : Nat), Value.int IntKind.i64 (0 : Int), poi, poi, poi, poi, Value.slice (some { block := (1 : Nat), off := (0 : Nat) }) k d, Value.int IntKind.i64 (↑k : Int), Value.int IntKind.i64 (0 : Int), poi, poi, poi, poi, poi, poi, poi, poi, poi, poi, poi, poi, poi, poi, poi, poi, poi, poi, poi, poi, poi, poi, poi, poi, poi, poi, poi, poi, poi, poi, poi, poi, poi, poi, poi, poi, poi, poi] = [poi, Value.pointer (some { block := (2 : Nat), off := (0 : Nat) }), poi, Value.slice (some { block := (3 : Nat), off := (0 : Nat) }) s (0 : Nat), Value.int IntKind.i64 (↑(frm zs ks s) : Int), poi, poi, poi, poi, Value.slice (some { block := (1 : Nat), off := (0 : Nat) }) k d, Value.int IntKind.i64 (↑k : Int), Value.int IntKind.i64 (↑s : Int), poi, poi, poi, poi, poi, poi, poi, poi, poi, poi, poi, poi, poi, poi, poi, poi, poi, poi, poi, poi, poi, poi, poi, poi, poi, poi, poi, poi, poi, poi, poi, poi, poi, poi, poi, poi, poi, poi] ∧ some (AObj.row (ints zs) (2 : Nat) m1 w1 true) :: some (AObj.row (acs ks) (2 : Nat) m2 w2 true) :: some (AObj.row [Value.string nm, Value.slice (some { block := (0 : Nat), off := (0 : Nat) }) n c, Value.slice (some { block := (1 : Nat), off := (0 : Nat) }) k d] (0 : Nat) false true (List.all [Value.string nm, Value.slice (some { block := (0 : Nat), off := (0 : Nat) }) n c, Value.slice (some { block := (1 : Nat), off := (0 : Nat) }) k d] atom)) :: some (AObj.row [] (2 : Nat) true true true) :: noH = some (AObj.row (ints zs) (2 : Nat) m1 w1 true) :: some (AObj.row (acs ks) (2 : Nat) m2 w2 true) :: some (AObj.row [Value.string nm, Value.slice (some { block := (0 : Nat), off := (0 : Nat) }) n c, Value.slice (some { block := (1 : Nat), off := (0 : Nat) }) k d] (0 : Nat) false true false) :: some (AObj.row (ints (spn zs ks s)) (2 : Nat) true true true) :: noH) ∧ ∀ (s : Nat), Is (s ≤ k) → br (decide ((↑s : Int) < (↑k : Int))) (Is ((0 : Int) ≤ (↑s : Int) ∧ (↑s : Int) < (↑k : Int)) ∧ Is ((if (0 : Nat) + Int.toNat (↑s : Int) * (2 : Nat) + (2 : Nat) ≤ List.length (acs ks) then some (Value.agg (List.toArray (List.take (2 : Nat) (List.drop ((0 : Nat) + Int.toNat (↑s : Int) * (2 : Nat)) (acs ks))))) else none) = some (Value.agg #[Value.int IntKind.i64 (Prod.fst (List.getD ks (((0 : Nat) + Int.toNat (↑s : Int) * (2 : Nat)) / (2 : Nat)) ((0 : Int), { data := #[] }))), Value.string (Prod.snd (List.getD ks (((0 : Nat) + Int.toNat (↑s : Int) * (2 : Nat)) / (2 : Nat)) ((0 : Int), { data := #[] })))])) ∧ ∃ p, (∃ s_1, Is (s_1 ≤ frm zs ks (p + (1 : Nat))) ∧ [poi, Value.pointer (some { block := (2 : Nat), off := (0 : Nat) }), poi, Value.slice (some { block := (3 : Nat), off := (0 : Nat) }) s (0 : Nat), Value.int IntKind.i64 (↑(frm zs ks s) : Int), poi, Value.pointer (some { block := (4 : Nat), off := (0 : Nat) }), Value.int IntKind.i64 (↑(frm zs ks s) : Int), poi, Value.slice (some { block := (1 : Nat), off := (0 : Nat) }) k d, Value.int IntKind.i64 (↑k : Int), Value.int IntKind.i64 (↑s : Int), poi, poi, poi, poi, poi, poi, poi, poi, poi, poi, poi, poi, poi, poi, poi, poi, poi, poi, poi, poi, poi, poi, poi, poi, poi, poi, poi, poi, poi, poi, poi, poi, poi, poi, poi, poi, poi, poi] = [poi, Value.pointer (some { block := (2 : Nat), off := (0 : Nat) }), poi, Value.slice (some { block := (3 : Nat), off := (0 : Nat) }) p (0 : Nat), Value.int IntKind.i64 (↑(frm zs ks p) : Int), poi, Value.pointer (some { block := (4 : Nat), off := (0 : Nat) }), Value.int IntKind.i64 (↑s_1 : Int), poi, Value.slice (some { block := (1 : Nat), off := (0 : Nat) }) k d, Value.int IntKind.i64 (↑k : Int), Value.int IntKind.i64 (↑p : Int), poi, poi, poi, poi, poi, poi, poi, poi, poi, poi, poi, poi, poi, poi, poi, poi, poi, poi, poi, poi, poi, poi, poi, poi, poi, poi, poi, poi, poi, poi, poi, poi, poi, poi, poi, poi, poi, poi] ∧ some (AObj.row (ints zs) (2 : Nat) m1 w1 true) :: some (AObj.row (acs ks) (2 : Nat) m2 w2 true) :: some (AObj.row [Value.string nm, Value.slice (some { block := (0 : Nat), off := (0 : Nat) }) n c, Value.slice (some { block := (1 : Nat), off := (0 : Nat) }) k d] (0 : Nat) false true false) :: some (AObj.row (ints (spn zs ks s)) (2 : Nat) true true true) :: some (AObj.row [Value.int IntKind.i64 (Prod.fst (List.getD ks (((0 : Nat) + Int.toNat (↑s : Int) * (2 : Nat)) / (2 : Nat)) ((0 : Int), { data := #[] }))), Value.string (Prod.snd (List.getD ks (((0 : Nat) + Int.toNat (↑s : Int) * (2 : Nat)) / (2 : Nat)) ((0 : Int), { data := #[] })))] (0 : Nat) false true (true && List.all [Value.int IntKind.i64 (Prod.fst (List.getD ks (((0 : Nat) + Int.toNat (↑s : Int) * (2 : Nat)) / (2 : Nat)) ((0 : Int), { data := #[] }))), Value.string (Prod.snd (List.getD ks (((0 : Nat) + Int.toNat (↑s : Int) * (2 : Nat)) / (2 : Nat)) ((0 : Int), { data := #[] })))] atom)) :: noH = some (AObj.row (ints zs) (2 : Nat) m1 w1 true) :: some (AObj.row (acs ks) (2 : Nat) m2 w2 true) :: some (AObj.row [Value.string nm, Value.slice (some { block := (0 : Nat), off := (0 : Nat) }) n c, Value.slice (some { block := (1 : Nat), off := (0 : Nat) }) k d] (0 : Nat) false true false) :: some (AObj.row (ints (spn zs ks p)) (2 : Nat) true true true) :: some (AObj.row [Value.int IntKind.i64 (Prod.fst (List.getD ks p ((0 : Int), { data := #[] }))), Value.string (Prod.snd (List.getD ks p ((0 : Int), { data := #[] })))] (0 : Nat) false true true) :: noH) ∧ ∀ (s_1 : Nat), Is (s_1 ≤ frm zs ks (p + (1 : Nat))) → br (decide ((↑s_1 : Int) < (↑n : Int))) (Is ((0 : Int) ≤ (↑s_1 : Int) ∧ (↑s_1 : Int) < (↑n : Int)) ∧ Is ((ints zs)[(0 : Nat) + Int.toNat (↑s_1 : Int) * (2 : Nat) + (0 : Nat)]? = some (Value.int IntKind.i64 (List.getD zs ((0 : Nat) + Int.toNat (↑s_1 : Int) * (2 : Nat) + (0 : Nat)) (0 : Int)))) ∧ br (decide (List.getD zs ((0 : Nat) + Int.toNat (↑s_1 : Int) * (2 : Nat) + (0 : Nat)) (0 : Int) < Prod.fst (List.getD ks p ((0 : Int), { data := #[] })))) (∃ s', Is (s' ≤ frm zs ks (p + (1 : Nat))) ∧ Is (n - s' < n - s_1) ∧ [poi, Value.pointer (some { block := (2 : Nat), off := (0 : Nat) }), poi, Value.slice (some { block := (3 : Nat), off := (0 : Nat) }) p (0 : Nat), Value.int IntKind.i64 (↑(frm zs ks p) : Int), poi, Value.pointer (some { block := (4 : Nat), off := (0 : Nat) }), Value.int IntKind.i64 (IntKind.wrap IntKind.i64 ((↑s_1 : Int) + (1 : Int))), poi, Value.slice (some { block := (1 : Nat), off := (0 : Nat) }) k d, Value.int IntKind.i64 (↑k : Int), Value.int IntKind.i64 (↑p : Int), poi, poi, poi, poi, poi, poi, poi, poi, poi, poi, poi, poi, poi, poi, poi, poi, poi, poi, poi, poi, poi, poi, poi, poi, poi, poi, poi, poi, poi, poi, poi, poi, poi, poi, poi, poi, poi, poi] = [poi, Value.pointer (some { block := (2 : Nat), off := (0 : Nat) }), poi, Value.slice (some { block := (3 : Nat), off := (0 : Nat) }) p (0 : Nat), Value.int IntKind.i64 (↑(frm zs ks p) : Int), poi, Value.pointer (some { block := (4 : Nat), off := (0 : Nat) }), Value.int IntKind.i64 (↑s' : Int), poi, Value.slice (some { block := (1 : Nat), off := (0 : Nat) }) k d, Value.int IntKind.i64 (↑k : Int), Value.int IntKind.i64 (↑p : Int), poi, poi, poi, poi, poi, poi, poi, poi, poi, poi, poi, poi, poi, poi, poi, poi, poi, poi, poi, poi, poi, poi, poi, poi, poi, poi, poi, poi, poi, poi, poi, poi, poi, poi, poi, poi, poi, poi] ∧ some (AObj.row (ints zs) (2 : Nat) m1 w1 true) :: some (AObj.row (acs ks) (2 : Nat) m2 w2 true) :: some (AObj.row [Value.string nm, Value.slice (some { block := (0 : Nat), off := (0 : Nat) }) n c, Value.slice (some { block := (1 : Nat), off := (0 : Nat) }) k d] (0 : Nat) false true false) :: some (AObj.row (ints (spn zs ks p)) (2 : Nat) true true true) :: some (AObj.row [Value.int IntKind.i64 (Prod.fst (List.getD ks p ((0 : Int), { data := #[] }))), Value.string (Prod.snd (List.getD ks p ((0 : Int), { data := #[] })))] (0 : Nat) false true true) :: noH = some (AObj.row (ints zs) (2 : Nat) m1 w1 true) :: some (AObj.row (acs ks) (2 : Nat) m2 w2 true) :: some (AObj.row [Value.string nm, Value.slice (some { block := (0 : Nat), off := (0 : Nat) }) n c, Value.slice (some { block := (1 : Nat), off := (0 : Nat) }) k d] (0 : Nat) false true false) :: some (AObj.row (ints (spn zs ks p)) (2 : Nat) true true true) :: some (AObj.row [Value.int IntKind.i64 (Prod.fst (List.getD ks p ((0 : Int), { data := #[] }))), Value.string (Prod.snd (List.getD ks p ((0 : Int), { data := #[] })))] (0 : Nat) false true true) :: noH) (Is (List.length (ints (spn zs ks p)) = p * (2 : Nat) ∧ (p + (1 : Nat)) * (16 : Nat) ≤ (140737488355328 : Nat) ∧ p + (1 : Nat) ≤ (9223372036854775807 : Nat)) ∧ ∃ s', Is (s' ≤ k) ∧ Is (k - s' < k - s) ∧ [poi, Value.pointer (some { block := (2 : Nat), off := (0 : Nat) }), poi, Value.slice (some { block := (3 : Nat), off := (0 : Nat) }) (p + (1 : Nat)) (0 : Nat), Value.int IntKind.i64 (↑s_1 : Int), poi, poi, poi, poi, Value.slice (some { block := (1 : Nat), off := (0 : Nat) }) k d, Value.int IntKind.i64 (↑k : Int), Value.int IntKind.i64 (IntKind.wrap IntKind.i64 ((↑p : Int) + (1 : Int))), poi, poi, poi, poi, poi, poi, poi, poi, poi, poi, poi, poi, poi, poi, poi, poi, poi, poi, poi, poi, poi, poi, poi, poi, poi, poi, poi, poi, poi, poi, poi, poi, poi, poi, poi, poi, poi, poi] = [poi, Value.pointer (some { block := (2 : Nat), off := (0 : Nat) }), poi, Value.slice (some { block := (3 : Nat), off := (0 : Nat) }) s' (0 : Nat), Value.int IntKind.i64 (↑(frm zs ks s') : Int), poi, poi, poi, poi, Value.slice (some { block := (1 : Nat), off := (0 : Nat) }) k d, Value.int IntKind.i64 (↑k : Int), Value.int IntKind.i64 (↑s' : Int), poi, poi, poi, poi, poi, poi, poi, poi, poi, poi, poi, poi, poi, poi, poi, poi, poi, poi, poi, poi, poi, poi, poi, poi, poi, poi, poi, poi, poi, poi, poi, poi, poi, poi, poi, poi, poi, poi] ∧ some (AObj.row (ints zs) (2 : Nat) m1 w1 true) :: some (AObj.row (acs ks) (2 : Nat) m2 w2 true) :: some (AObj.row [Value.string nm, Value.slice (some { block := (0 : Nat), off := (0 : Nat) }) n c, Value.slice (some { block := (1 : Nat), off := (0 : Nat) }) k d] (0 : Nat) false true false) :: some (AObj.row (ints (spn zs ks p) ++ [Value.int IntKind.i64 (↑(frm zs ks p) : Int), Value.int IntKind.i64 (↑s_1 : Int)]) (2 : Nat) true true (List.all [Value.int IntKind.i64 (↑(frm zs ks p) : Int), Value.int IntKind.i64 (↑s_1 : Int)] atom)) :: noH = some (AObj.row (ints zs) (2 : Nat) m1 w1 true) :: some (AObj.row (acs ks) (2 : Nat) m2 w2 true) :: some (AObj.row [Value.string nm, Value.slice (some { block := (0 : Nat), off := (0 : Nat) }) n c, Value.slice (some { block := (1 : Nat), off := (0 : Nat) }) k d] (0 : Nat) false true false) :: some (AObj.row (ints (spn zs ks s')) (2 : Nat) true true true) :: noH)) (Is (List.length (ints (spn zs ks p)) = p * (2 : Nat) ∧ (p + (1 : Nat)) * (16 : Nat) ≤ (140737488355328 : Nat) ∧ p + (1 : Nat) ≤ (9223372036854775807 : Nat)) ∧ ∃ s', Is (s' ≤ k) ∧ Is (k - s' < k - s) ∧ [poi, Value.pointer (some { block := (2 : Nat), off := (0 : Nat) }), poi, Value.slice (some { block := (3 : Nat), off := (0 : Nat) }) (p + (1 : Nat)) (0 : Nat), Value.int IntKind.i64 (↑s_1 : Int), poi, poi, poi, poi, Value.slice (some { block := (1 : Nat), off := (0 : Nat) }) k d, Value.int IntKind.i64 (↑k : Int), Value.int IntKind.i64 (IntKind.wrap IntKind.i64 ((↑p : Int) + (1 : Int))), poi, poi, poi, poi, poi, poi, poi, poi, poi, poi, poi, poi, poi, poi, poi, poi, poi, poi, poi, poi, poi, poi, poi, poi, poi, poi, poi, poi, poi, poi, poi, poi, poi, poi, poi, poi, poi, poi] = [poi, Value.pointer (some { block := (2 : Nat), off := (0 : Nat) }), poi, Value.slice (some { block := (3 : Nat), off := (0 : Nat) }) s' (0 : Nat), Value.int IntKind.i64 (↑(frm zs ks s') : Int), poi, poi, poi, poi, Value.slice (some { block := (1 : Nat), off := (0 : Nat) }) k d, Value.int IntKind.i64 (↑k : Int), Value.int IntKind.i64 (↑s' : Int), poi, poi, poi, poi, poi, poi, poi, poi, poi, poi, poi, poi, poi, poi, poi, poi, poi, poi, poi, poi, poi, poi, poi, poi, poi, poi, poi, poi, poi, poi, poi, poi, poi, poi, poi, poi, poi, poi] ∧ some (AObj.row (ints zs) (2 : Nat) m1 w1 true) :: some (AObj.row (acs ks) (2 : Nat) m2 w2 true) :: some (AObj.row [Value.string nm, Value.slice (some { block := (0 : Nat), off := (0 : Nat) }) n c, Value.slice (some { block := (1 : Nat), off := (0 : Nat) }) k d] (0 : Nat) false true false) :: some (AObj.row (ints (spn zs ks p) ++ [Value.int IntKind.i64 (↑(frm zs ks p) : Int), Value.int IntKind.i64 (↑s_1 : Int)]) (2 : Nat) true true (List.all [Value.int IntKind.i64 (↑(frm zs ks p) : Int), Value.int IntKind.i64 (↑s_1 : Int)] atom)) :: noH = some (AObj.row (ints zs) (2 : Nat) m1 w1 true) :: some (AObj.row (acs ks) (2 : Nat) m2 w2 true) :: some (AObj.row [Value.string nm, Value.slice (some { block := (0 : Nat), off := (0 : Nat) }) n c, Value.slice (some { block := (1 : Nat), off := (0 : Nat) }) k d] (0 : Nat) false true false) :: some (AObj.row (ints (spn zs ks s')) (2 : Nat) true true true) :: noH)) (Is (List.length (ints (spn zs ks s)) = s * (2 : Nat) ∧ (s + (1 : Nat)) * (16 : Nat) ≤ (140737488355328 : Nat) ∧ s + (1 : Nat) ≤ (9223372036854775807 : Nat)) ∧ K (Value.slice (some { block := (2 : Nat), off := (0 : Nat) }) (s + (1 : Nat)) (0 : Nat)) (some (AObj.row (ints zs) (2 : Nat) m1 w1 true) :: some (AObj.row (acs ks) (2 : Nat) m2 w2 true) :: some (AObj.row (ints (spn zs ks s) ++ [Value.int IntKind.i64 (↑(frm zs ks s) : Int), Value.int IntKind.i64 (↑n : Int)]) (2 : Nat) true true (List.all [Value.int IntKind.i64 (↑(frm zs ks s) : Int), Value.int IntKind.i64 (↑n : Int)] atom)) :: noH))) := by kernel_rfl
/- The reference's periods. -/
noncomputable def orcCntV (zs : List Int) (ks : List (Int × ByteArray)) : OrcV
  | [.agg ⟨[.string nm, .slice (some ⟨0, 0, none⟩) n c, .slice (some ⟨1, 0, none⟩) k d]⟩, .int .i64 x], [some (.row e1 2 m1 w1 true), some (.row e2 2 m2 w2 true)] => some (.int .i64 (Int.ofNat (cnt zs x)), [some (.row e1 2 m1 w1 true), some (.row e2 2 m2 w2 true)], isSec zs ks n k e1 e2)
  | _, _ => none
noncomputable def orcPerV (zs : List Int) (ks : List (Int × ByteArray)) : OrcV
  | [.agg ⟨[.string nm, .slice (some ⟨0, 0, none⟩) n c, .slice (some ⟨1, 0, none⟩) k d]⟩], [some (.row e1 2 m1 w1 true), some (.row e2 2 m2 w2 true)] => some (.slice (some ⟨2, 0, none⟩) (k + 1) 0, [some (.row e1 2 m1 w1 true), some (.row e2 2 m2 w2 true), lst2 (spans zs ks n k)], isSec zs ks n k e1 e2 ∧ mchk zs (-1) = 0 ∧ achk ks (-1) = 0)
  | _, _ => none
noncomputable def orcPerRV (zs : List Int) (ks : List (Int × ByteArray)) : OrcV
  | [.agg ⟨[.string nm, .slice (some ⟨0, 0, none⟩) n c, .slice (some ⟨1, 0, none⟩) k d]⟩], [some (.row e1 2 false false true), some (.row e2 2 false false true)] => some (.slice (some ⟨2, 0, none⟩) (k + 1) 0, [some (.row e1 2 false false true), some (.row e2 2 false false true), lst2 (spans zs ks n k)], isSec zs ks n k e1 e2)
  | _, _ => none
noncomputable def orcCkV (zs : List Int) (ks : List (Int × ByteArray)) : OrcV
  | [.agg ⟨[.string nm, .slice (some ⟨0, 0, none⟩) n c, .slice (some ⟨1, 0, none⟩) k d]⟩], [some (.row e1 2 m1 w1 true), some (.row e2 2 m2 w2 true)] => some (.int .i64 (secE nm zs n ks k), [some (.row e1 2 m1 w1 true), some (.row e2 2 m2 w2 true)], isSec zs ks n k e1 e2)
  | _, _ => none
noncomputable def orcOwnV (zs : List Int) (ks : List (Int × ByteArray)) : OrcV
  | [.agg ⟨[.string nm, .slice (some ⟨0, 0, none⟩) n c, .slice (some ⟨1, 0, none⟩) k d]⟩], [some (.row e1 2 m1 w1 true), some (.row e2 2 m2 w2 true)] => some (.agg #[.string nm, .slice (some ⟨2, 0, none⟩) n 0, .slice (some ⟨3, 0, none⟩) k 0], [some (.row e1 2 m1 w1 true), some (.row e2 2 m2 w2 true), some (.row (ints zs) 2 true true true), some (.row (acs ks) 2 true true true)], isSec zs ks n k e1 e2)
  | _, _ => none
noncomputable def orcShV (zs : List Int) (ks : List (Int × ByteArray)) : OrcV
  | [.agg ⟨[.string nm, .slice (some ⟨0, 0, none⟩) n c, .slice (some ⟨1, 0, none⟩) k d]⟩], [some (.row e1 2 m1 w1 true), some (.row e2 2 m2 w2 true)] => some (.bool (shortS nm n ks k), [some (.row e1 2 m1 w1 true), some (.row e2 2 m2 w2 true)], e1 = ints zs ∧ e2 = acs ks ∧ ks.length = k ∧ n ≤ 9223372036854775807 ∧ k ≤ 9223372036854775807)
  | _, _ => none
noncomputable def orcSameV (xs ys : List Int) : OrcV
  | [.slice (some ⟨0, 0, none⟩) n c, .slice (some ⟨1, 0, none⟩) m d], [some (.row e1 2 m1 w1 true), some (.row e2 2 m2 w2 true)] => some (.bool (decide (xs = ys)), [some (.row e1 2 m1 w1 true), some (.row e2 2 m2 w2 true)], e1 = ints xs ∧ e2 = ints ys ∧ xs.length = n * 2 ∧ ys.length = m * 2 ∧ n ≤ 100000 ∧ m ≤ 100000)
  | _, _ => none
noncomputable def lpPR (nm : ByteArray) (zs : List Int) (ks : List (Int × ByteArray)) (n c k d : Nat) (m1 w1 m2 w2 : Bool) : Lp where
  σ := Nat
  E i := slots 37 [(1, .pointer (some ⟨2, 0, none⟩)), (3, .slice (some ⟨3, 0, none⟩) i 0), (4, .int .i64 (Int.ofNat (frm zs ks i))), (5, .int .i64 (Int.ofNat i))]
  Hp i := hp2 zs ks m1 w1 m2 w2 [secR nm n c k d, lst2 (spn zs ks i)]
  I i := i ≤ k
  m i := k - i
noncomputable def hsPR {zs : List Int} {ks : List (Int × ByteArray)} (okC : OkV Tryz.prog 125 (orcCntV zs ks)) (nm : ByteArray) (n c k d : Nat) (m1 w1 m2 w2 : Bool) : Hs Tryz.prog where
  op y := if y = 604 then some (hIa Tryz.prog) else if y = 606 then some (hLd Tryz.prog (kI ks)) else if y = 607 then some (hCa Tryz.prog 125 (orcCntV zs ks) okC) else if [705, 907].contains y then some (hAp Tryz.prog) else none
  lp _ := some (lpPR nm zs ks n c k d m1 w1 m2 w2)
  cl _ := keep 37 [1, 3, 4, 5]
  nl _ := [.slot 3 2]
  au := au0 Tryz.prog
/- Equal lists of spans. -/
noncomputable def lpSS (xs ys : List Int) (n c m d : Nat) (m1 w1 m2 w2 : Bool) : Lp where
  σ := Nat
  E i := slots 26 [(0, .slice (some ⟨0, 0, none⟩) n c), (1, .slice (some ⟨1, 0, none⟩) m d), (5, .int .i64 (Int.ofNat i))]
  Hp _ := [some (.row (ints xs) 2 m1 w1 true), some (.row (ints ys) 2 m2 w2 true)]
  I i := i ≤ n ∧ xs.take (i * 2) = ys.take (i * 2)
  m i := n - i
noncomputable def hsSS (xs ys : List Int) (n c m d : Nat) (m1 w1 m2 w2 : Bool) : Hs Tryz.prog where
  op y := if [602, 606].contains y then some (hIa Tryz.prog) else if y = 603 then some (hLd Tryz.prog (z2 xs)) else if y = 607 then some (hLd Tryz.prog (z2 ys)) else none
  lp _ := some (lpSS xs ys n c m d m1 w1 m2 w2)
  cl _ := keep 26 [0, 1, 5]
  au := au0 Tryz.prog
theorem same_t (xs : List Int) (ys : List Int) (n : Nat) (c : Nat) (m : Nat) (d : Nat) (m1 : Bool) (w1 : Bool) (m2 : Bool) (w2 : Bool) (K : Value → Heap → Prop) :
    (fnP Tryz.prog c0 (hsSS xs ys n c m d m1 w1 m2 w2) (34 : FuncId) [Value.slice (some { block := (0 : Nat), off := (0 : Nat) }) n c, Value.slice (some { block := (1 : Nat), off := (0 : Nat) }) m d] [some (AObj.row (ints xs) (2 : Nat) m1 w1 true), some (AObj.row (ints ys) (2 : Nat) m2 w2 true)] K) =
    (br ((↑n : Int) != (↑m : Int)) (K (Value.bool false) (some (AObj.row (ints xs) (2 : Nat) m1 w1 true) :: some (AObj.row (ints ys) (2 : Nat) m2 w2 true) :: noH)) ((∃ s, Is (s ≤ n ∧ List.take (s * (2 : Nat)) xs = List.take (s * (2 : Nat)) ys) ∧ [Value.slice (some { block := (0 : Nat), off := (0 : Nat) }) n c, Value.slice (some { block := (1 : Nat), off := (0 : Nat) }) m d, poi, poi, poi, Value.int IntKind.i64 (0 : Int), poi, poi, poi, poi, poi, poi, poi, poi, poi, poi, poi, poi, poi, poi, poi, poi, poi, poi, poi, poi] = [Value.slice (some { block := (0 : Nat), off := (0 : Nat) }) n c, Value.slice (some { block := (1 : Nat), off := (0 : Nat) }) m d, poi, poi, poi, Value.int IntKind.i64 (↑s : Int), poi, poi, poi, poi, poi, poi, poi, poi, poi, poi, poi, poi, poi, poi, poi, poi, poi, poi, poi, poi] ∧ some (AObj.row (ints xs) (2 : Nat) m1 w1 true) :: some (AObj.row (ints ys) (2 : Nat) m2 w2 true) :: noH = some (AObj.row (ints xs) (2 : Nat) m1 w1 true) :: some (AObj.row (ints ys) (2 : Nat) m2 w2 true) :: noH) ∧ ∀ (s : Nat), Is (s ≤ n ∧ List.take (s * (2 : Nat)) xs = List.take (s * (2 : Nat)) ys) → br (decide ((↑s : Int) < (↑n : Int))) (Is ((0 : Int) ≤ (↑s : Int) ∧ (↑s : Int) < (↑n : Int)) ∧ Is ((if (0 : Nat) + Int.toNat (↑s : Int) * (2 : Nat) + (2 : Nat) ≤ List.length (ints xs) then some (Value.agg (List.toArray (List.take (2 : Nat) (List.drop ((0 : Nat) + Int.toNat (↑s : Int) * (2 : Nat)) (ints xs))))) else none) = some (Value.agg #[Value.int IntKind.i64 (List.getD xs ((0 : Nat) + Int.toNat (↑s : Int) * (2 : Nat)) (0 : Int)), Value.int IntKind.i64 (List.getD xs ((0 : Nat) + Int.toNat (↑s : Int) * (2 : Nat) + (1 : Nat)) (0 : Int))])) ∧ Is ((0 : Int) ≤ (↑s : Int) ∧ (↑s : Int) < (↑m : Int)) ∧ Is ((if (0 : Nat) + Int.toNat (↑s : Int) * (2 : Nat) + (2 : Nat) ≤ List.length (ints ys) then some (Value.agg (List.toArray (List.take (2 : Nat) (List.drop ((0 : Nat) + Int.toNat (↑s : Int) * (2 : Nat)) (ints ys))))) else none) = some (Value.agg #[Value.int IntKind.i64 (List.getD ys ((0 : Nat) + Int.toNat (↑s : Int) * (2 : Nat)) (0 : Int)), Value.int IntKind.i64 (List.getD ys ((0 : Nat) + Int.toNat (↑s : Int) * (2 : Nat) + (1 : Nat)) (0 : Int))])) ∧ Is True ∧ br (!(List.getD xs ((0 : Nat) + Int.toNat (↑s : Int) * (2 : Nat)) (0 : Int) == List.getD ys ((0 : Nat) + Int.toNat (↑s : Int) * (2 : Nat)) (0 : Int) && (List.getD xs ((0 : Nat) + Int.toNat (↑s : Int) * (2 : Nat) + (1 : Nat)) (0 : Int) == List.getD ys ((0 : Nat) + Int.toNat (↑s : Int) * (2 : Nat) + (1 : Nat)) (0 : Int) && true))) (K (Value.bool false) (some (AObj.row (ints xs) (2 : Nat) m1 w1 true) :: some (AObj.row (ints ys) (2 : Nat) m2 w2 true) :: noH)) (∃ s', Is (s' ≤ n ∧ List.take (s' * (2 : Nat)) xs = List.take (s' * (2 : Nat)) ys) ∧ Is (n - s' < n - s) ∧ [Value.slice (some { block := (0 : Nat), off := (0 : Nat) }) n c, Value.slice (some { block := (1 : Nat), off := (0 : Nat) }) m d, poi, poi, poi, Value.int IntKind.i64 (IntKind.wrap IntKind.i64 ((↑s : Int) + (1 : Int))), poi, poi, poi, poi, poi, poi, poi, poi, poi, poi, poi, poi, poi, poi, poi, poi, poi, poi, poi, poi] = [Value.slice (some { block := (0 : Nat), off := (0 : Nat) }) n c, Value.slice (some { block := (1 : Nat), off := (0 : Nat) }) m d, poi, poi, poi, Value.int IntKind.i64 (↑s' : Int), poi, poi, poi, poi, poi, poi, poi, poi, poi, poi, poi, poi, poi, poi, poi, poi, poi, poi, poi, poi] ∧ some (AObj.row (ints xs) (2 : Nat) m1 w1 true) :: some (AObj.row (ints ys) (2 : Nat) m2 w2 true) :: noH = some (AObj.row (ints xs) (2 : Nat) m1 w1 true) :: some (AObj.row (ints ys) (2 : Nat) m2 w2 true) :: noH)) (K (Value.bool true) (some (AObj.row (ints xs) (2 : Nat) m1 w1 true) :: some (AObj.row (ints ys) (2 : Nat) m2 w2 true) :: noH)))) := by kernel_rfl
/- Short. -/
noncomputable def lpSh (nm : ByteArray) (zs : List Int) (ks : List (Int × ByteArray)) (n c k d : Nat) (m1 w1 m2 w2 : Bool) : Lp where
  σ := Nat
  E i := slots 47 [(1, .pointer (some ⟨2, 0, none⟩)), (3, .int .i64 (Int.ofNat i))]
  Hp _ := hp2 zs ks m1 w1 m2 w2 [secR nm n c k d]
  I i := i ≤ k ∧ (ks.take i).all (fun a => !decide ((40 : Int) < a.2.size)) = true
  m i := k - i
noncomputable def hsSh (nm : ByteArray) (zs : List Int) (ks : List (Int × ByteArray)) (n c k d : Nat) (m1 w1 m2 w2 : Bool) : Hs Tryz.prog where
  op y := if y = 403 then some (hIa Tryz.prog) else if y = 405 then some (hLd Tryz.prog (kS ks)) else none
  lp _ := some (lpSh nm zs ks n c k d m1 w1 m2 w2)
  cl _ := keep 47 [1, 3]
  au := au0 Tryz.prog
theorem short_t (nm : ByteArray) (zs : List Int) (ks : List (Int × ByteArray)) (n : Nat) (c : Nat) (k : Nat) (d : Nat) (m1 : Bool) (w1 : Bool) (m2 : Bool) (w2 : Bool) (K : Value → Heap → Prop) :
    (fnP Tryz.prog c0 (hsSh nm zs ks n c k d m1 w1 m2 w2) (35 : FuncId) [Value.agg (List.toArray (secA nm (0 : Nat) n c (1 : Nat) k d))] (hp2 zs ks m1 w1 m2 w2 []) K) =
    ((∃ s, Is (s ≤ k ∧ (List.all (List.take s ks) fun a => !decide ((40 : Int) < (↑(ByteArray.size (Prod.snd a)) : Int))) = true) ∧ [poi, Value.pointer (some { block := (2 : Nat), off := (0 : Nat) }), poi, Value.int IntKind.i64 (0 : Int), poi, poi, poi, poi, poi, poi, poi, poi, poi, poi, poi, poi, poi, poi, poi, poi, poi, poi, poi, poi, poi, poi, poi, poi, poi, poi, poi, poi, poi, poi, poi, poi, poi, poi, poi, poi, poi, poi, poi, poi, poi, poi, poi] = [poi, Value.pointer (some { block := (2 : Nat), off := (0 : Nat) }), poi, Value.int IntKind.i64 (↑s : Int), poi, poi, poi, poi, poi, poi, poi, poi, poi, poi, poi, poi, poi, poi, poi, poi, poi, poi, poi, poi, poi, poi, poi, poi, poi, poi, poi, poi, poi, poi, poi, poi, poi, poi, poi, poi, poi, poi, poi, poi, poi, poi, poi] ∧ some (AObj.row (ints zs) (2 : Nat) m1 w1 true) :: some (AObj.row (acs ks) (2 : Nat) m2 w2 true) :: some (AObj.row [Value.string nm, Value.slice (some { block := (0 : Nat), off := (0 : Nat) }) n c, Value.slice (some { block := (1 : Nat), off := (0 : Nat) }) k d] (0 : Nat) false true (List.all [Value.string nm, Value.slice (some { block := (0 : Nat), off := (0 : Nat) }) n c, Value.slice (some { block := (1 : Nat), off := (0 : Nat) }) k d] atom)) :: noH = some (AObj.row (ints zs) (2 : Nat) m1 w1 true) :: some (AObj.row (acs ks) (2 : Nat) m2 w2 true) :: some (AObj.row [Value.string nm, Value.slice (some { block := (0 : Nat), off := (0 : Nat) }) n c, Value.slice (some { block := (1 : Nat), off := (0 : Nat) }) k d] (0 : Nat) false true false) :: noH) ∧ ∀ (s : Nat), Is (s ≤ k ∧ (List.all (List.take s ks) fun a => !decide ((40 : Int) < (↑(ByteArray.size (Prod.snd a)) : Int))) = true) → br (decide ((↑s : Int) < (↑k : Int))) (Is ((0 : Int) ≤ (↑s : Int) ∧ (↑s : Int) < (↑k : Int)) ∧ Is ((acs ks)[(0 : Nat) + Int.toNat (↑s : Int) * (2 : Nat) + (1 : Nat)]? = some (Value.string (Prod.snd (List.getD ks (((0 : Nat) + Int.toNat (↑s : Int) * (2 : Nat) + (1 : Nat)) / (2 : Nat)) ((0 : Int), { data := #[] }))))) ∧ br (decide ((40 : Int) < (↑(ByteArray.size (Prod.snd (List.getD ks (((0 : Nat) + Int.toNat (↑s : Int) * (2 : Nat) + (1 : Nat)) / (2 : Nat)) ((0 : Int), { data := #[] })))) : Int))) (K (Value.bool false) (some (AObj.row (ints zs) (2 : Nat) m1 w1 true) :: some (AObj.row (acs ks) (2 : Nat) m2 w2 true) :: noH)) (∃ s', Is (s' ≤ k ∧ (List.all (List.take s' ks) fun a => !decide ((40 : Int) < (↑(ByteArray.size (Prod.snd a)) : Int))) = true) ∧ Is (k - s' < k - s) ∧ [poi, Value.pointer (some { block := (2 : Nat), off := (0 : Nat) }), poi, Value.int IntKind.i64 (IntKind.wrap IntKind.i64 ((↑s : Int) + (1 : Int))), poi, poi, poi, poi, poi, poi, poi, poi, poi, poi, poi, poi, poi, poi, poi, poi, poi, poi, poi, poi, poi, poi, poi, poi, poi, poi, poi, poi, poi, poi, poi, poi, poi, poi, poi, poi, poi, poi, poi, poi, poi, poi, poi] = [poi, Value.pointer (some { block := (2 : Nat), off := (0 : Nat) }), poi, Value.int IntKind.i64 (↑s' : Int), poi, poi, poi, poi, poi, poi, poi, poi, poi, poi, poi, poi, poi, poi, poi, poi, poi, poi, poi, poi, poi, poi, poi, poi, poi, poi, poi, poi, poi, poi, poi, poi, poi, poi, poi, poi, poi, poi, poi, poi, poi, poi, poi] ∧ some (AObj.row (ints zs) (2 : Nat) m1 w1 true) :: some (AObj.row (acs ks) (2 : Nat) m2 w2 true) :: some (AObj.row [Value.string nm, Value.slice (some { block := (0 : Nat), off := (0 : Nat) }) n c, Value.slice (some { block := (1 : Nat), off := (0 : Nat) }) k d] (0 : Nat) false true false) :: noH = some (AObj.row (ints zs) (2 : Nat) m1 w1 true) :: some (AObj.row (acs ks) (2 : Nat) m2 w2 true) :: some (AObj.row [Value.string nm, Value.slice (some { block := (0 : Nat), off := (0 : Nat) }) n c, Value.slice (some { block := (1 : Nat), off := (0 : Nat) }) k d] (0 : Nat) false true false) :: noH)) (br (decide ((↑(ByteArray.size nm) : Int) ≤ (40 : Int))) (br (decide ((↑n : Int) ≤ (12 : Int))) (br (decide ((↑k : Int) ≤ (6 : Int))) (K (Value.bool true) (some (AObj.row (ints zs) (2 : Nat) m1 w1 true) :: some (AObj.row (acs ks) (2 : Nat) m2 w2 true) :: noH)) (K (Value.bool ((↑k : Int) == (17 : Int))) (some (AObj.row (ints zs) (2 : Nat) m1 w1 true) :: some (AObj.row (acs ks) (2 : Nat) m2 w2 true) :: noH))) (br ((↑n : Int) == (33 : Int)) (br (decide ((↑k : Int) ≤ (6 : Int))) (K (Value.bool true) (some (AObj.row (ints zs) (2 : Nat) m1 w1 true) :: some (AObj.row (acs ks) (2 : Nat) m2 w2 true) :: noH)) (K (Value.bool ((↑k : Int) == (17 : Int))) (some (AObj.row (ints zs) (2 : Nat) m1 w1 true) :: some (AObj.row (acs ks) (2 : Nat) m2 w2 true) :: noH))) (K (Value.bool false) (some (AObj.row (ints zs) (2 : Nat) m1 w1 true) :: some (AObj.row (acs ks) (2 : Nat) m2 w2 true) :: noH)))) (K (Value.bool false) (some (AObj.row (ints zs) (2 : Nat) m1 w1 true) :: some (AObj.row (acs ks) (2 : Nat) m2 w2 true) :: noH)))) := by kernel_rfl

theorem cnt_take {zs : List Int} {i : Nat} (x : Int) (h : i * 2 + 2 ≤ zs.length) : cnt (zs.take ((i + 1) * 2)) x = cnt (zs.take (i * 2)) x + if zs.getD (i * 2) 0 < x then 1 else 0 := by
  induction i generalizing zs with
  | zero =>
    obtain _ | ⟨a, _ | ⟨b, r⟩⟩ := zs
    · simp at h
    · simp at h
    · simp [cnt]
  | succ i ih =>
    obtain _ | ⟨a, _ | ⟨b, r⟩⟩ := zs
    · simp at h
    · simp at h
    · have h' : i * 2 + 2 ≤ r.length := by simp only [List.length_cons] at h; omega
      have e1 : (i + 1 + 1) * 2 = (i + 1) * 2 + 1 + 1 := by omega
      have e2 : (i + 1) * 2 = i * 2 + 1 + 1 := by omega
      have e3 : (a :: b :: r).getD ((i + 1) * 2) 0 = r.getD (i * 2) 0 := by rw [e2]; rfl
      rw [e3, e1, List.take_succ_cons, List.take_succ_cons]
      rw [show (a :: b :: r).take ((i + 1) * 2) = a :: b :: r.take (i * 2) by rw [e2, List.take_succ_cons, List.take_succ_cons]]
      simp only [cnt]
      rw [ih h']
      omega
theorem cnt_le : ∀ (zs : List Int) (x : Int), cnt zs x * 2 ≤ zs.length
  | [], _ => by simp [cnt]
  | [_], _ => by simp [cnt]
  | a :: b :: r, x => by
    have := cnt_le r x
    simp only [cnt, List.length_cons]
    split <;> omega
theorem cnt_mono {x y : Int} (h : x ≤ y) : ∀ zs : List Int, cnt zs x ≤ cnt zs y
  | [] => by simp [cnt]
  | [_] => by simp [cnt]
  | a :: b :: r => by
    have := cnt_mono h r
    simp only [cnt]
    split <;> split <;> omega
theorem mchk_cons {a b last : Int} {r : List Int} (h : mchk (a :: b :: r) last = 0) : last < a ∧ mchk r a = 0 := by
  simp only [mchk] at h
  obtain ⟨h1, h2⟩ := sel_zero.1 h
  have := fi_zero.1 h1 (wh (decide (a ≤ last)) 11) (by simp)
  have := (wh_zero (by decide)).1 this
  simp at this
  exact ⟨this, h2⟩
theorem cnt_none : ∀ (zs : List Int) (last x : Int), mchk zs last = 0 → x ≤ last + 1 → cnt zs x = 0
  | [], _, _, _, _ => by simp [cnt]
  | [_], _, _, _, _ => by simp [cnt]
  | a :: b :: r, last, x, h, hx => by
    obtain ⟨h1, h2⟩ := mchk_cons h
    have := cnt_none r a x h2 (by omega)
    simp only [cnt, this]
    split <;> omega
theorem cnt_iff : ∀ (zs : List Int) (last x : Int), mchk zs last = 0 → ∀ i, i * 2 + 2 ≤ zs.length → (zs.getD (i * 2) 0 < x ↔ i < cnt zs x)
  | [], _, _, _, i, h => by simp at h
  | [_], _, _, _, i, h => by simp at h
  | a :: b :: r, last, x, hm, i, h => by
    obtain ⟨h1, h2⟩ := mchk_cons hm
    cases i with
    | zero =>
      simp only [Nat.zero_mul, List.getD_cons_zero, cnt]
      by_cases hx : a < x
      · simp only [hx, if_true, true_iff]; omega
      · have := cnt_none r a x h2 (by omega)
        simp only [hx, if_false, this, false_iff]; omega
    | succ i =>
      have e2 : (i + 1) * 2 = i * 2 + 1 + 1 := by omega
      have e3 : (a :: b :: r).getD ((i + 1) * 2) 0 = r.getD (i * 2) 0 := by rw [e2]; rfl
      have ih := cnt_iff r a x h2 i (by simp only [List.length_cons] at h; omega)
      rw [e3, ih]
      simp only [cnt]
      by_cases hx : a < x
      · simp only [hx, if_true]; omega
      · have := cnt_none r a x h2 (by omega)
        simp only [hx, if_false, this]; omega
theorem achk_cons {a : Int × ByteArray} {last : Int} {r : List (Int × ByteArray)} (h : achk (a :: r) last = 0) : last < a.1 ∧ achk r a.1 = 0 := by
  simp only [achk] at h
  obtain ⟨h1, h2⟩ := sel_zero.1 h
  have := fi_zero.1 h1 (wh (decide (a.1 ≤ last)) 11) (by simp)
  have := (wh_zero (by decide)).1 this
  simp at this
  exact ⟨this, h2⟩
theorem acts_up : ∀ (ks : List (Int × ByteArray)) (last : Int), achk ks last = 0 → ∀ i, i + 1 < ks.length → (ks.getD i (0, ⟨#[]⟩)).1 < (ks.getD (i + 1) (0, ⟨#[]⟩)).1
  | [], _, _, i, h => by simp at h
  | [_], _, _, i, h => by simp at h
  | a :: b :: r, last, hm, i, h => by
    obtain ⟨h1, h2⟩ := achk_cons hm
    cases i with
    | zero => exact (achk_cons h2).1
    | succ i => exact acts_up (b :: r) a.1 h2 i (by simpa using h)
theorem frm_up {zs : List Int} {ks : List (Int × ByteArray)} (ha : achk ks (-1) = 0) {i : Nat} (h : i < ks.length) : frm zs ks i ≤ frm zs ks (i + 1) := by
  cases i with
  | zero => exact Nat.zero_le _
  | succ i => exact cnt_mono (Int.le_of_lt (acts_up ks (-1) ha i h)) zs
theorem spn_len (zs : List Int) (ks : List (Int × ByteArray)) : ∀ i, (spn zs ks i).length = i * 2
  | 0 => rfl
  | i + 1 => by simp only [spn, List.length_append, spn_len zs ks i, List.length_cons, List.length_nil]; omega
theorem spans_len (zs : List Int) (ks : List (Int × ByteArray)) (n k : Nat) : (spans zs ks n k).length = (k + 1) * 2 := by
  simp only [spans, List.length_append, spn_len, List.length_cons, List.length_nil]; omega
theorem acs_kind : ∀ {ks : List (Int × ByteArray)} {i : Nat}, i < ks.length → (acs ks)[i * 2 + 1]? = some (.string (ks.getD i (0, ⟨#[]⟩)).2)
  | [], _, h => absurd h (by simp)
  | a :: r, 0, _ => rfl
  | a :: r, i + 1, h => by
    have := acs_kind (ks := r) (i := i) (by simpa using h)
    have e : (i + 1) * 2 + 1 = i * 2 + 1 + 1 + 1 := by omega
    rw [e, acs, List.getElem?_cons_succ, List.getElem?_cons_succ, this]
    simp

set_option maxRecDepth 100000 in
theorem cntR_ok {nm : ByteArray} {zs : List Int} {ks : List (Int × ByteArray)} {n c k d : Nat} {m1 w1 m2 w2 : Bool} (x : Int) (hz : zs.length = n * 2) (hn : n ≤ 1000) :
    SmallRes Tryz.prog 125 [.agg (secA nm 0 n c 1 k d).toArray, .int .i64 x] (hp2 zs ks m1 w1 m2 w2 []) (.int .i64 (Int.ofNat (cnt zs x))) (hp2 zs ks m1 w1 m2 w2 []) := by
  refine fnP_res hm c0_ok (hs := hsF nm zs ks n c k d m1 w1 m2 w2 x) ?_
  rw [cntR_t]
  refine ⟨⟨(0 : Nat), ⟨by omega⟩, by first | trivial | rfl, by first | trivial | rfl⟩, fun s hs => br_of (fun h => ?_) (fun h => ?_)⟩
  · have h := lt_of_dec h
    have hst := cnt_take (zs := zs) (i := s) x (by omega)
    have hle := cnt_le (zs.take (s * 2)) x
    rw [List.length_take] at hle
    simp only [Nat.zero_add, Nat.add_zero, Int.toNat_natCast]
    refine ⟨⟨by omega, by omega⟩, ⟨ints_at (by omega)⟩, br_of (fun he => ⟨s + 1, ⟨h⟩, ⟨by omega⟩, ?_, by first | trivial | rfl⟩) (fun he => ⟨s + 1, ⟨h⟩, ⟨by omega⟩, ?_, by first | trivial | rfl⟩)⟩
    · rw [if_pos (of_decide_eq_true he)] at hst
      rw [up1 h (by omega), up1 (show cnt (zs.take (s * 2)) x < 1001 by omega) (by omega), hst]
    · rw [if_neg (of_decide_eq_false he)] at hst
      rw [up1 h (by omega), hst]
      rfl
  · have h := ge_of_dec h
    have : s = n := by have := hs.out; omega
    subst this
    rw [← hz, List.take_length]
    exact ⟨rfl, rfl⟩
theorem cntR_okV (zs : List Int) (ks : List (Int × ByteArray)) : OkV Tryz.prog 125 (orcCntV zs ks) := by
  intro args H ret H' vc h hv
  unfold orcCntV at h
  split at h
  · cases h
    obtain ⟨rfl, rfl, h1, h2, h3, h4⟩ := hv
    exact cntR_ok _ h1 h3
  · cases h
set_option maxRecDepth 100000 in
theorem per_ok {nm : ByteArray} {zs : List Int} {ks : List (Int × ByteArray)} {n c k d : Nat} {m1 w1 m2 w2 : Bool} (hz : zs.length = n * 2) (hk : ks.length = k) (hn : n ≤ 1000) (hk2 : k ≤ 1000) (hmm : mchk zs (-1) = 0) (ha : achk ks (-1) = 0) :
    SmallRes Tryz.prog 124 [.agg (secA nm 0 n c 1 k d).toArray] (hp2 zs ks m1 w1 m2 w2 []) (.slice (some ⟨2, 0, none⟩) (k + 1) 0) (hp2 zs ks m1 w1 m2 w2 [lst2 (spans zs ks n k)]) := by
  refine fnP_res hm c0_ok (hs := hsP nm zs ks n c k d m1 w1 m2 w2) ?_
  rw [per_t]
  refine ⟨⟨(0 : Nat), ⟨by omega⟩, by first | trivial | rfl, by first | trivial | rfl⟩, fun s hs => br_of (fun h => ?_) (fun h => ?_)⟩
  · have h := lt_of_dec h
    have e2 : s * 2 / 2 = s := by omega
    have hf : frm zs ks (s + 1) ≤ n := by have := cnt_le zs (ks.getD s (0, ⟨#[]⟩)).1; simp only [frm]; omega
    simp only [Nat.zero_add, Nat.add_zero, Int.toNat_natCast, e2]
    refine ⟨⟨by omega, by omega⟩, ⟨?_⟩, s, ⟨frm zs ks s, ⟨frm_up ha (by omega)⟩, by first | trivial | rfl, by first | trivial | rfl⟩, fun t ht => ?_⟩
    · rw [acs_len, if_pos (by omega), acs_pair (by omega)]
    · have ht := ht.out
      have last : t = frm zs ks (s + 1) → Is (List.length (ints (spn zs ks s)) = s * 2 ∧ (s + 1) * 16 ≤ 140737488355328 ∧ s + 1 ≤ 9223372036854775807) := fun _ => ⟨by rw [ints_len, spn_len]; omega⟩
      refine br_of (fun h1 => ⟨⟨by have := lt_of_dec h1; omega, by have := lt_of_dec h1; omega⟩, ⟨ints_at (by have := lt_of_dec h1; omega)⟩, br_of (fun h2 => ?_) (fun h2 => ?_)⟩) (fun h1 => ?_)
      · have h1 := lt_of_dec h1
        have h2 := (cnt_iff zs (-1) _ hmm t (by omega)).1 (of_decide_eq_true h2)
        exact ⟨t + 1, ⟨h2⟩, ⟨by omega⟩, by rw [up1 h1 (by omega)], by first | trivial | rfl⟩
      · have h1 := lt_of_dec h1
        have h2 : ¬ t < cnt zs (ks.getD s (0, ⟨#[]⟩)).1 := fun h => of_decide_eq_false h2 ((cnt_iff zs (-1) (ks.getD s (0, ⟨#[]⟩)).1 hmm t (by omega)).2 h)
        have e : t = frm zs ks (s + 1) := by simp only [frm] at ht ⊢; omega
        subst e
        refine ⟨last rfl, s + 1, ⟨h⟩, ⟨by omega⟩, by rw [up1 h (by omega)], ?_⟩
        rw [show ints (spn zs ks s) ++ [.int .i64 ((frm zs ks s : Nat) : Int), .int .i64 ((frm zs ks (s + 1) : Nat) : Int)] = ints (spn zs ks (s + 1)) by rw [spn, ← ints_app]; rfl]
        first | trivial | rfl
      · have h1 := ge_of_dec h1
        have e : t = frm zs ks (s + 1) := by omega
        subst e
        refine ⟨last rfl, s + 1, ⟨h⟩, ⟨by omega⟩, by rw [up1 h (by omega)], ?_⟩
        rw [show ints (spn zs ks s) ++ [.int .i64 ((frm zs ks s : Nat) : Int), .int .i64 ((frm zs ks (s + 1) : Nat) : Int)] = ints (spn zs ks (s + 1)) by rw [spn, ← ints_app]; rfl]
        first | trivial | rfl
  · have h := ge_of_dec h
    have : s = k := by have := hs.out; omega
    subst this
    refine ⟨⟨by rw [ints_len, spn_len], by omega, by omega⟩, rfl, ?_⟩
    rw [show ints (spn zs ks s) ++ [.int .i64 ((frm zs ks s : Nat) : Int), .int .i64 (n : Int)] = ints (spans zs ks n s) by rw [spans, ← ints_app]; rfl]
    rfl
theorem per_okV (zs : List Int) (ks : List (Int × ByteArray)) : OkV Tryz.prog 124 (orcPerV zs ks) := by
  intro args H ret H' vc h hv
  unfold orcPerV at h
  split at h
  · cases h
    obtain ⟨⟨rfl, rfl, h1, h2, h3, h4⟩, h5, h6⟩ := hv
    exact per_ok h1 h2 h3 h4 h5 h6
  · cases h
theorem ck_okV (zs : List Int) (ks : List (Int × ByteArray)) : OkV Tryz.prog 40 (orcCkV zs ks) := by
  intro args H ret H' vc h hv
  unfold orcCkV at h
  split at h
  · cases h
    obtain ⟨rfl, rfl, h1, h2, h3, h4⟩ := hv
    exact ck_ok h1 h2 h3 h4
  · cases h
theorem ckR_okV (zs : List Int) (ks : List (Int × ByteArray)) : OkV Tryz.prog 38 (orcCkV zs ks) := by
  intro args H ret H' vc h hv
  unfold orcCkV at h
  split at h
  · cases h
    obtain ⟨rfl, rfl, h1, h2, h3, h4⟩ := hv
    exact ckR_ok h1 h2 h3 h4
  · cases h
theorem own_okV (zs : List Int) (ks : List (Int × ByteArray)) : OkV Tryz.prog 37 (orcOwnV zs ks) := by
  intro args H ret H' vc h hv
  unfold orcOwnV at h
  split at h
  · cases h
    obtain ⟨rfl, rfl, h1, h2, h3, h4⟩ := hv
    exact own_ok h1 h2 h3 h4
  · cases h
set_option maxRecDepth 100000 in
theorem same_ok {xs ys : List Int} {n c m d : Nat} {m1 w1 m2 w2 : Bool} (hx : xs.length = n * 2) (hy : ys.length = m * 2) (hn : n ≤ 100000) (hm2 : m ≤ 100000) :
    SmallRes Tryz.prog 34 [.slice (some ⟨0, 0, none⟩) n c, .slice (some ⟨1, 0, none⟩) m d] [some (.row (ints xs) 2 m1 w1 true), some (.row (ints ys) 2 m2 w2 true)] (.bool (decide (xs = ys))) [some (.row (ints xs) 2 m1 w1 true), some (.row (ints ys) 2 m2 w2 true)] := by
  refine fnP_res hm c0_ok (hs := hsSS xs ys n c m d m1 w1 m2 w2) ?_
  rw [same_t]
  refine br_of (fun h => ?_) (fun h0 => ⟨⟨(0 : Nat), ⟨by omega, rfl⟩, by first | trivial | rfl, by first | trivial | rfl⟩, fun s hs => br_of (fun h => ?_) (fun h => ?_)⟩)
  · have h : n ≠ m := by intro e; subst e; simp at h
    rw [decide_eq_false (fun e => h (by subst e; omega))]
    exact ⟨rfl, rfl⟩
  · have h0 : n = m := by simp at h0; omega
    subst h0
    obtain ⟨a1, a2⟩ := hs.out
    have h := lt_of_dec h
    simp only [Nat.zero_add, Nat.add_zero, Int.toNat_natCast]
    refine ⟨⟨by omega, by omega⟩, ⟨by rw [ints_len, if_pos (by omega), ints_pair (by omega)]⟩, ⟨by omega, by omega⟩, ⟨by rw [ints_len, if_pos (by omega), ints_pair (by omega)]⟩, ⟨trivial⟩, br_of (fun he => ?_) (fun he => ⟨s + 1, ⟨h, ?_⟩, ⟨by omega⟩, by rw [up1 h (by omega)], by first | trivial | rfl⟩)⟩
    · rw [decide_eq_false (fun e => by subst e; simp at he)]
      exact ⟨by first | trivial | rfl, by first | trivial | rfl⟩
    · have e : (s + 1) * 2 = s * 2 + 2 := by omega
      simp only [Bool.and_true, Bool.not_eq_false', Bool.and_eq_true, beq_iff_eq] at he
      rw [e, List.take_add, List.take_add, a2, pair_at (by omega), pair_at (by omega), he.1, he.2]
  · obtain ⟨a1, a2⟩ := hs.out
    have h := ge_of_dec h
    have h0 : n = m := by simp at h0; omega
    subst h0
    have e : s = n := by omega
    subst e
    rw [← hx, List.take_length, hx, ← hy, List.take_length] at a2
    rw [decide_eq_true a2]
    exact ⟨by first | trivial | rfl, rfl⟩
theorem same_okV (xs ys : List Int) : OkV Tryz.prog 34 (orcSameV xs ys) := by
  intro args H ret H' vc h hv
  unfold orcSameV at h
  split at h
  · cases h
    obtain ⟨rfl, rfl, h1, h2, h3, h4⟩ := hv
    exact same_ok h1 h2 h3 h4
  · cases h
set_option maxRecDepth 100000 in
theorem short_ok {nm : ByteArray} {zs : List Int} {ks : List (Int × ByteArray)} {n c k d : Nat} {m1 w1 m2 w2 : Bool} (hk : ks.length = k) (hk2 : k ≤ 9223372036854775807) :
    SmallRes Tryz.prog 35 [.agg (secA nm 0 n c 1 k d).toArray] (hp2 zs ks m1 w1 m2 w2 []) (.bool (shortS nm n ks k)) (hp2 zs ks m1 w1 m2 w2 []) := by
  refine fnP_res hm c0_ok (hs := hsSh nm zs ks n c k d m1 w1 m2 w2) ?_
  rw [short_t]
  refine ⟨⟨(0 : Nat), ⟨by omega, rfl⟩, by first | trivial | rfl, by first | trivial | rfl⟩, fun s hs => br_of (fun h => ?_) (fun h => ?_)⟩
  · obtain ⟨a1, a2⟩ := hs.out
    have h := lt_of_dec h
    have e2 : (s * 2 + 1) / 2 = s := by omega
    have hu : IntKind.wrap .i64 ((s : Int) + 1) = ((s + 1 : Nat) : Int) := by rw [wrap_eq (by omega) (by omega)]; rfl
    simp only [Nat.zero_add, Nat.add_zero, Int.toNat_natCast, e2]
    refine ⟨⟨by omega, by omega⟩, ⟨acs_kind (by omega)⟩, br_of (fun he => ?_) (fun he => ⟨s + 1, ⟨h, ?_⟩, ⟨by omega⟩, by rw [hu], by first | trivial | rfl⟩)⟩
    · have : ks.all (fun a => !decide ((40 : Int) < a.2.size)) = false := by
        rw [List.all_eq_false]
        refine ⟨ks.getD s (0, ⟨#[]⟩), ?_, by rw [he]; simp⟩
        rw [List.getD_eq_getElem?_getD, List.getElem?_eq_getElem (by omega)]
        exact List.getElem_mem _
      rw [shortS, this]
      exact ⟨rfl, rfl⟩
    · rw [List.take_add_one, List.all_append, a2, List.getElem?_eq_getElem (by omega)]
      rw [List.getD_eq_getElem?_getD, List.getElem?_eq_getElem (by omega)] at he
      simpa using he
  · obtain ⟨a1, a2⟩ := hs.out
    have h := ge_of_dec h
    have e : s = k := by omega
    subst e
    rw [← hk, List.take_length] at a2
    rw [shortS, a2, Bool.true_and]
    refine br_of (fun b1 => br_of (fun b2 => br_of (fun b3 => ?_) (fun b3 => ?_)) (fun b2 => br_of (fun b4 => br_of (fun b3 => ?_) (fun b3 => ?_)) (fun b4 => ?_))) (fun b1 => ?_)
    all_goals simp only [b1, Bool.true_and, Bool.false_and]
    all_goals first | simp only [b2, Bool.true_and, Bool.false_and, Bool.true_or, Bool.false_or] | skip
    all_goals first | simp only [b4, Bool.true_and, Bool.false_and] | skip
    all_goals first | simp only [b3, Bool.true_or, Bool.false_or] | skip
    all_goals exact ⟨by first | trivial | rfl, rfl⟩
theorem short_okV (zs : List Int) (ks : List (Int × ByteArray)) : OkV Tryz.prog 35 (orcShV zs ks) := by
  intro args H ret H' vc h hv
  unfold orcShV at h
  split at h
  · cases h
    obtain ⟨rfl, rfl, h1, h2, h3⟩ := hv
    exact short_ok h1 h3
  · cases h

noncomputable def hsPRx (zs : List Int) (ks : List (Int × ByteArray)) (nm : ByteArray) (n c k d : Nat) : Hs Tryz.prog := hsPR (cntR_okV zs ks) nm n c k d false false false false
theorem perR_t (nm : ByteArray) (zs : List Int) (ks : List (Int × ByteArray)) (n : Nat) (c : Nat) (k : Nat) (d : Nat) (K : Value → Heap → Prop) :
    (fnP Tryz.prog c0 (hsPRx zs ks nm n c k d) (39 : FuncId) [Value.agg (List.toArray (secA nm (0 : Nat) n c (1 : Nat) k d))] (hp2 zs ks false false false false []) K) =
    ((∃ s, Is (s ≤ k) ∧ [poi, Value.pointer (some { block := (2 : Nat), off := (0 : Nat) }), poi, Value.slice (some { block := (3 : Nat), off := (0 : Nat) }) (0 : Nat) (0 : Nat), Value.int IntKind.i64 (0 : Int), Value.int IntKind.i64 (0 : Int), poi, poi, poi, poi, poi, poi, poi, poi, poi, poi, poi, poi, poi, poi, poi, poi, poi, poi, poi, poi, poi, poi, poi, poi, poi, poi, poi, poi, poi, poi, poi] = [poi, Value.pointer (some { block := (2 : Nat), off := (0 : Nat) }), poi, Value.slice (some { block := (3 : Nat), off := (0 : Nat) }) s (0 : Nat), Value.int IntKind.i64 (↑(frm zs ks s) : Int), Value.int IntKind.i64 (↑s : Int), poi, poi, poi, poi, poi, poi, poi, poi, poi, poi, poi, poi, poi, poi, poi, poi, poi, poi, poi, poi, poi, poi, poi, poi, poi, poi, poi, poi, poi, poi, poi] ∧ some (AObj.row (ints zs) (2 : Nat) false false true) :: some (AObj.row (acs ks) (2 : Nat) false false true) :: some (AObj.row [Value.string nm, Value.slice (some { block := (0 : Nat), off := (0 : Nat) }) n c, Value.slice (some { block := (1 : Nat), off := (0 : Nat) }) k d] (0 : Nat) false true (List.all [Value.string nm, Value.slice (some { block := (0 : Nat), off := (0 : Nat) }) n c, Value.slice (some { block := (1 : Nat), off := (0 : Nat) }) k d] atom)) :: some (AObj.row [] (2 : Nat) true true true) :: noH = some (AObj.row (ints zs) (2 : Nat) false false true) :: some (AObj.row (acs ks) (2 : Nat) false false true) :: some (AObj.row [Value.string nm, Value.slice (some { block := (0 : Nat), off := (0 : Nat) }) n c, Value.slice (some { block := (1 : Nat), off := (0 : Nat) }) k d] (0 : Nat) false true false) :: some (AObj.row (ints (spn zs ks s)) (2 : Nat) true true true) :: noH) ∧ ∀ (s : Nat), Is (s ≤ k) → br (decide ((↑s : Int) < (↑k : Int))) (Is ((0 : Int) ≤ (↑s : Int) ∧ (↑s : Int) < (↑k : Int)) ∧ Is ((acs ks)[(0 : Nat) + Int.toNat (↑s : Int) * (2 : Nat) + (0 : Nat)]? = some (Value.int IntKind.i64 (Prod.fst (List.getD ks (((0 : Nat) + Int.toNat (↑s : Int) * (2 : Nat) + (0 : Nat)) / (2 : Nat)) ((0 : Int), { data := #[] }))))) ∧ Is (isSec zs ks n k (ints zs) (acs ks)) ∧ Is (List.length (ints (spn zs ks s)) = s * (2 : Nat) ∧ (s + (1 : Nat)) * (16 : Nat) ≤ (140737488355328 : Nat) ∧ s + (1 : Nat) ≤ (9223372036854775807 : Nat)) ∧ ∃ s', Is (s' ≤ k) ∧ Is (k - s' < k - s) ∧ [poi, Value.pointer (some { block := (2 : Nat), off := (0 : Nat) }), poi, Value.slice (some { block := (3 : Nat), off := (0 : Nat) }) (s + (1 : Nat)) (0 : Nat), Value.int IntKind.i64 (↑(cnt zs (Prod.fst (List.getD ks (((0 : Nat) + Int.toNat (↑s : Int) * (2 : Nat) + (0 : Nat)) / (2 : Nat)) ((0 : Int), { data := #[] })))) : Int), Value.int IntKind.i64 (IntKind.wrap IntKind.i64 ((↑s : Int) + (1 : Int))), poi, poi, poi, poi, poi, poi, poi, poi, poi, poi, poi, poi, poi, poi, poi, poi, poi, poi, poi, poi, poi, poi, poi, poi, poi, poi, poi, poi, poi, poi, poi] = [poi, Value.pointer (some { block := (2 : Nat), off := (0 : Nat) }), poi, Value.slice (some { block := (3 : Nat), off := (0 : Nat) }) s' (0 : Nat), Value.int IntKind.i64 (↑(frm zs ks s') : Int), Value.int IntKind.i64 (↑s' : Int), poi, poi, poi, poi, poi, poi, poi, poi, poi, poi, poi, poi, poi, poi, poi, poi, poi, poi, poi, poi, poi, poi, poi, poi, poi, poi, poi, poi, poi, poi, poi] ∧ some (AObj.row (ints zs) (2 : Nat) false false true) :: some (AObj.row (acs ks) (2 : Nat) false false true) :: some (AObj.row [Value.string nm, Value.slice (some { block := (0 : Nat), off := (0 : Nat) }) n c, Value.slice (some { block := (1 : Nat), off := (0 : Nat) }) k d] (0 : Nat) false true false) :: some (AObj.row (ints (spn zs ks s) ++ [Value.int IntKind.i64 (↑(frm zs ks s) : Int), Value.int IntKind.i64 (↑(cnt zs (Prod.fst (List.getD ks (((0 : Nat) + Int.toNat (↑s : Int) * (2 : Nat) + (0 : Nat)) / (2 : Nat)) ((0 : Int), { data := #[] })))) : Int)]) (2 : Nat) true true (List.all [Value.int IntKind.i64 (↑(frm zs ks s) : Int), Value.int IntKind.i64 (↑(cnt zs (Prod.fst (List.getD ks (((0 : Nat) + Int.toNat (↑s : Int) * (2 : Nat) + (0 : Nat)) / (2 : Nat)) ((0 : Int), { data := #[] })))) : Int)] atom)) :: noH = some (AObj.row (ints zs) (2 : Nat) false false true) :: some (AObj.row (acs ks) (2 : Nat) false false true) :: some (AObj.row [Value.string nm, Value.slice (some { block := (0 : Nat), off := (0 : Nat) }) n c, Value.slice (some { block := (1 : Nat), off := (0 : Nat) }) k d] (0 : Nat) false true false) :: some (AObj.row (ints (spn zs ks s')) (2 : Nat) true true true) :: noH) (Is (List.length (ints (spn zs ks s)) = s * (2 : Nat) ∧ (s + (1 : Nat)) * (16 : Nat) ≤ (140737488355328 : Nat) ∧ s + (1 : Nat) ≤ (9223372036854775807 : Nat)) ∧ K (Value.slice (some { block := (2 : Nat), off := (0 : Nat) }) (s + (1 : Nat)) (0 : Nat)) (some (AObj.row (ints zs) (2 : Nat) false false true) :: some (AObj.row (acs ks) (2 : Nat) false false true) :: some (AObj.row (ints (spn zs ks s) ++ [Value.int IntKind.i64 (↑(frm zs ks s) : Int), Value.int IntKind.i64 (↑n : Int)]) (2 : Nat) true true (List.all [Value.int IntKind.i64 (↑(frm zs ks s) : Int), Value.int IntKind.i64 (↑n : Int)] atom)) :: noH))) := by kernel_rfl
noncomputable def hsPP (zs : List Int) (ks : List (Int × ByteArray)) : Hs Tryz.prog where
  rn := [.slot 0 2]
  au := auCalls [(40, hCa Tryz.prog 40 (orcCkV zs ks) (ck_okV zs ks)), (124, hCa Tryz.prog 124 (orcPerV zs ks) (per_okV zs ks))]
theorem pp_t (nm : ByteArray) (zs : List Int) (ks : List (Int × ByteArray)) (n : Nat) (c : Nat) (k : Nat) (d : Nat) (K : Value → Heap → Prop) :
    (fnP Tryz.prog c0 (hsPP zs ks) (36 : FuncId) [Value.agg (List.toArray (secA nm (0 : Nat) n c (1 : Nat) k d))] (hp2 zs ks true true true true []) K) =
    (Is (isSec zs ks n k (ints zs) (acs ks)) ∧ br (secE nm zs n ks k != (0 : Int)) (K (Value.tuple #[Value.slice (some { block := (2 : Nat), off := (0 : Nat) }) (0 : Nat) (0 : Nat), Value.int IntKind.i64 (secE nm zs n ks k)]) (some (AObj.row (ints zs) (2 : Nat) true true true) :: some (AObj.row (acs ks) (2 : Nat) true true true) :: some (AObj.row [] (2 : Nat) true true true) :: noH)) (Is (isSec zs ks n k (ints zs) (acs ks) ∧ mchk zs (-1 : Int) = (0 : Int) ∧ achk ks (-1 : Int) = (0 : Int)) ∧ K (Value.tuple #[Value.slice (some { block := (2 : Nat), off := (0 : Nat) }) (k + (1 : Nat)) (0 : Nat), Value.int IntKind.i64 (0 : Int)]) (some (AObj.row (ints zs) (2 : Nat) true true true) :: some (AObj.row (acs ks) (2 : Nat) true true true) :: some (AObj.row (ints (spans zs ks n k)) (2 : Nat) true true true) :: noH))) := by kernel_rfl

noncomputable def perN (e : Int) (k : Nat) : Nat := if e = 0 then k + 1 else 0
noncomputable def perL (e : Int) (l : List Int) : List Int := if e = 0 then l else []
noncomputable def orcPPV (zs : List Int) (ks : List (Int × ByteArray)) : OrcV
  | [.agg ⟨[.string nm, .slice (some ⟨0, 0, none⟩) n c, .slice (some ⟨1, 0, none⟩) k d]⟩], [some (.row e1 2 true true true), some (.row e2 2 true true true)] => some (.tuple #[.slice (some ⟨2, 0, none⟩) (perN (secE nm zs n ks k) k) 0, .int .i64 (secE nm zs n ks k)], [some (.row e1 2 true true true), some (.row e2 2 true true true), lst2 (perL (secE nm zs n ks k) (spans zs ks n k))], isSec zs ks n k e1 e2)
  | _, _ => none
theorem secE_ok {nm : ByteArray} {zs : List Int} {n : Nat} {ks : List (Int × ByteArray)} {k : Nat} (h : secE nm zs n ks k = 0) : mchk zs (-1) = 0 ∧ achk ks (-1) = 0 := by
  simp only [secE, sel_zero] at h
  exact ⟨h.2.1, h.2.2.2⟩
set_option maxRecDepth 100000 in
theorem perR_ok {nm : ByteArray} {zs : List Int} {ks : List (Int × ByteArray)} {n c k d : Nat} (hz : zs.length = n * 2) (hk : ks.length = k) (hn : n ≤ 1000) (hk2 : k ≤ 1000) :
    SmallRes Tryz.prog 39 [.agg (secA nm 0 n c 1 k d).toArray] (hp2 zs ks false false false false []) (.slice (some ⟨2, 0, none⟩) (k + 1) 0) (hp2 zs ks false false false false [lst2 (spans zs ks n k)]) := by
  refine fnP_res hm c0_ok (hs := hsPRx zs ks nm n c k d) ?_
  rw [perR_t]
  refine ⟨⟨(0 : Nat), ⟨by omega⟩, by first | trivial | rfl, by first | trivial | rfl⟩, fun s hs => br_of (fun h => ?_) (fun h => ?_)⟩
  · have h := lt_of_dec h
    have e2 : s * 2 / 2 = s := by omega
    simp only [Nat.zero_add, Nat.add_zero, Int.toNat_natCast, e2]
    refine ⟨⟨by omega, by omega⟩, ⟨acs_day (by omega)⟩, ⟨rfl, rfl, hz, hk, hn, hk2⟩, ⟨by rw [ints_len, spn_len], by omega, by omega⟩, s + 1, ⟨h⟩, ⟨by omega⟩, by rw [up1 h (by omega)]; rfl, ?_⟩
    rw [show ints (spn zs ks s) ++ [.int .i64 ((frm zs ks s : Nat) : Int), .int .i64 ((cnt zs (ks.getD s (0, ⟨#[]⟩)).1 : Nat) : Int)] = ints (spn zs ks (s + 1)) by rw [spn, ← ints_app]; rfl]
    first | trivial | rfl
  · have h := ge_of_dec h
    have : s = k := by have := hs.out; omega
    subst this
    refine ⟨⟨by rw [ints_len, spn_len], by omega, by omega⟩, rfl, ?_⟩
    rw [show ints (spn zs ks s) ++ [.int .i64 ((frm zs ks s : Nat) : Int), .int .i64 (n : Int)] = ints (spans zs ks n s) by rw [spans, ← ints_app]; rfl]
    rfl
theorem perR_okV (zs : List Int) (ks : List (Int × ByteArray)) : OkV Tryz.prog 39 (orcPerRV zs ks) := by
  intro args H ret H' vc h hv
  unfold orcPerRV at h
  split at h
  · cases h
    obtain ⟨rfl, rfl, h1, h2, h3, h4⟩ := hv
    exact perR_ok h1 h2 h3 h4
  · cases h
theorem pp_ok {nm : ByteArray} {zs : List Int} {ks : List (Int × ByteArray)} {n c k d : Nat} (hz : zs.length = n * 2) (hk : ks.length = k) (hn : n ≤ 1000) (hk2 : k ≤ 1000) :
    SmallRes Tryz.prog 36 [.agg (secA nm 0 n c 1 k d).toArray] (hp2 zs ks true true true true []) (.tuple #[.slice (some ⟨2, 0, none⟩) (perN (secE nm zs n ks k) k) 0, .int .i64 (secE nm zs n ks k)]) (hp2 zs ks true true true true [lst2 (perL (secE nm zs n ks k) (spans zs ks n k))]) := by
  refine fnP_res hm c0_ok (hs := hsPP zs ks) ?_
  rw [pp_t]
  have hi : isSec zs ks n k (ints zs) (acs ks) := ⟨rfl, rfl, hz, hk, hn, hk2⟩
  refine ⟨⟨hi⟩, br_of (fun h => ?_) (fun h => ?_)⟩
  · have h : secE nm zs n ks k ≠ 0 := by simpa using h
    rw [perN, perL, if_neg h, if_neg h]
    exact ⟨rfl, rfl⟩
  · have h : secE nm zs n ks k = 0 := by simpa using h
    rw [perN, perL, if_pos h, if_pos h, h]
    exact ⟨⟨hi, secE_ok h⟩, rfl, rfl⟩
theorem pp_okV (zs : List Int) (ks : List (Int × ByteArray)) : OkV Tryz.prog 36 (orcPPV zs ks) := by
  intro args H ret H' vc h hv
  unfold orcPPV at h
  split at h
  · cases h
    obtain ⟨rfl, rfl, h1, h2, h3, h4⟩ := hv
    exact pp_ok h1 h2 h3 h4
  · cases h
noncomputable def orcSameX : OrcV
  | [.slice (some ⟨0, 0, none⟩) n c, .slice (some ⟨1, 0, none⟩) m d], [some (.row e1 2 m1 w1 true), some (.row e2 2 m2 w2 true)] => some (.bool true, [some (.row e1 2 m1 w1 true), some (.row e2 2 m2 w2 true)], n = m ∧ e1 = e2 ∧ n ≤ 100000 ∧ isInts e1 n)
  | _, _ => none
theorem same_ok' {xs : List Int} {n c d : Nat} {m1 w1 m2 w2 : Bool} (hx : xs.length = n * 2) (hn : n ≤ 100000) :
    SmallRes Tryz.prog 34 [.slice (some ⟨0, 0, none⟩) n c, .slice (some ⟨1, 0, none⟩) n d] [some (.row (ints xs) 2 m1 w1 true), some (.row (ints xs) 2 m2 w2 true)] (.bool true) [some (.row (ints xs) 2 m1 w1 true), some (.row (ints xs) 2 m2 w2 true)] := by
  have h := same_ok (c := c) (d := d) (m1 := m1) (w1 := w1) (m2 := m2) (w2 := w2) hx hx hn hn
  rw [decide_eq_true (rfl : xs = xs)] at h
  exact h
theorem same_okX : OkV Tryz.prog 34 orcSameX := by
  intro args H ret H' vc h hv
  unfold orcSameX at h
  split at h
  · cases h
    obtain ⟨rfl, rfl, h1, xs, rfl, h2⟩ := hv
    exact same_ok' h2 h1
  · cases h
