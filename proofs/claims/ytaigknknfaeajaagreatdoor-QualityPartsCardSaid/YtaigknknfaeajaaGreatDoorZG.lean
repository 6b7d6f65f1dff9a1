/- Parts of the proof: QI, QO, QP, QT. -/
import Derived.Test.YtaigknknfaeajaaGreatDoorZF
section
/- Periods of sections, and the law about them. -/
open Go Go.Vm Go.Proofs Sp
namespace Sp
noncomputable section
noncomputable def cnt : List Int → Int → Nat
  | d :: _ :: r, x => (if d < x then 1 else 0) + cnt r x
  | _, _ => 0
noncomputable def frm (zs : List Int) (ks : List (Int × ByteArray)) : Nat → Nat
  | 0 => 0
  | i + 1 => cnt zs (ks.getD i (0, ⟨#[]⟩)).1
noncomputable def spn (zs : List Int) (ks : List (Int × ByteArray)) : Nat → List Int
  | 0 => []
  | i + 1 => spn zs ks i ++ [((frm zs ks i : Nat) : Int), ((frm zs ks (i + 1) : Nat) : Int)]
noncomputable def spans (zs : List Int) (ks : List (Int × ByteArray)) (n k : Nat) : List Int := spn zs ks k ++ [((frm zs ks k : Nat) : Int), (n : Int)]
noncomputable def shortS (nm : ByteArray) (n : Nat) (ks : List (Int × ByteArray)) (k : Nat) : Bool :=
  ks.all (fun a => !decide ((40 : Int) < a.2.size)) && (decide ((nm.size : Int) ≤ 40) && ((decide ((n : Int) ≤ 12) || (n : Int) == 33) && (decide ((k : Int) ≤ 6) || (k : Int) == 17)))
noncomputable def isInts (e : List Value) (n : Nat) : Prop := ∃ xs, e = ints xs ∧ xs.length = n * 2
end
end Sp
namespace Qq
noncomputable section
noncomputable def isSec (zs : List Int) (ks : List (Int × ByteArray)) (n k : Nat) (e1 e2 : List Value) : Prop := e1 = ints zs ∧ e2 = acs ks ∧ zs.length = n * 2 ∧ ks.length = k ∧ n ≤ 1000 ∧ k ≤ 1000
noncomputable def kS (ks : List (Int × ByteArray)) (off : Nat) : Value := .string (ks.getD (off / 2) (0, ⟨#[]⟩)).2
noncomputable def secR (nm : ByteArray) (n c k d : Nat) : Option AObj := some (.row (secA nm 0 n c 1 k d) 0 false true false)
noncomputable def lst2 (l : List Int) : Option AObj := some (.row (ints l) 2 true true true)
/- The reference's first. -/
noncomputable def lpF (nm : ByteArray) (zs : List Int) (ks : List (Int × ByteArray)) (n c k d : Nat) (m1 w1 m2 w2 : Bool) (x : Int) : Lp where
  σ := Nat
  E i := slots 25 [(1, .int .i64 x), (2, .pointer (some ⟨2, 0, none⟩)), (5, .int .i64 (Int.ofNat (cnt (zs.take (i * 2)) x))), (6, .int .i64 (Int.ofNat i))]
  Hp _ := hp2 zs ks m1 w1 m2 w2 [secR nm n c k d]
  I i := i ≤ n
  m i := n - i
noncomputable def hsF (nm : ByteArray) (zs : List Int) (ks : List (Int × ByteArray)) (n c k d : Nat) (m1 w1 m2 w2 : Bool) (x : Int) : Hs Tryz.prog where
  op y := if y = 503 then some (hIa Tryz.prog) else if y = 505 then some (hLd Tryz.prog (zI zs)) else none
  lp _ := some (lpF nm zs ks n c k d m1 w1 m2 w2 x)
  cl _ := keep 25 [1, 2, 5, 6]
  au := au0 Tryz.prog
theorem cntR_t (nm : ByteArray) (zs : List Int) (ks : List (Int × ByteArray)) (n : Nat) (c : Nat) (k : Nat) (d : Nat) (m1 : Bool) (w1 : Bool) (m2 : Bool) (w2 : Bool) (x : Int) (K : Value → Heap → Prop) :
    (fnP Tryz.prog c0 (hsF nm zs ks n c k d m1 w1 m2 w2 x) (125 : FuncId) [Value.agg (List.toArray (secA nm (0 : Nat) n c (1 : Nat) k d)), Value.int IntKind.i64 x] (hp2 zs ks m1 w1 m2 w2 []) K) =
    ((∃ s, Is (s ≤ n) ∧ [poi, Value.int IntKind.i64 x, Value.pointer (some { block := (2 : Nat), off := (0 : Nat) }), poi, poi, Value.int IntKind.i64 (0 : Int), Value.int IntKind.i64 (0 : Int), poi, poi, poi, poi, poi, poi, poi, poi, poi, poi, poi, poi, poi, poi, poi, poi, poi, poi] = [poi, Value.int IntKind.i64 x, Value.pointer (some { block := (2 : Nat), off := (0 : Nat) }), poi, poi, Value.int IntKind.i64 (↑(cnt (List.take (s * (2 : Nat)) zs) x) : Int), Value.int IntKind.i64 (↑s : Int), poi, poi, poi, poi, poi, poi, poi, poi, poi, poi, poi, poi, poi, poi, poi, poi, poi, poi] ∧ some (AObj.row (ints zs) (2 : Nat) m1 w1 true) :: some (AObj.row (acs ks) (2 : Nat) m2 w2 true) :: some (AObj.row [Value.string nm, Value.slice (some { block := (0 : Nat), off := (0 : Nat) }) n c, Value.slice (some { block := (1 : Nat), off := (0 : Nat) }) k d] (0 : Nat) false true (List.all [Value.string nm, Value.slice (some { block := (0 : Nat), off := (0 : Nat) }) n c, Value.slice (some { block := (1 : Nat), off := (0 : Nat) }) k d] atom)) :: noH = some (AObj.row (ints zs) (2 : Nat) m1 w1 true) :: some (AObj.row (acs ks) (2 : Nat) m2 w2 true) :: some (AObj.row [Value.string nm, Value.slice (some { block := (0 : Nat), off := (0 : Nat) }) n c, Value.slice (some { block := (1 : Nat), off := (0 : Nat) }) k d] (0 : Nat) false true false) :: noH) ∧ ∀ (s : Nat), Is (s ≤ n) → br (decide ((↑s : Int) < (↑n : Int))) (Is ((0 : Int) ≤ (↑s : Int) ∧ (↑s : Int) < (↑n : Int)) ∧ Is ((ints zs)[(0 : Nat) + Int.toNat (↑s : Int) * (2 : Nat) + (0 : Nat)]? = some (Value.int IntKind.i64 (List.getD zs ((0 : Nat) + Int.toNat (↑s : Int) * (2 : Nat) + (0 : Nat)) (0 : Int)))) ∧ br (decide (List.getD zs ((0 : Nat) + Int.toNat (↑s : Int) * (2 : Nat) + (0 : Nat)) (0 : Int) < x)) (∃ s', Is (s' ≤ n) ∧ Is (n - s' < n - s) ∧ [poi, Value.int IntKind.i64 x, Value.pointer (some { block := (2 : Nat), off := (0 : Nat) }), poi, poi, Value.int IntKind.i64 (IntKind.wrap IntKind.i64 ((↑(cnt (List.take (s * (2 : Nat)) zs) x) : Int) + (1 : Int))), Value.int IntKind.i64 (IntKind.wrap IntKind.i64 ((↑s : Int) + (1 : Int))), poi, poi, poi, poi, poi, poi, poi, poi, poi, poi, poi, poi, poi, poi, poi, poi, poi, poi] = [poi, Value.int IntKind.i64 x, Value.pointer (some { block := (2 : Nat), off := (0 : Nat) }), poi, poi, Value.int IntKind.i64 (↑(cnt (List.take (s' * (2 : Nat)) zs) x) : Int), Value.int IntKind.i64 (↑s' : Int), poi, poi, poi, poi, poi, poi, poi, poi, poi, poi, poi, poi, poi, poi, poi, poi, poi, poi] ∧ some (AObj.row (ints zs) (2 : Nat) m1 w1 true) :: some (AObj.row (acs ks) (2 : Nat) m2 w2 true) :: some (AObj.row [Value.string nm, Value.slice (some { block := (0 : Nat), off := (0 : Nat) }) n c, Value.slice (some { block := (1 : Nat), off := (0 : Nat) }) k d] (0 : Nat) false true false) :: noH = some (AObj.row (ints zs) (2 : Nat) m1 w1 true) :: some (AObj.row (acs ks) (2 : Nat) m2 w2 true) :: some (AObj.row [Value.string nm, Value.slice (some { block := (0 : Nat), off := (0 : Nat) }) n c, Value.slice (some { block := (1 : Nat), off := (0 : Nat) }) k d] (0 : Nat) false true false) :: noH) (∃ s', Is (s' ≤ n) ∧ Is (n - s' < n - s) ∧ [poi, Value.int IntKind.i64 x, Value.pointer (some { block := (2 : Nat), off := (0 : Nat) }), poi, poi, Value.int IntKind.i64 (↑(cnt (List.take (s * (2 : Nat)) zs) x) : Int), Value.int IntKind.i64 (IntKind.wrap IntKind.i64 ((↑s : Int) + (1 : Int))), poi, poi, poi, poi, poi, poi, poi, poi, poi, poi, poi, poi, poi, poi, poi, poi, poi, poi] = [poi, Value.int IntKind.i64 x, Value.pointer (some { block := (2 : Nat), off := (0 : Nat) }), poi, poi, Value.int IntKind.i64 (↑(cnt (List.take (s' * (2 : Nat)) zs) x) : Int), Value.int IntKind.i64 (↑s' : Int), poi, poi, poi, poi, poi, poi, poi, poi, poi, poi, poi, poi, poi, poi, poi, poi, poi, poi] ∧ some (AObj.row (ints zs) (2 : Nat) m1 w1 true) :: some (AObj.row (acs ks) (2 : Nat) m2 w2 true) :: some (AObj.row [Value.string nm, Value.slice (some { block := (0 : Nat), off := (0 : Nat) }) n c, Value.slice (some { block := (1 : Nat), off := (0 : Nat) }) k d] (0 : Nat) false true false) :: noH = some (AObj.row (ints zs) (2 : Nat) m1 w1 true) :: some (AObj.row (acs ks) (2 : Nat) m2 w2 true) :: some (AObj.row [Value.string nm, Value.slice (some { block := (0 : Nat), off := (0 : Nat) }) n c, Value.slice (some { block := (1 : Nat), off := (0 : Nat) }) k d] (0 : Nat) false true false) :: noH)) (K (Value.int IntKind.i64 (↑(cnt (List.take (s * (2 : Nat)) zs) x) : Int)) (some (AObj.row (ints zs) (2 : Nat) m1 w1 true) :: some (AObj.row (acs ks) (2 : Nat) m2 w2 true) :: noH))) := by kernel_rfl
/- The program's periods. -/
noncomputable def lpP1 (nm : ByteArray) (zs : List Int) (ks : List (Int × ByteArray)) (n c k d : Nat) (m1 w1 m2 w2 : Bool) : Lp where
  σ := Nat
  E i := slots 50 [(1, .pointer (some ⟨2, 0, none⟩)), (3, .slice (some ⟨3, 0, none⟩) i 0), (4, .int .i64 (Int.ofNat (frm zs ks i))), (9, .slice (some ⟨1, 0, none⟩) k d), (10, .int .i64 (Int.ofNat k)), (11, .int .i64 (Int.ofNat i))]
  Hp i := hp2 zs ks m1 w1 m2 w2 [secR nm n c k d, lst2 (spn zs ks i)]
  I i := i ≤ k
  m i := k - i
noncomputable def lpP2 (nm : ByteArray) (zs : List Int) (ks : List (Int × ByteArray)) (n c k d : Nat) (m1 w1 m2 w2 : Bool) (i : Nat) : Lp where
  σ := Nat
  E t := slots 50 [(1, .pointer (some ⟨2, 0, none⟩)), (3, .slice (some ⟨3, 0, none⟩) i 0), (4, .int .i64 (Int.ofNat (frm zs ks i))), (6, .pointer (some ⟨4, 0, none⟩)), (7, .int .i64 (Int.ofNat t)), (9, .slice (some ⟨1, 0, none⟩) k d), (10, .int .i64 (Int.ofNat k)), (11, .int .i64 (Int.ofNat i))]
  Hp _t := hp2 zs ks m1 w1 m2 w2 [secR nm n c k d, lst2 (spn zs ks i), some (.row [.int .i64 (ks.getD i (0, ⟨#[]⟩)).1, .string (ks.getD i (0, ⟨#[]⟩)).2] 0 false true true)]
  I t := t ≤ frm zs ks (i + 1)
  m t := n - t
noncomputable def hsP (nm : ByteArray) (zs : List Int) (ks : List (Int × ByteArray)) (n c k d : Nat) (m1 w1 m2 w2 : Bool) : Hs Tryz.prog where
  op y := if [500, 709].contains y then some (hIa Tryz.prog) else if y = 501 then some (hLd Tryz.prog (k2 ks)) else if y = 711 then some (hLd Tryz.prog (zI zs)) else if [905, 1207].contains y then some (hAp Tryz.prog) else none
  lp y := if y = 4 then some (lpP1 nm zs ks n c k d m1 w1 m2 w2) else none
  lq _ := some ⟨Nat, lpP2 nm zs ks n c k d m1 w1 m2 w2⟩
  cl y := if y = 4 then keep 50 [1, 3, 4, 9, 10, 11] else keep 50 [1, 3, 4, 6, 7, 9, 10, 11]
  nl y := if y = 4 then [.slot 3 2] else []
  au := au0 Tryz.prog
theorem per_t (nm : ByteArray) (zs : List Int) (ks : List (Int × ByteArray)) (n : Nat) (c : Nat) (k : Nat) (d : Nat) (m1 : Bool) (w1 : Bool) (m2 : Bool) (w2 : Bool) (K : Value → Heap → Prop) :
    (fnP Tryz.prog c0 (hsP nm zs ks n c k d m1 w1 m2 w2) (124 : FuncId) [Value.agg (List.toArray (secA nm (0 : Nat) n c (1 : Nat) k d))] (hp2 zs ks m1 w1 m2 w2 []) K) =
    ((∃ s, Is (s ≤ k) ∧ [poi, Value.pointer (some { block := (2 : Nat), off := (0 : Nat) }), poi, Value.slice (some { block := (3 : Nat), off := (0 : Nat) }) (0 : Nat) (0 : Nat), Value.int IntKind.i64 (0 : Int), poi, poi, poi, poi, Value.slice (some { block := (1 : Nat), off := (0 : Nat) }) k d, Value.int IntKind.i64 (↑k : Int), Value.int IntKind.i64 (0 : Int), poi, poi, poi, poi, poi, poi, poi, poi, poi, poi, poi, poi, poi, poi, poi, poi, poi, poi, poi, poi, poi, poi, poi, poi, poi, poi, poi, poi, poi, poi, poi, poi, poi, poi, poi, poi, poi, poi] = [poi, Value.pointer (some { block := (2 : Nat), off := (0 : Nat) }), poi, Value.slice (some { block := (3 : Nat), off := (0 : Nat) }) s (0 : Nat), Value.int IntKind.i64 (↑(frm zs ks s) : Int), poi, poi, poi, poi, Value.slice (some { block := (1 : Nat), off := (0 : Nat) }) k d, Value.int IntKind.i64 (↑k : Int), Value.int IntKind.i64 (↑s : Int), poi, poi, poi, poi, poi, poi, poi, poi, poi, poi, poi, poi, poi, poi, poi, poi, poi, poi, poi, poi, poi, poi, poi, poi, poi, poi, poi, poi, poi, poi, poi, poi, poi, poi, poi, poi, poi, poi] ∧ some (AObj.row (ints zs) (2 : Nat) m1 w1 true) :: some (AObj.row (acs ks) (2 : Nat) m2 w2 true) :: some (AObj.row [Value.string nm, Value.slice (some { block := (0 : Nat), off := (0 : Nat) }) n c, Value.slice (some { block := (1 : Nat), off := (0 : Nat) }) k d] (0 : Nat) false true (List.all [Value.string nm, Value.slice (some { block := (0 : Nat), off := (0 : Nat) }) n c, Value.slice (some { block := (1 : Nat), off := (0 : Nat) }) k d] atom)) :: some (AObj.row [] (2 : Nat) true true true) :: noH = some (AObj.row (ints zs) (2 : Nat) m1 w1 true) :: some (AObj.row (acs ks) (2 : Nat) m2 w2 true) :: some (AObj.row [Value.string nm, Value.slice (some { block := (0 : Nat), off := (0 : Nat) }) n c, Value.slice (some { block := (1 : Nat), off := (0 : Nat) }) k d] (0 : Nat) false true false) :: some (AObj.row (ints (spn zs ks s)) (2 : Nat) true true true) :: noH) ∧ ∀ (s : Nat), Is (s ≤ k) → br (decide ((↑s : Int) < (↑k : Int))) (Is ((0 : Int) ≤ (↑s : Int) ∧ (↑s : Int) < (↑k : Int)) ∧ Is ((if (0 : Nat) + Int.toNat (↑s : Int) * (2 : Nat) + (2 : Nat) ≤ List.length (acs ks) then some (Value.agg (List.toArray (List.take (2 : Nat) (List.drop ((0 : Nat) + Int.toNat (↑s : Int) * (2 : Nat)) (acs ks))))) else none) = some (Value.agg #[Value.int IntKind.i64 (Prod.fst (List.getD ks (((0 : Nat) + Int.toNat (↑s : Int) * (2 : Nat)) / (2 : Nat)) ((0 : Int), { data := #[] }))), Value.string (Prod.snd (List.getD ks (((0 : Nat) + Int.toNat (↑s : Int) * (2 : Nat)) / (2 : Nat)) ((0 : Int), { data := #[] })))])) ∧ ∃ p, (∃ s_1, Is (s_1 ≤ frm zs ks (p + (1 : Nat))) ∧ [poi, Value.pointer (some { block := (2 : Nat), off := (0 : Nat) }), poi, Value.slice (some { block := (3 : Nat), off := (0 : Nat) }) s (0 : Nat), Value.int IntKind.i64 (↑(frm zs ks s) : Int), poi, Value.pointer (some { block := (4 : Nat), off := (0 : Nat) }), Value.int IntKind.i64 (↑(frm zs ks s) : Int), poi, Value.slice (some { block := (1 : Nat), off := (0 : Nat) }) k d, Value.int IntKind.i64 (↑k : Int), Value.int IntKind.i64 (↑s : Int), poi, poi, poi, poi, poi, poi, poi, poi, poi, poi, poi, poi, poi, poi, poi, poi, poi, poi, poi, poi, poi, poi, poi, poi, poi, poi, poi, poi, poi, poi, poi, poi, poi, poi, poi, poi, poi, poi] = [poi, Value.pointer (some { block := (2 : Nat), off := (0 : Nat) }), poi, Value.slice (some { block := (3 : Nat), off := (0 : Nat) }) p (0 : Nat), Value.int IntKind.i64 (↑(frm zs ks p) : Int), poi, Value.pointer (some { block := (4 : Nat), off := (0 : Nat) }), Value.int IntKind.i64 (↑s_1 : Int), poi, Value.slice (some { block := (1 : Nat), off := (0 : Nat) }) k d, Value.int IntKind.i64 (↑k : Int), Value.int IntKind.i64 (↑p : Int), poi, poi, poi, poi, poi, poi, poi, poi, poi, poi, poi, poi, poi, poi, poi, poi, poi, poi, poi, poi, poi, poi, poi, poi, poi, poi, poi, poi, poi, poi, poi, poi, poi, poi, poi, poi, poi, poi] ∧ some (AObj.row (ints zs) (2 : Nat) m1 w1 true) :: some (AObj.row (acs ks) (2 : Nat) m2 w2 true) :: some (AObj.row [Value.string nm, Value.slice (some { block := (0 : Nat), off := (0 : Nat) }) n c, Value.slice (some { block := (1 : Nat), off := (0 : Nat) }) k d] (0 : Nat) false true false) :: some (AObj.row (ints (spn zs ks s)) (2 : Nat) true true true) :: some (AObj.row [Value.int IntKind.i64 (Prod.fst (List.getD ks (((0 : Nat) + Int.toNat (↑s : Int) * (2 : Nat)) / (2 : Nat)) ((0 : Int), { data := #[] }))), Value.string (Prod.snd (List.getD ks (((0 : Nat) + Int.toNat (↑s : Int) * (2 : Nat)) / (2 : Nat)) ((0 : Int), { data := #[] })))] (0 : Nat) false true (true && List.all [Value.int IntKind.i64 (Prod.fst (List.getD ks (((0 : Nat) + Int.toNat (↑s : Int) * (2 : Nat)) / (2 : Nat)) ((0 : Int), { data := #[] }))), Value.string (Prod.snd (List.getD ks (((0 : Nat) + Int.toNat (↑s : Int) * (2 : Nat)) / (2 : Nat)) ((0 : Int), { data := #[] })))] atom)) :: noH = some (AObj.row (ints zs) (2 : Nat) m1 w1 true) :: some (AObj.row (acs ks) (2 : Nat) m2 w2 true) :: some (AObj.row [Value.string nm, Value.slice (some { block := (0 : Nat), off := (0 : Nat) }) n c, Value.slice (some { block := (1 : Nat), off := (0 : Nat) }) k d] (0 : Nat) false true false) :: some (AObj.row (ints (spn zs ks p)) (2 : Nat) true true true) :: some (AObj.row [Value.int IntKind.i64 (Prod.fst (List.getD ks p ((0 : Int), { data := #[] }))), Value.string (Prod.snd (List.getD ks p ((0 : Int), { data := #[] })))] (0 : Nat) false true true) :: noH) ∧ ∀ (s_1 : Nat), Is (s_1 ≤ frm zs ks (p + (1 : Nat))) → br (decide ((↑s_1 : Int) < (↑n : Int))) (Is ((0 : Int) ≤ (↑s_1 : Int) ∧ (↑s_1 : Int) < (↑n : Int)) ∧ Is ((ints zs)[(0 : Nat) + Int.toNat (↑s_1 : Int) * (2 : Nat) + (0 : Nat)]? = some (Value.int IntKind.i64 (List.getD zs ((0 : Nat) + Int.toNat (↑s_1 : Int) * (2 : Nat) + (0 : Nat)) (0 : Int)))) ∧ br (decide (List.getD zs ((0 : Nat) + Int.toNat (↑s_1 : Int) * (2 : Nat) + (0 : Nat)) (0 : Int) < Prod.fst (List.getD ks p ((0 : Int), { data := #[] })))) (∃ s', Is (s' ≤ frm zs ks (p + (1 : Nat))) ∧ Is (n - s' < n - s_1) ∧ [poi, Value.pointer (some { block := (2 : Nat), off := (0 : Nat) }), poi, Value.slice (some { block := (3 : Nat), off := (0 : Nat) }) p (0 : Nat), Value.int IntKind.i64 (↑(frm zs ks p) : Int), poi, Value.pointer (some { block := (4 : Nat), off := (0 : Nat) }), Value.int IntKind.i64 (IntKind.wrap IntKind.i64 ((↑s_1 : Int) + (1 : Int))), poi, Value.slice (some { block := (1 : Nat), off := (0 : Nat) }) k d, Value.int IntKind.i64 (↑k : Int), Value.int IntKind.i64 (↑p : Int), poi, poi, poi, poi, poi, poi, poi, poi, poi, poi, poi, poi, poi, poi, poi, poi, poi, poi, poi, poi, poi, poi, poi, poi, poi, poi, poi, poi, poi, poi, poi, poi, poi, poi, poi, poi, poi, poi] = [poi, Value.pointer (some { block := (2 : Nat), off := (0 : Nat) }), poi, Value.slice (some { block := (3 : Nat), off := (0 : Nat) }) p (0 : Nat), Value.int IntKind.i64 (↑(frm zs ks p) : Int), poi, Value.pointer (some { block := (4 : Nat), off := (0 : Nat) }), Value.int IntKind.i64 (↑s' : Int), poi, Value.slice (some { block := (1 : Nat), off := (0 : Nat) }) k d, Value.int IntKind.i64 (↑k : Int), Value.int IntKind.i64 (↑p : Int), poi, poi, poi, poi, poi, poi, poi, poi, poi, poi, poi, poi, poi, poi, poi, poi, poi, poi, poi, poi, poi, poi, poi, poi, poi, poi, poi, poi, poi, poi, poi, poi, poi, poi, poi, poi, poi, poi] ∧ some (AObj.row (ints zs) (2 : Nat) m1 w1 true) :: some (AObj.row (acs ks) (2 : Nat) m2 w2 true) :: some (AObj.row [Value.string nm, Value.slice (some { block := (0 : Nat), off := (0 : Nat) }) n c, Value.slice (some { block := (1 : Nat), off := (0 : Nat) }) k d] (0 : Nat) false true false) :: some (AObj.row (ints (spn zs ks p)) (2 : Nat) true true true) :: some (AObj.row [Value.int IntKind.i64 (Prod.fst (List.getD ks p ((0 : Int), { data := #[] }))), Value.string (Prod.snd (List.getD ks p ((0 : Int), { data := #[] })))] (0 : Nat) false true true) :: noH = some (AObj.row (ints zs) (2 : Nat) m1 w1 true) :: some (AObj.row (acs ks) (2 : Nat) m2 w2 true) :: some (AObj.row [Value.string nm, Value.slice (some { block := (0 : Nat), off := (0 : Nat) }) n c, Value.slice (some { block := (1 : Nat), off := (0 : Nat) }) k d] (0 : Nat) false true false) :: some (AObj.row (ints (spn zs ks p)) (2 : Nat) true true true) :: some (AObj.row [Value.int IntKind.i64 (Prod.fst (List.getD ks p ((0 : Int), { data := #[] }))), Value.string (Prod.snd (List.getD ks p ((0 : Int), { data := #[] })))] (0 : Nat) false true true) :: noH) (Is (List.length (ints (spn zs ks p)) = p * (2 : Nat) ∧ (p + (1 : Nat)) * (16 : Nat) ≤ (140737488355328 : Nat) ∧ p + (1 : Nat) ≤ (9223372036854775807 : Nat)) ∧ ∃ s', Is (s' ≤ k) ∧ Is (k - s' < k - s) ∧ [poi, Value.pointer (some { block := (2 : Nat), off := (0 : Nat) }), poi, Value.slice (some { block := (3 : Nat), off := (0 : Nat) }) (p + (1 : Nat)) (0 : Nat), Value.int IntKind.i64 (↑s_1 : Int), poi, poi, poi, poi, Value.slice (some { block := (1 : Nat), off := (0 : Nat) }) k d, Value.int IntKind.i64 (↑k : Int), Value.int IntKind.i64 (IntKind.wrap IntKind.i64 ((↑p : Int) + (1 : Int))), poi, poi, poi, poi, poi, poi, poi, poi, poi, poi, poi, poi, poi, poi, poi, poi, poi, poi, poi, poi, poi, poi, poi, poi, poi, poi, poi, poi, poi, poi, poi, poi, poi, poi, poi, poi, poi, poi] = [poi, Value.pointer (some { block := (2 : Nat), off := (0 : Nat) }), poi, Value.slice (some { block := (3 : Nat), off := (0 : Nat) }) s' (0 : Nat), Value.int IntKind.i64 (↑(frm zs ks s') : Int), poi, poi, poi, poi, Value.slice (some { block := (1 : Nat), off := (0 : Nat) }) k d, Value.int IntKind.i64 (↑k : Int), Value.int IntKind.i64 (↑s' : Int), poi, poi, poi, poi, poi, poi, poi, poi, poi, poi, poi, poi, poi, poi, poi, poi, poi, poi, poi, poi, poi, poi, poi, poi, poi, poi, poi, poi, poi, poi, poi, poi, poi, poi, poi, poi, poi, poi] ∧ some (AObj.row (ints zs) (2 : Nat) m1 w1 true) :: some (AObj.row (acs ks) (2 : Nat) m2 w2 true) :: some (AObj.row [Value.string nm, Value.slice (some { block := (0 : Nat), off := (0 : Nat) }) n c, Value.slice (some { block := (1 : Nat), off := (0 : Nat) }) k d] (0 : Nat) false true false) :: some (AObj.row (ints (spn zs ks p) ++ [Value.int IntKind.i64 (↑(frm zs ks p) : Int), Value.int IntKind.i64 (↑s_1 : Int)]) (2 : Nat) true true (List.all [Value.int IntKind.i64 (↑(frm zs ks p) : Int), Value.int IntKind.i64 (↑s_1 : Int)] atom)) :: noH = some (AObj.row (ints zs) (2 : Nat) m1 w1 true) :: some (AObj.row (acs ks) (2 : Nat) m2 w2 true) :: some (AObj.row [Value.string nm, Value.slice (some { block := (0 : Nat), off := (0 : Nat) }) n c, Value.slice (some { block := (1 : Nat), off := (0 : Nat) }) k d] (0 : Nat) false true false) :: some (AObj.row (ints (spn zs ks s')) (2 : Nat) true true true) :: noH)) (Is (List.length (ints (spn zs ks p)) = p * (2 : Nat) ∧ (p + (1 : Nat)) * (16 : Nat) ≤ (140737488355328 : Nat) ∧ p + (1 : Nat) ≤ (9223372036854775807 : Nat)) ∧ ∃ s', Is (s' ≤ k) ∧ Is (k - s' < k - s) ∧ [poi, Value.pointer (some { block := (2 : Nat), off := (0 : Nat) }), poi, Value.slice (some { block := (3 : Nat), off := (0 : Nat) }) (p + (1 : Nat)) (0 : Nat), Value.int IntKind.i64 (↑s_1 : Int), poi, poi, poi, poi, Value.slice (some { block := (1 : Nat), off := (0 : Nat) }) k d, Value.int IntKind.i64 (↑k : Int), Value.int IntKind.i64 (IntKind.wrap IntKind.i64 ((↑p : Int) + (1 : Int))), poi, poi, poi, poi, poi, poi, poi, poi, poi, poi, poi, poi, poi, poi, poi, poi, poi, poi, poi, poi, poi, poi, poi, poi, poi, poi, poi, poi, poi, poi, poi, poi, poi, poi, poi, poi, poi, poi] = [poi, Value.pointer (some { block := (2 : Nat), off := (0 : Nat) }), poi, Value.slice (some { block := (3 : Nat), off := (0 : Nat) }) s' (0 : Nat), Value.int IntKind.i64 (↑(frm zs ks s') : Int), poi, poi, poi, poi, Value.slice (some { block := (1 : Nat), off := (0 : Nat) }) k d, Value.int IntKind.i64 (↑k : Int), Value.int IntKind.i64 (↑s' : Int), poi, poi, poi, poi, poi, poi, poi, poi, poi, poi, poi, poi, poi, poi, poi, poi, poi, poi, poi, poi, poi, poi, poi, poi, poi, poi, poi, poi, poi, poi, poi, poi, poi, poi, poi, poi, poi, poi] ∧ some (AObj.row (ints zs) (2 : Nat) m1 w1 true) :: some (AObj.row (acs ks) (2 : Nat) m2 w2 true) :: some (AObj.row [Value.string nm, Value.slice (some { block := (0 : Nat), off := (0 : Nat) }) n c, Value.slice (some { block := (1 : Nat), off := (0 : Nat) }) k d] (0 : Nat) false true false) :: some (AObj.row (ints (spn zs ks p) ++ [Value.int IntKind.i64 (↑(frm zs ks p) : Int), Value.int IntKind.i64 (↑s_1 : Int)]) (2 : Nat) true true (List.all [Value.int IntKind.i64 (↑(frm zs ks p) : Int), Value.int IntKind.i64 (↑s_1 : Int)] atom)) :: noH = some (AObj.row (ints zs) (2 : Nat) m1 w1 true) :: some (AObj.row (acs ks) (2 : Nat) m2 w2 true) :: some (AObj.row [Value.string nm, Value.slice (some { block := (0 : Nat), off := (0 : Nat) }) n c, Value.slice (some { block := (1 : Nat), off := (0 : Nat) }) k d] (0 : Nat) false true false) :: some (AObj.row (ints (spn zs ks s')) (2 : Nat) true true true) :: noH)) (Is (List.length (ints (spn zs ks s)) = s * (2 : Nat) ∧ (s + (1 : Nat)) * (16 : Nat) ≤ (140737488355328 : Nat) ∧ s + (1 : Nat) ≤ (9223372036854775807 : Nat)) ∧ K (Value.slice (some { block := (2 : Nat), off := (0 : Nat) }) (s + (1 : Nat)) (0 : Nat)) (some (AObj.row (ints zs) (2 : Nat) m1 w1 true) :: some (AObj.row (acs ks) (2 : Nat) m2 w2 true) :: some (AObj.row (ints (spn zs ks s) ++ [Value.int IntKind.i64 (↑(frm zs ks s) : Int), Value.int IntKind.i64 (↑n : Int)]) (2 : Nat) true true (List.all [Value.int IntKind.i64 (↑(frm zs ks s) : Int), Value.int IntKind.i64 (↑n : Int)] atom)) :: noH))) := by kernel_rfl
/- The reference's periods. -/
noncomputable def orcCntV (zs : List Int) (ks : List (Int × ByteArray)) : OrcV
  | [.agg ⟨[.string _nm, .slice (some ⟨0, 0, none⟩) n _c, .slice (some ⟨1, 0, none⟩) k _d]⟩, .int .i64 x], [some (.row e1 2 m1 w1 true), some (.row e2 2 m2 w2 true)] => some (.int .i64 (Int.ofNat (cnt zs x)), [some (.row e1 2 m1 w1 true), some (.row e2 2 m2 w2 true)], isSec zs ks n k e1 e2)
  | _, _ => none
noncomputable def orcPerV (zs : List Int) (ks : List (Int × ByteArray)) : OrcV
  | [.agg ⟨[.string _nm, .slice (some ⟨0, 0, none⟩) n _c, .slice (some ⟨1, 0, none⟩) k _d]⟩], [some (.row e1 2 m1 w1 true), some (.row e2 2 m2 w2 true)] => some (.slice (some ⟨2, 0, none⟩) (k + 1) 0, [some (.row e1 2 m1 w1 true), some (.row e2 2 m2 w2 true), lst2 (spans zs ks n k)], isSec zs ks n k e1 e2 ∧ mchk zs (-1) = 0 ∧ achk ks (-1) = 0)
  | _, _ => none
noncomputable def orcPerRV (zs : List Int) (ks : List (Int × ByteArray)) : OrcV
  | [.agg ⟨[.string _nm, .slice (some ⟨0, 0, none⟩) n _c, .slice (some ⟨1, 0, none⟩) k _d]⟩], [some (.row e1 2 false false true), some (.row e2 2 false false true)] => some (.slice (some ⟨2, 0, none⟩) (k + 1) 0, [some (.row e1 2 false false true), some (.row e2 2 false false true), lst2 (spans zs ks n k)], isSec zs ks n k e1 e2)
  | _, _ => none
noncomputable def orcCkV (zs : List Int) (ks : List (Int × ByteArray)) : OrcV
  | [.agg ⟨[.string nm, .slice (some ⟨0, 0, none⟩) n _c, .slice (some ⟨1, 0, none⟩) k _d]⟩], [some (.row e1 2 m1 w1 true), some (.row e2 2 m2 w2 true)] => some (.int .i64 (secE nm zs n ks k), [some (.row e1 2 m1 w1 true), some (.row e2 2 m2 w2 true)], isSec zs ks n k e1 e2)
  | _, _ => none
noncomputable def orcOwnV (zs : List Int) (ks : List (Int × ByteArray)) : OrcV
  | [.agg ⟨[.string nm, .slice (some ⟨0, 0, none⟩) n _c, .slice (some ⟨1, 0, none⟩) k _d]⟩], [some (.row e1 2 m1 w1 true), some (.row e2 2 m2 w2 true)] => some (.agg #[.string nm, .slice (some ⟨2, 0, none⟩) n 0, .slice (some ⟨3, 0, none⟩) k 0], [some (.row e1 2 m1 w1 true), some (.row e2 2 m2 w2 true), some (.row (ints zs) 2 true true true), some (.row (acs ks) 2 true true true)], isSec zs ks n k e1 e2)
  | _, _ => none
noncomputable def orcShV (zs : List Int) (ks : List (Int × ByteArray)) : OrcV
  | [.agg ⟨[.string nm, .slice (some ⟨0, 0, none⟩) n _c, .slice (some ⟨1, 0, none⟩) k _d]⟩], [some (.row e1 2 m1 w1 true), some (.row e2 2 m2 w2 true)] => some (.bool (shortS nm n ks k), [some (.row e1 2 m1 w1 true), some (.row e2 2 m2 w2 true)], e1 = ints zs ∧ e2 = acs ks ∧ ks.length = k ∧ n ≤ 9223372036854775807 ∧ k ≤ 9223372036854775807)
  | _, _ => none
noncomputable def orcSameV (xs ys : List Int) : OrcV
  | [.slice (some ⟨0, 0, none⟩) n _c, .slice (some ⟨1, 0, none⟩) m _d], [some (.row e1 2 m1 w1 true), some (.row e2 2 m2 w2 true)] => some (.bool (decide (xs = ys)), [some (.row e1 2 m1 w1 true), some (.row e2 2 m2 w2 true)], e1 = ints xs ∧ e2 = ints ys ∧ xs.length = n * 2 ∧ ys.length = m * 2 ∧ n ≤ 100000 ∧ m ≤ 100000)
  | _, _ => none
noncomputable def lpPR (nm : ByteArray) (zs : List Int) (ks : List (Int × ByteArray)) (n c k d : Nat) (m1 w1 m2 w2 : Bool) : Lp where
  σ := Nat
  E i := slots 37 [(1, .pointer (some ⟨2, 0, none⟩)), (3, .slice (some ⟨3, 0, none⟩) i 0), (4, .int .i64 (Int.ofNat (frm zs ks i))), (5, .int .i64 (Int.ofNat i))]
  Hp i := hp2 zs ks m1 w1 m2 w2 [secR nm n c k d, lst2 (spn zs ks i)]
  I i := i ≤ k
  m i := k - i
noncomputable def hsPR {zs : List Int} {ks : List (Int × ByteArray)} (okC : OkV Tryz.prog 125 (orcCntV zs ks)) (nm : ByteArray) (n c k d : Nat) (m1 w1 m2 w2 : Bool) : Hs Tryz.prog where
  op y := if y = 604 then some (hIa Tryz.prog) else if y = 606 then some (hLd Tryz.prog (kI ks)) else if y = 607 then some (hCa Tryz.prog 125 (orcCntV zs ks) okC) else if [705, 907].contains y then some (hAp Tryz.prog) else none
  lp _ := some (lpPR nm zs ks n c k d m1 w1 m2 w2)
  cl _ := keep 37 [1, 3, 4, 5]
  nl _ := [.slot 3 2]
  au := au0 Tryz.prog
/- Equal lists of spans. -/
noncomputable def lpSS (xs ys : List Int) (n c m d : Nat) (m1 w1 m2 w2 : Bool) : Lp where
  σ := Nat
  E i := slots 26 [(0, .slice (some ⟨0, 0, none⟩) n c), (1, .slice (some ⟨1, 0, none⟩) m d), (5, .int .i64 (Int.ofNat i))]
  Hp _ := [some (.row (ints xs) 2 m1 w1 true), some (.row (ints ys) 2 m2 w2 true)]
  I i := i ≤ n ∧ xs.take (i * 2) = ys.take (i * 2)
  m i := n - i
noncomputable def hsSS (xs ys : List Int) (n c m d : Nat) (m1 w1 m2 w2 : Bool) : Hs Tryz.prog where
  op y := if [602, 606].contains y then some (hIa Tryz.prog) else if y = 603 then some (hLd Tryz.prog (z2 xs)) else if y = 607 then some (hLd Tryz.prog (z2 ys)) else none
  lp _ := some (lpSS xs ys n c m d m1 w1 m2 w2)
  cl _ := keep 26 [0, 1, 5]
  au := au0 Tryz.prog
theorem same_t (xs : List Int) (ys : List Int) (n : Nat) (c : Nat) (m : Nat) (d : Nat) (m1 : Bool) (w1 : Bool) (m2 : Bool) (w2 : Bool) (K : Value → Heap → Prop) :
    (fnP Tryz.prog c0 (hsSS xs ys n c m d m1 w1 m2 w2) (34 : FuncId) [Value.slice (some { block := (0 : Nat), off := (0 : Nat) }) n c, Value.slice (some { block := (1 : Nat), off := (0 : Nat) }) m d] [some (AObj.row (ints xs) (2 : Nat) m1 w1 true), some (AObj.row (ints ys) (2 : Nat) m2 w2 true)] K) =
    (br ((↑n : Int) != (↑m : Int)) (K (Value.bool false) (some (AObj.row (ints xs) (2 : Nat) m1 w1 true) :: some (AObj.row (ints ys) (2 : Nat) m2 w2 true) :: noH)) ((∃ s, Is (s ≤ n ∧ List.take (s * (2 : Nat)) xs = List.take (s * (2 : Nat)) ys) ∧ [Value.slice (some { block := (0 : Nat), off := (0 : Nat) }) n c, Value.slice (some { block := (1 : Nat), off := (0 : Nat) }) m d, poi, poi, poi, Value.int IntKind.i64 (0 : Int), poi, poi, poi, poi, poi, poi, poi, poi, poi, poi, poi, poi, poi, poi, poi, poi, poi, poi, poi, poi] = [Value.slice (some { block := (0 : Nat), off := (0 : Nat) }) n c, Value.slice (some { block := (1 : Nat), off := (0 : Nat) }) m d, poi, poi, poi, Value.int IntKind.i64 (↑s : Int), poi, poi, poi, poi, poi, poi, poi, poi, poi, poi, poi, poi, poi, poi, poi, poi, poi, poi, poi, poi] ∧ some (AObj.row (ints xs) (2 : Nat) m1 w1 true) :: some (AObj.row (ints ys) (2 : Nat) m2 w2 true) :: noH = some (AObj.row (ints xs) (2 : Nat) m1 w1 true) :: some (AObj.row (ints ys) (2 : Nat) m2 w2 true) :: noH) ∧ ∀ (s : Nat), Is (s ≤ n ∧ List.take (s * (2 : Nat)) xs = List.take (s * (2 : Nat)) ys) → br (decide ((↑s : Int) < (↑n : Int))) (Is ((0 : Int) ≤ (↑s : Int) ∧ (↑s : Int) < (↑n : Int)) ∧ Is ((if (0 : Nat) + Int.toNat (↑s : Int) * (2 : Nat) + (2 : Nat) ≤ List.length (ints xs) then some (Value.agg (List.toArray (List.take (2 : Nat) (List.drop ((0 : Nat) + Int.toNat (↑s : Int) * (2 : Nat)) (ints xs))))) else none) = some (Value.agg #[Value.int IntKind.i64 (List.getD xs ((0 : Nat) + Int.toNat (↑s : Int) * (2 : Nat)) (0 : Int)), Value.int IntKind.i64 (List.getD xs ((0 : Nat) + Int.toNat (↑s : Int) * (2 : Nat) + (1 : Nat)) (0 : Int))])) ∧ Is ((0 : Int) ≤ (↑s : Int) ∧ (↑s : Int) < (↑m : Int)) ∧ Is ((if (0 : Nat) + Int.toNat (↑s : Int) * (2 : Nat) + (2 : Nat) ≤ List.length (ints ys) then some (Value.agg (List.toArray (List.take (2 : Nat) (List.drop ((0 : Nat) + Int.toNat (↑s : Int) * (2 : Nat)) (ints ys))))) else none) = some (Value.agg #[Value.int IntKind.i64 (List.getD ys ((0 : Nat) + Int.toNat (↑s : Int) * (2 : Nat)) (0 : Int)), Value.int IntKind.i64 (List.getD ys ((0 : Nat) + Int.toNat (↑s : Int) * (2 : Nat) + (1 : Nat)) (0 : Int))])) ∧ Is True ∧ br (!(List.getD xs ((0 : Nat) + Int.toNat (↑s : Int) * (2 : Nat)) (0 : Int) == List.getD ys ((0 : Nat) + Int.toNat (↑s : Int) * (2 : Nat)) (0 : Int) && (List.getD xs ((0 : Nat) + Int.toNat (↑s : Int) * (2 : Nat) + (1 : Nat)) (0 : Int) == List.getD ys ((0 : Nat) + Int.toNat (↑s : Int) * (2 : Nat) + (1 : Nat)) (0 : Int) && true))) (K (Value.bool false) (some (AObj.row (ints xs) (2 : Nat) m1 w1 true) :: some (AObj.row (ints ys) (2 : Nat) m2 w2 true) :: noH)) (∃ s', Is (s' ≤ n ∧ List.take (s' * (2 : Nat)) xs = List.take (s' * (2 : Nat)) ys) ∧ Is (n - s' < n - s) ∧ [Value.slice (some { block := (0 : Nat), off := (0 : Nat) }) n c, Value.slice (some { block := (1 : Nat), off := (0 : Nat) }) m d, poi, poi, poi, Value.int IntKind.i64 (IntKind.wrap IntKind.i64 ((↑s : Int) + (1 : Int))), poi, poi, poi, poi, poi, poi, poi, poi, poi, poi, poi, poi, poi, poi, poi, poi, poi, poi, poi, poi] = [Value.slice (some { block := (0 : Nat), off := (0 : Nat) }) n c, Value.slice (some { block := (1 : Nat), off := (0 : Nat) }) m d, poi, poi, poi, Value.int IntKind.i64 (↑s' : Int), poi, poi, poi, poi, poi, poi, poi, poi, poi, poi, poi, poi, poi, poi, poi, poi, poi, poi, poi, poi] ∧ some (AObj.row (ints xs) (2 : Nat) m1 w1 true) :: some (AObj.row (ints ys) (2 : Nat) m2 w2 true) :: noH = some (AObj.row (ints xs) (2 : Nat) m1 w1 true) :: some (AObj.row (ints ys) (2 : Nat) m2 w2 true) :: noH)) (K (Value.bool true) (some (AObj.row (ints xs) (2 : Nat) m1 w1 true) :: some (AObj.row (ints ys) (2 : Nat) m2 w2 true) :: noH)))) := by kernel_rfl
/- Short. -/
noncomputable def lpSh (nm : ByteArray) (zs : List Int) (ks : List (Int × ByteArray)) (n c k d : Nat) (m1 w1 m2 w2 : Bool) : Lp where
  σ := Nat
  E i := slots 47 [(1, .pointer (some ⟨2, 0, none⟩)), (3, .int .i64 (Int.ofNat i))]
  Hp _ := hp2 zs ks m1 w1 m2 w2 [secR nm n c k d]
  I i := i ≤ k ∧ (ks.take i).all (fun a => !decide ((40 : Int) < a.2.size)) = true
  m i := k - i
noncomputable def hsSh (nm : ByteArray) (zs : List Int) (ks : List (Int × ByteArray)) (n c k d : Nat) (m1 w1 m2 w2 : Bool) : Hs Tryz.prog where
  op y := if y = 403 then some (hIa Tryz.prog) else if y = 405 then some (hLd Tryz.prog (kS ks)) else none
  lp _ := some (lpSh nm zs ks n c k d m1 w1 m2 w2)
  cl _ := keep 47 [1, 3]
  au := au0 Tryz.prog
theorem short_t (nm : ByteArray) (zs : List Int) (ks : List (Int × ByteArray)) (n : Nat) (c : Nat) (k : Nat) (d : Nat) (m1 : Bool) (w1 : Bool) (m2 : Bool) (w2 : Bool) (K : Value → Heap → Prop) :
    (fnP Tryz.prog c0 (hsSh nm zs ks n c k d m1 w1 m2 w2) (35 : FuncId) [Value.agg (List.toArray (secA nm (0 : Nat) n c (1 : Nat) k d))] (hp2 zs ks m1 w1 m2 w2 []) K) =
    ((∃ s, Is (s ≤ k ∧ (List.all (List.take s ks) fun a => !decide ((40 : Int) < (↑(ByteArray.size (Prod.snd a)) : Int))) = true) ∧ [poi, Value.pointer (some { block := (2 : Nat), off := (0 : Nat) }), poi, Value.int IntKind.i64 (0 : Int), poi, poi, poi, poi, poi, poi, poi, poi, poi, poi, poi, poi, poi, poi, poi, poi, poi, poi, poi, poi, poi, poi, poi, poi, poi, poi, poi, poi, poi, poi, poi, poi, poi, poi, poi, poi, poi, poi, poi, poi, poi, poi, poi] = [poi, Value.pointer (some { block := (2 : Nat), off := (0 : Nat) }), poi, Value.int IntKind.i64 (↑s : Int), poi, poi, poi, poi, poi, poi, poi, poi, poi, poi, poi, poi, poi, poi, poi, poi, poi, poi, poi, poi, poi, poi, poi, poi, poi, poi, poi, poi, poi, poi, poi, poi, poi, poi, poi, poi, poi, poi, poi, poi, poi, poi, poi] ∧ some (AObj.row (ints zs) (2 : Nat) m1 w1 true) :: some (AObj.row (acs ks) (2 : Nat) m2 w2 true) :: some (AObj.row [Value.string nm, Value.slice (some { block := (0 : Nat), off := (0 : Nat) }) n c, Value.slice (some { block := (1 : Nat), off := (0 : Nat) }) k d] (0 : Nat) false true (List.all [Value.string nm, Value.slice (some { block := (0 : Nat), off := (0 : Nat) }) n c, Value.slice (some { block := (1 : Nat), off := (0 : Nat) }) k d] atom)) :: noH = some (AObj.row (ints zs) (2 : Nat) m1 w1 true) :: some (AObj.row (acs ks) (2 : Nat) m2 w2 true) :: some (AObj.row [Value.string nm, Value.slice (some { block := (0 : Nat), off := (0 : Nat) }) n c, Value.slice (some { block := (1 : Nat), off := (0 : Nat) }) k d] (0 : Nat) false true false) :: noH) ∧ ∀ (s : Nat), Is (s ≤ k ∧ (List.all (List.take s ks) fun a => !decide ((40 : Int) < (↑(ByteArray.size (Prod.snd a)) : Int))) = true) → br (decide ((↑s : Int) < (↑k : Int))) (Is ((0 : Int) ≤ (↑s : Int) ∧ (↑s : Int) < (↑k : Int)) ∧ Is ((acs ks)[(0 : Nat) + Int.toNat (↑s : Int) * (2 : Nat) + (1 : Nat)]? = some (Value.string (Prod.snd (List.getD ks (((0 : Nat) + Int.toNat (↑s : Int) * (2 : Nat) + (1 : Nat)) / (2 : Nat)) ((0 : Int), { data := #[] }))))) ∧ br (decide ((40 : Int) < (↑(ByteArray.size (Prod.snd (List.getD ks (((0 : Nat) + Int.toNat (↑s : Int) * (2 : Nat) + (1 : Nat)) / (2 : Nat)) ((0 : Int), { data := #[] })))) : Int))) (K (Value.bool false) (some (AObj.row (ints zs) (2 : Nat) m1 w1 true) :: some (AObj.row (acs ks) (2 : Nat) m2 w2 true) :: noH)) (∃ s', Is (s' ≤ k ∧ (List.all (List.take s' ks) fun a => !decide ((40 : Int) < (↑(ByteArray.size (Prod.snd a)) : Int))) = true) ∧ Is (k - s' < k - s) ∧ [poi, Value.pointer (some { block := (2 : Nat), off := (0 : Nat) }), poi, Value.int IntKind.i64 (IntKind.wrap IntKind.i64 ((↑s : Int) + (1 : Int))), poi, poi, poi, poi, poi, poi, poi, poi, poi, poi, poi, poi, poi, poi, poi, poi, poi, poi, poi, poi, poi, poi, poi, poi, poi, poi, poi, poi, poi, poi, poi, poi, poi, poi, poi, poi, poi, poi, poi, poi, poi, poi, poi] = [poi, Value.pointer (some { block := (2 : Nat), off := (0 : Nat) }), poi, Value.int IntKind.i64 (↑s' : Int), poi, poi, poi, poi, poi, poi, poi, poi, poi, poi, poi, poi, poi, poi, poi, poi, poi, poi, poi, poi, poi, poi, poi, poi, poi, poi, poi, poi, poi, poi, poi, poi, poi, poi, poi, poi, poi, poi, poi, poi, poi, poi, poi] ∧ some (AObj.row (ints zs) (2 : Nat) m1 w1 true) :: some (AObj.row (acs ks) (2 : Nat) m2 w2 true) :: some (AObj.row [Value.string nm, Value.slice (some { block := (0 : Nat), off := (0 : Nat) }) n c, Value.slice (some { block := (1 : Nat), off := (0 : Nat) }) k d] (0 : Nat) false true false) :: noH = some (AObj.row (ints zs) (2 : Nat) m1 w1 true) :: some (AObj.row (acs ks) (2 : Nat) m2 w2 true) :: some (AObj.row [Value.string nm, Value.slice (some { block := (0 : Nat), off := (0 : Nat) }) n c, Value.slice (some { block := (1 : Nat), off := (0 : Nat) }) k d] (0 : Nat) false true false) :: noH)) (br (decide ((↑(ByteArray.size nm) : Int) ≤ (40 : Int))) (br (decide ((↑n : Int) ≤ (12 : Int))) (br (decide ((↑k : Int) ≤ (6 : Int))) (K (Value.bool true) (some (AObj.row (ints zs) (2 : Nat) m1 w1 true) :: some (AObj.row (acs ks) (2 : Nat) m2 w2 true) :: noH)) (K (Value.bool ((↑k : Int) == (17 : Int))) (some (AObj.row (ints zs) (2 : Nat) m1 w1 true) :: some (AObj.row (acs ks) (2 : Nat) m2 w2 true) :: noH))) (br ((↑n : Int) == (33 : Int)) (br (decide ((↑k : Int) ≤ (6 : Int))) (K (Value.bool true) (some (AObj.row (ints zs) (2 : Nat) m1 w1 true) :: some (AObj.row (acs ks) (2 : Nat) m2 w2 true) :: noH)) (K (Value.bool ((↑k : Int) == (17 : Int))) (some (AObj.row (ints zs) (2 : Nat) m1 w1 true) :: some (AObj.row (acs ks) (2 : Nat) m2 w2 true) :: noH))) (K (Value.bool false) (some (AObj.row (ints zs) (2 : Nat) m1 w1 true) :: some (AObj.row (acs ks) (2 : Nat) m2 w2 true) :: noH)))) (K (Value.bool false) (some (AObj.row (ints zs) (2 : Nat) m1 w1 true) :: some (AObj.row (acs ks) (2 : Nat) m2 w2 true) :: noH)))) := by kernel_rfl

theorem cnt_take {zs : List Int} {i : Nat} (x : Int) (h : i * 2 + 2 ≤ zs.length) : cnt (zs.take ((i + 1) * 2)) x = cnt (zs.take (i * 2)) x + if zs.getD (i * 2) 0 < x then 1 else 0 := by
  induction i generalizing zs with
  | zero =>
    obtain _ | ⟨a, _ | ⟨b, r⟩⟩ := zs
    · simp at h
    · simp at h
    · simp [cnt]
  | succ i ih =>
    obtain _ | ⟨a, _ | ⟨b, r⟩⟩ := zs
    · simp at h
    · simp at h
    · have h' : i * 2 + 2 ≤ r.length := by simp only [List.length_cons] at h; omega
      have e1 : (i + 1 + 1) * 2 = (i + 1) * 2 + 1 + 1 := by omega
      have e2 : (i + 1) * 2 = i * 2 + 1 + 1 := by omega
      have e3 : (a :: b :: r).getD ((i + 1) * 2) 0 = r.getD (i * 2) 0 := by rw [e2]; rfl
      rw [e3, e1, List.take_succ_cons, List.take_succ_cons]
      rw [show (a :: b :: r).take ((i + 1) * 2) = a :: b :: r.take (i * 2) by rw [e2, List.take_succ_cons, List.take_succ_cons]]
      simp only [cnt]
      rw [ih h']
      omega
theorem cnt_le : ∀ (zs : List Int) (x : Int), cnt zs x * 2 ≤ zs.length
  | [], _ => by simp [cnt]
  | [_], _ => by simp [cnt]
  | a :: b :: r, x => by
    have := cnt_le r x
    simp only [cnt, List.length_cons]
    split <;> omega
theorem cnt_mono {x y : Int} (h : x ≤ y) : ∀ zs : List Int, cnt zs x ≤ cnt zs y
  | [] => by simp [cnt]
  | [_] => by simp [cnt]
  | a :: b :: r => by
    have := cnt_mono h r
    simp only [cnt]
    split <;> split <;> omega
theorem mchk_cons {a b last : Int} {r : List Int} (h : mchk (a :: b :: r) last = 0) : last < a ∧ mchk r a = 0 := by
  simp only [mchk] at h
  obtain ⟨h1, h2⟩ := sel_zero.1 h
  have := fi_zero.1 h1 (wh (decide (a ≤ last)) 11) (by simp)
  have := (wh_zero (by decide)).1 this
  simp at this
  exact ⟨this, h2⟩
theorem cnt_none : ∀ (zs : List Int) (last x : Int), mchk zs last = 0 → x ≤ last + 1 → cnt zs x = 0
  | [], _, _, _, _ => by simp [cnt]
  | [_], _, _, _, _ => by simp [cnt]
  | a :: b :: r, last, x, h, hx => by
    obtain ⟨h1, h2⟩ := mchk_cons h
    have := cnt_none r a x h2 (by omega)
    simp only [cnt, this]
    split <;> omega
theorem cnt_iff : ∀ (zs : List Int) (last x : Int), mchk zs last = 0 → ∀ i, i * 2 + 2 ≤ zs.length → (zs.getD (i * 2) 0 < x ↔ i < cnt zs x)
  | [], _, _, _, i, h => by simp at h
  | [_], _, _, _, i, h => by simp at h
  | a :: b :: r, last, x, hm, i, h => by
    obtain ⟨h1, h2⟩ := mchk_cons hm
    cases i with
    | zero =>
      simp only [Nat.zero_mul, List.getD_cons_zero, cnt]
      by_cases hx : a < x
      · simp only [hx, if_true, true_iff]; omega
      · have := cnt_none r a x h2 (by omega)
        simp only [hx, if_false, this, false_iff]; omega
    | succ i =>
      have e2 : (i + 1) * 2 = i * 2 + 1 + 1 := by omega
      have e3 : (a :: b :: r).getD ((i + 1) * 2) 0 = r.getD (i * 2) 0 := by rw [e2]; rfl
      have ih := cnt_iff r a x h2 i (by simp only [List.length_cons] at h; omega)
      rw [e3, ih]
      simp only [cnt]
      by_cases hx : a < x
      · simp only [hx, if_true]; omega
      · have := cnt_none r a x h2 (by omega)
        simp only [hx, if_false, this]; omega
theorem achk_cons {a : Int × ByteArray} {last : Int} {r : List (Int × ByteArray)} (h : achk (a :: r) last = 0) : last < a.1 ∧ achk r a.1 = 0 := by
  simp only [achk] at h
  obtain ⟨h1, h2⟩ := sel_zero.1 h
  have := fi_zero.1 h1 (wh (decide (a.1 ≤ last)) 11) (by simp)
  have := (wh_zero (by decide)).1 this
  simp at this
  exact ⟨this, h2⟩
theorem acts_up : ∀ (ks : List (Int × ByteArray)) (last : Int), achk ks last = 0 → ∀ i, i + 1 < ks.length → (ks.getD i (0, ⟨#[]⟩)).1 < (ks.getD (i + 1) (0, ⟨#[]⟩)).1
  | [], _, _, i, h => by simp at h
  | [_], _, _, i, h => by simp at h
  | a :: b :: r, last, hm, i, h => by
    obtain ⟨h1, h2⟩ := achk_cons hm
    cases i with
    | zero => exact (achk_cons h2).1
    | succ i => exact acts_up (b :: r) a.1 h2 i (by simpa using h)
theorem frm_up {zs : List Int} {ks : List (Int × ByteArray)} (ha : achk ks (-1) = 0) {i : Nat} (h : i < ks.length) : frm zs ks i ≤ frm zs ks (i + 1) := by
  cases i with
  | zero => exact Nat.zero_le _
  | succ i => exact cnt_mono (Int.le_of_lt (acts_up ks (-1) ha i h)) zs
theorem spn_len (zs : List Int) (ks : List (Int × ByteArray)) : ∀ i, (spn zs ks i).length = i * 2
  | 0 => rfl
  | i + 1 => by simp only [spn, List.length_append, spn_len zs ks i, List.length_cons, List.length_nil]; omega
theorem spans_len (zs : List Int) (ks : List (Int × ByteArray)) (n k : Nat) : (spans zs ks n k).length = (k + 1) * 2 := by
  simp only [spans, List.length_append, spn_len, List.length_cons, List.length_nil]; omega
theorem acs_kind : ∀ {ks : List (Int × ByteArray)} {i : Nat}, i < ks.length → (acs ks)[i * 2 + 1]? = some (.string (ks.getD i (0, ⟨#[]⟩)).2)
  | [], _, h => absurd h (by simp)
  | a :: r, 0, _ => rfl
  | a :: r, i + 1, h => by
    have := acs_kind (ks := r) (i := i) (by simpa using h)
    have e : (i + 1) * 2 + 1 = i * 2 + 1 + 1 + 1 := by omega
    rw [e, acs, List.getElem?_cons_succ, List.getElem?_cons_succ, this]
    simp

set_option maxRecDepth 100000 in
theorem cntR_ok {nm : ByteArray} {zs : List Int} {ks : List (Int × ByteArray)} {n c k d : Nat} {m1 w1 m2 w2 : Bool} (x : Int) (hz : zs.length = n * 2) (hn : n ≤ 1000) :
    SmallRes Tryz.prog 125 [.agg (secA nm 0 n c 1 k d).toArray, .int .i64 x] (hp2 zs ks m1 w1 m2 w2 []) (.int .i64 (Int.ofNat (cnt zs x))) (hp2 zs ks m1 w1 m2 w2 []) := by
  refine fnP_res hm c0_ok (hs := hsF nm zs ks n c k d m1 w1 m2 w2 x) ?_
  rw [cntR_t]
  refine ⟨⟨(0 : Nat), ⟨by omega⟩, by first | trivial | rfl, by first | trivial | rfl⟩, fun s hs => br_of (fun h => ?_) (fun h => ?_)⟩
  · have h := lt_of_dec h
    have hst := cnt_take (zs := zs) (i := s) x (by omega)
    have hle := cnt_le (zs.take (s * 2)) x
    rw [List.length_take] at hle
    simp only [Nat.zero_add, Nat.add_zero, Int.toNat_natCast]
    refine ⟨⟨by omega, by omega⟩, ⟨ints_at (by omega)⟩, br_of (fun he => ⟨s + 1, ⟨h⟩, ⟨by omega⟩, ?_, by first | trivial | rfl⟩) (fun he => ⟨s + 1, ⟨h⟩, ⟨by omega⟩, ?_, by first | trivial | rfl⟩)⟩
    · rw [if_pos (of_decide_eq_true he)] at hst
      rw [up1 h (by omega), up1 (show cnt (zs.take (s * 2)) x < 1001 by omega) (by omega), hst]
    · rw [if_neg (of_decide_eq_false he)] at hst
      rw [up1 h (by omega), hst]
      rfl
  · have h := ge_of_dec h
    have : s = n := by have := hs.out; omega
    subst this
    rw [← hz, List.take_length]
    exact ⟨rfl, rfl⟩
theorem cntR_okV (zs : List Int) (ks : List (Int × ByteArray)) : OkV Tryz.prog 125 (orcCntV zs ks) := by
  intro args H ret H' vc h hv
  unfold orcCntV at h
  split at h
  · cases h
    obtain ⟨rfl, rfl, h1, h2, h3, h4⟩ := hv
    exact cntR_ok _ h1 h3
  · cases h
set_option maxRecDepth 100000 in
theorem per_ok {nm : ByteArray} {zs : List Int} {ks : List (Int × ByteArray)} {n c k d : Nat} {m1 w1 m2 w2 : Bool} (hz : zs.length = n * 2) (hk : ks.length = k) (hn : n ≤ 1000) (hk2 : k ≤ 1000) (hmm : mchk zs (-1) = 0) (ha : achk ks (-1) = 0) :
    SmallRes Tryz.prog 124 [.agg (secA nm 0 n c 1 k d).toArray] (hp2 zs ks m1 w1 m2 w2 []) (.slice (some ⟨2, 0, none⟩) (k + 1) 0) (hp2 zs ks m1 w1 m2 w2 [lst2 (spans zs ks n k)]) := by
  refine fnP_res hm c0_ok (hs := hsP nm zs ks n c k d m1 w1 m2 w2) ?_
  rw [per_t]
  refine ⟨⟨(0 : Nat), ⟨by omega⟩, by first | trivial | rfl, by first | trivial | rfl⟩, fun s hs => br_of (fun h => ?_) (fun h => ?_)⟩
  · have h := lt_of_dec h
    have e2 : s * 2 / 2 = s := by omega
    have hf : frm zs ks (s + 1) ≤ n := by have := cnt_le zs (ks.getD s (0, ⟨#[]⟩)).1; simp only [frm]; omega
    simp only [Nat.zero_add, Nat.add_zero, Int.toNat_natCast, e2]
    refine ⟨⟨by omega, by omega⟩, ⟨?_⟩, s, ⟨frm zs ks s, ⟨frm_up ha (by omega)⟩, by first | trivial | rfl, by first | trivial | rfl⟩, fun t ht => ?_⟩
    · rw [acs_len, if_pos (by omega), acs_pair (by omega)]
    · have ht := ht.out
      have last : t = frm zs ks (s + 1) → Is (List.length (ints (spn zs ks s)) = s * 2 ∧ (s + 1) * 16 ≤ 140737488355328 ∧ s + 1 ≤ 9223372036854775807) := fun _ => ⟨by rw [ints_len, spn_len]; omega⟩
      refine br_of (fun h1 => ⟨⟨by have := lt_of_dec h1; omega, by have := lt_of_dec h1; omega⟩, ⟨ints_at (by have := lt_of_dec h1; omega)⟩, br_of (fun h2 => ?_) (fun h2 => ?_)⟩) (fun h1 => ?_)
      · have h1 := lt_of_dec h1
        have h2 := (cnt_iff zs (-1) _ hmm t (by omega)).1 (of_decide_eq_true h2)
        exact ⟨t + 1, ⟨h2⟩, ⟨by omega⟩, by rw [up1 h1 (by omega)], by first | trivial | rfl⟩
      · have h1 := lt_of_dec h1
        have h2 : ¬ t < cnt zs (ks.getD s (0, ⟨#[]⟩)).1 := fun h => of_decide_eq_false h2 ((cnt_iff zs (-1) (ks.getD s (0, ⟨#[]⟩)).1 hmm t (by omega)).2 h)
        have e : t = frm zs ks (s + 1) := by simp only [frm] at ht ⊢; omega
        subst e
        refine ⟨last rfl, s + 1, ⟨h⟩, ⟨by omega⟩, by rw [up1 h (by omega)], ?_⟩
        rw [show ints (spn zs ks s) ++ [.int .i64 ((frm zs ks s : Nat) : Int), .int .i64 ((frm zs ks (s + 1) : Nat) : Int)] = ints (spn zs ks (s + 1)) by rw [spn, ← ints_app]; rfl]
        first | trivial | rfl
      · have h1 := ge_of_dec h1
        have e : t = frm zs ks (s + 1) := by omega
        subst e
        refine ⟨last rfl, s + 1, ⟨h⟩, ⟨by omega⟩, by rw [up1 h (by omega)], ?_⟩
        rw [show ints (spn zs ks s) ++ [.int .i64 ((frm zs ks s : Nat) : Int), .int .i64 ((frm zs ks (s + 1) : Nat) : Int)] = ints (spn zs ks (s + 1)) by rw [spn, ← ints_app]; rfl]
        first | trivial | rfl
  · have h := ge_of_dec h
    have : s = k := by have := hs.out; omega
    subst this
    refine ⟨⟨by rw [ints_len, spn_len], by omega, by omega⟩, rfl, ?_⟩
    rw [show ints (spn zs ks s) ++ [.int .i64 ((frm zs ks s : Nat) : Int), .int .i64 (n : Int)] = ints (spans zs ks n s) by rw [spans, ← ints_app]; rfl]
    rfl
theorem per_okV (zs : List Int) (ks : List (Int × ByteArray)) : OkV Tryz.prog 124 (orcPerV zs ks) := by
  intro args H ret H' vc h hv
  unfold orcPerV at h
  split at h
  · cases h
    obtain ⟨⟨rfl, rfl, h1, h2, h3, h4⟩, h5, h6⟩ := hv
    exact per_ok h1 h2 h3 h4 h5 h6
  · cases h
theorem ck_okV (zs : List Int) (ks : List (Int × ByteArray)) : OkV Tryz.prog 40 (orcCkV zs ks) := by
  intro args H ret H' vc h hv
  unfold orcCkV at h
  split at h
  · cases h
    obtain ⟨rfl, rfl, h1, h2, h3, h4⟩ := hv
    exact ck_ok h1 h2 h3 h4
  · cases h
theorem ckR_okV (zs : List Int) (ks : List (Int × ByteArray)) : OkV Tryz.prog 38 (orcCkV zs ks) := by
  intro args H ret H' vc h hv
  unfold orcCkV at h
  split at h
  · cases h
    obtain ⟨rfl, rfl, h1, h2, h3, h4⟩ := hv
    exact ckR_ok h1 h2 h3 h4
  · cases h
theorem own_okV (zs : List Int) (ks : List (Int × ByteArray)) : OkV Tryz.prog 37 (orcOwnV zs ks) := by
  intro args H ret H' vc h hv
  unfold orcOwnV at h
  split at h
  · cases h
    obtain ⟨rfl, rfl, h1, h2, h3, h4⟩ := hv
    exact own_ok h1 h2 h3 h4
  · cases h
set_option maxRecDepth 100000 in
theorem same_ok {xs ys : List Int} {n c m d : Nat} {m1 w1 m2 w2 : Bool} (hx : xs.length = n * 2) (hy : ys.length = m * 2) (hn : n ≤ 100000) (hm2 : m ≤ 100000) :
    SmallRes Tryz.prog 34 [.slice (some ⟨0, 0, none⟩) n c, .slice (some ⟨1, 0, none⟩) m d] [some (.row (ints xs) 2 m1 w1 true), some (.row (ints ys) 2 m2 w2 true)] (.bool (decide (xs = ys))) [some (.row (ints xs) 2 m1 w1 true), some (.row (ints ys) 2 m2 w2 true)] := by
  refine fnP_res hm c0_ok (hs := hsSS xs ys n c m d m1 w1 m2 w2) ?_
  rw [same_t]
  refine br_of (fun h => ?_) (fun h0 => ⟨⟨(0 : Nat), ⟨by omega, rfl⟩, by first | trivial | rfl, by first | trivial | rfl⟩, fun s hs => br_of (fun h => ?_) (fun h => ?_)⟩)
  · have h : n ≠ m := by intro e; subst e; simp at h
    rw [decide_eq_false (fun e => h (by subst e; omega))]
    exact ⟨rfl, rfl⟩
  · have h0 : n = m := by simp at h0; omega
    subst h0
    obtain ⟨a1, a2⟩ := hs.out
    have h := lt_of_dec h
    simp only [Nat.zero_add, Int.toNat_natCast]
    refine ⟨⟨by omega, by omega⟩, ⟨by rw [ints_len, if_pos (by omega), ints_pair (by omega)]⟩, ⟨by omega, by omega⟩, ⟨by rw [ints_len, if_pos (by omega), ints_pair (by omega)]⟩, ⟨trivial⟩, br_of (fun he => ?_) (fun he => ⟨s + 1, ⟨h, ?_⟩, ⟨by omega⟩, by rw [up1 h (by omega)], by first | trivial | rfl⟩)⟩
    · rw [decide_eq_false (fun e => by subst e; simp at he)]
      exact ⟨by first | trivial | rfl, by first | trivial | rfl⟩
    · have e : (s + 1) * 2 = s * 2 + 2 := by omega
      simp only [Bool.and_true, Bool.not_eq_false', Bool.and_eq_true, beq_iff_eq] at he
      rw [e, List.take_add, List.take_add, a2, pair_at (by omega), pair_at (by omega), he.1, he.2]
  · obtain ⟨a1, a2⟩ := hs.out
    have h := ge_of_dec h
    have h0 : n = m := by simp at h0; omega
    subst h0
    have e : s = n := by omega
    subst e
    rw [← hx, List.take_length, hx, ← hy, List.take_length] at a2
    rw [decide_eq_true a2]
    exact ⟨by first | trivial | rfl, rfl⟩
theorem same_okV (xs ys : List Int) : OkV Tryz.prog 34 (orcSameV xs ys) := by
  intro args H ret H' vc h hv
  unfold orcSameV at h
  split at h
  · cases h
    obtain ⟨rfl, rfl, h1, h2, h3, h4⟩ := hv
    exact same_ok h1 h2 h3 h4
  · cases h
set_option maxRecDepth 100000 in
theorem short_ok {nm : ByteArray} {zs : List Int} {ks : List (Int × ByteArray)} {n c k d : Nat} {m1 w1 m2 w2 : Bool} (hk : ks.length = k) (hk2 : k ≤ 9223372036854775807) :
    SmallRes Tryz.prog 35 [.agg (secA nm 0 n c 1 k d).toArray] (hp2 zs ks m1 w1 m2 w2 []) (.bool (shortS nm n ks k)) (hp2 zs ks m1 w1 m2 w2 []) := by
  refine fnP_res hm c0_ok (hs := hsSh nm zs ks n c k d m1 w1 m2 w2) ?_
  rw [short_t]
  refine ⟨⟨(0 : Nat), ⟨by omega, rfl⟩, by first | trivial | rfl, by first | trivial | rfl⟩, fun s hs => br_of (fun h => ?_) (fun h => ?_)⟩
  · obtain ⟨a1, a2⟩ := hs.out
    have h := lt_of_dec h
    have e2 : (s * 2 + 1) / 2 = s := by omega
    have hu : IntKind.wrap .i64 ((s : Int) + 1) = ((s + 1 : Nat) : Int) := by rw [wrap_eq (by omega) (by omega)]; rfl
    simp only [Nat.zero_add, Int.toNat_natCast, e2]
    refine ⟨⟨by omega, by omega⟩, ⟨acs_kind (by omega)⟩, br_of (fun he => ?_) (fun he => ⟨s + 1, ⟨h, ?_⟩, ⟨by omega⟩, by rw [hu], by first | trivial | rfl⟩)⟩
    · have : ks.all (fun a => !decide ((40 : Int) < a.2.size)) = false := by
        rw [List.all_eq_false]
        refine ⟨ks.getD s (0, ⟨#[]⟩), ?_, by rw [he]; simp⟩
        rw [List.getD_eq_getElem?_getD, List.getElem?_eq_getElem (by omega)]
        exact List.getElem_mem _
      rw [shortS, this]
      exact ⟨rfl, rfl⟩
    · rw [List.take_add_one, List.all_append, a2, List.getElem?_eq_getElem (by omega)]
      rw [List.getD_eq_getElem?_getD, List.getElem?_eq_getElem (by omega)] at he
      simpa using he
  · obtain ⟨a1, a2⟩ := hs.out
    have h := ge_of_dec h
    have e : s = k := by omega
    subst e
    rw [← hk, List.take_length] at a2
    rw [shortS, a2, Bool.true_and]
    refine br_of (fun b1 => br_of (fun b2 => br_of (fun b3 => ?_) (fun b3 => ?_)) (fun b2 => br_of (fun b4 => br_of (fun b3 => ?_) (fun b3 => ?_)) (fun b4 => ?_))) (fun b1 => ?_)
    all_goals simp only [b1, Bool.true_and, Bool.false_and]
    all_goals first | simp only [b2, Bool.true_and, Bool.true_or, Bool.false_or] | skip
    all_goals first | simp only [b4, Bool.true_and, Bool.false_and] | skip
    all_goals first | simp only [b3, Bool.true_or, Bool.false_or] | skip
    all_goals exact ⟨by first | trivial | rfl, rfl⟩
theorem short_okV (zs : List Int) (ks : List (Int × ByteArray)) : OkV Tryz.prog 35 (orcShV zs ks) := by
  intro args H ret H' vc h hv
  unfold orcShV at h
  split at h
  · cases h
    obtain ⟨rfl, rfl, h1, h2, h3⟩ := hv
    exact short_ok h1 h3
  · cases h

noncomputable def hsPRx (zs : List Int) (ks : List (Int × ByteArray)) (nm : ByteArray) (n c k d : Nat) : Hs Tryz.prog := hsPR (cntR_okV zs ks) nm n c k d false false false false
theorem perR_t (nm : ByteArray) (zs : List Int) (ks : List (Int × ByteArray)) (n : Nat) (c : Nat) (k : Nat) (d : Nat) (K : Value → Heap → Prop) :
    (fnP Tryz.prog c0 (hsPRx zs ks nm n c k d) (39 : FuncId) [Value.agg (List.toArray (secA nm (0 : Nat) n c (1 : Nat) k d))] (hp2 zs ks false false false false []) K) =
    ((∃ s, Is (s ≤ k) ∧ [poi, Value.pointer (some { block := (2 : Nat), off := (0 : Nat) }), poi, Value.slice (some { block := (3 : Nat), off := (0 : Nat) }) (0 : Nat) (0 : Nat), Value.int IntKind.i64 (0 : Int), Value.int IntKind.i64 (0 : Int), poi, poi, poi, poi, poi, poi, poi, poi, poi, poi, poi, poi, poi, poi, poi, poi, poi, poi, poi, poi, poi, poi, poi, poi, poi, poi, poi, poi, poi, poi, poi] = [poi, Value.pointer (some { block := (2 : Nat), off := (0 : Nat) }), poi, Value.slice (some { block := (3 : Nat), off := (0 : Nat) }) s (0 : Nat), Value.int IntKind.i64 (↑(frm zs ks s) : Int), Value.int IntKind.i64 (↑s : Int), poi, poi, poi, poi, poi, poi, poi, poi, poi, poi, poi, poi, poi, poi, poi, poi, poi, poi, poi, poi, poi, poi, poi, poi, poi, poi, poi, poi, poi, poi, poi] ∧ some (AObj.row (ints zs) (2 : Nat) false false true) :: some (AObj.row (acs ks) (2 : Nat) false false true) :: some (AObj.row [Value.string nm, Value.slice (some { block := (0 : Nat), off := (0 : Nat) }) n c, Value.slice (some { block := (1 : Nat), off := (0 : Nat) }) k d] (0 : Nat) false true (List.all [Value.string nm, Value.slice (some { block := (0 : Nat), off := (0 : Nat) }) n c, Value.slice (some { block := (1 : Nat), off := (0 : Nat) }) k d] atom)) :: some (AObj.row [] (2 : Nat) true true true) :: noH = some (AObj.row (ints zs) (2 : Nat) false false true) :: some (AObj.row (acs ks) (2 : Nat) false false true) :: some (AObj.row [Value.string nm, Value.slice (some { block := (0 : Nat), off := (0 : Nat) }) n c, Value.slice (some { block := (1 : Nat), off := (0 : Nat) }) k d] (0 : Nat) false true false) :: some (AObj.row (ints (spn zs ks s)) (2 : Nat) true true true) :: noH) ∧ ∀ (s : Nat), Is (s ≤ k) → br (decide ((↑s : Int) < (↑k : Int))) (Is ((0 : Int) ≤ (↑s : Int) ∧ (↑s : Int) < (↑k : Int)) ∧ Is ((acs ks)[(0 : Nat) + Int.toNat (↑s : Int) * (2 : Nat) + (0 : Nat)]? = some (Value.int IntKind.i64 (Prod.fst (List.getD ks (((0 : Nat) + Int.toNat (↑s : Int) * (2 : Nat) + (0 : Nat)) / (2 : Nat)) ((0 : Int), { data := #[] }))))) ∧ Is (isSec zs ks n k (ints zs) (acs ks)) ∧ Is (List.length (ints (spn zs ks s)) = s * (2 : Nat) ∧ (s + (1 : Nat)) * (16 : Nat) ≤ (140737488355328 : Nat) ∧ s + (1 : Nat) ≤ (9223372036854775807 : Nat)) ∧ ∃ s', Is (s' ≤ k) ∧ Is (k - s' < k - s) ∧ [poi, Value.pointer (some { block := (2 : Nat), off := (0 : Nat) }), poi, Value.slice (some { block := (3 : Nat), off := (0 : Nat) }) (s + (1 : Nat)) (0 : Nat), Value.int IntKind.i64 (↑(cnt zs (Prod.fst (List.getD ks (((0 : Nat) + Int.toNat (↑s : Int) * (2 : Nat) + (0 : Nat)) / (2 : Nat)) ((0 : Int), { data := #[] })))) : Int), Value.int IntKind.i64 (IntKind.wrap IntKind.i64 ((↑s : Int) + (1 : Int))), poi, poi, poi, poi, poi, poi, poi, poi, poi, poi, poi, poi, poi, poi, poi, poi, poi, poi, poi, poi, poi, poi, poi, poi, poi, poi, poi, poi, poi, poi, poi] = [poi, Value.pointer (some { block := (2 : Nat), off := (0 : Nat) }), poi, Value.slice (some { block := (3 : Nat), off := (0 : Nat) }) s' (0 : Nat), Value.int IntKind.i64 (↑(frm zs ks s') : Int), Value.int IntKind.i64 (↑s' : Int), poi, poi, poi, poi, poi, poi, poi, poi, poi, poi, poi, poi, poi, poi, poi, poi, poi, poi, poi, poi, poi, poi, poi, poi, poi, poi, poi, poi, poi, poi, poi] ∧ some (AObj.row (ints zs) (2 : Nat) false false true) :: some (AObj.row (acs ks) (2 : Nat) false false true) :: some (AObj.row [Value.string nm, Value.slice (some { block := (0 : Nat), off := (0 : Nat) }) n c, Value.slice (some { block := (1 : Nat), off := (0 : Nat) }) k d] (0 : Nat) false true false) :: some (AObj.row (ints (spn zs ks s) ++ [Value.int IntKind.i64 (↑(frm zs ks s) : Int), Value.int IntKind.i64 (↑(cnt zs (Prod.fst (List.getD ks (((0 : Nat) + Int.toNat (↑s : Int) * (2 : Nat) + (0 : Nat)) / (2 : Nat)) ((0 : Int), { data := #[] })))) : Int)]) (2 : Nat) true true (List.all [Value.int IntKind.i64 (↑(frm zs ks s) : Int), Value.int IntKind.i64 (↑(cnt zs (Prod.fst (List.getD ks (((0 : Nat) + Int.toNat (↑s : Int) * (2 : Nat) + (0 : Nat)) / (2 : Nat)) ((0 : Int), { data := #[] })))) : Int)] atom)) :: noH = some (AObj.row (ints zs) (2 : Nat) false false true) :: some (AObj.row (acs ks) (2 : Nat) false false true) :: some (AObj.row [Value.string nm, Value.slice (some { block := (0 : Nat), off := (0 : Nat) }) n c, Value.slice (some { block := (1 : Nat), off := (0 : Nat) }) k d] (0 : Nat) false true false) :: some (AObj.row (ints (spn zs ks s')) (2 : Nat) true true true) :: noH) (Is (List.length (ints (spn zs ks s)) = s * (2 : Nat) ∧ (s + (1 : Nat)) * (16 : Nat) ≤ (140737488355328 : Nat) ∧ s + (1 : Nat) ≤ (9223372036854775807 : Nat)) ∧ K (Value.slice (some { block := (2 : Nat), off := (0 : Nat) }) (s + (1 : Nat)) (0 : Nat)) (some (AObj.row (ints zs) (2 : Nat) false false true) :: some (AObj.row (acs ks) (2 : Nat) false false true) :: some (AObj.row (ints (spn zs ks s) ++ [Value.int IntKind.i64 (↑(frm zs ks s) : Int), Value.int IntKind.i64 (↑n : Int)]) (2 : Nat) true true (List.all [Value.int IntKind.i64 (↑(frm zs ks s) : Int), Value.int IntKind.i64 (↑n : Int)] atom)) :: noH))) := by kernel_rfl
noncomputable def hsPP (zs : List Int) (ks : List (Int × ByteArray)) : Hs Tryz.prog where
  rn := [.slot 0 2]
  au := auCalls [(40, hCa Tryz.prog 40 (orcCkV zs ks) (ck_okV zs ks)), (124, hCa Tryz.prog 124 (orcPerV zs ks) (per_okV zs ks))]
theorem pp_t (nm : ByteArray) (zs : List Int) (ks : List (Int × ByteArray)) (n : Nat) (c : Nat) (k : Nat) (d : Nat) (K : Value → Heap → Prop) :
    (fnP Tryz.prog c0 (hsPP zs ks) (36 : FuncId) [Value.agg (List.toArray (secA nm (0 : Nat) n c (1 : Nat) k d))] (hp2 zs ks true true true true []) K) =
    (Is (isSec zs ks n k (ints zs) (acs ks)) ∧ br (secE nm zs n ks k != (0 : Int)) (K (Value.tuple #[Value.slice (some { block := (2 : Nat), off := (0 : Nat) }) (0 : Nat) (0 : Nat), Value.int IntKind.i64 (secE nm zs n ks k)]) (some (AObj.row (ints zs) (2 : Nat) true true true) :: some (AObj.row (acs ks) (2 : Nat) true true true) :: some (AObj.row [] (2 : Nat) true true true) :: noH)) (Is (isSec zs ks n k (ints zs) (acs ks) ∧ mchk zs (-1 : Int) = (0 : Int) ∧ achk ks (-1 : Int) = (0 : Int)) ∧ K (Value.tuple #[Value.slice (some { block := (2 : Nat), off := (0 : Nat) }) (k + (1 : Nat)) (0 : Nat), Value.int IntKind.i64 (0 : Int)]) (some (AObj.row (ints zs) (2 : Nat) true true true) :: some (AObj.row (acs ks) (2 : Nat) true true true) :: some (AObj.row (ints (spans zs ks n k)) (2 : Nat) true true true) :: noH))) := by kernel_rfl

noncomputable def perN (e : Int) (k : Nat) : Nat := if e = 0 then k + 1 else 0
noncomputable def perL (e : Int) (l : List Int) : List Int := if e = 0 then l else []
noncomputable def orcPPV (zs : List Int) (ks : List (Int × ByteArray)) : OrcV
  | [.agg ⟨[.string nm, .slice (some ⟨0, 0, none⟩) n _c, .slice (some ⟨1, 0, none⟩) k _d]⟩], [some (.row e1 2 true true true), some (.row e2 2 true true true)] => some (.tuple #[.slice (some ⟨2, 0, none⟩) (perN (secE nm zs n ks k) k) 0, .int .i64 (secE nm zs n ks k)], [some (.row e1 2 true true true), some (.row e2 2 true true true), lst2 (perL (secE nm zs n ks k) (spans zs ks n k))], isSec zs ks n k e1 e2)
  | _, _ => none
theorem secE_ok {nm : ByteArray} {zs : List Int} {n : Nat} {ks : List (Int × ByteArray)} {k : Nat} (h : secE nm zs n ks k = 0) : mchk zs (-1) = 0 ∧ achk ks (-1) = 0 := by
  simp only [secE, sel_zero] at h
  exact ⟨h.2.1, h.2.2.2⟩
set_option maxRecDepth 100000 in
theorem perR_ok {nm : ByteArray} {zs : List Int} {ks : List (Int × ByteArray)} {n c k d : Nat} (hz : zs.length = n * 2) (hk : ks.length = k) (hn : n ≤ 1000) (hk2 : k ≤ 1000) :
    SmallRes Tryz.prog 39 [.agg (secA nm 0 n c 1 k d).toArray] (hp2 zs ks false false false false []) (.slice (some ⟨2, 0, none⟩) (k + 1) 0) (hp2 zs ks false false false false [lst2 (spans zs ks n k)]) := by
  refine fnP_res hm c0_ok (hs := hsPRx zs ks nm n c k d) ?_
  rw [perR_t]
  refine ⟨⟨(0 : Nat), ⟨by omega⟩, by first | trivial | rfl, by first | trivial | rfl⟩, fun s hs => br_of (fun h => ?_) (fun h => ?_)⟩
  · have h := lt_of_dec h
    have e2 : s * 2 / 2 = s := by omega
    simp only [Nat.zero_add, Nat.add_zero, Int.toNat_natCast, e2]
    refine ⟨⟨by omega, by omega⟩, ⟨acs_day (by omega)⟩, ⟨rfl, rfl, hz, hk, hn, hk2⟩, ⟨by rw [ints_len, spn_len], by omega, by omega⟩, s + 1, ⟨h⟩, ⟨by omega⟩, by rw [up1 h (by omega)]; rfl, ?_⟩
    rw [show ints (spn zs ks s) ++ [.int .i64 ((frm zs ks s : Nat) : Int), .int .i64 ((cnt zs (ks.getD s (0, ⟨#[]⟩)).1 : Nat) : Int)] = ints (spn zs ks (s + 1)) by rw [spn, ← ints_app]; rfl]
    first | trivial | rfl
  · have h := ge_of_dec h
    have : s = k := by have := hs.out; omega
    subst this
    refine ⟨⟨by rw [ints_len, spn_len], by omega, by omega⟩, rfl, ?_⟩
    rw [show ints (spn zs ks s) ++ [.int .i64 ((frm zs ks s : Nat) : Int), .int .i64 (n : Int)] = ints (spans zs ks n s) by rw [spans, ← ints_app]; rfl]
    rfl
theorem perR_okV (zs : List Int) (ks : List (Int × ByteArray)) : OkV Tryz.prog 39 (orcPerRV zs ks) := by
  intro args H ret H' vc h hv
  unfold orcPerRV at h
  split at h
  · cases h
    obtain ⟨rfl, rfl, h1, h2, h3, h4⟩ := hv
    exact perR_ok h1 h2 h3 h4
  · cases h
theorem pp_ok {nm : ByteArray} {zs : List Int} {ks : List (Int × ByteArray)} {n c k d : Nat} (hz : zs.length = n * 2) (hk : ks.length = k) (hn : n ≤ 1000) (hk2 : k ≤ 1000) :
    SmallRes Tryz.prog 36 [.agg (secA nm 0 n c 1 k d).toArray] (hp2 zs ks true true true true []) (.tuple #[.slice (some ⟨2, 0, none⟩) (perN (secE nm zs n ks k) k) 0, .int .i64 (secE nm zs n ks k)]) (hp2 zs ks true true true true [lst2 (perL (secE nm zs n ks k) (spans zs ks n k))]) := by
  refine fnP_res hm c0_ok (hs := hsPP zs ks) ?_
  rw [pp_t]
  have hi : isSec zs ks n k (ints zs) (acs ks) := ⟨rfl, rfl, hz, hk, hn, hk2⟩
  refine ⟨⟨hi⟩, br_of (fun h => ?_) (fun h => ?_)⟩
  · have h : secE nm zs n ks k ≠ 0 := by simpa using h
    rw [perN, perL, if_neg h, if_neg h]
    exact ⟨rfl, rfl⟩
  · have h : secE nm zs n ks k = 0 := by simpa using h
    rw [perN, perL, if_pos h, if_pos h, h]
    exact ⟨⟨hi, secE_ok h⟩, rfl, rfl⟩
theorem pp_okV (zs : List Int) (ks : List (Int × ByteArray)) : OkV Tryz.prog 36 (orcPPV zs ks) := by
  intro args H ret H' vc h hv
  unfold orcPPV at h
  split at h
  · cases h
    obtain ⟨rfl, rfl, h1, h2, h3, h4⟩ := hv
    exact pp_ok h1 h2 h3 h4
  · cases h
noncomputable def orcSameX : OrcV
  | [.slice (some ⟨0, 0, none⟩) n _c, .slice (some ⟨1, 0, none⟩) m _d], [some (.row e1 2 m1 w1 true), some (.row e2 2 m2 w2 true)] => some (.bool true, [some (.row e1 2 m1 w1 true), some (.row e2 2 m2 w2 true)], n = m ∧ e1 = e2 ∧ n ≤ 100000 ∧ isInts e1 n)
  | _, _ => none
theorem same_ok' {xs : List Int} {n c d : Nat} {m1 w1 m2 w2 : Bool} (hx : xs.length = n * 2) (hn : n ≤ 100000) :
    SmallRes Tryz.prog 34 [.slice (some ⟨0, 0, none⟩) n c, .slice (some ⟨1, 0, none⟩) n d] [some (.row (ints xs) 2 m1 w1 true), some (.row (ints xs) 2 m2 w2 true)] (.bool true) [some (.row (ints xs) 2 m1 w1 true), some (.row (ints xs) 2 m2 w2 true)] := by
  have h := same_ok (c := c) (d := d) (m1 := m1) (w1 := w1) (m2 := m2) (w2 := w2) hx hx hn hn
  rw [decide_eq_true (rfl : xs = xs)] at h
  exact h
theorem same_okX : OkV Tryz.prog 34 orcSameX := by
  intro args H ret H' vc h hv
  unfold orcSameX at h
  split at h
  · cases h
    obtain ⟨rfl, rfl, h1, xs, rfl, h2⟩ := hv
    exact same_ok' h2 h1
  · cases h
end
end Qq
end
section
/- Parts of a section, and their sums. -/
open Go Go.Vm Go.Proofs Sp
namespace Sp
noncomputable section
/-- A sum over pairs. -/
noncomputable def sumP (g : Int → Int → Int) : List Int → Int
  | d :: x :: r => g d x + sumP g r
  | _ => 0
noncomputable def d0 (zs : List Int) (off : Nat) : Int := zs.getD off 0
noncomputable def sX (zs : List Int) (off i : Nat) : Int := sumP (fun d _ => d - d0 zs off) ((zs.drop off).take (i * 2))
noncomputable def sY (zs : List Int) (off i : Nat) : Int := sumP (fun _ x => x) ((zs.drop off).take (i * 2))
noncomputable def sXX (zs : List Int) (off i : Nat) : Int := sumP (fun d _ => (d - d0 zs off) * (d - d0 zs off)) ((zs.drop off).take (i * 2))
noncomputable def sXY (zs : List Int) (off i : Nat) : Int := sumP (fun d x => (d - d0 zs off) * x) ((zs.drop off).take (i * 2))
noncomputable def lvl (zs : List Int) (off m : Nat) : Int := sY zs off m * sXX zs off m - sX zs off m * sXY zs off m
noncomputable def slp (zs : List Int) (off m : Nat) : Int := m * sXY zs off m - sX zs off m * sY zs off m
noncomputable def dn (zs : List Int) (off m : Nat) : Int := m * sXX zs off m - sX zs off m * sX zs off m
/-- Where a period ends. -/
noncomputable def upto (zs : List Int) (ks : List (Int × ByteArray)) (n k i : Nat) : Nat := if i < k then frm zs ks (i + 1) else n
end
end Sp
namespace Qq
noncomputable section
noncomputable def sp2 (zs : List Int) (ks : List (Int × ByteArray)) (n k off : Nat) : Value := .agg #[.int .i64 (Int.ofNat (frm zs ks (off / 2))), .int .i64 (Int.ofNat (upto zs ks n k (off / 2)))]
noncomputable def hsPd (zs : List Int) (ks : List (Int × ByteArray)) (n k : Nat) : Hs Tryz.prog where
  op y := if y = 103 then some (hIa Tryz.prog) else if y = 104 then some (hLd Tryz.prog (sp2 zs ks n k)) else if y = 206 then some (hSl Tryz.prog) else none
  au := auCalls [(124, hCa Tryz.prog 124 (orcPerV zs ks) (per_okV zs ks))]
theorem pd_t (nm : ByteArray) (zs : List Int) (ks : List (Int × ByteArray)) (n : Nat) (c : Nat) (k : Nat) (d : Nat) (p : Int) (K : Value → Heap → Prop) :
    (fnP Tryz.prog c0 (hsPd zs ks n k) (142 : FuncId) [Value.agg (List.toArray (secA nm (0 : Nat) n c (1 : Nat) k d)), Value.int IntKind.i64 p] (hp2 zs ks true true true true []) K) =
    (Is (isSec zs ks n k (ints zs) (acs ks) ∧ mchk zs (-1 : Int) = (0 : Int) ∧ achk ks (-1 : Int) = (0 : Int)) ∧ Is ((0 : Int) ≤ p ∧ p < (↑(k + (1 : Nat)) : Int)) ∧ Is ((if (0 : Nat) + Int.toNat p * (2 : Nat) + (2 : Nat) ≤ List.length (ints (spans zs ks n k)) then some (Value.agg (List.toArray (List.take (2 : Nat) (List.drop ((0 : Nat) + Int.toNat p * (2 : Nat)) (ints (spans zs ks n k)))))) else none) = some (Value.agg #[Value.int IntKind.i64 (↑(frm zs ks (((0 : Nat) + Int.toNat p * (2 : Nat)) / (2 : Nat))) : Int), Value.int IntKind.i64 (↑(upto zs ks n k (((0 : Nat) + Int.toNat p * (2 : Nat)) / (2 : Nat))) : Int)])) ∧ Is ((0 : Int) ≤ (↑(frm zs ks (((0 : Nat) + Int.toNat p * (2 : Nat)) / (2 : Nat))) : Int) ∧ (↑(frm zs ks (((0 : Nat) + Int.toNat p * (2 : Nat)) / (2 : Nat))) : Int) ≤ (↑(upto zs ks n k (((0 : Nat) + Int.toNat p * (2 : Nat)) / (2 : Nat))) : Int) ∧ (↑(upto zs ks n k (((0 : Nat) + Int.toNat p * (2 : Nat)) / (2 : Nat))) : Int) ≤ (↑n : Int)) ∧ K (Value.slice (some { block := (0 : Nat), off := (0 : Nat) + Int.toNat (↑(frm zs ks (((0 : Nat) + Int.toNat p * (2 : Nat)) / (2 : Nat))) : Int) * (2 : Nat) }) (Int.toNat (↑(upto zs ks n k (((0 : Nat) + Int.toNat p * (2 : Nat)) / (2 : Nat))) : Int) - Int.toNat (↑(frm zs ks (((0 : Nat) + Int.toNat p * (2 : Nat)) / (2 : Nat))) : Int)) (18446744073709551616 : Nat)) (some (AObj.row (ints zs) (2 : Nat) true true true) :: some (AObj.row (acs ks) (2 : Nat) true true true) :: noH)) := by kernel_rfl
noncomputable def hsIn (zs : List Int) (ks : List (Int × ByteArray)) (n k : Nat) : Hs Tryz.prog where
  op y := if y = 103 then some (hIa Tryz.prog) else if y = 104 then some (hLd Tryz.prog (sp2 zs ks n k)) else if y = 207 then some (hSl Tryz.prog) else if y = 208 then some (hAe Tryz.prog false) else none
  au := auCalls [(39, hCa Tryz.prog 39 (orcPerRV zs ks) (perR_okV zs ks))]
theorem in_t (nm : ByteArray) (zs : List Int) (ks : List (Int × ByteArray)) (n : Nat) (c : Nat) (k : Nat) (d : Nat) (p : Int) (K : Value → Heap → Prop) :
    (fnP Tryz.prog c0 (hsIn zs ks n k) (57 : FuncId) [Value.agg (List.toArray (secA nm (0 : Nat) n c (1 : Nat) k d)), Value.int IntKind.i64 p] (hp2 zs ks false false false false []) K) =
    (Is (isSec zs ks n k (ints zs) (acs ks)) ∧ Is ((0 : Int) ≤ p ∧ p < (↑(k + (1 : Nat)) : Int)) ∧ Is ((if (0 : Nat) + Int.toNat p * (2 : Nat) + (2 : Nat) ≤ List.length (ints (spans zs ks n k)) then some (Value.agg (List.toArray (List.take (2 : Nat) (List.drop ((0 : Nat) + Int.toNat p * (2 : Nat)) (ints (spans zs ks n k)))))) else none) = some (Value.agg #[Value.int IntKind.i64 (↑(frm zs ks (((0 : Nat) + Int.toNat p * (2 : Nat)) / (2 : Nat))) : Int), Value.int IntKind.i64 (↑(upto zs ks n k (((0 : Nat) + Int.toNat p * (2 : Nat)) / (2 : Nat))) : Int)])) ∧ Is ((0 : Int) ≤ (↑(frm zs ks (((0 : Nat) + Int.toNat p * (2 : Nat)) / (2 : Nat))) : Int) ∧ (↑(frm zs ks (((0 : Nat) + Int.toNat p * (2 : Nat)) / (2 : Nat))) : Int) ≤ (↑(upto zs ks n k (((0 : Nat) + Int.toNat p * (2 : Nat)) / (2 : Nat))) : Int) ∧ (↑(upto zs ks n k (((0 : Nat) + Int.toNat p * (2 : Nat)) / (2 : Nat))) : Int) ≤ (↑n : Int)) ∧ Is ((0 : Nat) + Int.toNat (↑(frm zs ks (((0 : Nat) + Int.toNat p * (2 : Nat)) / (2 : Nat))) : Int) * (2 : Nat) + (Int.toNat (↑(upto zs ks n k (((0 : Nat) + Int.toNat p * (2 : Nat)) / (2 : Nat))) : Int) - Int.toNat (↑(frm zs ks (((0 : Nat) + Int.toNat p * (2 : Nat)) / (2 : Nat))) : Int)) * (2 : Nat) ≤ List.length (ints zs) ∧ (∀ (v : Value), v ∈ ints zs → atom v = true) ∧ (Int.toNat (↑(upto zs ks n k (((0 : Nat) + Int.toNat p * (2 : Nat)) / (2 : Nat))) : Int) - Int.toNat (↑(frm zs ks (((0 : Nat) + Int.toNat p * (2 : Nat)) / (2 : Nat))) : Int)) * (16 : Nat) ≤ (140737488355328 : Nat) ∧ Int.toNat (↑(upto zs ks n k (((0 : Nat) + Int.toNat p * (2 : Nat)) / (2 : Nat))) : Int) - Int.toNat (↑(frm zs ks (((0 : Nat) + Int.toNat p * (2 : Nat)) / (2 : Nat))) : Int) ≤ (9223372036854775807 : Nat)) ∧ K (Value.slice (some { block := (2 : Nat), off := (0 : Nat) }) (Int.toNat (↑(upto zs ks n k (((0 : Nat) + Int.toNat p * (2 : Nat)) / (2 : Nat))) : Int) - Int.toNat (↑(frm zs ks (((0 : Nat) + Int.toNat p * (2 : Nat)) / (2 : Nat))) : Int)) (0 : Nat)) (some (AObj.row (ints zs) (2 : Nat) false false true) :: some (AObj.row (acs ks) (2 : Nat) false false true) :: some (AObj.row (List.take ((Int.toNat (↑(upto zs ks n k (((0 : Nat) + Int.toNat p * (2 : Nat)) / (2 : Nat))) : Int) - Int.toNat (↑(frm zs ks (((0 : Nat) + Int.toNat p * (2 : Nat)) / (2 : Nat))) : Int)) * (2 : Nat)) (List.drop ((0 : Nat) + Int.toNat (↑(frm zs ks (((0 : Nat) + Int.toNat p * (2 : Nat)) / (2 : Nat))) : Int) * (2 : Nat)) (ints zs))) (2 : Nat) true true true) :: noH)) := by kernel_rfl
/- The program's sums. -/
noncomputable def lpFt (zs : List Int) (off m c : Nat) (m1 w1 : Bool) : Lp where
  σ := Nat
  E i := slots 71 [(0, .slice (some ⟨0, off, none⟩) m c), (2, .pointer (some ⟨1, 0, none⟩)), (3, .int .i64 (Int.ofNat m)), (4, .int .i64 (sX zs off i)), (5, .int .i64 (sY zs off i)), (6, .int .i64 (sXX zs off i)), (7, .int .i64 (sXY zs off i)),
    (13, .slice (some ⟨0, off, none⟩) m c), (14, .int .i64 (Int.ofNat m)), (15, .int .i64 (Int.ofNat i))]
  Hp _ := [some (.row (ints zs) 2 m1 w1 true), some (.row [.int .i64 0, .int .i64 0, .int .i64 0, .int .i64 0] 0 false true true)]
  I i := i ≤ m
  m i := m - i
noncomputable def hsFt (zs : List Int) (off m c : Nat) (m1 w1 : Bool) : Hs Tryz.prog where
  op y := if [500, 603, 1001].contains y then some (hIa Tryz.prog) else if y = 501 then some (hLd Tryz.prog (z2 zs)) else if [605, 1003].contains y then some (hLd Tryz.prog (zI zs)) else none
  lp _ := some (lpFt zs off m c m1 w1)
  cl _ := keep 71 [0, 2, 3, 4, 5, 6, 7, 13, 14, 15]
  au := au0 Tryz.prog
theorem ft_t (zs : List Int) (off : Nat) (m : Nat) (c : Nat) (m1 : Bool) (w1 : Bool) (K : Value → Heap → Prop) :
    (fnP Tryz.prog c0 (hsFt zs off m c m1 w1) (205 : FuncId) [Value.slice (some { block := (0 : Nat), off := off }) m c] [some (AObj.row (ints zs) (2 : Nat) m1 w1 true)] K) =
    ((∃ s, Is (s ≤ m) ∧ [Value.slice (some { block := (0 : Nat), off := off }) m c, poi, Value.pointer (some { block := (1 : Nat), off := (0 : Nat) }), Value.int IntKind.i64 (↑m : Int), Value.int IntKind.i64 (0 : Int), Value.int IntKind.i64 (0 : Int), Value.int IntKind.i64 (0 : Int), Value.int IntKind.i64 (0 : Int), poi, poi, poi, poi, poi, Value.slice (some { block := (0 : Nat), off := off }) m c, Value.int IntKind.i64 (↑m : Int), Value.int IntKind.i64 (0 : Int), poi, poi, poi, poi, poi, poi, poi, poi, poi, poi, poi, poi, poi, poi, poi, poi, poi, poi, poi, poi, poi, poi, poi, poi, poi, poi, poi, poi, poi, poi, poi, poi, poi, poi, poi, poi, poi, poi, poi, poi, poi, poi, poi, poi, poi, poi, poi, poi, poi, poi, poi, poi, poi, poi, poi] = [Value.slice (some { block := (0 : Nat), off := off }) m c, poi, Value.pointer (some { block := (1 : Nat), off := (0 : Nat) }), Value.int IntKind.i64 (↑m : Int), Value.int IntKind.i64 (sX zs off s), Value.int IntKind.i64 (sY zs off s), Value.int IntKind.i64 (sXX zs off s), Value.int IntKind.i64 (sXY zs off s), poi, poi, poi, poi, poi, Value.slice (some { block := (0 : Nat), off := off }) m c, Value.int IntKind.i64 (↑m : Int), Value.int IntKind.i64 (↑s : Int), poi, poi, poi, poi, poi, poi, poi, poi, poi, poi, poi, poi, poi, poi, poi, poi, poi, poi, poi, poi, poi, poi, poi, poi, poi, poi, poi, poi, poi, poi, poi, poi, poi, poi, poi, poi, poi, poi, poi, poi, poi, poi, poi, poi, poi, poi, poi, poi, poi, poi, poi, poi, poi, poi, poi] ∧ some (AObj.row (ints zs) (2 : Nat) m1 w1 true) :: some (AObj.row [Value.int IntKind.i64 (0 : Int), Value.int IntKind.i64 (0 : Int), Value.int IntKind.i64 (0 : Int), Value.int IntKind.i64 (0 : Int)] (0 : Nat) false true true) :: noH = some (AObj.row (ints zs) (2 : Nat) m1 w1 true) :: some (AObj.row [Value.int IntKind.i64 (0 : Int), Value.int IntKind.i64 (0 : Int), Value.int IntKind.i64 (0 : Int), Value.int IntKind.i64 (0 : Int)] (0 : Nat) false true true) :: noH) ∧ ∀ (s : Nat), Is (s ≤ m) → br (decide ((↑s : Int) < (↑m : Int))) (Is ((0 : Int) ≤ (↑s : Int) ∧ (↑s : Int) < (↑m : Int)) ∧ Is ((if off + Int.toNat (↑s : Int) * (2 : Nat) + (2 : Nat) ≤ List.length (ints zs) then some (Value.agg (List.toArray (List.take (2 : Nat) (List.drop (off + Int.toNat (↑s : Int) * (2 : Nat)) (ints zs))))) else none) = some (Value.agg #[Value.int IntKind.i64 (List.getD zs (off + Int.toNat (↑s : Int) * (2 : Nat)) (0 : Int)), Value.int IntKind.i64 (List.getD zs (off + Int.toNat (↑s : Int) * (2 : Nat) + (1 : Nat)) (0 : Int))])) ∧ Is ((0 : Int) ≤ (0 : Int) ∧ (0 : Int) < (↑m : Int)) ∧ Is ((ints zs)[off + (0 : Nat) + (0 : Nat)]? = some (Value.int IntKind.i64 (List.getD zs (off + (0 : Nat) + (0 : Nat)) (0 : Int)))) ∧ ∃ s', Is (s' ≤ m) ∧ Is (m - s' < m - s) ∧ [Value.slice (some { block := (0 : Nat), off := off }) m c, poi, Value.pointer (some { block := (1 : Nat), off := (0 : Nat) }), Value.int IntKind.i64 (↑m : Int), Value.int IntKind.i64 (IntKind.wrap IntKind.i64 (sX zs off s + IntKind.wrap IntKind.i64 (List.getD zs (off + Int.toNat (↑s : Int) * (2 : Nat)) (0 : Int) - List.getD zs (off + (0 : Nat) + (0 : Nat)) (0 : Int)))), Value.int IntKind.i64 (IntKind.wrap IntKind.i64 (sY zs off s + List.getD zs (off + Int.toNat (↑s : Int) * (2 : Nat) + (1 : Nat)) (0 : Int))), Value.int IntKind.i64 (IntKind.wrap IntKind.i64 (sXX zs off s + IntKind.wrap IntKind.i64 (IntKind.wrap IntKind.i64 (List.getD zs (off + Int.toNat (↑s : Int) * (2 : Nat)) (0 : Int) - List.getD zs (off + (0 : Nat) + (0 : Nat)) (0 : Int)) * IntKind.wrap IntKind.i64 (List.getD zs (off + Int.toNat (↑s : Int) * (2 : Nat)) (0 : Int) - List.getD zs (off + (0 : Nat) + (0 : Nat)) (0 : Int))))), Value.int IntKind.i64 (IntKind.wrap IntKind.i64 (sXY zs off s + IntKind.wrap IntKind.i64 (IntKind.wrap IntKind.i64 (List.getD zs (off + Int.toNat (↑s : Int) * (2 : Nat)) (0 : Int) - List.getD zs (off + (0 : Nat) + (0 : Nat)) (0 : Int)) * List.getD zs (off + Int.toNat (↑s : Int) * (2 : Nat) + (1 : Nat)) (0 : Int)))), poi, poi, poi, poi, poi, Value.slice (some { block := (0 : Nat), off := off }) m c, Value.int IntKind.i64 (↑m : Int), Value.int IntKind.i64 (IntKind.wrap IntKind.i64 ((↑s : Int) + (1 : Int))), poi, poi, poi, poi, poi, poi, poi, poi, poi, poi, poi, poi, poi, poi, poi, poi, poi, poi, poi, poi, poi, poi, poi, poi, poi, poi, poi, poi, poi, poi, poi, poi, poi, poi, poi, poi, poi, poi, poi, poi, poi, poi, poi, poi, poi, poi, poi, poi, poi, poi, poi, poi, poi, poi, poi] = [Value.slice (some { block := (0 : Nat), off := off }) m c, poi, Value.pointer (some { block := (1 : Nat), off := (0 : Nat) }), Value.int IntKind.i64 (↑m : Int), Value.int IntKind.i64 (sX zs off s'), Value.int IntKind.i64 (sY zs off s'), Value.int IntKind.i64 (sXX zs off s'), Value.int IntKind.i64 (sXY zs off s'), poi, poi, poi, poi, poi, Value.slice (some { block := (0 : Nat), off := off }) m c, Value.int IntKind.i64 (↑m : Int), Value.int IntKind.i64 (↑s' : Int), poi, poi, poi, poi, poi, poi, poi, poi, poi, poi, poi, poi, poi, poi, poi, poi, poi, poi, poi, poi, poi, poi, poi, poi, poi, poi, poi, poi, poi, poi, poi, poi, poi, poi, poi, poi, poi, poi, poi, poi, poi, poi, poi, poi, poi, poi, poi, poi, poi, poi, poi, poi, poi, poi, poi] ∧ some (AObj.row (ints zs) (2 : Nat) m1 w1 true) :: some (AObj.row [Value.int IntKind.i64 (0 : Int), Value.int IntKind.i64 (0 : Int), Value.int IntKind.i64 (0 : Int), Value.int IntKind.i64 (0 : Int)] (0 : Nat) false true true) :: noH = some (AObj.row (ints zs) (2 : Nat) m1 w1 true) :: some (AObj.row [Value.int IntKind.i64 (0 : Int), Value.int IntKind.i64 (0 : Int), Value.int IntKind.i64 (0 : Int), Value.int IntKind.i64 (0 : Int)] (0 : Nat) false true true) :: noH) (Is ((0 : Int) ≤ (0 : Int) ∧ (0 : Int) < (↑m : Int)) ∧ Is ((ints zs)[off + (0 : Nat) + (0 : Nat)]? = some (Value.int IntKind.i64 (List.getD zs (off + (0 : Nat) + (0 : Nat)) (0 : Int)))) ∧ K (Value.agg #[Value.int IntKind.i64 (List.getD zs (off + (0 : Nat) + (0 : Nat)) (0 : Int)), Value.int IntKind.i64 (IntKind.wrap IntKind.i64 (IntKind.wrap IntKind.i64 (sY zs off s * sXX zs off s) - IntKind.wrap IntKind.i64 (sX zs off s * sXY zs off s))), Value.int IntKind.i64 (IntKind.wrap IntKind.i64 (IntKind.wrap IntKind.i64 ((↑m : Int) * sXY zs off s) - IntKind.wrap IntKind.i64 (sX zs off s * sY zs off s))), Value.int IntKind.i64 (IntKind.wrap IntKind.i64 (IntKind.wrap IntKind.i64 ((↑m : Int) * sXX zs off s) - IntKind.wrap IntKind.i64 (sX zs off s * sX zs off s)))]) (some (AObj.row (ints zs) (2 : Nat) m1 w1 true) :: noH))) := by kernel_rfl
/- The reference's sums. -/
noncomputable def lpFR (zs : List Int) (off m c : Nat) (m1 w1 : Bool) : Lp where
  σ := Nat
  E i := slots 74 [(0, .slice (some ⟨0, off, none⟩) m c), (2, .pointer (some ⟨1, 0, none⟩)), (3, .int .i64 (Int.ofNat m)), (4, .int .i64 (sX zs off i)), (5, .int .i64 (sY zs off i)), (6, .int .i64 (sXX zs off i)), (7, .int .i64 (sXY zs off i)), (8, .int .i64 (Int.ofNat i))]
  Hp _ := [some (.row (ints zs) 2 m1 w1 true), some (.row [.int .i64 0, .int .i64 0, .int .i64 0] 0 false true true)]
  I i := i ≤ m
  m i := m - i
noncomputable def hsFR (zs : List Int) (off m c : Nat) (m1 w1 : Bool) : Hs Tryz.prog where
  op y := if [502, 506, 606, 709].contains y then some (hIa Tryz.prog) else if [504, 508, 608, 711].contains y then some (hLd Tryz.prog (zI zs)) else none
  lp _ := some (lpFR zs off m c m1 w1)
  cl _ := keep 74 [0, 2, 3, 4, 5, 6, 7, 8]
  au := au0 Tryz.prog
theorem fr_t (zs : List Int) (off : Nat) (m : Nat) (c : Nat) (m1 : Bool) (w1 : Bool) (K : Value → Heap → Prop) :
    (fnP Tryz.prog c0 (hsFR zs off m c m1 w1) (137 : FuncId) [Value.slice (some { block := (0 : Nat), off := off }) m c] [some (AObj.row (ints zs) (2 : Nat) m1 w1 true)] K) =
    ((∃ s, Is (s ≤ m) ∧ [Value.slice (some { block := (0 : Nat), off := off }) m c, poi, Value.pointer (some { block := (1 : Nat), off := (0 : Nat) }), Value.int IntKind.i64 (↑m : Int), Value.int IntKind.i64 (0 : Int), Value.int IntKind.i64 (0 : Int), Value.int IntKind.i64 (0 : Int), Value.int IntKind.i64 (0 : Int), Value.int IntKind.i64 (0 : Int), poi, poi, poi, poi, poi, poi, poi, poi, poi, poi, poi, poi, poi, poi, poi, poi, poi, poi, poi, poi, poi, poi, poi, poi, poi, poi, poi, poi, poi, poi, poi, poi, poi, poi, poi, poi, poi, poi, poi, poi, poi, poi, poi, poi, poi, poi, poi, poi, poi, poi, poi, poi, poi, poi, poi, poi, poi, poi, poi, poi, poi, poi, poi, poi, poi] = [Value.slice (some { block := (0 : Nat), off := off }) m c, poi, Value.pointer (some { block := (1 : Nat), off := (0 : Nat) }), Value.int IntKind.i64 (↑m : Int), Value.int IntKind.i64 (sX zs off s), Value.int IntKind.i64 (sY zs off s), Value.int IntKind.i64 (sXX zs off s), Value.int IntKind.i64 (sXY zs off s), Value.int IntKind.i64 (↑s : Int), poi, poi, poi, poi, poi, poi, poi, poi, poi, poi, poi, poi, poi, poi, poi, poi, poi, poi, poi, poi, poi, poi, poi, poi, poi, poi, poi, poi, poi, poi, poi, poi, poi, poi, poi, poi, poi, poi, poi, poi, poi, poi, poi, poi, poi, poi, poi, poi, poi, poi, poi, poi, poi, poi, poi, poi, poi, poi, poi, poi, poi, poi, poi, poi, poi] ∧ some (AObj.row (ints zs) (2 : Nat) m1 w1 true) :: some (AObj.row [Value.int IntKind.i64 (0 : Int), Value.int IntKind.i64 (0 : Int), Value.int IntKind.i64 (0 : Int)] (0 : Nat) false true true) :: noH = some (AObj.row (ints zs) (2 : Nat) m1 w1 true) :: some (AObj.row [Value.int IntKind.i64 (0 : Int), Value.int IntKind.i64 (0 : Int), Value.int IntKind.i64 (0 : Int)] (0 : Nat) false true true) :: noH) ∧ ∀ (s : Nat), Is (s ≤ m) → br (decide ((↑s : Int) < (↑m : Int))) (Is ((0 : Int) ≤ (↑s : Int) ∧ (↑s : Int) < (↑m : Int)) ∧ Is ((ints zs)[off + Int.toNat (↑s : Int) * (2 : Nat) + (0 : Nat)]? = some (Value.int IntKind.i64 (List.getD zs (off + Int.toNat (↑s : Int) * (2 : Nat) + (0 : Nat)) (0 : Int)))) ∧ Is ((0 : Int) ≤ (0 : Int) ∧ (0 : Int) < (↑m : Int)) ∧ Is ((ints zs)[off + (0 : Nat) + (0 : Nat)]? = some (Value.int IntKind.i64 (List.getD zs (off + (0 : Nat) + (0 : Nat)) (0 : Int)))) ∧ Is ((0 : Int) ≤ (↑s : Int) ∧ (↑s : Int) < (↑m : Int)) ∧ Is ((ints zs)[off + Int.toNat (↑s : Int) * (2 : Nat) + (1 : Nat)]? = some (Value.int IntKind.i64 (List.getD zs (off + Int.toNat (↑s : Int) * (2 : Nat) + (1 : Nat)) (0 : Int)))) ∧ Is ((0 : Int) ≤ (↑s : Int) ∧ (↑s : Int) < (↑m : Int)) ∧ Is ((ints zs)[off + Int.toNat (↑s : Int) * (2 : Nat) + (1 : Nat)]? = some (Value.int IntKind.i64 (List.getD zs (off + Int.toNat (↑s : Int) * (2 : Nat) + (1 : Nat)) (0 : Int)))) ∧ ∃ s', Is (s' ≤ m) ∧ Is (m - s' < m - s) ∧ [Value.slice (some { block := (0 : Nat), off := off }) m c, poi, Value.pointer (some { block := (1 : Nat), off := (0 : Nat) }), Value.int IntKind.i64 (↑m : Int), Value.int IntKind.i64 (IntKind.wrap IntKind.i64 (sX zs off s + IntKind.wrap IntKind.i64 (List.getD zs (off + Int.toNat (↑s : Int) * (2 : Nat) + (0 : Nat)) (0 : Int) - List.getD zs (off + (0 : Nat) + (0 : Nat)) (0 : Int)))), Value.int IntKind.i64 (IntKind.wrap IntKind.i64 (sY zs off s + List.getD zs (off + Int.toNat (↑s : Int) * (2 : Nat) + (1 : Nat)) (0 : Int))), Value.int IntKind.i64 (IntKind.wrap IntKind.i64 (sXX zs off s + IntKind.wrap IntKind.i64 (IntKind.wrap IntKind.i64 (List.getD zs (off + Int.toNat (↑s : Int) * (2 : Nat) + (0 : Nat)) (0 : Int) - List.getD zs (off + (0 : Nat) + (0 : Nat)) (0 : Int)) * IntKind.wrap IntKind.i64 (List.getD zs (off + Int.toNat (↑s : Int) * (2 : Nat) + (0 : Nat)) (0 : Int) - List.getD zs (off + (0 : Nat) + (0 : Nat)) (0 : Int))))), Value.int IntKind.i64 (IntKind.wrap IntKind.i64 (sXY zs off s + IntKind.wrap IntKind.i64 (IntKind.wrap IntKind.i64 (List.getD zs (off + Int.toNat (↑s : Int) * (2 : Nat) + (0 : Nat)) (0 : Int) - List.getD zs (off + (0 : Nat) + (0 : Nat)) (0 : Int)) * List.getD zs (off + Int.toNat (↑s : Int) * (2 : Nat) + (1 : Nat)) (0 : Int)))), Value.int IntKind.i64 (IntKind.wrap IntKind.i64 ((↑s : Int) + (1 : Int))), poi, poi, poi, poi, poi, poi, poi, poi, poi, poi, poi, poi, poi, poi, poi, poi, poi, poi, poi, poi, poi, poi, poi, poi, poi, poi, poi, poi, poi, poi, poi, poi, poi, poi, poi, poi, poi, poi, poi, poi, poi, poi, poi, poi, poi, poi, poi, poi, poi, poi, poi, poi, poi, poi, poi, poi, poi, poi, poi, poi, poi, poi, poi, poi, poi] = [Value.slice (some { block := (0 : Nat), off := off }) m c, poi, Value.pointer (some { block := (1 : Nat), off := (0 : Nat) }), Value.int IntKind.i64 (↑m : Int), Value.int IntKind.i64 (sX zs off s'), Value.int IntKind.i64 (sY zs off s'), Value.int IntKind.i64 (sXX zs off s'), Value.int IntKind.i64 (sXY zs off s'), Value.int IntKind.i64 (↑s' : Int), poi, poi, poi, poi, poi, poi, poi, poi, poi, poi, poi, poi, poi, poi, poi, poi, poi, poi, poi, poi, poi, poi, poi, poi, poi, poi, poi, poi, poi, poi, poi, poi, poi, poi, poi, poi, poi, poi, poi, poi, poi, poi, poi, poi, poi, poi, poi, poi, poi, poi, poi, poi, poi, poi, poi, poi, poi, poi, poi, poi, poi, poi, poi, poi, poi] ∧ some (AObj.row (ints zs) (2 : Nat) m1 w1 true) :: some (AObj.row [Value.int IntKind.i64 (0 : Int), Value.int IntKind.i64 (0 : Int), Value.int IntKind.i64 (0 : Int)] (0 : Nat) false true true) :: noH = some (AObj.row (ints zs) (2 : Nat) m1 w1 true) :: some (AObj.row [Value.int IntKind.i64 (0 : Int), Value.int IntKind.i64 (0 : Int), Value.int IntKind.i64 (0 : Int)] (0 : Nat) false true true) :: noH) (K (Value.agg #[Value.int IntKind.i64 (IntKind.wrap IntKind.i64 (IntKind.wrap IntKind.i64 (sY zs off s * sXX zs off s) - IntKind.wrap IntKind.i64 (sX zs off s * sXY zs off s))), Value.int IntKind.i64 (IntKind.wrap IntKind.i64 (IntKind.wrap IntKind.i64 ((↑m : Int) * sXY zs off s) - IntKind.wrap IntKind.i64 (sX zs off s * sY zs off s))), Value.int IntKind.i64 (IntKind.wrap IntKind.i64 (IntKind.wrap IntKind.i64 ((↑m : Int) * sXX zs off s) - IntKind.wrap IntKind.i64 (sX zs off s * sX zs off s)))]) (some (AObj.row (ints zs) (2 : Nat) m1 w1 true) :: noH))) := by kernel_rfl
theorem sumP_take (g : Int → Int → Int) : ∀ (L : List Int) (i : Nat), i * 2 + 2 ≤ L.length → sumP g (L.take ((i + 1) * 2)) = sumP g (L.take (i * 2)) + g (L.getD (i * 2) 0) (L.getD (i * 2 + 1) 0)
  | [], i, h => by simp at h
  | [_], i, h => by simp at h
  | a :: b :: r, 0, _ => by simp [sumP]
  | a :: b :: r, i + 1, h => by
    have ih := sumP_take g r i (by simp only [List.length_cons] at h; omega)
    have e1 : (i + 1 + 1) * 2 = (i + 1) * 2 + 1 + 1 := by omega
    have e2 : (i + 1) * 2 = i * 2 + 1 + 1 := by omega
    have e3 : (a :: b :: r).getD ((i + 1) * 2) 0 = r.getD (i * 2) 0 := by rw [e2]; rfl
    have e4 : (a :: b :: r).getD ((i + 1) * 2 + 1) 0 = r.getD (i * 2 + 1) 0 := by rw [show (i + 1) * 2 + 1 = i * 2 + 1 + 1 + 1 by omega]; rfl
    rw [e3, e4, e1, List.take_succ_cons, List.take_succ_cons]
    rw [show (a :: b :: r).take ((i + 1) * 2) = a :: b :: r.take (i * 2) by rw [e2, List.take_succ_cons, List.take_succ_cons]]
    simp only [sumP]
    rw [ih]
    omega
theorem getD_drop (zs : List Int) (off j : Nat) : (zs.drop off).getD j 0 = zs.getD (off + j) 0 := by
  simp [List.getD_eq_getElem?_getD, List.getElem?_drop]
theorem sumP_step (g : Int → Int → Int) {zs : List Int} {off i : Nat} (h : off + i * 2 + 2 ≤ zs.length) :
    sumP g ((zs.drop off).take ((i + 1) * 2)) = sumP g ((zs.drop off).take (i * 2)) + g (zs.getD (off + i * 2) 0) (zs.getD (off + i * 2 + 1) 0) := by
  have := sumP_take g (zs.drop off) i (by rw [List.length_drop]; omega)
  rw [getD_drop, getD_drop] at this
  rw [this, Nat.add_assoc]
/-- A part whose sums do not leave the machine's integers. -/
structure Part (zs : List Int) (off m : Nat) : Prop where
  len : off + m * 2 ≤ zs.length
  few : m ≤ 32
  day : ∀ i, i < m → d0 zs off ≤ zs.getD (off + i * 2) 0 ∧ zs.getD (off + i * 2) 0 ≤ 100000
  idx : ∀ i, i < m → 0 ≤ zs.getD (off + i * 2 + 1) 0 ∧ zs.getD (off + i * 2 + 1) 0 ≤ 100000
  z0 : 0 ≤ d0 zs off
theorem sumP_le {g : Int → Int → Int} {zs : List Int} {off m : Nat} {B : Int} (hl : off + m * 2 ≤ zs.length) (hb : ∀ i, i < m → 0 ≤ g (zs.getD (off + i * 2) 0) (zs.getD (off + i * 2 + 1) 0) ∧ g (zs.getD (off + i * 2) 0) (zs.getD (off + i * 2 + 1) 0) ≤ B) :
    ∀ i : Nat, i ≤ m → 0 ≤ sumP g ((zs.drop off).take (i * 2)) ∧ sumP g ((zs.drop off).take (i * 2)) ≤ B * i
  | 0, _ => by simp [sumP]
  | i + 1, h => by
    obtain ⟨h1, h2⟩ := sumP_le hl hb i (by omega)
    obtain ⟨h3, h4⟩ := hb i (by omega)
    rw [sumP_step g (by omega)]
    have e : B * ((i + 1 : Nat) : Int) = B * (i : Int) + B := by rw [Int.natCast_add, Int.mul_add]; simp
    rw [e]
    omega
theorem mul_in {a b A B : Int} (a0 : 0 ≤ a) (aA : a ≤ A) (b0 : 0 ≤ b) (bB : b ≤ B) : 0 ≤ a * b ∧ a * b ≤ A * B :=
  ⟨Int.mul_nonneg a0 b0, Int.mul_le_mul aA bB b0 (Int.le_trans a0 aA)⟩
theorem Part.sums {zs : List Int} {off m : Nat} (h : Part zs off m) {i : Nat} (hi : i ≤ m) :
    (0 ≤ sX zs off i ∧ sX zs off i ≤ 3200000) ∧ (0 ≤ sY zs off i ∧ sY zs off i ≤ 3200000) ∧ (0 ≤ sXX zs off i ∧ sXX zs off i ≤ 320000000000) ∧ (0 ≤ sXY zs off i ∧ sXY zs off i ≤ 320000000000) := by
  have hd := h.z0
  have hm := h.few
  have up : ∀ {s B : Int}, 0 ≤ B → 0 ≤ s ∧ s ≤ B * i → 0 ≤ s ∧ s ≤ B * 32 := fun {s B} hB ⟨a, b⟩ => ⟨a, Int.le_trans b (Int.mul_le_mul_of_nonneg_left (by omega) hB)⟩
  refine ⟨up (B := 100000) (by omega) (sumP_le h.len (fun j hj => ?_) i hi), up (B := 100000) (by omega) (sumP_le h.len (fun j hj => h.idx j hj) i hi), up (B := 10000000000) (by omega) (sumP_le h.len (fun j hj => ?_) i hi), up (B := 10000000000) (by omega) (sumP_le h.len (fun j hj => ?_) i hi)⟩
  · have := h.day j hj; omega
  · obtain ⟨q1, q2⟩ := h.day j hj
    obtain ⟨u, hu⟩ : ∃ u, u = zs.getD (off + j * 2) 0 - Sp.d0 zs off := ⟨_, rfl⟩
    simp only [← hu]
    have hu : 0 ≤ u ∧ u ≤ 100000 := by omega
    have := mul_in hu.1 hu.2 hu.1 hu.2
    exact ⟨this.1, by omega⟩
  · obtain ⟨q1, q2⟩ := h.day j hj
    obtain ⟨q3, q4⟩ := h.idx j hj
    obtain ⟨u, hu⟩ : ∃ u, u = zs.getD (off + j * 2) 0 - Sp.d0 zs off := ⟨_, rfl⟩
    simp only [← hu]
    have hu : 0 ≤ u ∧ u ≤ 100000 := by omega
    have := mul_in hu.1 hu.2 q3 q4
    exact ⟨this.1, by omega⟩

/-- The numbers of the line do not leave the machine's integers. -/
theorem Part.line {zs : List Int} {off m : Nat} (h : Part zs off m) :
    (-1024000000000000000 ≤ lvl zs off m ∧ lvl zs off m ≤ 1024000000000000000) ∧ (-10240000000000 ≤ slp zs off m ∧ slp zs off m ≤ 10240000000000) ∧ (-10240000000000 ≤ dn zs off m ∧ dn zs off m ≤ 10240000000000) ∧
      W (W (sY zs off m * sXX zs off m) - W (sX zs off m * sXY zs off m)) = lvl zs off m ∧ W (W (m * sXY zs off m) - W (sX zs off m * sY zs off m)) = slp zs off m ∧ W (W (m * sXX zs off m) - W (sX zs off m * sX zs off m)) = dn zs off m := by
  obtain ⟨⟨x0, x1⟩, ⟨y0, y1⟩, ⟨p0, p1⟩, ⟨q0, q1⟩⟩ := h.sums (Nat.le_refl m)
  have hm := h.few
  have a1 := mul_in y0 y1 p0 p1
  have a2 := mul_in x0 x1 q0 q1
  have a3 := mul_in (show (0 : Int) ≤ m by omega) (show (m : Int) ≤ 32 by omega) q0 q1
  have a4 := mul_in x0 x1 y0 y1
  have a5 := mul_in (show (0 : Int) ≤ m by omega) (show (m : Int) ≤ 32 by omega) p0 p1
  have a6 := mul_in x0 x1 x0 x1
  simp only [lvl, slp, dn, W]
  rw [wrap_eq (x := sY zs off m * sXX zs off m) (by omega) (by omega), wrap_eq (x := sX zs off m * sXY zs off m) (by omega) (by omega), wrap_eq (x := m * sXY zs off m) (by omega) (by omega), wrap_eq (x := sX zs off m * sY zs off m) (by omega) (by omega),
    wrap_eq (x := m * sXX zs off m) (by omega) (by omega), wrap_eq (x := sX zs off m * sX zs off m) (by omega) (by omega)]
  refine ⟨⟨by omega, by omega⟩, ⟨by omega, by omega⟩, ⟨by omega, by omega⟩, wrap_eq (by omega) (by omega), wrap_eq (by omega) (by omega), wrap_eq (by omega) (by omega)⟩
theorem Part.step {zs : List Int} {off m i : Nat} (h : Part zs off m) (hi : i < m) :
    W (sX zs off i + W (zs.getD (off + i * 2) 0 - zs.getD off 0)) = sX zs off (i + 1) ∧ W (sY zs off i + zs.getD (off + i * 2 + 1) 0) = sY zs off (i + 1) ∧
      W (sXX zs off i + W (W (zs.getD (off + i * 2) 0 - zs.getD off 0) * W (zs.getD (off + i * 2) 0 - zs.getD off 0))) = sXX zs off (i + 1) ∧
      W (sXY zs off i + W (W (zs.getD (off + i * 2) 0 - zs.getD off 0) * zs.getD (off + i * 2 + 1) 0)) = sXY zs off (i + 1) := by
  have hl := h.len
  have g := h.sums (i := i + 1) hi
  have e1 : sX zs off (i + 1) = sX zs off i + (zs.getD (off + i * 2) 0 - d0 zs off) := sumP_step _ (by omega)
  have e2 : sY zs off (i + 1) = sY zs off i + zs.getD (off + i * 2 + 1) 0 := sumP_step _ (by omega)
  have e3 : sXX zs off (i + 1) = sXX zs off i + (zs.getD (off + i * 2) 0 - d0 zs off) * (zs.getD (off + i * 2) 0 - d0 zs off) := sumP_step _ (by omega)
  have e4 : sXY zs off (i + 1) = sXY zs off i + (zs.getD (off + i * 2) 0 - d0 zs off) * zs.getD (off + i * 2 + 1) 0 := sumP_step _ (by omega)
  obtain ⟨q1, q2⟩ := h.day i hi
  obtain ⟨q3, q4⟩ := h.idx i hi
  have hd := h.z0
  have hd0 : zs.getD off 0 = d0 zs off := rfl
  rw [hd0]
  obtain ⟨u, hu⟩ : ∃ u, u = zs.getD (off + i * 2) 0 - d0 zs off := ⟨_, rfl⟩
  rw [← hu] at e1 e3 e4 ⊢
  have hu : 0 ≤ u ∧ u ≤ 100000 := by omega
  have b1 := mul_in hu.1 hu.2 hu.1 hu.2
  have b2 := mul_in hu.1 hu.2 q3 q4
  obtain ⟨⟨x0, x1⟩, ⟨y0, y1⟩, ⟨p0, p1⟩, ⟨r0, r1⟩⟩ := g
  simp only [W]
  rw [wrap_eq (x := u) (by omega) (by omega), wrap_eq (x := u * u) (by omega) (by omega), wrap_eq (x := u * zs.getD (off + i * 2 + 1) 0) (by omega) (by omega), ← e1, ← e2, ← e3, ← e4]
  exact ⟨wrap_eq (by omega) (by omega), wrap_eq (by omega) (by omega), wrap_eq (by omega) (by omega), wrap_eq (by omega) (by omega)⟩
theorem spn_get (zs : List Int) (ks : List (Int × ByteArray)) : ∀ i j, j < i → (spn zs ks i)[j * 2]? = some ((frm zs ks j : Nat) : Int) ∧ (spn zs ks i)[j * 2 + 1]? = some ((frm zs ks (j + 1) : Nat) : Int)
  | 0, _, h => by omega
  | i + 1, j, h => by
    have hl := spn_len zs ks i
    simp only [spn]
    rcases Nat.lt_or_ge j i with h' | h'
    · rw [List.getElem?_append_left (by omega), List.getElem?_append_left (by omega)]
      exact spn_get zs ks i j h'
    · obtain rfl : j = i := by omega
      rw [List.getElem?_append_right (by omega), List.getElem?_append_right (by omega), hl]
      simp
theorem spans_get (zs : List Int) (ks : List (Int × ByteArray)) (n k : Nat) {j : Nat} (h : j ≤ k) :
    (spans zs ks n k).getD (j * 2) 0 = ((frm zs ks j : Nat) : Int) ∧ (spans zs ks n k).getD (j * 2 + 1) 0 = ((upto zs ks n k j : Nat) : Int) := by
  have hl := spn_len zs ks k
  simp only [spans, List.getD_eq_getElem?_getD]
  rcases Nat.lt_or_ge j k with h' | h'
  · obtain ⟨e1, e2⟩ := spn_get zs ks k j h'
    rw [List.getElem?_append_left (by omega), List.getElem?_append_left (by omega), e1, e2, upto, if_pos h']
    exact ⟨rfl, rfl⟩
  · obtain rfl : j = k := by omega
    rw [List.getElem?_append_right (by omega), List.getElem?_append_right (by omega), hl, upto, if_neg (by omega)]
    simp
theorem frm_le {zs : List Int} {ks : List (Int × ByteArray)} {n : Nat} (hz : zs.length = n * 2) (i : Nat) : frm zs ks i ≤ n := by
  cases i with
  | zero => exact Nat.zero_le _
  | succ i => have := cnt_le zs (ks.getD i (0, ⟨#[]⟩)).1; simp only [frm]; omega
theorem upto_le {zs : List Int} {ks : List (Int × ByteArray)} {n k i : Nat} (hz : zs.length = n * 2) (hk : ks.length = k) (ha : achk ks (-1) = 0) (_hi : i ≤ k) : frm zs ks i ≤ upto zs ks n k i ∧ upto zs ks n k i ≤ n := by
  simp only [upto]
  split
  · exact ⟨frm_up ha (by omega), frm_le hz _⟩
  · exact ⟨frm_le hz _, Nat.le_refl _⟩
set_option maxRecDepth 100000 in
theorem pd_ok {nm : ByteArray} {zs : List Int} {ks : List (Int × ByteArray)} {n c k d : Nat} {p : Int} (hz : zs.length = n * 2) (hk : ks.length = k) (hn : n ≤ 1000) (hk2 : k ≤ 1000) (hmm : mchk zs (-1) = 0) (ha : achk ks (-1) = 0) (p0 : 0 ≤ p) (p1 : p ≤ k) :
    SmallRes Tryz.prog 142 [.agg (secA nm 0 n c 1 k d).toArray, .int .i64 p] (hp2 zs ks true true true true [])
      (.slice (some ⟨0, frm zs ks p.toNat * 2, none⟩) (upto zs ks n k p.toNat - frm zs ks p.toNat) big) (hp2 zs ks true true true true []) := by
  refine fnP_res hm c0_ok (hs := hsPd zs ks n k) ?_
  rw [pd_t]
  obtain ⟨g1, g2⟩ := spans_get zs ks n k (j := p.toNat) (by omega)
  obtain ⟨u1, u2⟩ := upto_le (n := n) (i := p.toNat) hz hk ha (by omega)
  have e2 : p.toNat * 2 / 2 = p.toNat := by omega
  have hl := spans_len zs ks n k
  simp only [Nat.zero_add, Int.toNat_natCast, e2]
  refine ⟨⟨⟨rfl, rfl, hz, hk, hn, hk2⟩, hmm, ha⟩, ⟨p0, by omega⟩, ⟨?_⟩, ⟨by omega, by omega, by omega⟩, rfl, rfl⟩
  rw [ints_len, if_pos (by omega), ints_pair (by omega), g1, g2]
set_option maxRecDepth 100000 in
theorem in_ok {nm : ByteArray} {zs : List Int} {ks : List (Int × ByteArray)} {n c k d : Nat} {p : Int} (hz : zs.length = n * 2) (hk : ks.length = k) (hn : n ≤ 1000) (hk2 : k ≤ 1000) (ha : achk ks (-1) = 0) (p0 : 0 ≤ p) (p1 : p ≤ k) :
    SmallRes Tryz.prog 57 [.agg (secA nm 0 n c 1 k d).toArray, .int .i64 p] (hp2 zs ks false false false false [])
      (.slice (some ⟨2, 0, none⟩) (upto zs ks n k p.toNat - frm zs ks p.toNat) 0) (hp2 zs ks false false false false [lst2 ((zs.drop (frm zs ks p.toNat * 2)).take ((upto zs ks n k p.toNat - frm zs ks p.toNat) * 2))]) := by
  refine fnP_res hm c0_ok (hs := hsIn zs ks n k) ?_
  rw [in_t]
  obtain ⟨g1, g2⟩ := spans_get zs ks n k (j := p.toNat) (by omega)
  obtain ⟨u1, u2⟩ := upto_le (n := n) (i := p.toNat) hz hk ha (by omega)
  have e2 : p.toNat * 2 / 2 = p.toNat := by omega
  have hl := spans_len zs ks n k
  simp only [Nat.zero_add, Int.toNat_natCast, e2]
  refine ⟨⟨rfl, rfl, hz, hk, hn, hk2⟩, ⟨p0, by omega⟩, ⟨?_⟩, ⟨by omega, by omega, by omega⟩, ⟨by rw [ints_len]; omega, fun v hv => ?_, by omega, by omega⟩, by first | trivial | rfl, ?_⟩
  · rw [ints_len, if_pos (by omega), ints_pair (by omega), g1, g2]
  · obtain ⟨z, _, rfl⟩ := List.mem_map.1 hv; rfl
  · rw [ints_drop, ints_take]; rfl
set_option maxRecDepth 100000 in
theorem ft_ok {zs : List Int} {off m c : Nat} {m1 w1 : Bool} (h : Part zs off m) (h0 : 0 < m) :
    SmallRes Tryz.prog 205 [.slice (some ⟨0, off, none⟩) m c] [some (.row (ints zs) 2 m1 w1 true)] (.agg #[.int .i64 (zs.getD off 0), .int .i64 (lvl zs off m), .int .i64 (slp zs off m), .int .i64 (dn zs off m)]) [some (.row (ints zs) 2 m1 w1 true)] := by
  refine fnP_res hm c0_ok (hs := hsFt zs off m c m1 w1) ?_
  rw [ft_t]
  have hl := h.len
  have hf := h.few
  refine ⟨⟨(0 : Nat), ⟨by omega⟩, by first | trivial | rfl, by first | trivial | rfl⟩, fun s hs => br_of (fun hc => ?_) (fun hc => ?_)⟩
  · have hc := lt_of_dec hc
    obtain ⟨s1, s2, s3, s4⟩ := h.step hc
    simp only [W] at s1 s2 s3 s4
    simp only [Nat.add_zero, Int.toNat_natCast]
    refine ⟨⟨by omega, by omega⟩, ⟨by rw [ints_len, if_pos (show off + s * 2 + 2 ≤ zs.length by omega), ints_pair (by omega)]⟩, ⟨by omega, by omega⟩, ⟨ints_at (by omega)⟩, s + 1, ⟨hc⟩, ⟨by omega⟩, ?_, by first | trivial | rfl⟩
    rw [s1, s2, s3, s4, up1 hc (by omega)]
  · have hc := ge_of_dec hc
    obtain rfl : s = m := by have := hs.out; omega
    obtain ⟨_, _, _, l1, l2, l3⟩ := h.line
    simp only [W] at l1 l2 l3
    simp only [Nat.add_zero]
    rw [l1, l2, l3]
    exact ⟨⟨by omega, by omega⟩, ⟨ints_at (by omega)⟩, by first | trivial | rfl, by first | trivial | rfl⟩
set_option maxRecDepth 100000 in
theorem fr_ok {zs : List Int} {off m c : Nat} {m1 w1 : Bool} (h : Part zs off m) :
    SmallRes Tryz.prog 137 [.slice (some ⟨0, off, none⟩) m c] [some (.row (ints zs) 2 m1 w1 true)] (.agg #[.int .i64 (lvl zs off m), .int .i64 (slp zs off m), .int .i64 (dn zs off m)]) [some (.row (ints zs) 2 m1 w1 true)] := by
  refine fnP_res hm c0_ok (hs := hsFR zs off m c m1 w1) ?_
  rw [fr_t]
  have hl := h.len
  have hf := h.few
  refine ⟨⟨(0 : Nat), ⟨by omega⟩, by first | trivial | rfl, by first | trivial | rfl⟩, fun s hs => br_of (fun hc => ?_) (fun hc => ?_)⟩
  · have hc := lt_of_dec hc
    obtain ⟨s1, s2, s3, s4⟩ := h.step hc
    simp only [W] at s1 s2 s3 s4
    simp only [Nat.add_zero, Int.toNat_natCast]
    refine ⟨⟨by omega, by omega⟩, ⟨ints_at (by omega)⟩, ⟨by omega, by omega⟩, ⟨ints_at (by omega)⟩, ⟨by omega, by omega⟩, ⟨ints_at (by omega)⟩, ⟨by omega, by omega⟩, ⟨ints_at (by omega)⟩, s + 1, ⟨hc⟩, ⟨by omega⟩, ?_, by first | trivial | rfl⟩
    rw [s1, s2, s3, s4, up1 hc (by omega)]
  · have hc := ge_of_dec hc
    obtain rfl : s = m := by have := hs.out; omega
    obtain ⟨_, _, _, l1, l2, l3⟩ := h.line
    simp only [W] at l1 l2 l3
    rw [l1, l2, l3]
    exact ⟨by first | trivial | rfl, by first | trivial | rfl⟩
end
end Qq
end
section
/- Lines of periods. -/
open Go Go.Vm Go.Proofs Sp
namespace Qq
noncomputable section
theorem mchk_all : ∀ (zs : List Int) (last : Int), mchk zs last = 0 → ∀ i, i * 2 + 2 ≤ zs.length →
    last < zs.getD (i * 2) 0 ∧ 0 ≤ zs.getD (i * 2) 0 ∧ zs.getD (i * 2) 0 ≤ 100000 ∧ 0 ≤ zs.getD (i * 2 + 1) 0 ∧ zs.getD (i * 2 + 1) 0 ≤ 100000
  | [], _, _, i, h => by simp at h
  | [_], _, _, i, h => by simp at h
  | a :: b :: r, last, hm, i, h => by
    obtain ⟨h1, h2⟩ := mchk_cons hm
    simp only [mchk] at hm
    have h3 := fi_zero.1 (sel_zero.1 hm).1 (chkM a b) (by simp)
    have h4 := wi_zero.1 (fi_zero.1 h3 (wi a 0 100000) (by simp))
    have h5 := wi_zero.1 (fi_zero.1 h3 (wi b 0 100000) (by simp))
    cases i with
    | zero => simp; omega
    | succ i =>
      have := mchk_all r a h2 i (by simp only [List.length_cons] at h; omega)
      have e3 : (a :: b :: r).getD ((i + 1) * 2) 0 = r.getD (i * 2) 0 := by rw [show (i + 1) * 2 = i * 2 + 1 + 1 by omega]; rfl
      have e4 : (a :: b :: r).getD ((i + 1) * 2 + 1) 0 = r.getD (i * 2 + 1) 0 := by rw [show (i + 1) * 2 + 1 = i * 2 + 1 + 1 + 1 by omega]; rfl
      rw [e3, e4]
      omega
theorem mchk_up : ∀ (zs : List Int) (last : Int), mchk zs last = 0 → ∀ i j, i < j → j * 2 + 2 ≤ zs.length → zs.getD (i * 2) 0 < zs.getD (j * 2) 0
  | [], _, _, i, j, _, h => by simp at h
  | [_], _, _, i, j, _, h => by simp at h
  | a :: b :: r, last, hm, i, j, hij, h => by
    obtain ⟨h1, h2⟩ := mchk_cons hm
    obtain ⟨j, rfl⟩ : ∃ j', j = j' + 1 := ⟨j - 1, by omega⟩
    have hj : j * 2 + 2 ≤ r.length := by simp only [List.length_cons] at h; omega
    have e3 : (a :: b :: r).getD ((j + 1) * 2) 0 = r.getD (j * 2) 0 := by rw [show (j + 1) * 2 = j * 2 + 1 + 1 by omega]; rfl
    rw [e3]
    cases i with
    | zero => simpa using (mchk_all r a h2 j hj).1
    | succ i =>
      have e4 : (a :: b :: r).getD ((i + 1) * 2) 0 = r.getD (i * 2) 0 := by rw [show (i + 1) * 2 = i * 2 + 1 + 1 by omega]; rfl
      rw [e4]
      exact mchk_up r a h2 i j (by omega) hj
theorem part_of {zs : List Int} {n f m : Nat} (hz : zs.length = n * 2) (hn : n ≤ 32) (hm : mchk zs (-1) = 0) (h : f + m ≤ n) : Part zs (f * 2) m where
  len := by omega
  few := by omega
  day i hi := by
    have e : f * 2 + i * 2 = (f + i) * 2 := by omega
    rw [e]
    refine ⟨?_, (mchk_all zs (-1) hm (f + i) (by omega)).2.2.1⟩
    show zs.getD (f * 2) 0 ≤ _
    rcases Nat.eq_zero_or_pos i with h0 | h0
    · subst h0; exact Int.le_refl _
    · exact Int.le_of_lt (mchk_up zs (-1) hm f (f + i) (by omega) (by omega))
  idx i hi := by
    have e : f * 2 + i * 2 + 1 = (f + i) * 2 + 1 := by omega
    rw [e]
    exact (mchk_all zs (-1) hm (f + i) (by omega)).2.2.2
  z0 := by
    show 0 ≤ zs.getD (f * 2) 0
    rcases Nat.lt_or_ge f n with h' | h'
    · exact (mchk_all zs (-1) hm f (by omega)).2.1
    · rw [List.getD_eq_getElem?_getD, List.getElem?_eq_none (by omega)]; exact Int.le_refl _
/-- The squares of the differences from c. -/
theorem gap_eq (b c : Int) : ∀ (N : Nat) (L : List Int), L.length = N * 2 → sumP (fun d _ => (c - (d - b)) * (c - (d - b))) L = N * (c * c) - 2 * c * sumP (fun d _ => d - b) L + sumP (fun d _ => (d - b) * (d - b)) L
  | 0, [], _ => by simp [sumP]
  | N + 1, [_], h => by simp only [List.length_cons, List.length_nil] at h; omega
  | N + 1, u :: v :: r, h => by
    have ih := gap_eq b c N r (by simp only [List.length_cons] at h; omega)
    simp only [sumP]
    rw [ih]
    push_cast
    grind
theorem sumP_nonneg {g : Int → Int → Int} (hg : ∀ d x, 0 ≤ g d x) : ∀ L : List Int, 0 ≤ sumP g L
  | [] => by simp [sumP]
  | [_] => by simp [sumP]
  | a :: b :: r => by have := sumP_nonneg hg r; have := hg a b; simp only [sumP]; omega
theorem sq0 (x : Int) : 0 ≤ x * x := by
  rcases Int.le_total 0 x with h | h
  · exact Int.mul_nonneg h h
  · have := Int.mul_nonneg (show 0 ≤ -x by omega) (show 0 ≤ -x by omega)
    rwa [Int.neg_mul_neg] at this
theorem gap_pos (b : Int) : ∀ (N : Nat) (L : List Int), L.length = N * 2 → 0 ≤ N * sumP (fun d _ => (d - b) * (d - b)) L - sumP (fun d _ => d - b) L * sumP (fun d _ => d - b) L
  | 0, [], _ => by simp [sumP]
  | N + 1, [_], h => by simp only [List.length_cons, List.length_nil] at h; omega
  | N + 1, u :: v :: r, h => by
    have hr : r.length = N * 2 := by simp only [List.length_cons] at h; omega
    have ih := gap_pos b N r hr
    have e := gap_eq b (u - b) N r hr
    have p := sumP_nonneg (g := fun d _ => ((u - b) - (d - b)) * ((u - b) - (d - b))) (fun d x => sq0 _) r
    rw [e] at p
    simp only [sumP]
    push_cast
    grind
theorem gap_two (b : Int) (N : Nat) (u v w x : Int) (r : List Int) (hr : r.length = N * 2) (hne : u ≠ w) :
    0 < ((N + 2 : Nat) : Int) * sumP (fun d _ => (d - b) * (d - b)) (u :: v :: w :: x :: r) - sumP (fun d _ => d - b) (u :: v :: w :: x :: r) * sumP (fun d _ => d - b) (u :: v :: w :: x :: r) := by
  have ih := gap_pos b (N + 1) (w :: x :: r) (by simp only [List.length_cons]; omega)
  have e := gap_eq b (u - b) (N + 1) (w :: x :: r) (by simp only [List.length_cons]; omega)
  have p := sumP_nonneg (g := fun d _ => ((u - b) - (d - b)) * ((u - b) - (d - b))) (fun d x => sq0 _) r
  have q : 0 < ((u - b) - (w - b)) * ((u - b) - (w - b)) := by
    rcases Int.lt_or_gt_of_ne hne with h | h
    · have := Int.mul_pos (show 0 < w - u by omega) (show 0 < w - u by omega)
      grind
    · have := Int.mul_pos (show 0 < u - w by omega) (show 0 < u - w by omega)
      grind
  simp only [sumP] at *
  push_cast at *
  grind
theorem dn_pos {zs : List Int} {n f m : Nat} (hz : zs.length = n * 2) (hm : mchk zs (-1) = 0) (h : f + m ≤ n) (h2 : 2 ≤ m) : 0 < dn zs (f * 2) m := by
  simp only [dn, sX, sXX]
  have hL : ((zs.drop (f * 2)).take (m * 2)).length = m * 2 := by rw [List.length_take, List.length_drop]; omega
  have g : ∀ j, j < m * 2 → ((zs.drop (f * 2)).take (m * 2))[j]? = some (zs.getD (f * 2 + j) 0) := fun j hj => by
    rw [List.getElem?_take_of_lt hj, List.getElem?_drop, List.getD_eq_getElem?_getD, List.getElem?_eq_getElem (by omega)]
    rfl
  generalize (zs.drop (f * 2)).take (m * 2) = L at *
  obtain ⟨N, rfl⟩ : ∃ N, m = N + 2 := ⟨m - 2, by omega⟩
  obtain _ | ⟨u, _ | ⟨v, _ | ⟨w, _ | ⟨x, r⟩⟩⟩⟩ := L
  · simp at hL
  · simp at hL; omega
  · simp at hL; omega
  · simp at hL; omega
  · have g0 := g 0 (by omega)
    have g2 := g 2 (by omega)
    simp at g0 g2
    refine gap_two (d0 zs (f * 2)) N u v w x r (by simp only [List.length_cons] at hL; omega) ?_
    have := mchk_up zs (-1) hm f (f + 1) (by omega) (by omega)
    rw [show (f + 1) * 2 = f * 2 + 2 by omega] at this
    simp only [List.getD_eq_getElem?_getD] at this
    rw [g0, g2]
    omega
end
end Qq
end
section
/- Small contracts about sections and lines. -/
open Go Go.Vm Go.Proofs Sp
namespace Sp
noncomputable section
noncomputable def perE (nm : ByteArray) (zs : List Int) (n : Nat) (ks : List (Int × ByteArray)) (k : Nat) (p : Int) : Int := fi [secE nm zs n ks k, wh (decide (p < 0) || decide ((k : Int) < p)) 10]
end
end Sp
namespace Qq
noncomputable section
noncomputable def orcDay : Orc
  | [.int .i64 x], [] => some (.int .i64 (wi x 0 100000), [])
  | _, _ => none
theorem dayP_t (x : Int) (K : Value → Heap → Prop) :
    (fnP Tryz.prog c2 h0 (132 : FuncId) [Value.int IntKind.i64 x] [] K) =
    (K (Value.int IntKind.i64 (wi x (0 : Int) (100000 : Int))) noH) := by kernel_rfl
theorem idxP_t (x : Int) (K : Value → Heap → Prop) :
    (fnP Tryz.prog c2 h0 (134 : FuncId) [Value.int IntKind.i64 x] [] K) =
    (K (Value.int IntKind.i64 (wi x (0 : Int) (100000 : Int))) noH) := by kernel_rfl
theorem dayR_t (x : Int) (K : Value → Heap → Prop) :
    (fnP Tryz.prog cr2 h0 (46 : FuncId) [Value.int IntKind.i64 x] [] K) =
    (K (Value.int IntKind.i64 (wi x (0 : Int) (100000 : Int))) noH) := by kernel_rfl
theorem idxR_t (x : Int) (K : Value → Heap → Prop) :
    (fnP Tryz.prog cr2 h0 (47 : FuncId) [Value.int IntKind.i64 x] [] K) =
    (K (Value.int IntKind.i64 (wi x (0 : Int) (100000 : Int))) noH) := by kernel_rfl
theorem okDayP : Ok Tryz.prog 132 orcDay := by
  intro args H ret H' h
  unfold orcDay at h
  split at h
  · cases h
    refine fnP_res hm c2_ok (hs := h0) ?_
    rw [dayP_t]
    exact ⟨rfl, rfl⟩
  · cases h
theorem okIdxP : Ok Tryz.prog 134 orcDay := by
  intro args H ret H' h
  unfold orcDay at h
  split at h
  · cases h
    refine fnP_res hm c2_ok (hs := h0) ?_
    rw [idxP_t]
    exact ⟨rfl, rfl⟩
  · cases h
theorem okDayR : Ok Tryz.prog 46 orcDay := by
  intro args H ret H' h
  unfold orcDay at h
  split at h
  · cases h
    refine fnP_res hm cr2_ok (hs := h0) ?_
    rw [dayR_t]
    exact ⟨rfl, rfl⟩
  · cases h
theorem okIdxR : Ok Tryz.prog 47 orcDay := by
  intro args H ret H' h
  unfold orcDay at h
  split at h
  · cases h
    refine fnP_res hm cr2_ok (hs := h0) ?_
    rw [idxR_t]
    exact ⟨rfl, rfl⟩
  · cases h
theorem flP_t (a : Int) (b : Int) (K : Value → Heap → Prop) :
    (fnP Tryz.prog c0 h4 (208 : FuncId) [Value.int IntKind.i64 a, Value.int IntKind.i64 b] [] K) =
    (Is (b ≠ (0 : Int)) ∧ br (decide (a < IntKind.wrap IntKind.i64 (IntKind.wrap IntKind.i64 (Int.tdiv a b) * b))) (K (Value.int IntKind.i64 (IntKind.wrap IntKind.i64 (IntKind.wrap IntKind.i64 (Int.tdiv a b) - (1 : Int)))) noH) (K (Value.int IntKind.i64 (IntKind.wrap IntKind.i64 (Int.tdiv a b))) noH)) := by kernel_rfl
theorem flR_t (a : Int) (b : Int) (K : Value → Heap → Prop) :
    (fnP Tryz.prog c0 h4 (202 : FuncId) [Value.int IntKind.i64 a, Value.int IntKind.i64 b] [] K) =
    (Is (b ≠ (0 : Int)) ∧ br (decide (a < IntKind.wrap IntKind.i64 (IntKind.wrap IntKind.i64 (Int.tdiv a b) * b))) (K (Value.int IntKind.i64 (IntKind.wrap IntKind.i64 (IntKind.wrap IntKind.i64 (Int.tdiv a b) - (1 : Int)))) noH) (K (Value.int IntKind.i64 (IntKind.wrap IntKind.i64 (Int.tdiv a b))) noH)) := by kernel_rfl
noncomputable def hsCp (zs : List Int) (ks : List (Int × ByteArray)) : Hs Tryz.prog where
  au := auCalls [(40, hCa Tryz.prog 40 (orcCkV zs ks) (ck_okV zs ks))]
theorem cp_t (nm : ByteArray) (zs : List Int) (ks : List (Int × ByteArray)) (n : Nat) (c : Nat) (k : Nat) (d : Nat) (p : Int) (K : Value → Heap → Prop) :
    (fnP Tryz.prog c2 (hsCp zs ks) (129 : FuncId) [Value.agg (List.toArray (secA nm (0 : Nat) n c (1 : Nat) k d)), Value.int IntKind.i64 p] (hp2 zs ks true true true true []) K) =
    (Is (isSec zs ks n k (ints zs) (acs ks)) ∧ br (decide (p < (0 : Int))) (K (Value.int IntKind.i64 (fi [secE nm zs n ks k, (10 : Int)])) (some (AObj.row (ints zs) (2 : Nat) true true true) :: some (AObj.row (acs ks) (2 : Nat) true true true) :: noH)) (K (Value.int IntKind.i64 (fi [secE nm zs n ks k, wh (decide ((↑k : Int) < p)) (10 : Int)])) (some (AObj.row (ints zs) (2 : Nat) true true true) :: some (AObj.row (acs ks) (2 : Nat) true true true) :: noH))) := by kernel_rfl
theorem cpR_t (nm : ByteArray) (zs : List Int) (ks : List (Int × ByteArray)) (n : Nat) (c : Nat) (k : Nat) (d : Nat) (p : Int) (K : Value → Heap → Prop) :
    (fnP Tryz.prog cr2 h0 (136 : FuncId) [Value.agg (List.toArray (secA nm (0 : Nat) n c (1 : Nat) k d)), Value.int IntKind.i64 p] (hp2 zs ks false false false false []) K) =
    (br (decide (p < (0 : Int))) (K (Value.int IntKind.i64 (10 : Int)) (some (AObj.row (ints zs) (2 : Nat) false false true) :: some (AObj.row (acs ks) (2 : Nat) false false true) :: noH)) (K (Value.int IntKind.i64 (wh (decide ((↑k : Int) < p)) (10 : Int))) (some (AObj.row (ints zs) (2 : Nat) false false true) :: some (AObj.row (acs ks) (2 : Nat) false false true) :: noH))) := by kernel_rfl
theorem floor_law {a b : Int} (h0 : 0 < b) (h1 : b ≤ 4000000000000000000) (h2 : -4000000000000000000 ≤ a) (h3 : a ≤ 4000000000000000000) :
    W (a.tdiv b) = a.tdiv b ∧ W (a.tdiv b * b) = a.tdiv b * b ∧ W (a.tdiv b - 1) = a.tdiv b - 1 ∧ (a < a.tdiv b * b → a.tdiv b - 1 = a / b) ∧ (¬ a < a.tdiv b * b → a.tdiv b = a / b) := by
  have hq : (a.tdiv b).natAbs ≤ a.natAbs := Int.natAbs_tdiv_le_natAbs a b
  have e := Int.tdiv_eq_ediv (a := a) (b := b)
  have s : b.sign = 1 := Int.sign_eq_one_of_pos h0
  have m := Int.emod_add_mul_ediv a b
  have m0 := Int.emod_nonneg a (show b ≠ 0 by omega)
  have m1 := Int.emod_lt_of_pos a h0
  have c : b * (a / b) = (a / b) * b := Int.mul_comm ..
  rw [s] at e
  have hb : a.tdiv b * b = (a / b) * b ∨ a.tdiv b * b = (a / b) * b + b := by
    split at e
    · left; rw [e, Int.add_zero]
    · right; rw [e, Int.add_mul, Int.one_mul]
  refine ⟨wrap_eq (by omega) (by omega), wrap_eq (by omega) (by omega), wrap_eq (by omega) (by omega), fun h => ?_, fun h => ?_⟩
  · split at e
    · rw [e, Int.add_zero] at h; omega
    · omega
  · split at e
    · omega
    · rw [e, Int.add_mul, Int.one_mul] at h; omega
noncomputable def orcFl : OrcV
  | [.int .i64 a, .int .i64 b], [] => some (.int .i64 (a / b), [], 0 < b ∧ b ≤ 4000000000000000000 ∧ -4000000000000000000 ≤ a ∧ a ≤ 4000000000000000000)
  | _, _ => none
theorem okFlP : OkV Tryz.prog 208 orcFl := by
  intro args H ret H' vc h hv
  unfold orcFl at h
  split at h
  · cases h
    obtain ⟨v1, v2, v3, v4⟩ := hv
    refine fnP_res hm c0_ok (hs := h4) ?_
    rw [flP_t]
    obtain ⟨q1, q2, q3, q4, q5⟩ := floor_law v1 v2 v3 v4
    simp only [W] at q1 q2 q3
    rw [q1, q2, q3]
    exact ⟨⟨by omega⟩, br_of (fun h => ⟨by rw [q4 (of_decide_eq_true h)], rfl⟩) (fun h => ⟨by rw [q5 (of_decide_eq_false h)], rfl⟩)⟩
  · cases h
theorem okFlR : OkV Tryz.prog 202 orcFl := by
  intro args H ret H' vc h hv
  unfold orcFl at h
  split at h
  · cases h
    obtain ⟨v1, v2, v3, v4⟩ := hv
    refine fnP_res hm c0_ok (hs := h4) ?_
    rw [flR_t]
    obtain ⟨q1, q2, q3, q4, q5⟩ := floor_law v1 v2 v3 v4
    simp only [W] at q1 q2 q3
    rw [q1, q2, q3]
    exact ⟨⟨by omega⟩, br_of (fun h => ⟨by rw [q4 (of_decide_eq_true h)], rfl⟩) (fun h => ⟨by rw [q5 (of_decide_eq_false h)], rfl⟩)⟩
  · cases h
theorem cp_ok {nm : ByteArray} {zs : List Int} {ks : List (Int × ByteArray)} {n c k d : Nat} {p : Int} (hi : isSec zs ks n k (ints zs) (acs ks)) :
    SmallRes Tryz.prog 129 [.agg (secA nm 0 n c 1 k d).toArray, .int .i64 p] (hp2 zs ks true true true true []) (.int .i64 (perE nm zs n ks k p)) (hp2 zs ks true true true true []) := by
  refine fnP_res hm c2_ok (hs := hsCp zs ks) ?_
  rw [cp_t]
  refine ⟨⟨hi⟩, br_of (fun h => ⟨?_, rfl⟩) (fun h => ⟨?_, rfl⟩)⟩
  · rw [perE, h]; rfl
  · rw [perE, h]; rfl
theorem cpR_ok {nm : ByteArray} {zs : List Int} {ks : List (Int × ByteArray)} {n c k d : Nat} {p : Int} :
    SmallRes Tryz.prog 136 [.agg (secA nm 0 n c 1 k d).toArray, .int .i64 p] (hp2 zs ks false false false false []) (.int .i64 (wh (decide (p < 0) || decide ((k : Int) < p)) 10)) (hp2 zs ks false false false false []) := by
  refine fnP_res hm cr2_ok (hs := h0) ?_
  rw [cpR_t]
  refine br_of (fun h => ⟨?_, rfl⟩) (fun h => ⟨?_, rfl⟩)
  · rw [h]; rfl
  · rw [h]; rfl
end
end Qq
end
