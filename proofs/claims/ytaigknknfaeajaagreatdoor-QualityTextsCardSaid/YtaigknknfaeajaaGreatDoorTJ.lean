/- Texts, read: the reference. -/
import Derived.Test.YtaigknknfaeajaaGreatDoorZM
import Derived.Test.YtaigknknfaeajaaGreatDoorZR
import Derived.Test.YtaigknknfaeajaaGreatDoorZK
open Go Go.Vm Go.Proofs Sp
namespace Sp
noncomputable section
/-- What the cells say. -/
def unS (l : List Go.Value) : List ByteArray := l.map fun v => match v with
  | .string s => s
  | _ => ⟨#[]⟩
def unZ (l : List Go.Value) : List Int := l.map fun v => match v with
  | .int _ x => x
  | _ => 0
def unK : List Go.Value → List (Int × ByteArray)
  | .int _ d :: .string k :: r => (d, k) :: unK r
  | _ => []
def sAt (cells : List Go.Value) (off : Nat) : ByteArray := match cells[off]? with
  | some (.string s) => s
  | _ => ⟨#[]⟩
def gS (cells : List Go.Value) (off : Nat) : Go.Value := .string (sAt cells off)
/-- The words of a line. -/
def lw (L : List ByteArray) (i : Nat) : List ByteArray := spI (L.getD i ⟨#[]⟩) 32
/-- Whether the words of the first line have their form. -/
def hdO (ws : List ByteArray) : Bool := decide (ws.length = 2) && wd ws 0 == sSec && !(wd ws 1 == ⟨#[]⟩)
/-- What the first lines say. -/
def stL (L : List ByteArray) : Nat → ByteArray × List Int × List (Int × ByteArray)
  | 0 => (⟨#[]⟩, [], [])
  | i + 1 => if i = 0 then (wd (lw L 0) 1, [], []) else ((stL L i).1, pdZ (stL L i).2.1 (stL L i).2.2 (lw L i), pdK (stL L i).2.2 (lw L i))
def stN (L : List ByteArray) (i : Nat) : ByteArray := (stL L i).1
def stZ (L : List ByteArray) (i : Nat) : List Int := (stL L i).2.1
def stK (L : List ByteArray) (i : Nat) : List (Int × ByteArray) := (stL L i).2.2
def stn (L : List ByteArray) (i : Nat) : Nat := (stZ L i).length / 2
def stk (L : List ByteArray) (i : Nat) : Nat := (stK L i).length
def okL (L : List ByteArray) (i : Nat) : Bool := if i = 0 then hdO (lw L 0) else pdO (stK L i) (lw L i)
/-- The first line that has not its form, up to a number of lines. -/
def fB (L : List ByteArray) : Nat → Nat → Nat
  | 0, i => i
  | k + 1, i => if okL L i = true then fB L k (i + 1) else i
def prI (L : List ByteArray) : Nat := fB L (L.length - 1) 0
def prE (L : List ByteArray) : Int :=
  if prI L < L.length - 1 then 25 else if (!(L.getD (L.length - 1) ⟨#[]⟩ == ⟨#[]⟩) || decide (L.length - 1 = 0)) = true then 25
  else secE (stN L (L.length - 1)) (stZ L (L.length - 1)) (stn L (L.length - 1)) (stK L (L.length - 1)) (stk L (L.length - 1))
def psL (s : ByteArray) : List ByteArray := spI s 10
def psE (s : ByteArray) : Int := if 4096 < s.size then 26 else prE (psL s)
def psA (s : ByteArray) : Int := if psE s = 0 then 0 else if 4096 < s.size then 0 else (prI (psL s) : Int)
def psN (s : ByteArray) : ByteArray := gqS (psE s) (stN (psL s) ((psL s).length - 1))
def psZ (s : ByteArray) : List Int := gqL (psE s) (stZ (psL s) ((psL s).length - 1))
def psK (s : ByteArray) : List (Int × ByteArray) := gqK (psE s) (stK (psL s) ((psL s).length - 1))
def psn (s : ByteArray) : Nat := gqN (psE s) (stn (psL s) ((psL s).length - 1))
def psk (s : ByteArray) : Nat := gqN (psE s) (stk (psL s) ((psL s).length - 1))
end
end Sp
namespace Qq
noncomputable section
noncomputable def orcPaG : OrcV
  | [.agg ⟨[.string nm, .slice (some ⟨0, 0, none⟩) n _, .slice (some ⟨1, 0, none⟩) k _]⟩, .slice (some ⟨2, 0, none⟩) m _], [some (.row e1 2 true true true), some (.row e2 2 true true true), some (.row e3 1 true true true)] =>
    some (.tuple #[.agg #[.string nm, .slice (some ⟨3, 0, none⟩) (pdN n (unK e2) (unS e3)) 0, .slice (some ⟨4, 0, none⟩) (pdM k (unK e2) (unS e3)) 0], .bool (pdO (unK e2) (unS e3))],
      [some (.row e1 2 true true true), some (.row e2 2 true true true), some (.row e3 1 true true true), some (.row (ints (pdZ (unZ e1) (unK e2) (unS e3))) 2 true true true), some (.row (acs (pdK (unK e2) (unS e3))) 2 true true true)], isSec (unZ e1) (unK e2) n k e1 e2 ∧ e3 = strs (unS e3) ∧ m = (unS e3).length)
  | _, _ => none
theorem okPaG : OkV Tryz.prog 190 orcPaG := by
  intro args H ret H' vc h hv
  unfold orcPaG at h
  split at h
  · rename_i nm n c1 k c2 m c e1 e2 e3
    cases h
    refine okPa (unZ e1) (unK e2) (unS e3) _ _ _ _ _ ?_ hv
    rw [orcPa]
  · cases h
noncomputable def orcCkG : OrcV
  | [.agg ⟨[.string nm, .slice (some ⟨0, 0, none⟩) n _c, .slice (some ⟨1, 0, none⟩) k _d]⟩], [some (.row e1 2 true true true), some (.row e2 2 true true true)] =>
    some (.int .i64 (secE nm (unZ e1) n (unK e2) k), [some (.row e1 2 true true true), some (.row e2 2 true true true)], isSec (unZ e1) (unK e2) n k e1 e2)
  | _, _ => none
theorem okCkG : OkV Tryz.prog 38 orcCkG := by
  intro args H ret H' vc h hv
  unfold orcCkG at h
  split at h
  · rename_i nm n c k d e1 e2
    cases h
    refine ckR_okV (unZ e1) (unK e2) _ _ _ _ _ ?_ hv
    rw [orcCkV]
  · cases h
noncomputable def nilR : Option AObj := some (.row [.string ⟨#[]⟩, .slice none 0 0, .slice none 0 0] 0 false true true)
noncomputable def secR5 (nm : ByteArray) (i n j k : Nat) : Option AObj := some (.row [.string nm, .slice (some ⟨i, 0, none⟩) n 0, .slice (some ⟨j, 0, none⟩) k 0] 0 false true false)
noncomputable def lpRp0 (L : List ByteArray) : Lp where
  σ := Nat
  E _ := slots 84 [(2, .pointer (some ⟨0, 0, none⟩)), (5, .slice (some ⟨1, 0, none⟩) L.length 0), (6, .int .i64 (Int.ofNat (L.length - 1))), (7, .pointer (some ⟨2, 0, none⟩))]
  Hp _ := [nilR, wsR L, secR5 ⟨#[]⟩ 3 0 4 0, some (.row (ints []) 2 true true true), some (.row (acs []) 2 true true true)]
  I _ := True
  m _ := 0
noncomputable def lpRp (L : List ByteArray) : Lp where
  σ := Nat
  E i := slots 84 [(2, .pointer (some ⟨0, 0, none⟩)), (5, .slice (some ⟨1, 0, none⟩) L.length 0), (6, .int .i64 (Int.ofNat (L.length - 1))), (7, .pointer (some ⟨2, 0, none⟩)), (8, .int .i64 (Int.ofNat i))]
  Hp i := [nilR, wsR L, secR5 (stN L i) 3 (stn L i) 4 (stk L i), some (.row (ints (stZ L i)) 2 true true true), some (.row (acs (stK L i)) 2 true true true)]
  I i := i ≤ L.length - 1 ∧ ∀ j, j < i → okL L j = true
  m i := L.length - 1 - i
noncomputable def hsRp (L : List ByteArray) : Hs Tryz.prog where
  op y := if [902, 1105, 1111, 1301, 1802].contains y then some (hIa Tryz.prog) else if [903, 1803].contains y then some (hLd Tryz.prog (wL L)) else if [1106, 1112, 1302].contains y then some (hLc Tryz.prog gS) else none
  cut y := if y = 6 then some (lpRp0 L) else none
  lp y := if y = 7 then some (lpRp L) else none
  cl y := if y = 6 then keep 84 [2, 5, 6, 7] else keep 84 [2, 5, 6, 7, 8]
  nl y := if y = 6 then [.cell 2 1 2, .cell 2 2 2] else []
  rn := [.only (.part 0 1 2), .only (.part 0 2 2)]
  au := auS [(101, hCa Tryz.prog 101 orcRs okRs), (190, hCa Tryz.prog 190 orcPaG okPaG), (38, hCa Tryz.prog 38 orcCkG okCkG)]
set_option maxHeartbeats 0 in
theorem rp_t (s : ByteArray) (K : Value → Heap → Prop) :
    (fnP Tryz.prog c0 (hsRp (psL s)) (100 : FuncId) [Value.string s] [] K) =
    (br (decide ((4096 : Int) < (↑(ByteArray.size s) : Int))) (K (Value.tuple #[Value.agg #[Value.string { data := #[] }, Value.slice (some { block := (0 : Nat), off := (0 : Nat) }) (0 : Nat) (0 : Nat), Value.slice (some { block := (1 : Nat), off := (0 : Nat) }) (0 : Nat) (0 : Nat)], Value.int IntKind.i64 (0 : Int), Value.int IntKind.i64 (26 : Int)]) (some (AObj.row [] (2 : Nat) true true true) :: some (AObj.row [] (2 : Nat) true true true) :: noH)) (Is (ByteArray.size s ≤ (100000 : Nat) ∧ (0 : Int) ≤ (10 : Int) ∧ (10 : Int) < (256 : Int)) ∧ (∃ (_s_1 : Nat), Is True ∧ [poi, poi, Value.pointer (some { block := (0 : Nat), off := (0 : Nat) }), poi, poi, Value.slice (some { block := (1 : Nat), off := (0 : Nat) }) (List.length (spI s (10 : Int))) (0 : Nat), Value.int IntKind.i64 (IntKind.wrap IntKind.i64 ((↑(List.length (spI s (10 : Int))) : Int) - (1 : Int))), Value.pointer (some { block := (2 : Nat), off := (0 : Nat) }), poi, poi, poi, poi, poi, poi, poi, poi, poi, poi, poi, poi, poi, poi, poi, poi, poi, poi, poi, poi, poi, poi, poi, poi, poi, poi, poi, poi, poi, poi, poi, poi, poi, poi, poi, poi, poi, poi, poi, poi, poi, poi, poi, poi, poi, poi, poi, poi, poi, poi, poi, poi, poi, poi, poi, poi, poi, poi, poi, poi, poi, poi, poi, poi, poi, poi, poi, poi, poi, poi, poi, poi, poi, poi, poi, poi] = [poi, poi, Value.pointer (some { block := (0 : Nat), off := (0 : Nat) }), poi, poi, Value.slice (some { block := (1 : Nat), off := (0 : Nat) }) (List.length (psL s)) (0 : Nat), Value.int IntKind.i64 (↑(List.length (psL s) - (1 : Nat)) : Int), Value.pointer (some { block := (2 : Nat), off := (0 : Nat) }), poi, poi, poi, poi, poi, poi, poi, poi, poi, poi, poi, poi, poi, poi, poi, poi, poi, poi, poi, poi, poi, poi, poi, poi, poi, poi, poi, poi, poi, poi, poi, poi, poi, poi, poi, poi, poi, poi, poi, poi, poi, poi, poi, poi, poi, poi, poi, poi, poi, poi, poi, poi, poi, poi, poi, poi, poi, poi, poi, poi, poi, poi, poi, poi, poi, poi, poi, poi, poi, poi, poi, poi, poi, poi, poi, poi] ∧ some (AObj.row [Value.string { data := #[] }, Value.slice none (0 : Nat) (0 : Nat), Value.slice none (0 : Nat) (0 : Nat)] (0 : Nat) false true true) :: some (AObj.row (strs (spI s (10 : Int))) (1 : Nat) true true true) :: some (AObj.row [Value.string { data := #[] }, Value.slice (some { block := (3 : Nat), off := (0 : Nat) }) (0 : Nat) (0 : Nat), Value.slice (some { block := (4 : Nat), off := (0 : Nat) }) (0 : Nat) (0 : Nat)] (0 : Nat) false true false) :: some (AObj.row [] (2 : Nat) true true true) :: some (AObj.row [] (2 : Nat) true true true) :: noH = some (AObj.row [Value.string { data := #[] }, Value.slice none (0 : Nat) (0 : Nat), Value.slice none (0 : Nat) (0 : Nat)] (0 : Nat) false true true) :: some (AObj.row (strs (psL s)) (1 : Nat) true true true) :: some (AObj.row [Value.string { data := #[] }, Value.slice (some { block := (3 : Nat), off := (0 : Nat) }) (0 : Nat) (0 : Nat), Value.slice (some { block := (4 : Nat), off := (0 : Nat) }) (0 : Nat) (0 : Nat)] (0 : Nat) false true false) :: some (AObj.row [] (2 : Nat) true true true) :: some (AObj.row [] (2 : Nat) true true true) :: noH) ∧ ∀ (_s_1 : Nat), Is True → (∃ (s_2 : Nat), Is (s_2 ≤ List.length (psL s) - (1 : Nat) ∧ ∀ (j : Nat), j < s_2 → okL (psL s) j = true) ∧ [poi, poi, Value.pointer (some { block := (0 : Nat), off := (0 : Nat) }), poi, poi, Value.slice (some { block := (1 : Nat), off := (0 : Nat) }) (List.length (psL s)) (0 : Nat), Value.int IntKind.i64 (↑(List.length (psL s) - (1 : Nat)) : Int), Value.pointer (some { block := (2 : Nat), off := (0 : Nat) }), Value.int IntKind.i64 (0 : Int), poi, poi, poi, poi, poi, poi, poi, poi, poi, poi, poi, poi, poi, poi, poi, poi, poi, poi, poi, poi, poi, poi, poi, poi, poi, poi, poi, poi, poi, poi, poi, poi, poi, poi, poi, poi, poi, poi, poi, poi, poi, poi, poi, poi, poi, poi, poi, poi, poi, poi, poi, poi, poi, poi, poi, poi, poi, poi, poi, poi, poi, poi, poi, poi, poi, poi, poi, poi, poi, poi, poi, poi, poi, poi, poi] = [poi, poi, Value.pointer (some { block := (0 : Nat), off := (0 : Nat) }), poi, poi, Value.slice (some { block := (1 : Nat), off := (0 : Nat) }) (List.length (psL s)) (0 : Nat), Value.int IntKind.i64 (↑(List.length (psL s) - (1 : Nat)) : Int), Value.pointer (some { block := (2 : Nat), off := (0 : Nat) }), Value.int IntKind.i64 (↑s_2 : Int), poi, poi, poi, poi, poi, poi, poi, poi, poi, poi, poi, poi, poi, poi, poi, poi, poi, poi, poi, poi, poi, poi, poi, poi, poi, poi, poi, poi, poi, poi, poi, poi, poi, poi, poi, poi, poi, poi, poi, poi, poi, poi, poi, poi, poi, poi, poi, poi, poi, poi, poi, poi, poi, poi, poi, poi, poi, poi, poi, poi, poi, poi, poi, poi, poi, poi, poi, poi, poi, poi, poi, poi, poi, poi, poi] ∧ some (AObj.row [Value.string { data := #[] }, Value.slice none (0 : Nat) (0 : Nat), Value.slice none (0 : Nat) (0 : Nat)] (0 : Nat) false true true) :: some (AObj.row (strs (psL s)) (1 : Nat) true true true) :: some (AObj.row [Value.string { data := #[] }, Value.slice (some { block := (3 : Nat), off := (0 : Nat) }) (0 : Nat) (0 : Nat), Value.slice (some { block := (4 : Nat), off := (0 : Nat) }) (0 : Nat) (0 : Nat)] (0 : Nat) false true false) :: some (AObj.row [] (2 : Nat) true true true) :: some (AObj.row [] (2 : Nat) true true true) :: noH = some (AObj.row [Value.string { data := #[] }, Value.slice none (0 : Nat) (0 : Nat), Value.slice none (0 : Nat) (0 : Nat)] (0 : Nat) false true true) :: some (AObj.row (strs (psL s)) (1 : Nat) true true true) :: some (AObj.row [Value.string (stN (psL s) s_2), Value.slice (some { block := (3 : Nat), off := (0 : Nat) }) (stn (psL s) s_2) (0 : Nat), Value.slice (some { block := (4 : Nat), off := (0 : Nat) }) (stk (psL s) s_2) (0 : Nat)] (0 : Nat) false true false) :: some (AObj.row (ints (stZ (psL s) s_2)) (2 : Nat) true true true) :: some (AObj.row (acs (stK (psL s) s_2)) (2 : Nat) true true true) :: noH) ∧ ∀ (s_2 : Nat), Is (s_2 ≤ List.length (psL s) - (1 : Nat) ∧ ∀ (j : Nat), j < s_2 → okL (psL s) j = true) → br (decide ((↑s_2 : Int) < (↑(List.length (psL s) - (1 : Nat)) : Int))) (Is ((0 : Int) ≤ (↑s_2 : Int) ∧ (↑s_2 : Int) < (↑(List.length (psL s)) : Int)) ∧ Is ((strs (psL s))[(0 : Nat) + Int.toNat (↑s_2 : Int) * (1 : Nat)]? = some (Value.string (List.getD (psL s) ((0 : Nat) + Int.toNat (↑s_2 : Int) * (1 : Nat)) { data := #[] }))) ∧ Is (ByteArray.size (List.getD (psL s) ((0 : Nat) + Int.toNat (↑s_2 : Int) * (1 : Nat)) { data := #[] }) ≤ (100000 : Nat) ∧ (0 : Int) ≤ (32 : Int) ∧ (32 : Int) < (256 : Int)) ∧ br ((↑s_2 : Int) == (0 : Int)) (br ((↑(List.length (spI (List.getD (psL s) ((0 : Nat) + Int.toNat (↑s_2 : Int) * (1 : Nat)) { data := #[] }) (32 : Int))) : Int) != (2 : Int)) (K (Value.tuple #[Value.agg #[Value.string { data := #[] }, Value.slice (some { block := (0 : Nat), off := (0 : Nat) }) (0 : Nat) (0 : Nat), Value.slice (some { block := (1 : Nat), off := (0 : Nat) }) (0 : Nat) (0 : Nat)], Value.int IntKind.i64 (0 : Int), Value.int IntKind.i64 (25 : Int)]) (some (AObj.row [] (2 : Nat) true true true) :: some (AObj.row [] (2 : Nat) true true true) :: noH)) (Is ((0 : Int) ≤ (0 : Int) ∧ (0 : Int) < (↑(List.length (spI (List.getD (psL s) ((0 : Nat) + Int.toNat (↑s_2 : Int) * (1 : Nat)) { data := #[] }) (32 : Int))) : Int)) ∧ Is ((strs (spI (List.getD (psL s) ((0 : Nat) + Int.toNat (↑s_2 : Int) * (1 : Nat)) { data := #[] }) (32 : Int)))[(0 : Nat)]? = some (Value.string (sAt (strs (spI (List.getD (psL s) ((0 : Nat) + Int.toNat (↑s_2 : Int) * (1 : Nat)) { data := #[] }) (32 : Int))) (0 : Nat)))) ∧ br (!ByteArray.toList (sAt (strs (spI (List.getD (psL s) ((0 : Nat) + Int.toNat (↑s_2 : Int) * (1 : Nat)) { data := #[] }) (32 : Int))) (0 : Nat)) == [(115 : UInt8), (101 : UInt8), (99 : UInt8), (116 : UInt8), (105 : UInt8), (111 : UInt8), (110 : UInt8)]) (K (Value.tuple #[Value.agg #[Value.string { data := #[] }, Value.slice (some { block := (0 : Nat), off := (0 : Nat) }) (0 : Nat) (0 : Nat), Value.slice (some { block := (1 : Nat), off := (0 : Nat) }) (0 : Nat) (0 : Nat)], Value.int IntKind.i64 (0 : Int), Value.int IntKind.i64 (25 : Int)]) (some (AObj.row [] (2 : Nat) true true true) :: some (AObj.row [] (2 : Nat) true true true) :: noH)) (Is ((0 : Int) ≤ (1 : Int) ∧ (1 : Int) < (↑(List.length (spI (List.getD (psL s) ((0 : Nat) + Int.toNat (↑s_2 : Int) * (1 : Nat)) { data := #[] }) (32 : Int))) : Int)) ∧ Is ((strs (spI (List.getD (psL s) ((0 : Nat) + Int.toNat (↑s_2 : Int) * (1 : Nat)) { data := #[] }) (32 : Int)))[(1 : Nat)]? = some (Value.string (sAt (strs (spI (List.getD (psL s) ((0 : Nat) + Int.toNat (↑s_2 : Int) * (1 : Nat)) { data := #[] }) (32 : Int))) (1 : Nat)))) ∧ br (ByteArray.toList (sAt (strs (spI (List.getD (psL s) ((0 : Nat) + Int.toNat (↑s_2 : Int) * (1 : Nat)) { data := #[] }) (32 : Int))) (1 : Nat)) == []) (K (Value.tuple #[Value.agg #[Value.string { data := #[] }, Value.slice (some { block := (0 : Nat), off := (0 : Nat) }) (0 : Nat) (0 : Nat), Value.slice (some { block := (1 : Nat), off := (0 : Nat) }) (0 : Nat) (0 : Nat)], Value.int IntKind.i64 (0 : Int), Value.int IntKind.i64 (25 : Int)]) (some (AObj.row [] (2 : Nat) true true true) :: some (AObj.row [] (2 : Nat) true true true) :: noH)) (Is ((0 : Int) ≤ (1 : Int) ∧ (1 : Int) < (↑(List.length (spI (List.getD (psL s) ((0 : Nat) + Int.toNat (↑s_2 : Int) * (1 : Nat)) { data := #[] }) (32 : Int))) : Int)) ∧ Is ((strs (spI (List.getD (psL s) ((0 : Nat) + Int.toNat (↑s_2 : Int) * (1 : Nat)) { data := #[] }) (32 : Int)))[(1 : Nat)]? = some (Value.string (sAt (strs (spI (List.getD (psL s) ((0 : Nat) + Int.toNat (↑s_2 : Int) * (1 : Nat)) { data := #[] }) (32 : Int))) (1 : Nat)))) ∧ ∃ (s' : Nat), Is (s' ≤ List.length (psL s) - (1 : Nat) ∧ ∀ (j : Nat), j < s' → okL (psL s) j = true) ∧ Is (List.length (psL s) - (1 : Nat) - s' < List.length (psL s) - (1 : Nat) - s_2) ∧ [poi, poi, Value.pointer (some { block := (0 : Nat), off := (0 : Nat) }), poi, poi, Value.slice (some { block := (1 : Nat), off := (0 : Nat) }) (List.length (psL s)) (0 : Nat), Value.int IntKind.i64 (↑(List.length (psL s) - (1 : Nat)) : Int), Value.pointer (some { block := (2 : Nat), off := (0 : Nat) }), Value.int IntKind.i64 (IntKind.wrap IntKind.i64 ((↑s_2 : Int) + (1 : Int))), poi, poi, poi, poi, poi, poi, poi, poi, poi, poi, poi, poi, poi, poi, poi, poi, poi, poi, poi, poi, poi, poi, poi, poi, poi, poi, poi, poi, poi, poi, poi, poi, poi, poi, poi, poi, poi, poi, poi, poi, poi, poi, poi, poi, poi, poi, poi, poi, poi, poi, poi, poi, poi, poi, poi, poi, poi, poi, poi, poi, poi, poi, poi, poi, poi, poi, poi, poi, poi, poi, poi, poi, poi, poi, poi] = [poi, poi, Value.pointer (some { block := (0 : Nat), off := (0 : Nat) }), poi, poi, Value.slice (some { block := (1 : Nat), off := (0 : Nat) }) (List.length (psL s)) (0 : Nat), Value.int IntKind.i64 (↑(List.length (psL s) - (1 : Nat)) : Int), Value.pointer (some { block := (2 : Nat), off := (0 : Nat) }), Value.int IntKind.i64 (↑s' : Int), poi, poi, poi, poi, poi, poi, poi, poi, poi, poi, poi, poi, poi, poi, poi, poi, poi, poi, poi, poi, poi, poi, poi, poi, poi, poi, poi, poi, poi, poi, poi, poi, poi, poi, poi, poi, poi, poi, poi, poi, poi, poi, poi, poi, poi, poi, poi, poi, poi, poi, poi, poi, poi, poi, poi, poi, poi, poi, poi, poi, poi, poi, poi, poi, poi, poi, poi, poi, poi, poi, poi, poi, poi, poi, poi] ∧ some (AObj.row [Value.string { data := #[] }, Value.slice none (0 : Nat) (0 : Nat), Value.slice none (0 : Nat) (0 : Nat)] (0 : Nat) false true true) :: some (AObj.row (strs (psL s)) (1 : Nat) true true true) :: some (AObj.row [Value.string (sAt (strs (spI (List.getD (psL s) ((0 : Nat) + Int.toNat (↑s_2 : Int) * (1 : Nat)) { data := #[] }) (32 : Int))) (1 : Nat)), Value.slice (some { block := (3 : Nat), off := (0 : Nat) }) (stn (psL s) s_2) (0 : Nat), Value.slice (some { block := (4 : Nat), off := (0 : Nat) }) (stk (psL s) s_2) (0 : Nat)] (0 : Nat) false true (false && List.all [Value.string (sAt (strs (spI (List.getD (psL s) ((0 : Nat) + Int.toNat (↑s_2 : Int) * (1 : Nat)) { data := #[] }) (32 : Int))) (1 : Nat))] atom)) :: some (AObj.row (ints (stZ (psL s) s_2)) (2 : Nat) true true true) :: some (AObj.row (acs (stK (psL s) s_2)) (2 : Nat) true true true) :: noH = some (AObj.row [Value.string { data := #[] }, Value.slice none (0 : Nat) (0 : Nat), Value.slice none (0 : Nat) (0 : Nat)] (0 : Nat) false true true) :: some (AObj.row (strs (psL s)) (1 : Nat) true true true) :: some (AObj.row [Value.string (stN (psL s) s'), Value.slice (some { block := (3 : Nat), off := (0 : Nat) }) (stn (psL s) s') (0 : Nat), Value.slice (some { block := (4 : Nat), off := (0 : Nat) }) (stk (psL s) s') (0 : Nat)] (0 : Nat) false true false) :: some (AObj.row (ints (stZ (psL s) s')) (2 : Nat) true true true) :: some (AObj.row (acs (stK (psL s) s')) (2 : Nat) true true true) :: noH)))) (Is (isSec (unZ (ints (stZ (psL s) s_2))) (unK (acs (stK (psL s) s_2))) (stn (psL s) s_2) (stk (psL s) s_2) (ints (stZ (psL s) s_2)) (acs (stK (psL s) s_2)) ∧ strs (spI (List.getD (psL s) ((0 : Nat) + Int.toNat (↑s_2 : Int) * (1 : Nat)) { data := #[] }) (32 : Int)) = strs (unS (strs (spI (List.getD (psL s) ((0 : Nat) + Int.toNat (↑s_2 : Int) * (1 : Nat)) { data := #[] }) (32 : Int)))) ∧ List.length (spI (List.getD (psL s) ((0 : Nat) + Int.toNat (↑s_2 : Int) * (1 : Nat)) { data := #[] }) (32 : Int)) = List.length (unS (strs (spI (List.getD (psL s) ((0 : Nat) + Int.toNat (↑s_2 : Int) * (1 : Nat)) { data := #[] }) (32 : Int))))) ∧ br (!pdO (unK (acs (stK (psL s) s_2))) (unS (strs (spI (List.getD (psL s) ((0 : Nat) + Int.toNat (↑s_2 : Int) * (1 : Nat)) { data := #[] }) (32 : Int))))) (K (Value.tuple #[Value.agg #[Value.string { data := #[] }, Value.slice (some { block := (0 : Nat), off := (0 : Nat) }) (0 : Nat) (0 : Nat), Value.slice (some { block := (1 : Nat), off := (0 : Nat) }) (0 : Nat) (0 : Nat)], Value.int IntKind.i64 (↑s_2 : Int), Value.int IntKind.i64 (25 : Int)]) (some (AObj.row [] (2 : Nat) true true true) :: some (AObj.row [] (2 : Nat) true true true) :: noH)) (∃ (s' : Nat), Is (s' ≤ List.length (psL s) - (1 : Nat) ∧ ∀ (j : Nat), j < s' → okL (psL s) j = true) ∧ Is (List.length (psL s) - (1 : Nat) - s' < List.length (psL s) - (1 : Nat) - s_2) ∧ [poi, poi, Value.pointer (some { block := (0 : Nat), off := (0 : Nat) }), poi, poi, Value.slice (some { block := (1 : Nat), off := (0 : Nat) }) (List.length (psL s)) (0 : Nat), Value.int IntKind.i64 (↑(List.length (psL s) - (1 : Nat)) : Int), Value.pointer (some { block := (2 : Nat), off := (0 : Nat) }), Value.int IntKind.i64 (IntKind.wrap IntKind.i64 ((↑s_2 : Int) + (1 : Int))), poi, poi, poi, poi, poi, poi, poi, poi, poi, poi, poi, poi, poi, poi, poi, poi, poi, poi, poi, poi, poi, poi, poi, poi, poi, poi, poi, poi, poi, poi, poi, poi, poi, poi, poi, poi, poi, poi, poi, poi, poi, poi, poi, poi, poi, poi, poi, poi, poi, poi, poi, poi, poi, poi, poi, poi, poi, poi, poi, poi, poi, poi, poi, poi, poi, poi, poi, poi, poi, poi, poi, poi, poi, poi, poi] = [poi, poi, Value.pointer (some { block := (0 : Nat), off := (0 : Nat) }), poi, poi, Value.slice (some { block := (1 : Nat), off := (0 : Nat) }) (List.length (psL s)) (0 : Nat), Value.int IntKind.i64 (↑(List.length (psL s) - (1 : Nat)) : Int), Value.pointer (some { block := (2 : Nat), off := (0 : Nat) }), Value.int IntKind.i64 (↑s' : Int), poi, poi, poi, poi, poi, poi, poi, poi, poi, poi, poi, poi, poi, poi, poi, poi, poi, poi, poi, poi, poi, poi, poi, poi, poi, poi, poi, poi, poi, poi, poi, poi, poi, poi, poi, poi, poi, poi, poi, poi, poi, poi, poi, poi, poi, poi, poi, poi, poi, poi, poi, poi, poi, poi, poi, poi, poi, poi, poi, poi, poi, poi, poi, poi, poi, poi, poi, poi, poi, poi, poi, poi, poi, poi, poi] ∧ some (AObj.row [Value.string { data := #[] }, Value.slice none (0 : Nat) (0 : Nat), Value.slice none (0 : Nat) (0 : Nat)] (0 : Nat) false true true) :: some (AObj.row (strs (psL s)) (1 : Nat) true true true) :: some (AObj.row [Value.string (stN (psL s) s_2), Value.slice (some { block := (3 : Nat), off := (0 : Nat) }) (pdN (stn (psL s) s_2) (unK (acs (stK (psL s) s_2))) (unS (strs (spI (List.getD (psL s) ((0 : Nat) + Int.toNat (↑s_2 : Int) * (1 : Nat)) { data := #[] }) (32 : Int))))) (0 : Nat), Value.slice (some { block := (4 : Nat), off := (0 : Nat) }) (pdM (stk (psL s) s_2) (unK (acs (stK (psL s) s_2))) (unS (strs (spI (List.getD (psL s) ((0 : Nat) + Int.toNat (↑s_2 : Int) * (1 : Nat)) { data := #[] }) (32 : Int))))) (0 : Nat)] (0 : Nat) false true (false && List.all [Value.string (stN (psL s) s_2), Value.slice (some { block := List.length (some (AObj.row [Value.string { data := #[] }, Value.slice none (0 : Nat) (0 : Nat), Value.slice none (0 : Nat) (0 : Nat)] (0 : Nat) false true true) :: some (AObj.row (strs (psL s)) (1 : Nat) true true true) :: some (AObj.row [Value.string (stN (psL s) s_2), Value.slice (some { block := (3 : Nat), off := (0 : Nat) }) (stn (psL s) s_2) (0 : Nat), Value.slice (some { block := (4 : Nat), off := (0 : Nat) }) (stk (psL s) s_2) (0 : Nat)] (0 : Nat) false true false) :: some (AObj.row (ints (stZ (psL s) s_2)) (2 : Nat) true true true) :: some (AObj.row (acs (stK (psL s) s_2)) (2 : Nat) true true true) :: some (AObj.row (strs (spI (List.getD (psL s) ((0 : Nat) + Int.toNat (↑s_2 : Int) * (1 : Nat)) { data := #[] }) (32 : Int))) (1 : Nat) true true true) :: noH) + (0 : Nat), off := (0 : Nat) }) (pdN (stn (psL s) s_2) (unK (acs (stK (psL s) s_2))) (unS (strs (spI (List.getD (psL s) ((0 : Nat) + Int.toNat (↑s_2 : Int) * (1 : Nat)) { data := #[] }) (32 : Int))))) (0 : Nat), Value.slice (some { block := List.length (some (AObj.row [Value.string { data := #[] }, Value.slice none (0 : Nat) (0 : Nat), Value.slice none (0 : Nat) (0 : Nat)] (0 : Nat) false true true) :: some (AObj.row (strs (psL s)) (1 : Nat) true true true) :: some (AObj.row [Value.string (stN (psL s) s_2), Value.slice (some { block := (3 : Nat), off := (0 : Nat) }) (stn (psL s) s_2) (0 : Nat), Value.slice (some { block := (4 : Nat), off := (0 : Nat) }) (stk (psL s) s_2) (0 : Nat)] (0 : Nat) false true false) :: some (AObj.row (ints (stZ (psL s) s_2)) (2 : Nat) true true true) :: some (AObj.row (acs (stK (psL s) s_2)) (2 : Nat) true true true) :: some (AObj.row (strs (spI (List.getD (psL s) ((0 : Nat) + Int.toNat (↑s_2 : Int) * (1 : Nat)) { data := #[] }) (32 : Int))) (1 : Nat) true true true) :: noH) + (1 : Nat), off := (0 : Nat) }) (pdM (stk (psL s) s_2) (unK (acs (stK (psL s) s_2))) (unS (strs (spI (List.getD (psL s) ((0 : Nat) + Int.toNat (↑s_2 : Int) * (1 : Nat)) { data := #[] }) (32 : Int))))) (0 : Nat)] atom)) :: some (AObj.row (ints (pdZ (unZ (ints (stZ (psL s) s_2))) (unK (acs (stK (psL s) s_2))) (unS (strs (spI (List.getD (psL s) ((0 : Nat) + Int.toNat (↑s_2 : Int) * (1 : Nat)) { data := #[] }) (32 : Int)))))) (2 : Nat) true true true) :: some (AObj.row (acs (pdK (unK (acs (stK (psL s) s_2))) (unS (strs (spI (List.getD (psL s) ((0 : Nat) + Int.toNat (↑s_2 : Int) * (1 : Nat)) { data := #[] }) (32 : Int)))))) (2 : Nat) true true true) :: noH = some (AObj.row [Value.string { data := #[] }, Value.slice none (0 : Nat) (0 : Nat), Value.slice none (0 : Nat) (0 : Nat)] (0 : Nat) false true true) :: some (AObj.row (strs (psL s)) (1 : Nat) true true true) :: some (AObj.row [Value.string (stN (psL s) s'), Value.slice (some { block := (3 : Nat), off := (0 : Nat) }) (stn (psL s) s') (0 : Nat), Value.slice (some { block := (4 : Nat), off := (0 : Nat) }) (stk (psL s) s') (0 : Nat)] (0 : Nat) false true false) :: some (AObj.row (ints (stZ (psL s) s')) (2 : Nat) true true true) :: some (AObj.row (acs (stK (psL s) s')) (2 : Nat) true true true) :: noH))) (Is ((0 : Int) ≤ (↑(List.length (psL s) - (1 : Nat)) : Int) ∧ (↑(List.length (psL s) - (1 : Nat)) : Int) < (↑(List.length (psL s)) : Int)) ∧ Is ((strs (psL s))[(0 : Nat) + Int.toNat (↑(List.length (psL s) - (1 : Nat)) : Int) * (1 : Nat)]? = some (Value.string (List.getD (psL s) ((0 : Nat) + Int.toNat (↑(List.length (psL s) - (1 : Nat)) : Int) * (1 : Nat)) { data := #[] }))) ∧ br (!ByteArray.toList (List.getD (psL s) ((0 : Nat) + Int.toNat (↑(List.length (psL s) - (1 : Nat)) : Int) * (1 : Nat)) { data := #[] }) == []) (K (Value.tuple #[Value.agg #[Value.string { data := #[] }, Value.slice (some { block := (0 : Nat), off := (0 : Nat) }) (0 : Nat) (0 : Nat), Value.slice (some { block := (1 : Nat), off := (0 : Nat) }) (0 : Nat) (0 : Nat)], Value.int IntKind.i64 (↑(List.length (psL s) - (1 : Nat)) : Int), Value.int IntKind.i64 (25 : Int)]) (some (AObj.row [] (2 : Nat) true true true) :: some (AObj.row [] (2 : Nat) true true true) :: noH)) (br ((↑(List.length (psL s) - (1 : Nat)) : Int) == (0 : Int)) (K (Value.tuple #[Value.agg #[Value.string { data := #[] }, Value.slice (some { block := (0 : Nat), off := (0 : Nat) }) (0 : Nat) (0 : Nat), Value.slice (some { block := (1 : Nat), off := (0 : Nat) }) (0 : Nat) (0 : Nat)], Value.int IntKind.i64 (↑(List.length (psL s) - (1 : Nat)) : Int), Value.int IntKind.i64 (25 : Int)]) (some (AObj.row [] (2 : Nat) true true true) :: some (AObj.row [] (2 : Nat) true true true) :: noH)) (Is (isSec (unZ (ints (stZ (psL s) s_2))) (unK (acs (stK (psL s) s_2))) (stn (psL s) s_2) (stk (psL s) s_2) (ints (stZ (psL s) s_2)) (acs (stK (psL s) s_2))) ∧ br (secE (stN (psL s) s_2) (unZ (ints (stZ (psL s) s_2))) (stn (psL s) s_2) (unK (acs (stK (psL s) s_2))) (stk (psL s) s_2) != (0 : Int)) (K (Value.tuple #[Value.agg #[Value.string { data := #[] }, Value.slice (some { block := (0 : Nat), off := (0 : Nat) }) (0 : Nat) (0 : Nat), Value.slice (some { block := (1 : Nat), off := (0 : Nat) }) (0 : Nat) (0 : Nat)], Value.int IntKind.i64 (↑(List.length (psL s) - (1 : Nat)) : Int), Value.int IntKind.i64 (secE (stN (psL s) s_2) (unZ (ints (stZ (psL s) s_2))) (stn (psL s) s_2) (unK (acs (stK (psL s) s_2))) (stk (psL s) s_2))]) (some (AObj.row [] (2 : Nat) true true true) :: some (AObj.row [] (2 : Nat) true true true) :: noH)) (K (Value.tuple #[Value.agg #[Value.string (stN (psL s) s_2), Value.slice (some { block := (0 : Nat), off := (0 : Nat) }) (stn (psL s) s_2) (0 : Nat), Value.slice (some { block := (1 : Nat), off := (0 : Nat) }) (stk (psL s) s_2) (0 : Nat)], Value.int IntKind.i64 (0 : Int), Value.int IntKind.i64 (0 : Int)]) (some (AObj.row (ints (stZ (psL s) s_2)) (2 : Nat) true true true) :: some (AObj.row (acs (stK (psL s) s_2)) (2 : Nat) true true true) :: noH))))))) := by kernel_rfl
theorem sAt_strs (ws : List ByteArray) (i : Nat) : sAt (strs ws) i = wd ws i := by
  rw [sAt, strs, List.getElem?_map, wd, List.getD_eq_getElem?_getD]
  cases ws[i]? <;> rfl
theorem unS_strs (ws : List ByteArray) : unS (strs ws) = ws := by
  rw [unS, strs, List.map_map]
  exact List.map_id'' (fun _ => rfl) ws
theorem unZ_ints (zs : List Int) : unZ (ints zs) = zs := by
  rw [unZ, ints, List.map_map]
  exact List.map_id'' (fun _ => rfl) zs
theorem unK_acs : ∀ ks : List (Int × ByteArray), unK (acs ks) = ks
  | [] => rfl
  | a :: r => by rw [acs, unK, unK_acs r]
theorem fB_skip {L : List ByteArray} : ∀ (m k i : Nat), (∀ j, i ≤ j → j < i + m → okL L j = true) → m ≤ k → fB L k i = fB L (k - m) (i + m)
  | 0, k, i, _, _ => rfl
  | m + 1, k, i, h, hk => by
    obtain ⟨k', rfl⟩ : ∃ k', k = k' + 1 := ⟨k - 1, by omega⟩
    rw [fB, if_pos (h i (Nat.le_refl _) (by omega)), fB_skip m k' (i + 1) (fun j h1 h2 => h j (by omega) (by omega)) (by omega)]
    congr 1 <;> omega
theorem prI_bad {L : List ByteArray} {i : Nat} (h : ∀ j, j < i → okL L j = true) (hi : i < L.length - 1) (hb : okL L i = false) : prI L = i := by
  rw [prI, fB_skip i _ 0 (fun j _ h2 => h j (by omega)) (by omega), Nat.zero_add]
  obtain ⟨k', hk⟩ : ∃ k', L.length - 1 - i = k' + 1 := ⟨L.length - 1 - i - 1, by omega⟩
  rw [hk, fB, if_neg (by rw [hb]; decide)]
theorem prI_all {L : List ByteArray} (h : ∀ j, j < L.length - 1 → okL L j = true) : prI L = L.length - 1 := by
  rw [prI, fB_skip (L.length - 1) _ 0 (fun j _ h2 => h j (by omega)) (Nat.le_refl _), Nat.sub_self, fB, Nat.zero_add]
theorem st_one (L : List ByteArray) : stN L 1 = wd (lw L 0) 1 ∧ stZ L 1 = [] ∧ stK L 1 = [] := by
  rw [stN, stZ, stK, stL, if_pos rfl]; exact ⟨rfl, rfl, rfl⟩
theorem st_more {L : List ByteArray} {i : Nat} (h : i ≠ 0) : stN L (i + 1) = stN L i ∧ stZ L (i + 1) = pdZ (stZ L i) (stK L i) (lw L i) ∧ stK L (i + 1) = pdK (stK L i) (lw L i) := by
  refine ⟨?_, ?_, ?_⟩ <;> simp only [stN, stZ, stK, stL, if_neg h]
theorem st_zero (L : List ByteArray) : stN L 0 = ⟨#[]⟩ ∧ stZ L 0 = [] ∧ stK L 0 = [] ∧ stn L 0 = 0 ∧ stk L 0 = 0 := by
  have a : stN L 0 = ⟨#[]⟩ := by simp only [stN, stL]
  have b : stZ L 0 = [] := by simp only [stZ, stL]
  have c : stK L 0 = [] := by simp only [stK, stL]
  refine ⟨a, b, c, ?_, ?_⟩
  · rw [stn, b]; rfl
  · rw [stk, c]; rfl
theorem st_even (L : List ByteArray) : ∀ i, (stZ L i).length = stn L i * 2 ∧ stn L i ≤ i ∧ stk L i ≤ i
  | 0 => by
    obtain ⟨_, b, _, d, e⟩ := st_zero L
    rw [b, d, e]; exact ⟨rfl, Nat.le_refl _, Nat.le_refl _⟩
  | i + 1 => by
    obtain ⟨a, b, c⟩ := st_even L i
    by_cases h : i = 0
    · subst h
      obtain ⟨_, e1, e2⟩ := st_one L
      rw [stn, stk, e1, e2]; exact ⟨rfl, by simp, by simp⟩
    · obtain ⟨_, e1, e2⟩ := st_more (L := L) h
      have hz : (stZ L (i + 1)).length = (stZ L i).length ∨ (stZ L (i + 1)).length = (stZ L i).length + 2 := by
        rw [e1, pdZ]; split
        · exact .inr (by rw [List.length_append]; rfl)
        · exact .inl rfl
      have hk : (stK L (i + 1)).length ≤ (stK L i).length + 1 := by
        rw [e2, pdK]; split
        · rw [List.length_append]; simp
        · omega
      rw [stk] at c
      rw [stn, stk]
      exact ⟨by omega, by omega, by omega⟩
theorem stn_more {L : List ByteArray} {i : Nat} (h : i ≠ 0) : pdN (stn L i) (stK L i) (lw L i) = stn L (i + 1) ∧ pdM (stk L i) (stK L i) (lw L i) = stk L (i + 1) := by
  obtain ⟨_, e1, e2⟩ := st_more (L := L) h
  have a := (st_even L i).1
  constructor
  · show _ = (stZ L (i + 1)).length / 2
    rw [pdN, e1, pdZ]
    split
    · rw [List.length_append, a, show [drV (wd (lw L i) 1), drV (wd (lw L i) 2)].length = 2 from rfl]; omega
    · rw [a]; omega
  · show _ = (stK L (i + 1)).length
    rw [pdM, e2, pdK, stk]
    split
    · rw [List.length_append]; rfl
    · rfl
theorem psL_at (s : ByteArray) (i : Nat) : ((psL s).getD i ⟨#[]⟩).size ≤ s.size := by
  rw [psL, spI, List.getD_eq_getElem?_getD, List.getElem?_map]
  have h := spl_small (Int.toNat 10).toUInt8 s.data.toList i
  rw [List.getD_eq_getElem?_getD] at h
  cases hh : (spl (Int.toNat 10).toUInt8 s.data.toList)[i]? with
  | none => exact Nat.zero_le _
  | some a =>
    rw [hh] at h
    rw [size_len s]
    exact h
theorem psL_len (s : ByteArray) : 1 ≤ (psL s).length ∧ (psL s).length ≤ s.size + 1 := by
  rw [psL, spI, List.length_map, spl_len, size_len]
  have := List.count_le_length (a := (Int.toNat 10).toUInt8) (l := s.data.toList)
  omega
noncomputable def rpR (s : ByteArray) : Value := .tuple #[.agg #[.string (psN s), .slice (some ⟨0, 0, none⟩) (psn s) 0, .slice (some ⟨1, 0, none⟩) (psk s) 0], .int .i64 (psA s), .int .i64 (psE s)]
noncomputable def rpH (s : ByteArray) : Heap := [some (.row (ints (psZ s)) 2 true true true), some (.row (acs (psK s)) 2 true true true)]
theorem rp_bad {s : ByteArray} {a e : Int} (he : psE s = e) (h0 : e ≠ 0) (ha : psA s = a) : Value.tuple #[.agg #[.string ⟨#[]⟩, .slice (some ⟨0, 0, none⟩) 0 0, .slice (some ⟨1, 0, none⟩) 0 0], .int .i64 a, .int .i64 e] = rpR s ∧
    [some (.row [] 2 true true true), some (.row [] 2 true true true)] = rpH s := by
  have h1 : psE s ≠ 0 := by rw [he]; exact h0
  rw [rpR, rpH, psN, psn, psk, psZ, psK, gqS_n h1, gqN_n h1, gqN_n h1, gqL_n h1, gqK_n h1, he, ha]
  exact ⟨rfl, rfl⟩
set_option maxRecDepth 100000 in
theorem rp_ok {s : ByteArray} (hs0 : s.size ≤ 900 ∨ 4096 < s.size) : SmallRes Tryz.prog 100 [.string s] [] (rpR s) (rpH s) := by
  refine fnP_res hm c0_ok (hs := hsRp (psL s)) ?_
  rw [rp_t]
  refine br_of (fun h => ?_) (fun h => ?_)
  · have h : 4096 < s.size := by have := of_decide_eq_true h; omega
    have he : psE s = 26 := by rw [psE, if_pos h]
    exact rp_bad he (by decide) (by rw [psA, he, if_neg (by decide), if_pos h])
  have h : s.size ≤ 900 := by have := of_decide_eq_false h; omega
  have hb : ¬ 4096 < s.size := by omega
  obtain ⟨l1, l2⟩ := psL_len s
  have eE : psE s = prE (psL s) := by rw [psE, if_neg hb]
  have eA : psE s ≠ 0 → psA s = (prI (psL s) : Int) := fun h => by rw [psA, if_neg h, if_neg hb]
  have e0 : IntKind.wrap .i64 (((spI s 10).length : Int) - 1) = (((psL s).length - 1 : Nat) : Int) := by
    show IntKind.wrap .i64 (((psL s).length : Int) - 1) = _
    rw [wrap_eq (by omega) (by omega)]; omega
  have hat := psL_at s
  refine ⟨⟨by omega, by decide, by decide⟩, ⟨(0 : Nat), ⟨trivial⟩, by rw [e0]; first | trivial | rfl, by first | trivial | rfl⟩, fun _ _ => ⟨⟨(0 : Nat), ⟨Nat.zero_le _, fun j hj => by omega⟩, by first | trivial | rfl, by obtain ⟨a, b, c, d, e⟩ := st_zero (psL s); rw [a, b, c, d, e]; first | trivial | rfl⟩, fun i hi => ?_⟩⟩
  obtain ⟨i1, i2⟩ := hi.out
  obtain ⟨v1, v2, v3⟩ := st_even (psL s) i
  have hsec : isSec (stZ (psL s) i) (stK (psL s) i) (stn (psL s) i) (stk (psL s) i) (ints (stZ (psL s) i)) (acs (stK (psL s) i)) := ⟨rfl, rfl, v1, rfl, by omega, by omega⟩
  generalize hL : psL s = L at *
  have hlw : spI (L.getD i ⟨#[]⟩) 32 = lw L i := rfl
  simp only [sAt_strs, unS_strs, unZ_ints, unK_acs, Nat.zero_add, Nat.mul_one, Int.toNat_natCast, hlw, beq_lit]
  refine br_of (fun hc => ?_) (fun hc => ?_)
  · have hc := lt_of_dec hc
    have bad : okL L i = false → Value.tuple #[.agg #[.string ⟨#[]⟩, .slice (some ⟨0, 0, none⟩) 0 0, .slice (some ⟨1, 0, none⟩) 0 0], .int .i64 (i : Int), .int .i64 25] = rpR s ∧ [some (.row [] 2 true true true), some (.row [] 2 true true true)] = rpH s := fun hk => by
      have hp := prI_bad i2 hc hk
      have he : psE s = 25 := by rw [eE, prE, hp, if_pos hc]
      exact rp_bad he (by decide) (by rw [eA (by rw [he]; decide), hp])
    refine ⟨⟨by omega, by omega⟩, ⟨strs_at (by omega)⟩, ⟨by have := hat i; omega, by decide, by decide⟩, br_of (fun h0 => ?_) (fun h0 => ?_)⟩
    · have h0 : i = 0 := by have := beq_iff_eq.1 h0; omega
      subst h0
      have hk : okL L 0 = hdO (lw L 0) := if_pos rfl
      have cont : hdO (lw L 0) = true → ∃ s', Is (s' ≤ L.length - 1 ∧ ∀ j, j < s' → okL L j = true) ∧ s' = 1 := fun h => ⟨1, ⟨⟨by omega, fun j hj => by rw [show j = 0 by omega, hk, h]⟩, rfl⟩⟩
      refine br_of (fun h => bad (by rw [hk, hdO, decide_eq_false (by have := bne_iff_ne.1 h; omega)]; rfl)) (fun h1 => ?_)
      have h1 : (lw L 0).length = 2 := by have : ¬ (((lw L 0).length : Int) ≠ 2) := by simpa using h1
                                          omega
      refine ⟨⟨by omega, by omega⟩, ⟨strs_at (by omega)⟩, br_of (fun h => bad ?_) (fun h2 => ⟨⟨by omega, by omega⟩, ⟨strs_at (by omega)⟩, br_of (fun h => bad ?_) (fun h3 => ⟨⟨by omega, by omega⟩, ⟨strs_at (by omega)⟩, 1, ⟨by omega, fun j hj => ?_⟩, ⟨by omega⟩, ?_, ?_⟩)⟩)⟩
      · have h : (wd (lw L 0) 0 == sSec) = false := of_not h
        rw [hk, hdO, h]; simp
      · have h : (wd (lw L 0) 1 == ⟨#[]⟩) = true := h
        rw [hk, hdO, h]; simp
      · have h2 : (wd (lw L 0) 0 == sSec) = true := of_notf h2
        have h3 : (wd (lw L 0) 1 == ⟨#[]⟩) = false := h3
        rw [show j = 0 by omega, hk, hdO, h1, h2, h3]; rfl
      · rw [up1 hc (by omega)]
      · obtain ⟨q1, q2, q3⟩ := st_one L
        rw [stn, stk, q1, q2, q3]
        first | trivial | rfl
    · have h0 : i ≠ 0 := by have := beq_eq_false_iff_ne.1 h0; omega
      have hk : okL L i = pdO (stK L i) (lw L i) := if_neg h0
      refine ⟨⟨hsec, by first | trivial | rfl, by first | trivial | rfl⟩, br_of (fun h => bad (by rw [hk]; exact of_not h)) (fun h => ⟨i + 1, ⟨by omega, fun j hj => ?_⟩, ⟨by omega⟩, ?_, ?_⟩)⟩
      · rcases Nat.lt_succ_iff_lt_or_eq.1 hj with h | rfl
        · exact i2 j h
        · rw [hk]; exact of_notf (by assumption)
      · rw [up1 hc (by omega)]
      · obtain ⟨q1, q2, q3⟩ := st_more (L := L) h0
        obtain ⟨q4, q5⟩ := stn_more (L := L) h0
        rw [q1, q2, q3, q4, q5]
        first | trivial | rfl
  · have hc := ge_of_dec hc
    have ei : i = L.length - 1 := by omega
    rw [ei] at i2 hsec ⊢
    have hp := prI_all i2
    refine ⟨⟨by omega, by omega⟩, ⟨strs_at (by omega)⟩, br_of (fun h => ?_) (fun h1 => br_of (fun h => ?_) (fun h2 => ⟨⟨hsec⟩, br_of (fun h => ?_) (fun h => ?_)⟩))⟩
    · have h : (L.getD (L.length - 1) ⟨#[]⟩ == ⟨#[]⟩) = false := of_not h
      have he : psE s = 25 := by rw [eE, prE, hp, if_neg (Nat.lt_irrefl _), if_pos (by rw [h]; rfl)]
      exact rp_bad he (by decide) (by rw [eA (by rw [he]; decide), hp])
    · have h : L.length - 1 = 0 := by have := beq_iff_eq.1 h; omega
      have he : psE s = 25 := by rw [eE, prE, hp, if_neg (Nat.lt_irrefl _), if_pos (by rw [decide_eq_true h, Bool.or_true])]
      exact rp_bad he (by decide) (by rw [eA (by rw [he]; decide), hp])
    · have h1 : (L.getD (L.length - 1) ⟨#[]⟩ == ⟨#[]⟩) = true := of_notf h1
      have h2 : ¬ L.length - 1 = 0 := by have := beq_eq_false_iff_ne.1 h2; omega
      have he : psE s = secE (stN L (L.length - 1)) (stZ L (L.length - 1)) (stn L (L.length - 1)) (stK L (L.length - 1)) (stk L (L.length - 1)) := by
        rw [eE, prE, hp, if_neg (Nat.lt_irrefl _), if_neg (by rw [h1, decide_eq_false h2]; decide)]
      have h : secE (stN L (L.length - 1)) (stZ L (L.length - 1)) (stn L (L.length - 1)) (stK L (L.length - 1)) (stk L (L.length - 1)) ≠ 0 := bne_iff_ne.1 h
      exact rp_bad he h (by rw [eA (by rw [he]; exact h), hp])
    · have h1 : (L.getD (L.length - 1) ⟨#[]⟩ == ⟨#[]⟩) = true := of_notf h1
      have h2 : ¬ L.length - 1 = 0 := by have := beq_eq_false_iff_ne.1 h2; omega
      have he : psE s = secE (stN L (L.length - 1)) (stZ L (L.length - 1)) (stn L (L.length - 1)) (stK L (L.length - 1)) (stk L (L.length - 1)) := by
        rw [eE, prE, hp, if_neg (Nat.lt_irrefl _), if_neg (by rw [h1, decide_eq_false h2]; decide)]
      have h : secE (stN L (L.length - 1)) (stZ L (L.length - 1)) (stn L (L.length - 1)) (stK L (L.length - 1)) (stk L (L.length - 1)) = 0 := by simpa using h
      have h3 : psE s = 0 := by rw [he, h]
      rw [rpR, rpH, psA, if_pos h3, psN, psn, psk, psZ, psK, gqS_z h3, gqN_z h3, gqN_z h3, gqL_z h3, gqK_z h3, h3, hL]
      exact ⟨by first | trivial | rfl, by first | trivial | rfl⟩
noncomputable def orcRp : OrcV
  | [.string s], [] => some (.tuple #[.agg #[.string (psN s), .slice (some ⟨0, 0, none⟩) (psn s) 0, .slice (some ⟨1, 0, none⟩) (psk s) 0], .int .i64 (psA s), .int .i64 (psE s)], [some (.row (ints (psZ s)) 2 true true true), some (.row (acs (psK s)) 2 true true true)], s.size ≤ 900 ∨ 4096 < s.size)
  | _, _ => none
theorem okRp : OkV Tryz.prog 100 orcRp := by
  intro args H ret H' vc h hv
  unfold orcRp at h
  split at h
  · cases h; exact rp_ok hv
  · cases h
end
end Qq
