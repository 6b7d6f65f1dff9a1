/- Parts of the proof: KF, KG, KH, KI, KJ, KK. -/
import Derived.Test.YtjcncnppohmoeaaZAF
import Derived.Test.YtjcncnppohmoeaaZAC
section
/- The sort's parting of a part by one of its moves. -/
open Go Go.Vm Go.Proofs Sp
namespace Qq
noncomputable section
abbrev Ps := Nat × Nat × Array Mv
noncomputable def s5 (n c a b v : Nat) : List (Nat × Value) := [(0, .slice (some ⟨0, 0, none⟩) n c), (1, .int .i64 (a : Int)), (2, .int .i64 (b : Int)), (3, .int .i64 (v : Int)), (4, fF)]
noncomputable def upB (d : Array Mv) (a j i : Nat) : Nat := Go.Sort.scanUp (fun x => ltM x d[a]!) d j i
noncomputable def dnB (d : Array Mv) (a i j : Nat) : Nat := Go.Sort.scanDown (fun x => !ltM x d[a]!) d i j
section
variable (d : Array Mv) (n c a b v : Nat)
noncomputable def eij (i j : Nat) : List Value := slots 178 (s5 n c a b v ++ [(10, .int .i64 0), (11, .bool false), (12, .int .i64 (i : Int)), (13, .int .i64 (j : Int))])
noncomputable def pD : Array Mv := Go.Sort.swp d a v
noncomputable def pI : Nat := upB (pD d a v) a (b - 1) (a + 1)
noncomputable def pJ : Nat := dnB (pD d a v) a (pI d a b v) (b - 1)
noncomputable def pT : Nat × Array Mv := Go.Sort.partLoop ltM a (pI d a b v + 1) (pJ d a b v - 1) (Go.Sort.swp (pD d a v) (pI d a b v) (pJ d a b v))
noncomputable def pTn : Nat := (pT d a b v).1
noncomputable def pTa : Array Mv := (pT d a b v).2
noncomputable def lp0 (e : List Value) (h : Heap) (I : Prop) : Lp where
  σ := Nat
  E _ := e
  Hp _ := h
  I s := s = 0 ∧ I
  m _ := 0
noncomputable def lpU1 : Lp where
  σ := Nat
  E i := eij n c a b v i (b - 1)
  Hp _ := [mR (pD d a v)]
  I i := upB (pD d a v) a (b - 1) i = pI d a b v ∧ a + 1 ≤ i ∧ i ≤ b
  m i := b - i
noncomputable def lpD1 : Lp where
  σ := Nat
  E j := eij n c a b v (pI d a b v) j
  Hp _ := [mR (pD d a v)]
  I j := dnB (pD d a v) a (pI d a b v) j = pJ d a b v ∧ a ≤ j ∧ j < b
  m j := j
/-- What is between two rounds. -/
def ptV (s : Ps) : Prop := (Go.Sort.partLoop ltM a s.1 s.2.1 s.2.2 = pT d a b v ∧ gdM s.2.2 n) ∧ (a + 1 ≤ s.1 ∧ s.1 ≤ b) ∧ (a ≤ s.2.1 ∧ s.2.1 < b)
noncomputable def ptU (s : Ps) : Nat := upB s.2.2 a s.2.1 s.1
noncomputable def ptD (s : Ps) : Nat := dnB s.2.2 a (ptU a s) s.2.1
noncomputable def lpPt : Lp where
  σ := Ps
  E s := eij n c a b v s.1 s.2.1
  Hp s := [mR s.2.2]
  I s := ptV d n a b v s
  m s := s.2.1 + 1 - s.1
noncomputable def lpU2 (p : Ps) : Lp where
  σ := Nat
  E i := eij n c a b v i p.2.1
  Hp _ := [mR p.2.2]
  I i := upB p.2.2 a p.2.1 i = ptU a p ∧ a + 1 ≤ i ∧ i ≤ b
  m i := b - i
noncomputable def lpD2 (p : Ps) : Lp where
  σ := Nat
  E j := eij n c a b v (ptU a p) j
  Hp _ := [mR p.2.2]
  I j := dnB p.2.2 a (ptU a p) j = ptD a p ∧ a ≤ j ∧ j < b
  m j := j
noncomputable def hsPt : Hs Try.prog where
  op y := if [106, 110, 112, 114, 307, 311, 507, 511, 806, 810, 812, 814, 1006, 1010, 1012, 1014, 1307, 1311, 1507, 1511, 1806, 1810, 1812, 1814, 2106, 2110, 2112, 2114].contains y then some (hIa Try.prog)
    else if [107, 111, 308, 312, 508, 512, 807, 811, 1007, 1011, 1308, 1312, 1508, 1512, 1807, 1811, 2107, 2111].contains y then some (hLc Try.prog gMv)
    else if [113, 115, 813, 815, 1013, 1015, 1813, 1815, 2113, 2115].contains y then some (hSp Try.prog) else if [313, 513, 1313, 1513].contains y then some (hCa Try.prog 32 orcCp okCp) else none
  lp y := if y = 3 then some (lpU1 d n c a b v) else if y = 5 then some (lpD1 d n c a b v) else none
  cut y := if y = 5 then some (lp0 (eij n c a b v (pI d a b v) (b - 1)) [mR (pD d a v)] True) else if y = 7 then some (lp0 (eij n c a b v (pI d a b v) (pJ d a b v)) [mR (pD d a v)] True)
    else if y = 21 then some (lp0 (slots 178 (s5 n c a b v ++ [(10, .int .i64 0), (11, .bool false), (13, .int .i64 (pTn d a b v : Int))])) [mR (pTa d a b v)] True) else none
  cq y := if y = 15 then some ⟨Ps, fun p => lp0 (eij n c a b v (ptU a p) p.2.1) [mR p.2.2] True⟩ else if y = 17 then some ⟨Ps, fun p => lp0 (eij n c a b v (ptU a p) (ptD a p)) [mR p.2.2] True⟩ else none
  lq y := if y = 15 then some ⟨Ps, lpD2 n c a b v⟩ else none
  lx y env := if y = 13 then (match isPoi (gt env 104) with | true => some ⟨Ps, lpU2 n c a b v⟩ | false => some ⟨Ps, fun _ => lpPt d n c a b v⟩) else none
  cl y := if y = 21 then keep 178 [0, 1, 2, 3, 4, 10, 11, 13] else keep 178 [0, 1, 2, 3, 4, 10, 11, 12, 13]
  nl _ := [.stay]
  rn := [.stay]
  sm := true
  au := au0 Try.prog
end
set_option maxRecDepth 100000 in
theorem pt_t (d : Array Mv) (n : Nat) (c : Nat) (a : Nat) (b : Nat) (v : Nat) (K : Value → Heap → Prop) :
    (fnP Try.prog c0 (hsPt d n c a b v) (84 : FuncId) [Value.slice (some { block := (0 : Nat), off := (0 : Nat) }) n c, Value.int IntKind.i64 (↑a : Int), Value.int IntKind.i64 (↑b : Int), Value.int IntKind.i64 (↑v : Int), fF] [mR d] K) =
    (Is ((0 : Int) ≤ (↑v : Int) ∧ (↑v : Int) < (↑n : Int)) ∧ Is ((if (0 : Nat) + Int.toNat (↑v : Int) * (3 : Nat) + (3 : Nat) ≤ List.length (pA d) then some (Value.agg (List.toArray (List.take (3 : Nat) (List.drop ((0 : Nat) + Int.toNat (↑v : Int) * (3 : Nat)) (pA d))))) else none) = some (Value.agg #[Value.int IntKind.i64 (iAt (pA d) ((0 : Nat) + Int.toNat (↑v : Int) * (3 : Nat))), Value.int IntKind.i64 (iAt (pA d) ((0 : Nat) + Int.toNat (↑v : Int) * (3 : Nat) + (1 : Nat))), Value.int IntKind.i64 (iAt (pA d) ((0 : Nat) + Int.toNat (↑v : Int) * (3 : Nat) + (2 : Nat)))])) ∧ Is ((0 : Int) ≤ (↑a : Int) ∧ (↑a : Int) < (↑n : Int)) ∧ Is ((if (0 : Nat) + Int.toNat (↑a : Int) * (3 : Nat) + (3 : Nat) ≤ List.length (pA d) then some (Value.agg (List.toArray (List.take (3 : Nat) (List.drop ((0 : Nat) + Int.toNat (↑a : Int) * (3 : Nat)) (pA d))))) else none) = some (Value.agg #[Value.int IntKind.i64 (iAt (pA d) ((0 : Nat) + Int.toNat (↑a : Int) * (3 : Nat))), Value.int IntKind.i64 (iAt (pA d) ((0 : Nat) + Int.toNat (↑a : Int) * (3 : Nat) + (1 : Nat))), Value.int IntKind.i64 (iAt (pA d) ((0 : Nat) + Int.toNat (↑a : Int) * (3 : Nat) + (2 : Nat)))])) ∧ Is ((0 : Int) ≤ (↑a : Int) ∧ (↑a : Int) < (↑n : Int)) ∧ Is ((0 : Nat) + Int.toNat (↑a : Int) * (3 : Nat) + List.length [Value.int IntKind.i64 (iAt (pA d) ((0 : Nat) + Int.toNat (↑v : Int) * (3 : Nat))), Value.int IntKind.i64 (iAt (pA d) ((0 : Nat) + Int.toNat (↑v : Int) * (3 : Nat) + (1 : Nat))), Value.int IntKind.i64 (iAt (pA d) ((0 : Nat) + Int.toNat (↑v : Int) * (3 : Nat) + (2 : Nat)))] ≤ List.length (pA d)) ∧ Is ((0 : Int) ≤ (↑v : Int) ∧ (↑v : Int) < (↑n : Int)) ∧ Is ((0 : Nat) + Int.toNat (↑v : Int) * (3 : Nat) + List.length [Value.int IntKind.i64 (iAt (pA d) ((0 : Nat) + Int.toNat (↑a : Int) * (3 : Nat))), Value.int IntKind.i64 (iAt (pA d) ((0 : Nat) + Int.toNat (↑a : Int) * (3 : Nat) + (1 : Nat))), Value.int IntKind.i64 (iAt (pA d) ((0 : Nat) + Int.toNat (↑a : Int) * (3 : Nat) + (2 : Nat)))] ≤ List.length (putL (pA d) ((0 : Nat) + Int.toNat (↑a : Int) * (3 : Nat)) [Value.int IntKind.i64 (iAt (pA d) ((0 : Nat) + Int.toNat (↑v : Int) * (3 : Nat))), Value.int IntKind.i64 (iAt (pA d) ((0 : Nat) + Int.toNat (↑v : Int) * (3 : Nat) + (1 : Nat))), Value.int IntKind.i64 (iAt (pA d) ((0 : Nat) + Int.toNat (↑v : Int) * (3 : Nat) + (2 : Nat)))])) ∧ ((∃ (s : Nat), Is (upB (pD d a v) a (b - (1 : Nat)) s = pI d a b v ∧ a + (1 : Nat) ≤ s ∧ s ≤ b) ∧ (Value.slice (some { block := (0 : Nat), off := (0 : Nat) }) n c = Value.slice (some { block := (0 : Nat), off := (0 : Nat) }) n c ∧ Value.int IntKind.i64 (↑a : Int) = Value.int IntKind.i64 (↑a : Int) ∧ Value.int IntKind.i64 (↑b : Int) = Value.int IntKind.i64 (↑b : Int) ∧ Value.int IntKind.i64 (↑v : Int) = Value.int IntKind.i64 (↑v : Int) ∧ Value.func (Fn.func (32 : Nat)) #[] #[] = Value.func (Fn.func (32 : Nat)) #[] #[] ∧ Value.int IntKind.i64 (0 : Int) = Value.int IntKind.i64 (0 : Int) ∧ Value.bool false = Value.bool false ∧ Value.int IntKind.i64 (IntKind.wrap IntKind.i64 ((↑a : Int) + (1 : Int))) = Value.int IntKind.i64 (↑s : Int) ∧ Value.int IntKind.i64 (IntKind.wrap IntKind.i64 ((↑b : Int) - (1 : Int))) = Value.int IntKind.i64 (↑(b - (1 : Nat)) : Int) ∧ True) ∧ some (AObj.row (putL (putL (pA d) ((0 : Nat) + Int.toNat (↑a : Int) * (3 : Nat)) [Value.int IntKind.i64 (iAt (pA d) ((0 : Nat) + Int.toNat (↑v : Int) * (3 : Nat))), Value.int IntKind.i64 (iAt (pA d) ((0 : Nat) + Int.toNat (↑v : Int) * (3 : Nat) + (1 : Nat))), Value.int IntKind.i64 (iAt (pA d) ((0 : Nat) + Int.toNat (↑v : Int) * (3 : Nat) + (2 : Nat)))]) ((0 : Nat) + Int.toNat (↑v : Int) * (3 : Nat)) [Value.int IntKind.i64 (iAt (pA d) ((0 : Nat) + Int.toNat (↑a : Int) * (3 : Nat))), Value.int IntKind.i64 (iAt (pA d) ((0 : Nat) + Int.toNat (↑a : Int) * (3 : Nat) + (1 : Nat))), Value.int IntKind.i64 (iAt (pA d) ((0 : Nat) + Int.toNat (↑a : Int) * (3 : Nat) + (2 : Nat)))]) (3 : Nat) true true (true && List.all [Value.int IntKind.i64 (iAt (pA d) ((0 : Nat) + Int.toNat (↑v : Int) * (3 : Nat))), Value.int IntKind.i64 (iAt (pA d) ((0 : Nat) + Int.toNat (↑v : Int) * (3 : Nat) + (1 : Nat))), Value.int IntKind.i64 (iAt (pA d) ((0 : Nat) + Int.toNat (↑v : Int) * (3 : Nat) + (2 : Nat)))] atom && List.all [Value.int IntKind.i64 (iAt (pA d) ((0 : Nat) + Int.toNat (↑a : Int) * (3 : Nat))), Value.int IntKind.i64 (iAt (pA d) ((0 : Nat) + Int.toNat (↑a : Int) * (3 : Nat) + (1 : Nat))), Value.int IntKind.i64 (iAt (pA d) ((0 : Nat) + Int.toNat (↑a : Int) * (3 : Nat) + (2 : Nat)))] atom)) :: noH = some (AObj.row (pA (pD d a v)) (3 : Nat) true true true) :: noH) ∧ ∀ (s : Nat), Is (upB (pD d a v) a (b - (1 : Nat)) s = pI d a b v ∧ a + (1 : Nat) ≤ s ∧ s ≤ b) → br (decide ((↑s : Int) ≤ (↑(b - (1 : Nat)) : Int))) (Is ((0 : Int) ≤ (↑s : Int) ∧ (↑s : Int) < (↑n : Int)) ∧ Is ((if (0 : Nat) + Int.toNat (↑s : Int) * (3 : Nat) + (3 : Nat) ≤ List.length (pA (pD d a v)) then some (Value.agg (List.toArray (List.take (3 : Nat) (List.drop ((0 : Nat) + Int.toNat (↑s : Int) * (3 : Nat)) (pA (pD d a v)))))) else none) = some (Value.agg #[Value.int IntKind.i64 (iAt (pA (pD d a v)) ((0 : Nat) + Int.toNat (↑s : Int) * (3 : Nat))), Value.int IntKind.i64 (iAt (pA (pD d a v)) ((0 : Nat) + Int.toNat (↑s : Int) * (3 : Nat) + (1 : Nat))), Value.int IntKind.i64 (iAt (pA (pD d a v)) ((0 : Nat) + Int.toNat (↑s : Int) * (3 : Nat) + (2 : Nat)))])) ∧ Is ((0 : Int) ≤ (↑a : Int) ∧ (↑a : Int) < (↑n : Int)) ∧ Is ((if (0 : Nat) + Int.toNat (↑a : Int) * (3 : Nat) + (3 : Nat) ≤ List.length (pA (pD d a v)) then some (Value.agg (List.toArray (List.take (3 : Nat) (List.drop ((0 : Nat) + Int.toNat (↑a : Int) * (3 : Nat)) (pA (pD d a v)))))) else none) = some (Value.agg #[Value.int IntKind.i64 (iAt (pA (pD d a v)) ((0 : Nat) + Int.toNat (↑a : Int) * (3 : Nat))), Value.int IntKind.i64 (iAt (pA (pD d a v)) ((0 : Nat) + Int.toNat (↑a : Int) * (3 : Nat) + (1 : Nat))), Value.int IntKind.i64 (iAt (pA (pD d a v)) ((0 : Nat) + Int.toNat (↑a : Int) * (3 : Nat) + (2 : Nat)))])) ∧ Is (mvIn (iAt (pA (pD d a v)) ((0 : Nat) + Int.toNat (↑s : Int) * (3 : Nat))) (iAt (pA (pD d a v)) ((0 : Nat) + Int.toNat (↑s : Int) * (3 : Nat) + (1 : Nat))) ∧ mvIn (iAt (pA (pD d a v)) ((0 : Nat) + Int.toNat (↑a : Int) * (3 : Nat))) (iAt (pA (pD d a v)) ((0 : Nat) + Int.toNat (↑a : Int) * (3 : Nat) + (1 : Nat)))) ∧ br (decide (cpI (iAt (pA (pD d a v)) ((0 : Nat) + Int.toNat (↑s : Int) * (3 : Nat))) (iAt (pA (pD d a v)) ((0 : Nat) + Int.toNat (↑s : Int) * (3 : Nat) + (1 : Nat))) (iAt (pA (pD d a v)) ((0 : Nat) + Int.toNat (↑s : Int) * (3 : Nat) + (2 : Nat))) (iAt (pA (pD d a v)) ((0 : Nat) + Int.toNat (↑a : Int) * (3 : Nat))) (iAt (pA (pD d a v)) ((0 : Nat) + Int.toNat (↑a : Int) * (3 : Nat) + (1 : Nat))) (iAt (pA (pD d a v)) ((0 : Nat) + Int.toNat (↑a : Int) * (3 : Nat) + (2 : Nat))) < (0 : Int))) (∃ (s' : Nat), Is (upB (pD d a v) a (b - (1 : Nat)) s' = pI d a b v ∧ a + (1 : Nat) ≤ s' ∧ s' ≤ b) ∧ Is (b - s' < b - s) ∧ (Value.slice (some { block := (0 : Nat), off := (0 : Nat) }) n c = Value.slice (some { block := (0 : Nat), off := (0 : Nat) }) n c ∧ Value.int IntKind.i64 (↑a : Int) = Value.int IntKind.i64 (↑a : Int) ∧ Value.int IntKind.i64 (↑b : Int) = Value.int IntKind.i64 (↑b : Int) ∧ Value.int IntKind.i64 (↑v : Int) = Value.int IntKind.i64 (↑v : Int) ∧ Value.func (Fn.func (32 : Nat)) #[] #[] = Value.func (Fn.func (32 : Nat)) #[] #[] ∧ Value.int IntKind.i64 (0 : Int) = Value.int IntKind.i64 (0 : Int) ∧ Value.bool false = Value.bool false ∧ Value.int IntKind.i64 (IntKind.wrap IntKind.i64 ((↑s : Int) + (1 : Int))) = Value.int IntKind.i64 (↑s' : Int) ∧ Value.int IntKind.i64 (↑(b - (1 : Nat)) : Int) = Value.int IntKind.i64 (↑(b - (1 : Nat)) : Int) ∧ True) ∧ some (AObj.row (pA (pD d a v)) (3 : Nat) true true true) :: noH = some (AObj.row (pA (pD d a v)) (3 : Nat) true true true) :: noH) (∃ (s_1 : Nat), Is (s_1 = (0 : Nat) ∧ True) ∧ (Value.slice (some { block := (0 : Nat), off := (0 : Nat) }) n c = Value.slice (some { block := (0 : Nat), off := (0 : Nat) }) n c ∧ Value.int IntKind.i64 (↑a : Int) = Value.int IntKind.i64 (↑a : Int) ∧ Value.int IntKind.i64 (↑b : Int) = Value.int IntKind.i64 (↑b : Int) ∧ Value.int IntKind.i64 (↑v : Int) = Value.int IntKind.i64 (↑v : Int) ∧ Value.func (Fn.func (32 : Nat)) #[] #[] = Value.func (Fn.func (32 : Nat)) #[] #[] ∧ Value.int IntKind.i64 (0 : Int) = Value.int IntKind.i64 (0 : Int) ∧ Value.bool false = Value.bool false ∧ Value.int IntKind.i64 (↑s : Int) = Value.int IntKind.i64 (↑(pI d a b v) : Int) ∧ Value.int IntKind.i64 (↑(b - (1 : Nat)) : Int) = Value.int IntKind.i64 (↑(b - (1 : Nat)) : Int) ∧ True) ∧ some (AObj.row (pA (pD d a v)) (3 : Nat) true true true) :: noH = some (AObj.row (pA (pD d a v)) (3 : Nat) true true true) :: noH)) (∃ (s_1 : Nat), Is (s_1 = (0 : Nat) ∧ True) ∧ (Value.slice (some { block := (0 : Nat), off := (0 : Nat) }) n c = Value.slice (some { block := (0 : Nat), off := (0 : Nat) }) n c ∧ Value.int IntKind.i64 (↑a : Int) = Value.int IntKind.i64 (↑a : Int) ∧ Value.int IntKind.i64 (↑b : Int) = Value.int IntKind.i64 (↑b : Int) ∧ Value.int IntKind.i64 (↑v : Int) = Value.int IntKind.i64 (↑v : Int) ∧ Value.func (Fn.func (32 : Nat)) #[] #[] = Value.func (Fn.func (32 : Nat)) #[] #[] ∧ Value.int IntKind.i64 (0 : Int) = Value.int IntKind.i64 (0 : Int) ∧ Value.bool false = Value.bool false ∧ Value.int IntKind.i64 (↑s : Int) = Value.int IntKind.i64 (↑(pI d a b v) : Int) ∧ Value.int IntKind.i64 (↑(b - (1 : Nat)) : Int) = Value.int IntKind.i64 (↑(b - (1 : Nat)) : Int) ∧ True) ∧ some (AObj.row (pA (pD d a v)) (3 : Nat) true true true) :: noH = some (AObj.row (pA (pD d a v)) (3 : Nat) true true true) :: noH)) ∧ ∀ (s : Nat), Is (s = (0 : Nat) ∧ True) → ((∃ (s : Nat), Is (dnB (pD d a v) a (pI d a b v) s = pJ d a b v ∧ a ≤ s ∧ s < b) ∧ (Value.slice (some { block := (0 : Nat), off := (0 : Nat) }) n c = Value.slice (some { block := (0 : Nat), off := (0 : Nat) }) n c ∧ Value.int IntKind.i64 (↑a : Int) = Value.int IntKind.i64 (↑a : Int) ∧ Value.int IntKind.i64 (↑b : Int) = Value.int IntKind.i64 (↑b : Int) ∧ Value.int IntKind.i64 (↑v : Int) = Value.int IntKind.i64 (↑v : Int) ∧ Value.func (Fn.func (32 : Nat)) #[] #[] = Value.func (Fn.func (32 : Nat)) #[] #[] ∧ Value.int IntKind.i64 (0 : Int) = Value.int IntKind.i64 (0 : Int) ∧ Value.bool false = Value.bool false ∧ Value.int IntKind.i64 (↑(pI d a b v) : Int) = Value.int IntKind.i64 (↑(pI d a b v) : Int) ∧ Value.int IntKind.i64 (↑(b - (1 : Nat)) : Int) = Value.int IntKind.i64 (↑s : Int) ∧ True) ∧ some (AObj.row (pA (pD d a v)) (3 : Nat) true true true) :: noH = some (AObj.row (pA (pD d a v)) (3 : Nat) true true true) :: noH) ∧ ∀ (s : Nat), Is (dnB (pD d a v) a (pI d a b v) s = pJ d a b v ∧ a ≤ s ∧ s < b) → br (decide ((↑(pI d a b v) : Int) ≤ (↑s : Int))) (Is ((0 : Int) ≤ (↑s : Int) ∧ (↑s : Int) < (↑n : Int)) ∧ Is ((if (0 : Nat) + Int.toNat (↑s : Int) * (3 : Nat) + (3 : Nat) ≤ List.length (pA (pD d a v)) then some (Value.agg (List.toArray (List.take (3 : Nat) (List.drop ((0 : Nat) + Int.toNat (↑s : Int) * (3 : Nat)) (pA (pD d a v)))))) else none) = some (Value.agg #[Value.int IntKind.i64 (iAt (pA (pD d a v)) ((0 : Nat) + Int.toNat (↑s : Int) * (3 : Nat))), Value.int IntKind.i64 (iAt (pA (pD d a v)) ((0 : Nat) + Int.toNat (↑s : Int) * (3 : Nat) + (1 : Nat))), Value.int IntKind.i64 (iAt (pA (pD d a v)) ((0 : Nat) + Int.toNat (↑s : Int) * (3 : Nat) + (2 : Nat)))])) ∧ Is ((0 : Int) ≤ (↑a : Int) ∧ (↑a : Int) < (↑n : Int)) ∧ Is ((if (0 : Nat) + Int.toNat (↑a : Int) * (3 : Nat) + (3 : Nat) ≤ List.length (pA (pD d a v)) then some (Value.agg (List.toArray (List.take (3 : Nat) (List.drop ((0 : Nat) + Int.toNat (↑a : Int) * (3 : Nat)) (pA (pD d a v)))))) else none) = some (Value.agg #[Value.int IntKind.i64 (iAt (pA (pD d a v)) ((0 : Nat) + Int.toNat (↑a : Int) * (3 : Nat))), Value.int IntKind.i64 (iAt (pA (pD d a v)) ((0 : Nat) + Int.toNat (↑a : Int) * (3 : Nat) + (1 : Nat))), Value.int IntKind.i64 (iAt (pA (pD d a v)) ((0 : Nat) + Int.toNat (↑a : Int) * (3 : Nat) + (2 : Nat)))])) ∧ Is (mvIn (iAt (pA (pD d a v)) ((0 : Nat) + Int.toNat (↑s : Int) * (3 : Nat))) (iAt (pA (pD d a v)) ((0 : Nat) + Int.toNat (↑s : Int) * (3 : Nat) + (1 : Nat))) ∧ mvIn (iAt (pA (pD d a v)) ((0 : Nat) + Int.toNat (↑a : Int) * (3 : Nat))) (iAt (pA (pD d a v)) ((0 : Nat) + Int.toNat (↑a : Int) * (3 : Nat) + (1 : Nat)))) ∧ br (!decide (cpI (iAt (pA (pD d a v)) ((0 : Nat) + Int.toNat (↑s : Int) * (3 : Nat))) (iAt (pA (pD d a v)) ((0 : Nat) + Int.toNat (↑s : Int) * (3 : Nat) + (1 : Nat))) (iAt (pA (pD d a v)) ((0 : Nat) + Int.toNat (↑s : Int) * (3 : Nat) + (2 : Nat))) (iAt (pA (pD d a v)) ((0 : Nat) + Int.toNat (↑a : Int) * (3 : Nat))) (iAt (pA (pD d a v)) ((0 : Nat) + Int.toNat (↑a : Int) * (3 : Nat) + (1 : Nat))) (iAt (pA (pD d a v)) ((0 : Nat) + Int.toNat (↑a : Int) * (3 : Nat) + (2 : Nat))) < (0 : Int))) (∃ (s' : Nat), Is (dnB (pD d a v) a (pI d a b v) s' = pJ d a b v ∧ a ≤ s' ∧ s' < b) ∧ Is (s' < s) ∧ (Value.slice (some { block := (0 : Nat), off := (0 : Nat) }) n c = Value.slice (some { block := (0 : Nat), off := (0 : Nat) }) n c ∧ Value.int IntKind.i64 (↑a : Int) = Value.int IntKind.i64 (↑a : Int) ∧ Value.int IntKind.i64 (↑b : Int) = Value.int IntKind.i64 (↑b : Int) ∧ Value.int IntKind.i64 (↑v : Int) = Value.int IntKind.i64 (↑v : Int) ∧ Value.func (Fn.func (32 : Nat)) #[] #[] = Value.func (Fn.func (32 : Nat)) #[] #[] ∧ Value.int IntKind.i64 (0 : Int) = Value.int IntKind.i64 (0 : Int) ∧ Value.bool false = Value.bool false ∧ Value.int IntKind.i64 (↑(pI d a b v) : Int) = Value.int IntKind.i64 (↑(pI d a b v) : Int) ∧ Value.int IntKind.i64 (IntKind.wrap IntKind.i64 ((↑s : Int) - (1 : Int))) = Value.int IntKind.i64 (↑s' : Int) ∧ True) ∧ some (AObj.row (pA (pD d a v)) (3 : Nat) true true true) :: noH = some (AObj.row (pA (pD d a v)) (3 : Nat) true true true) :: noH) (∃ (s_1 : Nat), Is (s_1 = (0 : Nat) ∧ True) ∧ (Value.slice (some { block := (0 : Nat), off := (0 : Nat) }) n c = Value.slice (some { block := (0 : Nat), off := (0 : Nat) }) n c ∧ Value.int IntKind.i64 (↑a : Int) = Value.int IntKind.i64 (↑a : Int) ∧ Value.int IntKind.i64 (↑b : Int) = Value.int IntKind.i64 (↑b : Int) ∧ Value.int IntKind.i64 (↑v : Int) = Value.int IntKind.i64 (↑v : Int) ∧ Value.func (Fn.func (32 : Nat)) #[] #[] = Value.func (Fn.func (32 : Nat)) #[] #[] ∧ Value.int IntKind.i64 (0 : Int) = Value.int IntKind.i64 (0 : Int) ∧ Value.bool false = Value.bool false ∧ Value.int IntKind.i64 (↑(pI d a b v) : Int) = Value.int IntKind.i64 (↑(pI d a b v) : Int) ∧ Value.int IntKind.i64 (↑s : Int) = Value.int IntKind.i64 (↑(pJ d a b v) : Int) ∧ True) ∧ some (AObj.row (pA (pD d a v)) (3 : Nat) true true true) :: noH = some (AObj.row (pA (pD d a v)) (3 : Nat) true true true) :: noH)) (∃ (s_1 : Nat), Is (s_1 = (0 : Nat) ∧ True) ∧ (Value.slice (some { block := (0 : Nat), off := (0 : Nat) }) n c = Value.slice (some { block := (0 : Nat), off := (0 : Nat) }) n c ∧ Value.int IntKind.i64 (↑a : Int) = Value.int IntKind.i64 (↑a : Int) ∧ Value.int IntKind.i64 (↑b : Int) = Value.int IntKind.i64 (↑b : Int) ∧ Value.int IntKind.i64 (↑v : Int) = Value.int IntKind.i64 (↑v : Int) ∧ Value.func (Fn.func (32 : Nat)) #[] #[] = Value.func (Fn.func (32 : Nat)) #[] #[] ∧ Value.int IntKind.i64 (0 : Int) = Value.int IntKind.i64 (0 : Int) ∧ Value.bool false = Value.bool false ∧ Value.int IntKind.i64 (↑(pI d a b v) : Int) = Value.int IntKind.i64 (↑(pI d a b v) : Int) ∧ Value.int IntKind.i64 (↑s : Int) = Value.int IntKind.i64 (↑(pJ d a b v) : Int) ∧ True) ∧ some (AObj.row (pA (pD d a v)) (3 : Nat) true true true) :: noH = some (AObj.row (pA (pD d a v)) (3 : Nat) true true true) :: noH)) ∧ ∀ (s : Nat), Is (s = (0 : Nat) ∧ True) → br (decide ((↑(pJ d a b v) : Int) < (↑(pI d a b v) : Int))) (Is ((0 : Int) ≤ (↑a : Int) ∧ (↑a : Int) < (↑n : Int)) ∧ Is ((if (0 : Nat) + Int.toNat (↑a : Int) * (3 : Nat) + (3 : Nat) ≤ List.length (pA (pD d a v)) then some (Value.agg (List.toArray (List.take (3 : Nat) (List.drop ((0 : Nat) + Int.toNat (↑a : Int) * (3 : Nat)) (pA (pD d a v)))))) else none) = some (Value.agg #[Value.int IntKind.i64 (iAt (pA (pD d a v)) ((0 : Nat) + Int.toNat (↑a : Int) * (3 : Nat))), Value.int IntKind.i64 (iAt (pA (pD d a v)) ((0 : Nat) + Int.toNat (↑a : Int) * (3 : Nat) + (1 : Nat))), Value.int IntKind.i64 (iAt (pA (pD d a v)) ((0 : Nat) + Int.toNat (↑a : Int) * (3 : Nat) + (2 : Nat)))])) ∧ Is ((0 : Int) ≤ (↑(pJ d a b v) : Int) ∧ (↑(pJ d a b v) : Int) < (↑n : Int)) ∧ Is ((if (0 : Nat) + Int.toNat (↑(pJ d a b v) : Int) * (3 : Nat) + (3 : Nat) ≤ List.length (pA (pD d a v)) then some (Value.agg (List.toArray (List.take (3 : Nat) (List.drop ((0 : Nat) + Int.toNat (↑(pJ d a b v) : Int) * (3 : Nat)) (pA (pD d a v)))))) else none) = some (Value.agg #[Value.int IntKind.i64 (iAt (pA (pD d a v)) ((0 : Nat) + Int.toNat (↑(pJ d a b v) : Int) * (3 : Nat))), Value.int IntKind.i64 (iAt (pA (pD d a v)) ((0 : Nat) + Int.toNat (↑(pJ d a b v) : Int) * (3 : Nat) + (1 : Nat))), Value.int IntKind.i64 (iAt (pA (pD d a v)) ((0 : Nat) + Int.toNat (↑(pJ d a b v) : Int) * (3 : Nat) + (2 : Nat)))])) ∧ Is ((0 : Int) ≤ (↑(pJ d a b v) : Int) ∧ (↑(pJ d a b v) : Int) < (↑n : Int)) ∧ Is ((0 : Nat) + Int.toNat (↑(pJ d a b v) : Int) * (3 : Nat) + List.length [Value.int IntKind.i64 (iAt (pA (pD d a v)) ((0 : Nat) + Int.toNat (↑a : Int) * (3 : Nat))), Value.int IntKind.i64 (iAt (pA (pD d a v)) ((0 : Nat) + Int.toNat (↑a : Int) * (3 : Nat) + (1 : Nat))), Value.int IntKind.i64 (iAt (pA (pD d a v)) ((0 : Nat) + Int.toNat (↑a : Int) * (3 : Nat) + (2 : Nat)))] ≤ List.length (pA (pD d a v))) ∧ Is ((0 : Int) ≤ (↑a : Int) ∧ (↑a : Int) < (↑n : Int)) ∧ Is ((0 : Nat) + Int.toNat (↑a : Int) * (3 : Nat) + List.length [Value.int IntKind.i64 (iAt (pA (pD d a v)) ((0 : Nat) + Int.toNat (↑(pJ d a b v) : Int) * (3 : Nat))), Value.int IntKind.i64 (iAt (pA (pD d a v)) ((0 : Nat) + Int.toNat (↑(pJ d a b v) : Int) * (3 : Nat) + (1 : Nat))), Value.int IntKind.i64 (iAt (pA (pD d a v)) ((0 : Nat) + Int.toNat (↑(pJ d a b v) : Int) * (3 : Nat) + (2 : Nat)))] ≤ List.length (putL (pA (pD d a v)) ((0 : Nat) + Int.toNat (↑(pJ d a b v) : Int) * (3 : Nat)) [Value.int IntKind.i64 (iAt (pA (pD d a v)) ((0 : Nat) + Int.toNat (↑a : Int) * (3 : Nat))), Value.int IntKind.i64 (iAt (pA (pD d a v)) ((0 : Nat) + Int.toNat (↑a : Int) * (3 : Nat) + (1 : Nat))), Value.int IntKind.i64 (iAt (pA (pD d a v)) ((0 : Nat) + Int.toNat (↑a : Int) * (3 : Nat) + (2 : Nat)))])) ∧ K (Value.tuple #[Value.int IntKind.i64 (↑(pJ d a b v) : Int), Value.bool true]) (some (AObj.row (putL (putL (pA (pD d a v)) ((0 : Nat) + Int.toNat (↑(pJ d a b v) : Int) * (3 : Nat)) [Value.int IntKind.i64 (iAt (pA (pD d a v)) ((0 : Nat) + Int.toNat (↑a : Int) * (3 : Nat))), Value.int IntKind.i64 (iAt (pA (pD d a v)) ((0 : Nat) + Int.toNat (↑a : Int) * (3 : Nat) + (1 : Nat))), Value.int IntKind.i64 (iAt (pA (pD d a v)) ((0 : Nat) + Int.toNat (↑a : Int) * (3 : Nat) + (2 : Nat)))]) ((0 : Nat) + Int.toNat (↑a : Int) * (3 : Nat)) [Value.int IntKind.i64 (iAt (pA (pD d a v)) ((0 : Nat) + Int.toNat (↑(pJ d a b v) : Int) * (3 : Nat))), Value.int IntKind.i64 (iAt (pA (pD d a v)) ((0 : Nat) + Int.toNat (↑(pJ d a b v) : Int) * (3 : Nat) + (1 : Nat))), Value.int IntKind.i64 (iAt (pA (pD d a v)) ((0 : Nat) + Int.toNat (↑(pJ d a b v) : Int) * (3 : Nat) + (2 : Nat)))]) (3 : Nat) true true (true && List.all [Value.int IntKind.i64 (iAt (pA (pD d a v)) ((0 : Nat) + Int.toNat (↑a : Int) * (3 : Nat))), Value.int IntKind.i64 (iAt (pA (pD d a v)) ((0 : Nat) + Int.toNat (↑a : Int) * (3 : Nat) + (1 : Nat))), Value.int IntKind.i64 (iAt (pA (pD d a v)) ((0 : Nat) + Int.toNat (↑a : Int) * (3 : Nat) + (2 : Nat)))] atom && List.all [Value.int IntKind.i64 (iAt (pA (pD d a v)) ((0 : Nat) + Int.toNat (↑(pJ d a b v) : Int) * (3 : Nat))), Value.int IntKind.i64 (iAt (pA (pD d a v)) ((0 : Nat) + Int.toNat (↑(pJ d a b v) : Int) * (3 : Nat) + (1 : Nat))), Value.int IntKind.i64 (iAt (pA (pD d a v)) ((0 : Nat) + Int.toNat (↑(pJ d a b v) : Int) * (3 : Nat) + (2 : Nat)))] atom)) :: noH)) (Is ((0 : Int) ≤ (↑(pJ d a b v) : Int) ∧ (↑(pJ d a b v) : Int) < (↑n : Int)) ∧ Is ((if (0 : Nat) + Int.toNat (↑(pJ d a b v) : Int) * (3 : Nat) + (3 : Nat) ≤ List.length (pA (pD d a v)) then some (Value.agg (List.toArray (List.take (3 : Nat) (List.drop ((0 : Nat) + Int.toNat (↑(pJ d a b v) : Int) * (3 : Nat)) (pA (pD d a v)))))) else none) = some (Value.agg #[Value.int IntKind.i64 (iAt (pA (pD d a v)) ((0 : Nat) + Int.toNat (↑(pJ d a b v) : Int) * (3 : Nat))), Value.int IntKind.i64 (iAt (pA (pD d a v)) ((0 : Nat) + Int.toNat (↑(pJ d a b v) : Int) * (3 : Nat) + (1 : Nat))), Value.int IntKind.i64 (iAt (pA (pD d a v)) ((0 : Nat) + Int.toNat (↑(pJ d a b v) : Int) * (3 : Nat) + (2 : Nat)))])) ∧ Is ((0 : Int) ≤ (↑(pI d a b v) : Int) ∧ (↑(pI d a b v) : Int) < (↑n : Int)) ∧ Is ((if (0 : Nat) + Int.toNat (↑(pI d a b v) : Int) * (3 : Nat) + (3 : Nat) ≤ List.length (pA (pD d a v)) then some (Value.agg (List.toArray (List.take (3 : Nat) (List.drop ((0 : Nat) + Int.toNat (↑(pI d a b v) : Int) * (3 : Nat)) (pA (pD d a v)))))) else none) = some (Value.agg #[Value.int IntKind.i64 (iAt (pA (pD d a v)) ((0 : Nat) + Int.toNat (↑(pI d a b v) : Int) * (3 : Nat))), Value.int IntKind.i64 (iAt (pA (pD d a v)) ((0 : Nat) + Int.toNat (↑(pI d a b v) : Int) * (3 : Nat) + (1 : Nat))), Value.int IntKind.i64 (iAt (pA (pD d a v)) ((0 : Nat) + Int.toNat (↑(pI d a b v) : Int) * (3 : Nat) + (2 : Nat)))])) ∧ Is ((0 : Int) ≤ (↑(pI d a b v) : Int) ∧ (↑(pI d a b v) : Int) < (↑n : Int)) ∧ Is ((0 : Nat) + Int.toNat (↑(pI d a b v) : Int) * (3 : Nat) + List.length [Value.int IntKind.i64 (iAt (pA (pD d a v)) ((0 : Nat) + Int.toNat (↑(pJ d a b v) : Int) * (3 : Nat))), Value.int IntKind.i64 (iAt (pA (pD d a v)) ((0 : Nat) + Int.toNat (↑(pJ d a b v) : Int) * (3 : Nat) + (1 : Nat))), Value.int IntKind.i64 (iAt (pA (pD d a v)) ((0 : Nat) + Int.toNat (↑(pJ d a b v) : Int) * (3 : Nat) + (2 : Nat)))] ≤ List.length (pA (pD d a v))) ∧ Is ((0 : Int) ≤ (↑(pJ d a b v) : Int) ∧ (↑(pJ d a b v) : Int) < (↑n : Int)) ∧ Is ((0 : Nat) + Int.toNat (↑(pJ d a b v) : Int) * (3 : Nat) + List.length [Value.int IntKind.i64 (iAt (pA (pD d a v)) ((0 : Nat) + Int.toNat (↑(pI d a b v) : Int) * (3 : Nat))), Value.int IntKind.i64 (iAt (pA (pD d a v)) ((0 : Nat) + Int.toNat (↑(pI d a b v) : Int) * (3 : Nat) + (1 : Nat))), Value.int IntKind.i64 (iAt (pA (pD d a v)) ((0 : Nat) + Int.toNat (↑(pI d a b v) : Int) * (3 : Nat) + (2 : Nat)))] ≤ List.length (putL (pA (pD d a v)) ((0 : Nat) + Int.toNat (↑(pI d a b v) : Int) * (3 : Nat)) [Value.int IntKind.i64 (iAt (pA (pD d a v)) ((0 : Nat) + Int.toNat (↑(pJ d a b v) : Int) * (3 : Nat))), Value.int IntKind.i64 (iAt (pA (pD d a v)) ((0 : Nat) + Int.toNat (↑(pJ d a b v) : Int) * (3 : Nat) + (1 : Nat))), Value.int IntKind.i64 (iAt (pA (pD d a v)) ((0 : Nat) + Int.toNat (↑(pJ d a b v) : Int) * (3 : Nat) + (2 : Nat)))])) ∧ (∃ (p : Nat × Nat × Array Mv), (∃ (s : Nat × Nat × Array Mv), Is (ptV d n a b v s) ∧ (Value.slice (some { block := (0 : Nat), off := (0 : Nat) }) n c = Value.slice (some { block := (0 : Nat), off := (0 : Nat) }) n c ∧ Value.int IntKind.i64 (↑a : Int) = Value.int IntKind.i64 (↑a : Int) ∧ Value.int IntKind.i64 (↑b : Int) = Value.int IntKind.i64 (↑b : Int) ∧ Value.int IntKind.i64 (↑v : Int) = Value.int IntKind.i64 (↑v : Int) ∧ Value.func (Fn.func (32 : Nat)) #[] #[] = Value.func (Fn.func (32 : Nat)) #[] #[] ∧ Value.int IntKind.i64 (0 : Int) = Value.int IntKind.i64 (0 : Int) ∧ Value.bool false = Value.bool false ∧ Value.int IntKind.i64 (IntKind.wrap IntKind.i64 ((↑(pI d a b v) : Int) + (1 : Int))) = Value.int IntKind.i64 (↑(Prod.fst s) : Int) ∧ Value.int IntKind.i64 (IntKind.wrap IntKind.i64 ((↑(pJ d a b v) : Int) - (1 : Int))) = Value.int IntKind.i64 (↑(Prod.fst (Prod.snd s)) : Int) ∧ True) ∧ some (AObj.row (putL (putL (pA (pD d a v)) ((0 : Nat) + Int.toNat (↑(pI d a b v) : Int) * (3 : Nat)) [Value.int IntKind.i64 (iAt (pA (pD d a v)) ((0 : Nat) + Int.toNat (↑(pJ d a b v) : Int) * (3 : Nat))), Value.int IntKind.i64 (iAt (pA (pD d a v)) ((0 : Nat) + Int.toNat (↑(pJ d a b v) : Int) * (3 : Nat) + (1 : Nat))), Value.int IntKind.i64 (iAt (pA (pD d a v)) ((0 : Nat) + Int.toNat (↑(pJ d a b v) : Int) * (3 : Nat) + (2 : Nat)))]) ((0 : Nat) + Int.toNat (↑(pJ d a b v) : Int) * (3 : Nat)) [Value.int IntKind.i64 (iAt (pA (pD d a v)) ((0 : Nat) + Int.toNat (↑(pI d a b v) : Int) * (3 : Nat))), Value.int IntKind.i64 (iAt (pA (pD d a v)) ((0 : Nat) + Int.toNat (↑(pI d a b v) : Int) * (3 : Nat) + (1 : Nat))), Value.int IntKind.i64 (iAt (pA (pD d a v)) ((0 : Nat) + Int.toNat (↑(pI d a b v) : Int) * (3 : Nat) + (2 : Nat)))]) (3 : Nat) true true (true && List.all [Value.int IntKind.i64 (iAt (pA (pD d a v)) ((0 : Nat) + Int.toNat (↑(pJ d a b v) : Int) * (3 : Nat))), Value.int IntKind.i64 (iAt (pA (pD d a v)) ((0 : Nat) + Int.toNat (↑(pJ d a b v) : Int) * (3 : Nat) + (1 : Nat))), Value.int IntKind.i64 (iAt (pA (pD d a v)) ((0 : Nat) + Int.toNat (↑(pJ d a b v) : Int) * (3 : Nat) + (2 : Nat)))] atom && List.all [Value.int IntKind.i64 (iAt (pA (pD d a v)) ((0 : Nat) + Int.toNat (↑(pI d a b v) : Int) * (3 : Nat))), Value.int IntKind.i64 (iAt (pA (pD d a v)) ((0 : Nat) + Int.toNat (↑(pI d a b v) : Int) * (3 : Nat) + (1 : Nat))), Value.int IntKind.i64 (iAt (pA (pD d a v)) ((0 : Nat) + Int.toNat (↑(pI d a b v) : Int) * (3 : Nat) + (2 : Nat)))] atom)) :: noH = some (AObj.row (pA (Prod.snd (Prod.snd s))) (3 : Nat) true true true) :: noH) ∧ ∀ (s : Nat × Nat × Array Mv), Is (ptV d n a b v s) → ∃ (p : Nat × Nat × Array Mv), (∃ (p_1 : Nat × Nat × Array Mv), (∃ (s_1 : Nat), Is (upB (Prod.snd (Prod.snd p_1)) a (Prod.fst (Prod.snd p_1)) s_1 = ptU a p_1 ∧ a + (1 : Nat) ≤ s_1 ∧ s_1 ≤ b) ∧ (Value.slice (some { block := (0 : Nat), off := (0 : Nat) }) n c = Value.slice (some { block := (0 : Nat), off := (0 : Nat) }) n c ∧ Value.int IntKind.i64 (↑a : Int) = Value.int IntKind.i64 (↑a : Int) ∧ Value.int IntKind.i64 (↑b : Int) = Value.int IntKind.i64 (↑b : Int) ∧ Value.int IntKind.i64 (↑v : Int) = Value.int IntKind.i64 (↑v : Int) ∧ Value.func (Fn.func (32 : Nat)) #[] #[] = Value.func (Fn.func (32 : Nat)) #[] #[] ∧ Value.int IntKind.i64 (0 : Int) = Value.int IntKind.i64 (0 : Int) ∧ Value.bool false = Value.bool false ∧ Value.int IntKind.i64 (↑(Prod.fst s) : Int) = Value.int IntKind.i64 (↑s_1 : Int) ∧ Value.int IntKind.i64 (↑(Prod.fst (Prod.snd s)) : Int) = Value.int IntKind.i64 (↑(Prod.fst (Prod.snd p_1)) : Int) ∧ True) ∧ some (AObj.row (pA (Prod.snd (Prod.snd s))) (3 : Nat) true true true) :: noH = some (AObj.row (pA (Prod.snd (Prod.snd p_1))) (3 : Nat) true true true) :: noH) ∧ ∀ (s : Nat), Is (upB (Prod.snd (Prod.snd p_1)) a (Prod.fst (Prod.snd p_1)) s = ptU a p_1 ∧ a + (1 : Nat) ≤ s ∧ s ≤ b) → br (decide ((↑s : Int) ≤ (↑(Prod.fst (Prod.snd p_1)) : Int))) (Is ((0 : Int) ≤ (↑s : Int) ∧ (↑s : Int) < (↑n : Int)) ∧ Is ((if (0 : Nat) + Int.toNat (↑s : Int) * (3 : Nat) + (3 : Nat) ≤ List.length (pA (Prod.snd (Prod.snd p_1))) then some (Value.agg (List.toArray (List.take (3 : Nat) (List.drop ((0 : Nat) + Int.toNat (↑s : Int) * (3 : Nat)) (pA (Prod.snd (Prod.snd p_1))))))) else none) = some (Value.agg #[Value.int IntKind.i64 (iAt (pA (Prod.snd (Prod.snd p_1))) ((0 : Nat) + Int.toNat (↑s : Int) * (3 : Nat))), Value.int IntKind.i64 (iAt (pA (Prod.snd (Prod.snd p_1))) ((0 : Nat) + Int.toNat (↑s : Int) * (3 : Nat) + (1 : Nat))), Value.int IntKind.i64 (iAt (pA (Prod.snd (Prod.snd p_1))) ((0 : Nat) + Int.toNat (↑s : Int) * (3 : Nat) + (2 : Nat)))])) ∧ Is ((0 : Int) ≤ (↑a : Int) ∧ (↑a : Int) < (↑n : Int)) ∧ Is ((if (0 : Nat) + Int.toNat (↑a : Int) * (3 : Nat) + (3 : Nat) ≤ List.length (pA (Prod.snd (Prod.snd p_1))) then some (Value.agg (List.toArray (List.take (3 : Nat) (List.drop ((0 : Nat) + Int.toNat (↑a : Int) * (3 : Nat)) (pA (Prod.snd (Prod.snd p_1))))))) else none) = some (Value.agg #[Value.int IntKind.i64 (iAt (pA (Prod.snd (Prod.snd p_1))) ((0 : Nat) + Int.toNat (↑a : Int) * (3 : Nat))), Value.int IntKind.i64 (iAt (pA (Prod.snd (Prod.snd p_1))) ((0 : Nat) + Int.toNat (↑a : Int) * (3 : Nat) + (1 : Nat))), Value.int IntKind.i64 (iAt (pA (Prod.snd (Prod.snd p_1))) ((0 : Nat) + Int.toNat (↑a : Int) * (3 : Nat) + (2 : Nat)))])) ∧ Is (mvIn (iAt (pA (Prod.snd (Prod.snd p_1))) ((0 : Nat) + Int.toNat (↑s : Int) * (3 : Nat))) (iAt (pA (Prod.snd (Prod.snd p_1))) ((0 : Nat) + Int.toNat (↑s : Int) * (3 : Nat) + (1 : Nat))) ∧ mvIn (iAt (pA (Prod.snd (Prod.snd p_1))) ((0 : Nat) + Int.toNat (↑a : Int) * (3 : Nat))) (iAt (pA (Prod.snd (Prod.snd p_1))) ((0 : Nat) + Int.toNat (↑a : Int) * (3 : Nat) + (1 : Nat)))) ∧ br (decide (cpI (iAt (pA (Prod.snd (Prod.snd p_1))) ((0 : Nat) + Int.toNat (↑s : Int) * (3 : Nat))) (iAt (pA (Prod.snd (Prod.snd p_1))) ((0 : Nat) + Int.toNat (↑s : Int) * (3 : Nat) + (1 : Nat))) (iAt (pA (Prod.snd (Prod.snd p_1))) ((0 : Nat) + Int.toNat (↑s : Int) * (3 : Nat) + (2 : Nat))) (iAt (pA (Prod.snd (Prod.snd p_1))) ((0 : Nat) + Int.toNat (↑a : Int) * (3 : Nat))) (iAt (pA (Prod.snd (Prod.snd p_1))) ((0 : Nat) + Int.toNat (↑a : Int) * (3 : Nat) + (1 : Nat))) (iAt (pA (Prod.snd (Prod.snd p_1))) ((0 : Nat) + Int.toNat (↑a : Int) * (3 : Nat) + (2 : Nat))) < (0 : Int))) (∃ (s' : Nat), Is (upB (Prod.snd (Prod.snd p_1)) a (Prod.fst (Prod.snd p_1)) s' = ptU a p_1 ∧ a + (1 : Nat) ≤ s' ∧ s' ≤ b) ∧ Is (b - s' < b - s) ∧ (Value.slice (some { block := (0 : Nat), off := (0 : Nat) }) n c = Value.slice (some { block := (0 : Nat), off := (0 : Nat) }) n c ∧ Value.int IntKind.i64 (↑a : Int) = Value.int IntKind.i64 (↑a : Int) ∧ Value.int IntKind.i64 (↑b : Int) = Value.int IntKind.i64 (↑b : Int) ∧ Value.int IntKind.i64 (↑v : Int) = Value.int IntKind.i64 (↑v : Int) ∧ Value.func (Fn.func (32 : Nat)) #[] #[] = Value.func (Fn.func (32 : Nat)) #[] #[] ∧ Value.int IntKind.i64 (0 : Int) = Value.int IntKind.i64 (0 : Int) ∧ Value.bool false = Value.bool false ∧ Value.int IntKind.i64 (IntKind.wrap IntKind.i64 ((↑s : Int) + (1 : Int))) = Value.int IntKind.i64 (↑s' : Int) ∧ Value.int IntKind.i64 (↑(Prod.fst (Prod.snd p_1)) : Int) = Value.int IntKind.i64 (↑(Prod.fst (Prod.snd p_1)) : Int) ∧ True) ∧ some (AObj.row (pA (Prod.snd (Prod.snd p_1))) (3 : Nat) true true true) :: noH = some (AObj.row (pA (Prod.snd (Prod.snd p_1))) (3 : Nat) true true true) :: noH) (∃ (s_1 : Nat), Is (s_1 = (0 : Nat) ∧ True) ∧ (Value.slice (some { block := (0 : Nat), off := (0 : Nat) }) n c = Value.slice (some { block := (0 : Nat), off := (0 : Nat) }) n c ∧ Value.int IntKind.i64 (↑a : Int) = Value.int IntKind.i64 (↑a : Int) ∧ Value.int IntKind.i64 (↑b : Int) = Value.int IntKind.i64 (↑b : Int) ∧ Value.int IntKind.i64 (↑v : Int) = Value.int IntKind.i64 (↑v : Int) ∧ Value.func (Fn.func (32 : Nat)) #[] #[] = Value.func (Fn.func (32 : Nat)) #[] #[] ∧ Value.int IntKind.i64 (0 : Int) = Value.int IntKind.i64 (0 : Int) ∧ Value.bool false = Value.bool false ∧ Value.int IntKind.i64 (↑s : Int) = Value.int IntKind.i64 (↑(ptU a p) : Int) ∧ Value.int IntKind.i64 (↑(Prod.fst (Prod.snd p_1)) : Int) = Value.int IntKind.i64 (↑(Prod.fst (Prod.snd p)) : Int) ∧ True) ∧ some (AObj.row (pA (Prod.snd (Prod.snd p_1))) (3 : Nat) true true true) :: noH = some (AObj.row (pA (Prod.snd (Prod.snd p))) (3 : Nat) true true true) :: noH)) (∃ (s_1 : Nat), Is (s_1 = (0 : Nat) ∧ True) ∧ (Value.slice (some { block := (0 : Nat), off := (0 : Nat) }) n c = Value.slice (some { block := (0 : Nat), off := (0 : Nat) }) n c ∧ Value.int IntKind.i64 (↑a : Int) = Value.int IntKind.i64 (↑a : Int) ∧ Value.int IntKind.i64 (↑b : Int) = Value.int IntKind.i64 (↑b : Int) ∧ Value.int IntKind.i64 (↑v : Int) = Value.int IntKind.i64 (↑v : Int) ∧ Value.func (Fn.func (32 : Nat)) #[] #[] = Value.func (Fn.func (32 : Nat)) #[] #[] ∧ Value.int IntKind.i64 (0 : Int) = Value.int IntKind.i64 (0 : Int) ∧ Value.bool false = Value.bool false ∧ Value.int IntKind.i64 (↑s : Int) = Value.int IntKind.i64 (↑(ptU a p) : Int) ∧ Value.int IntKind.i64 (↑(Prod.fst (Prod.snd p_1)) : Int) = Value.int IntKind.i64 (↑(Prod.fst (Prod.snd p)) : Int) ∧ True) ∧ some (AObj.row (pA (Prod.snd (Prod.snd p_1))) (3 : Nat) true true true) :: noH = some (AObj.row (pA (Prod.snd (Prod.snd p))) (3 : Nat) true true true) :: noH)) ∧ ∀ (s_1 : Nat), Is (s_1 = (0 : Nat) ∧ True) → ∃ (p_1 : Nat × Nat × Array Mv), (∃ (p_2 : Nat × Nat × Array Mv), (∃ (s : Nat), Is (dnB (Prod.snd (Prod.snd p_2)) a (ptU a p_2) s = ptD a p_2 ∧ a ≤ s ∧ s < b) ∧ (Value.slice (some { block := (0 : Nat), off := (0 : Nat) }) n c = Value.slice (some { block := (0 : Nat), off := (0 : Nat) }) n c ∧ Value.int IntKind.i64 (↑a : Int) = Value.int IntKind.i64 (↑a : Int) ∧ Value.int IntKind.i64 (↑b : Int) = Value.int IntKind.i64 (↑b : Int) ∧ Value.int IntKind.i64 (↑v : Int) = Value.int IntKind.i64 (↑v : Int) ∧ Value.func (Fn.func (32 : Nat)) #[] #[] = Value.func (Fn.func (32 : Nat)) #[] #[] ∧ Value.int IntKind.i64 (0 : Int) = Value.int IntKind.i64 (0 : Int) ∧ Value.bool false = Value.bool false ∧ Value.int IntKind.i64 (↑(ptU a p) : Int) = Value.int IntKind.i64 (↑(ptU a p_2) : Int) ∧ Value.int IntKind.i64 (↑(Prod.fst (Prod.snd p)) : Int) = Value.int IntKind.i64 (↑s : Int) ∧ True) ∧ some (AObj.row (pA (Prod.snd (Prod.snd p))) (3 : Nat) true true true) :: noH = some (AObj.row (pA (Prod.snd (Prod.snd p_2))) (3 : Nat) true true true) :: noH) ∧ ∀ (s : Nat), Is (dnB (Prod.snd (Prod.snd p_2)) a (ptU a p_2) s = ptD a p_2 ∧ a ≤ s ∧ s < b) → br (decide ((↑(ptU a p_2) : Int) ≤ (↑s : Int))) (Is ((0 : Int) ≤ (↑s : Int) ∧ (↑s : Int) < (↑n : Int)) ∧ Is ((if (0 : Nat) + Int.toNat (↑s : Int) * (3 : Nat) + (3 : Nat) ≤ List.length (pA (Prod.snd (Prod.snd p_2))) then some (Value.agg (List.toArray (List.take (3 : Nat) (List.drop ((0 : Nat) + Int.toNat (↑s : Int) * (3 : Nat)) (pA (Prod.snd (Prod.snd p_2))))))) else none) = some (Value.agg #[Value.int IntKind.i64 (iAt (pA (Prod.snd (Prod.snd p_2))) ((0 : Nat) + Int.toNat (↑s : Int) * (3 : Nat))), Value.int IntKind.i64 (iAt (pA (Prod.snd (Prod.snd p_2))) ((0 : Nat) + Int.toNat (↑s : Int) * (3 : Nat) + (1 : Nat))), Value.int IntKind.i64 (iAt (pA (Prod.snd (Prod.snd p_2))) ((0 : Nat) + Int.toNat (↑s : Int) * (3 : Nat) + (2 : Nat)))])) ∧ Is ((0 : Int) ≤ (↑a : Int) ∧ (↑a : Int) < (↑n : Int)) ∧ Is ((if (0 : Nat) + Int.toNat (↑a : Int) * (3 : Nat) + (3 : Nat) ≤ List.length (pA (Prod.snd (Prod.snd p_2))) then some (Value.agg (List.toArray (List.take (3 : Nat) (List.drop ((0 : Nat) + Int.toNat (↑a : Int) * (3 : Nat)) (pA (Prod.snd (Prod.snd p_2))))))) else none) = some (Value.agg #[Value.int IntKind.i64 (iAt (pA (Prod.snd (Prod.snd p_2))) ((0 : Nat) + Int.toNat (↑a : Int) * (3 : Nat))), Value.int IntKind.i64 (iAt (pA (Prod.snd (Prod.snd p_2))) ((0 : Nat) + Int.toNat (↑a : Int) * (3 : Nat) + (1 : Nat))), Value.int IntKind.i64 (iAt (pA (Prod.snd (Prod.snd p_2))) ((0 : Nat) + Int.toNat (↑a : Int) * (3 : Nat) + (2 : Nat)))])) ∧ Is (mvIn (iAt (pA (Prod.snd (Prod.snd p_2))) ((0 : Nat) + Int.toNat (↑s : Int) * (3 : Nat))) (iAt (pA (Prod.snd (Prod.snd p_2))) ((0 : Nat) + Int.toNat (↑s : Int) * (3 : Nat) + (1 : Nat))) ∧ mvIn (iAt (pA (Prod.snd (Prod.snd p_2))) ((0 : Nat) + Int.toNat (↑a : Int) * (3 : Nat))) (iAt (pA (Prod.snd (Prod.snd p_2))) ((0 : Nat) + Int.toNat (↑a : Int) * (3 : Nat) + (1 : Nat)))) ∧ br (!decide (cpI (iAt (pA (Prod.snd (Prod.snd p_2))) ((0 : Nat) + Int.toNat (↑s : Int) * (3 : Nat))) (iAt (pA (Prod.snd (Prod.snd p_2))) ((0 : Nat) + Int.toNat (↑s : Int) * (3 : Nat) + (1 : Nat))) (iAt (pA (Prod.snd (Prod.snd p_2))) ((0 : Nat) + Int.toNat (↑s : Int) * (3 : Nat) + (2 : Nat))) (iAt (pA (Prod.snd (Prod.snd p_2))) ((0 : Nat) + Int.toNat (↑a : Int) * (3 : Nat))) (iAt (pA (Prod.snd (Prod.snd p_2))) ((0 : Nat) + Int.toNat (↑a : Int) * (3 : Nat) + (1 : Nat))) (iAt (pA (Prod.snd (Prod.snd p_2))) ((0 : Nat) + Int.toNat (↑a : Int) * (3 : Nat) + (2 : Nat))) < (0 : Int))) (∃ (s' : Nat), Is (dnB (Prod.snd (Prod.snd p_2)) a (ptU a p_2) s' = ptD a p_2 ∧ a ≤ s' ∧ s' < b) ∧ Is (s' < s) ∧ (Value.slice (some { block := (0 : Nat), off := (0 : Nat) }) n c = Value.slice (some { block := (0 : Nat), off := (0 : Nat) }) n c ∧ Value.int IntKind.i64 (↑a : Int) = Value.int IntKind.i64 (↑a : Int) ∧ Value.int IntKind.i64 (↑b : Int) = Value.int IntKind.i64 (↑b : Int) ∧ Value.int IntKind.i64 (↑v : Int) = Value.int IntKind.i64 (↑v : Int) ∧ Value.func (Fn.func (32 : Nat)) #[] #[] = Value.func (Fn.func (32 : Nat)) #[] #[] ∧ Value.int IntKind.i64 (0 : Int) = Value.int IntKind.i64 (0 : Int) ∧ Value.bool false = Value.bool false ∧ Value.int IntKind.i64 (↑(ptU a p_2) : Int) = Value.int IntKind.i64 (↑(ptU a p_2) : Int) ∧ Value.int IntKind.i64 (IntKind.wrap IntKind.i64 ((↑s : Int) - (1 : Int))) = Value.int IntKind.i64 (↑s' : Int) ∧ True) ∧ some (AObj.row (pA (Prod.snd (Prod.snd p_2))) (3 : Nat) true true true) :: noH = some (AObj.row (pA (Prod.snd (Prod.snd p_2))) (3 : Nat) true true true) :: noH) (∃ (s_2 : Nat), Is (s_2 = (0 : Nat) ∧ True) ∧ (Value.slice (some { block := (0 : Nat), off := (0 : Nat) }) n c = Value.slice (some { block := (0 : Nat), off := (0 : Nat) }) n c ∧ Value.int IntKind.i64 (↑a : Int) = Value.int IntKind.i64 (↑a : Int) ∧ Value.int IntKind.i64 (↑b : Int) = Value.int IntKind.i64 (↑b : Int) ∧ Value.int IntKind.i64 (↑v : Int) = Value.int IntKind.i64 (↑v : Int) ∧ Value.func (Fn.func (32 : Nat)) #[] #[] = Value.func (Fn.func (32 : Nat)) #[] #[] ∧ Value.int IntKind.i64 (0 : Int) = Value.int IntKind.i64 (0 : Int) ∧ Value.bool false = Value.bool false ∧ Value.int IntKind.i64 (↑(ptU a p_2) : Int) = Value.int IntKind.i64 (↑(ptU a p_1) : Int) ∧ Value.int IntKind.i64 (↑s : Int) = Value.int IntKind.i64 (↑(ptD a p_1) : Int) ∧ True) ∧ some (AObj.row (pA (Prod.snd (Prod.snd p_2))) (3 : Nat) true true true) :: noH = some (AObj.row (pA (Prod.snd (Prod.snd p_1))) (3 : Nat) true true true) :: noH)) (∃ (s_2 : Nat), Is (s_2 = (0 : Nat) ∧ True) ∧ (Value.slice (some { block := (0 : Nat), off := (0 : Nat) }) n c = Value.slice (some { block := (0 : Nat), off := (0 : Nat) }) n c ∧ Value.int IntKind.i64 (↑a : Int) = Value.int IntKind.i64 (↑a : Int) ∧ Value.int IntKind.i64 (↑b : Int) = Value.int IntKind.i64 (↑b : Int) ∧ Value.int IntKind.i64 (↑v : Int) = Value.int IntKind.i64 (↑v : Int) ∧ Value.func (Fn.func (32 : Nat)) #[] #[] = Value.func (Fn.func (32 : Nat)) #[] #[] ∧ Value.int IntKind.i64 (0 : Int) = Value.int IntKind.i64 (0 : Int) ∧ Value.bool false = Value.bool false ∧ Value.int IntKind.i64 (↑(ptU a p_2) : Int) = Value.int IntKind.i64 (↑(ptU a p_1) : Int) ∧ Value.int IntKind.i64 (↑s : Int) = Value.int IntKind.i64 (↑(ptD a p_1) : Int) ∧ True) ∧ some (AObj.row (pA (Prod.snd (Prod.snd p_2))) (3 : Nat) true true true) :: noH = some (AObj.row (pA (Prod.snd (Prod.snd p_1))) (3 : Nat) true true true) :: noH)) ∧ ∀ (s_2 : Nat), Is (s_2 = (0 : Nat) ∧ True) → br (decide ((↑(ptD a p_1) : Int) < (↑(ptU a p_1) : Int))) (∃ (s : Nat), Is (s = (0 : Nat) ∧ True) ∧ (Value.slice (some { block := (0 : Nat), off := (0 : Nat) }) n c = Value.slice (some { block := (0 : Nat), off := (0 : Nat) }) n c ∧ Value.int IntKind.i64 (↑a : Int) = Value.int IntKind.i64 (↑a : Int) ∧ Value.int IntKind.i64 (↑b : Int) = Value.int IntKind.i64 (↑b : Int) ∧ Value.int IntKind.i64 (↑v : Int) = Value.int IntKind.i64 (↑v : Int) ∧ Value.func (Fn.func (32 : Nat)) #[] #[] = Value.func (Fn.func (32 : Nat)) #[] #[] ∧ Value.int IntKind.i64 (0 : Int) = Value.int IntKind.i64 (0 : Int) ∧ Value.bool false = Value.bool false ∧ Value.int IntKind.i64 (↑(ptD a p_1) : Int) = Value.int IntKind.i64 (↑(pTn d a b v) : Int) ∧ True) ∧ some (AObj.row (pA (Prod.snd (Prod.snd p_1))) (3 : Nat) true true true) :: noH = some (AObj.row (pA (pTa d a b v)) (3 : Nat) true true true) :: noH) (Is ((0 : Int) ≤ (↑(ptD a p_1) : Int) ∧ (↑(ptD a p_1) : Int) < (↑n : Int)) ∧ Is ((if (0 : Nat) + Int.toNat (↑(ptD a p_1) : Int) * (3 : Nat) + (3 : Nat) ≤ List.length (pA (Prod.snd (Prod.snd p_1))) then some (Value.agg (List.toArray (List.take (3 : Nat) (List.drop ((0 : Nat) + Int.toNat (↑(ptD a p_1) : Int) * (3 : Nat)) (pA (Prod.snd (Prod.snd p_1))))))) else none) = some (Value.agg #[Value.int IntKind.i64 (iAt (pA (Prod.snd (Prod.snd p_1))) ((0 : Nat) + Int.toNat (↑(ptD a p_1) : Int) * (3 : Nat))), Value.int IntKind.i64 (iAt (pA (Prod.snd (Prod.snd p_1))) ((0 : Nat) + Int.toNat (↑(ptD a p_1) : Int) * (3 : Nat) + (1 : Nat))), Value.int IntKind.i64 (iAt (pA (Prod.snd (Prod.snd p_1))) ((0 : Nat) + Int.toNat (↑(ptD a p_1) : Int) * (3 : Nat) + (2 : Nat)))])) ∧ Is ((0 : Int) ≤ (↑(ptU a p_1) : Int) ∧ (↑(ptU a p_1) : Int) < (↑n : Int)) ∧ Is ((if (0 : Nat) + Int.toNat (↑(ptU a p_1) : Int) * (3 : Nat) + (3 : Nat) ≤ List.length (pA (Prod.snd (Prod.snd p_1))) then some (Value.agg (List.toArray (List.take (3 : Nat) (List.drop ((0 : Nat) + Int.toNat (↑(ptU a p_1) : Int) * (3 : Nat)) (pA (Prod.snd (Prod.snd p_1))))))) else none) = some (Value.agg #[Value.int IntKind.i64 (iAt (pA (Prod.snd (Prod.snd p_1))) ((0 : Nat) + Int.toNat (↑(ptU a p_1) : Int) * (3 : Nat))), Value.int IntKind.i64 (iAt (pA (Prod.snd (Prod.snd p_1))) ((0 : Nat) + Int.toNat (↑(ptU a p_1) : Int) * (3 : Nat) + (1 : Nat))), Value.int IntKind.i64 (iAt (pA (Prod.snd (Prod.snd p_1))) ((0 : Nat) + Int.toNat (↑(ptU a p_1) : Int) * (3 : Nat) + (2 : Nat)))])) ∧ Is ((0 : Int) ≤ (↑(ptU a p_1) : Int) ∧ (↑(ptU a p_1) : Int) < (↑n : Int)) ∧ Is ((0 : Nat) + Int.toNat (↑(ptU a p_1) : Int) * (3 : Nat) + List.length [Value.int IntKind.i64 (iAt (pA (Prod.snd (Prod.snd p_1))) ((0 : Nat) + Int.toNat (↑(ptD a p_1) : Int) * (3 : Nat))), Value.int IntKind.i64 (iAt (pA (Prod.snd (Prod.snd p_1))) ((0 : Nat) + Int.toNat (↑(ptD a p_1) : Int) * (3 : Nat) + (1 : Nat))), Value.int IntKind.i64 (iAt (pA (Prod.snd (Prod.snd p_1))) ((0 : Nat) + Int.toNat (↑(ptD a p_1) : Int) * (3 : Nat) + (2 : Nat)))] ≤ List.length (pA (Prod.snd (Prod.snd p_1)))) ∧ Is ((0 : Int) ≤ (↑(ptD a p_1) : Int) ∧ (↑(ptD a p_1) : Int) < (↑n : Int)) ∧ Is ((0 : Nat) + Int.toNat (↑(ptD a p_1) : Int) * (3 : Nat) + List.length [Value.int IntKind.i64 (iAt (pA (Prod.snd (Prod.snd p_1))) ((0 : Nat) + Int.toNat (↑(ptU a p_1) : Int) * (3 : Nat))), Value.int IntKind.i64 (iAt (pA (Prod.snd (Prod.snd p_1))) ((0 : Nat) + Int.toNat (↑(ptU a p_1) : Int) * (3 : Nat) + (1 : Nat))), Value.int IntKind.i64 (iAt (pA (Prod.snd (Prod.snd p_1))) ((0 : Nat) + Int.toNat (↑(ptU a p_1) : Int) * (3 : Nat) + (2 : Nat)))] ≤ List.length (putL (pA (Prod.snd (Prod.snd p_1))) ((0 : Nat) + Int.toNat (↑(ptU a p_1) : Int) * (3 : Nat)) [Value.int IntKind.i64 (iAt (pA (Prod.snd (Prod.snd p_1))) ((0 : Nat) + Int.toNat (↑(ptD a p_1) : Int) * (3 : Nat))), Value.int IntKind.i64 (iAt (pA (Prod.snd (Prod.snd p_1))) ((0 : Nat) + Int.toNat (↑(ptD a p_1) : Int) * (3 : Nat) + (1 : Nat))), Value.int IntKind.i64 (iAt (pA (Prod.snd (Prod.snd p_1))) ((0 : Nat) + Int.toNat (↑(ptD a p_1) : Int) * (3 : Nat) + (2 : Nat)))])) ∧ ∃ (s' : Nat × Nat × Array Mv), Is (ptV d n a b v s') ∧ Is (Prod.fst (Prod.snd s') + (1 : Nat) - Prod.fst s' < Prod.fst (Prod.snd s) + (1 : Nat) - Prod.fst s) ∧ (Value.slice (some { block := (0 : Nat), off := (0 : Nat) }) n c = Value.slice (some { block := (0 : Nat), off := (0 : Nat) }) n c ∧ Value.int IntKind.i64 (↑a : Int) = Value.int IntKind.i64 (↑a : Int) ∧ Value.int IntKind.i64 (↑b : Int) = Value.int IntKind.i64 (↑b : Int) ∧ Value.int IntKind.i64 (↑v : Int) = Value.int IntKind.i64 (↑v : Int) ∧ Value.func (Fn.func (32 : Nat)) #[] #[] = Value.func (Fn.func (32 : Nat)) #[] #[] ∧ Value.int IntKind.i64 (0 : Int) = Value.int IntKind.i64 (0 : Int) ∧ Value.bool false = Value.bool false ∧ Value.int IntKind.i64 (IntKind.wrap IntKind.i64 ((↑(ptU a p_1) : Int) + (1 : Int))) = Value.int IntKind.i64 (↑(Prod.fst s') : Int) ∧ Value.int IntKind.i64 (IntKind.wrap IntKind.i64 ((↑(ptD a p_1) : Int) - (1 : Int))) = Value.int IntKind.i64 (↑(Prod.fst (Prod.snd s')) : Int) ∧ True) ∧ some (AObj.row (putL (putL (pA (Prod.snd (Prod.snd p_1))) ((0 : Nat) + Int.toNat (↑(ptU a p_1) : Int) * (3 : Nat)) [Value.int IntKind.i64 (iAt (pA (Prod.snd (Prod.snd p_1))) ((0 : Nat) + Int.toNat (↑(ptD a p_1) : Int) * (3 : Nat))), Value.int IntKind.i64 (iAt (pA (Prod.snd (Prod.snd p_1))) ((0 : Nat) + Int.toNat (↑(ptD a p_1) : Int) * (3 : Nat) + (1 : Nat))), Value.int IntKind.i64 (iAt (pA (Prod.snd (Prod.snd p_1))) ((0 : Nat) + Int.toNat (↑(ptD a p_1) : Int) * (3 : Nat) + (2 : Nat)))]) ((0 : Nat) + Int.toNat (↑(ptD a p_1) : Int) * (3 : Nat)) [Value.int IntKind.i64 (iAt (pA (Prod.snd (Prod.snd p_1))) ((0 : Nat) + Int.toNat (↑(ptU a p_1) : Int) * (3 : Nat))), Value.int IntKind.i64 (iAt (pA (Prod.snd (Prod.snd p_1))) ((0 : Nat) + Int.toNat (↑(ptU a p_1) : Int) * (3 : Nat) + (1 : Nat))), Value.int IntKind.i64 (iAt (pA (Prod.snd (Prod.snd p_1))) ((0 : Nat) + Int.toNat (↑(ptU a p_1) : Int) * (3 : Nat) + (2 : Nat)))]) (3 : Nat) true true (true && List.all [Value.int IntKind.i64 (iAt (pA (Prod.snd (Prod.snd p_1))) ((0 : Nat) + Int.toNat (↑(ptD a p_1) : Int) * (3 : Nat))), Value.int IntKind.i64 (iAt (pA (Prod.snd (Prod.snd p_1))) ((0 : Nat) + Int.toNat (↑(ptD a p_1) : Int) * (3 : Nat) + (1 : Nat))), Value.int IntKind.i64 (iAt (pA (Prod.snd (Prod.snd p_1))) ((0 : Nat) + Int.toNat (↑(ptD a p_1) : Int) * (3 : Nat) + (2 : Nat)))] atom && List.all [Value.int IntKind.i64 (iAt (pA (Prod.snd (Prod.snd p_1))) ((0 : Nat) + Int.toNat (↑(ptU a p_1) : Int) * (3 : Nat))), Value.int IntKind.i64 (iAt (pA (Prod.snd (Prod.snd p_1))) ((0 : Nat) + Int.toNat (↑(ptU a p_1) : Int) * (3 : Nat) + (1 : Nat))), Value.int IntKind.i64 (iAt (pA (Prod.snd (Prod.snd p_1))) ((0 : Nat) + Int.toNat (↑(ptU a p_1) : Int) * (3 : Nat) + (2 : Nat)))] atom)) :: noH = some (AObj.row (pA (Prod.snd (Prod.snd s'))) (3 : Nat) true true true) :: noH)) ∧ ∀ (s : Nat), Is (s = (0 : Nat) ∧ True) → Is ((0 : Int) ≤ (↑a : Int) ∧ (↑a : Int) < (↑n : Int)) ∧ Is ((if (0 : Nat) + Int.toNat (↑a : Int) * (3 : Nat) + (3 : Nat) ≤ List.length (pA (pTa d a b v)) then some (Value.agg (List.toArray (List.take (3 : Nat) (List.drop ((0 : Nat) + Int.toNat (↑a : Int) * (3 : Nat)) (pA (pTa d a b v)))))) else none) = some (Value.agg #[Value.int IntKind.i64 (iAt (pA (pTa d a b v)) ((0 : Nat) + Int.toNat (↑a : Int) * (3 : Nat))), Value.int IntKind.i64 (iAt (pA (pTa d a b v)) ((0 : Nat) + Int.toNat (↑a : Int) * (3 : Nat) + (1 : Nat))), Value.int IntKind.i64 (iAt (pA (pTa d a b v)) ((0 : Nat) + Int.toNat (↑a : Int) * (3 : Nat) + (2 : Nat)))])) ∧ Is ((0 : Int) ≤ (↑(pTn d a b v) : Int) ∧ (↑(pTn d a b v) : Int) < (↑n : Int)) ∧ Is ((if (0 : Nat) + Int.toNat (↑(pTn d a b v) : Int) * (3 : Nat) + (3 : Nat) ≤ List.length (pA (pTa d a b v)) then some (Value.agg (List.toArray (List.take (3 : Nat) (List.drop ((0 : Nat) + Int.toNat (↑(pTn d a b v) : Int) * (3 : Nat)) (pA (pTa d a b v)))))) else none) = some (Value.agg #[Value.int IntKind.i64 (iAt (pA (pTa d a b v)) ((0 : Nat) + Int.toNat (↑(pTn d a b v) : Int) * (3 : Nat))), Value.int IntKind.i64 (iAt (pA (pTa d a b v)) ((0 : Nat) + Int.toNat (↑(pTn d a b v) : Int) * (3 : Nat) + (1 : Nat))), Value.int IntKind.i64 (iAt (pA (pTa d a b v)) ((0 : Nat) + Int.toNat (↑(pTn d a b v) : Int) * (3 : Nat) + (2 : Nat)))])) ∧ Is ((0 : Int) ≤ (↑(pTn d a b v) : Int) ∧ (↑(pTn d a b v) : Int) < (↑n : Int)) ∧ Is ((0 : Nat) + Int.toNat (↑(pTn d a b v) : Int) * (3 : Nat) + List.length [Value.int IntKind.i64 (iAt (pA (pTa d a b v)) ((0 : Nat) + Int.toNat (↑a : Int) * (3 : Nat))), Value.int IntKind.i64 (iAt (pA (pTa d a b v)) ((0 : Nat) + Int.toNat (↑a : Int) * (3 : Nat) + (1 : Nat))), Value.int IntKind.i64 (iAt (pA (pTa d a b v)) ((0 : Nat) + Int.toNat (↑a : Int) * (3 : Nat) + (2 : Nat)))] ≤ List.length (pA (pTa d a b v))) ∧ Is ((0 : Int) ≤ (↑a : Int) ∧ (↑a : Int) < (↑n : Int)) ∧ Is ((0 : Nat) + Int.toNat (↑a : Int) * (3 : Nat) + List.length [Value.int IntKind.i64 (iAt (pA (pTa d a b v)) ((0 : Nat) + Int.toNat (↑(pTn d a b v) : Int) * (3 : Nat))), Value.int IntKind.i64 (iAt (pA (pTa d a b v)) ((0 : Nat) + Int.toNat (↑(pTn d a b v) : Int) * (3 : Nat) + (1 : Nat))), Value.int IntKind.i64 (iAt (pA (pTa d a b v)) ((0 : Nat) + Int.toNat (↑(pTn d a b v) : Int) * (3 : Nat) + (2 : Nat)))] ≤ List.length (putL (pA (pTa d a b v)) ((0 : Nat) + Int.toNat (↑(pTn d a b v) : Int) * (3 : Nat)) [Value.int IntKind.i64 (iAt (pA (pTa d a b v)) ((0 : Nat) + Int.toNat (↑a : Int) * (3 : Nat))), Value.int IntKind.i64 (iAt (pA (pTa d a b v)) ((0 : Nat) + Int.toNat (↑a : Int) * (3 : Nat) + (1 : Nat))), Value.int IntKind.i64 (iAt (pA (pTa d a b v)) ((0 : Nat) + Int.toNat (↑a : Int) * (3 : Nat) + (2 : Nat)))])) ∧ K (Value.tuple #[Value.int IntKind.i64 (↑(pTn d a b v) : Int), Value.bool false]) (some (AObj.row (putL (putL (pA (pTa d a b v)) ((0 : Nat) + Int.toNat (↑(pTn d a b v) : Int) * (3 : Nat)) [Value.int IntKind.i64 (iAt (pA (pTa d a b v)) ((0 : Nat) + Int.toNat (↑a : Int) * (3 : Nat))), Value.int IntKind.i64 (iAt (pA (pTa d a b v)) ((0 : Nat) + Int.toNat (↑a : Int) * (3 : Nat) + (1 : Nat))), Value.int IntKind.i64 (iAt (pA (pTa d a b v)) ((0 : Nat) + Int.toNat (↑a : Int) * (3 : Nat) + (2 : Nat)))]) ((0 : Nat) + Int.toNat (↑a : Int) * (3 : Nat)) [Value.int IntKind.i64 (iAt (pA (pTa d a b v)) ((0 : Nat) + Int.toNat (↑(pTn d a b v) : Int) * (3 : Nat))), Value.int IntKind.i64 (iAt (pA (pTa d a b v)) ((0 : Nat) + Int.toNat (↑(pTn d a b v) : Int) * (3 : Nat) + (1 : Nat))), Value.int IntKind.i64 (iAt (pA (pTa d a b v)) ((0 : Nat) + Int.toNat (↑(pTn d a b v) : Int) * (3 : Nat) + (2 : Nat)))]) (3 : Nat) true true (true && List.all [Value.int IntKind.i64 (iAt (pA (pTa d a b v)) ((0 : Nat) + Int.toNat (↑a : Int) * (3 : Nat))), Value.int IntKind.i64 (iAt (pA (pTa d a b v)) ((0 : Nat) + Int.toNat (↑a : Int) * (3 : Nat) + (1 : Nat))), Value.int IntKind.i64 (iAt (pA (pTa d a b v)) ((0 : Nat) + Int.toNat (↑a : Int) * (3 : Nat) + (2 : Nat)))] atom && List.all [Value.int IntKind.i64 (iAt (pA (pTa d a b v)) ((0 : Nat) + Int.toNat (↑(pTn d a b v) : Int) * (3 : Nat))), Value.int IntKind.i64 (iAt (pA (pTa d a b v)) ((0 : Nat) + Int.toNat (↑(pTn d a b v) : Int) * (3 : Nat) + (1 : Nat))), Value.int IntKind.i64 (iAt (pA (pTa d a b v)) ((0 : Nat) + Int.toNat (↑(pTn d a b v) : Int) * (3 : Nat) + (2 : Nat)))] atom)) :: noH))) := by kernel_rfl
theorem ldR {e : Array Mv} {n i : Nat} (hu : gdM e n) (hi : i < n) : (if 0 + (i : Int).toNat * 3 + 3 ≤ List.length (pA e) then some (Value.agg (List.toArray (List.take 3 (List.drop (0 + (i : Int).toNat * 3) (pA e))))) else none) = some (gMv (pA e) (0 + (i : Int).toNat * 3)) := by
  rw [k3]
  exact pA_ld (by rw [hu.1]; exact hi)
/-- Two of a row that are held against each other. -/
theorem cmS {e : Array Mv} {n i j : Nat} (hu : gdM e n) (hi : i < n) (hj : j < n) {X : Prop} (hX : X) :
    Is ((0 : Int) ≤ (i : Int) ∧ (i : Int) < (n : Int)) ∧ Is ((if 0 + (i : Int).toNat * 3 + 3 ≤ List.length (pA e) then some (Value.agg (List.toArray (List.take 3 (List.drop (0 + (i : Int).toNat * 3) (pA e))))) else none) = some (gMv (pA e) (0 + (i : Int).toNat * 3))) ∧
    Is ((0 : Int) ≤ (j : Int) ∧ (j : Int) < (n : Int)) ∧ Is ((if 0 + (j : Int).toNat * 3 + 3 ≤ List.length (pA e) then some (Value.agg (List.toArray (List.take 3 (List.drop (0 + (j : Int).toNat * 3) (pA e))))) else none) = some (gMv (pA e) (0 + (j : Int).toNat * 3))) ∧
    Is (mvIn (iAt (pA e) (0 + (i : Int).toNat * 3)) (iAt (pA e) (0 + (i : Int).toNat * 3 + 1)) ∧ mvIn (iAt (pA e) (0 + (j : Int).toNat * 3)) (iAt (pA e) (0 + (j : Int).toNat * 3 + 1))) ∧ X := by
  refine ⟨⟨by omega, by omega⟩, ⟨ldR hu hi⟩, ⟨by omega, by omega⟩, ⟨ldR hu hj⟩, ⟨?_, ?_⟩, hX⟩
  · rw [k3]; exact in_at (by rw [hu.1]; exact hi) hu.2.2
  · rw [k3]; exact in_at (by rw [hu.1]; exact hj) hu.2.2
/-- Two of a row that change places. -/
theorem swS {e : Array Mv} {n i j : Nat} (hu : gdM e n) (hi : i < n) (hj : j < n) {X : Prop} (hX : X) :
    Is ((0 : Int) ≤ (j : Int) ∧ (j : Int) < (n : Int)) ∧ Is ((if 0 + (j : Int).toNat * 3 + 3 ≤ List.length (pA e) then some (Value.agg (List.toArray (List.take 3 (List.drop (0 + (j : Int).toNat * 3) (pA e))))) else none) = some (gMv (pA e) (0 + (j : Int).toNat * 3))) ∧
    Is ((0 : Int) ≤ (i : Int) ∧ (i : Int) < (n : Int)) ∧ Is ((if 0 + (i : Int).toNat * 3 + 3 ≤ List.length (pA e) then some (Value.agg (List.toArray (List.take 3 (List.drop (0 + (i : Int).toNat * 3) (pA e))))) else none) = some (gMv (pA e) (0 + (i : Int).toNat * 3))) ∧
    Is ((0 : Int) ≤ (i : Int) ∧ (i : Int) < (n : Int)) ∧ Is (0 + (i : Int).toNat * 3 + List.length [Value.int .i64 (iAt (pA e) (0 + (j : Int).toNat * 3)), Value.int .i64 (iAt (pA e) (0 + (j : Int).toNat * 3 + 1)), Value.int .i64 (iAt (pA e) (0 + (j : Int).toNat * 3 + 2))] ≤ List.length (pA e)) ∧
    Is ((0 : Int) ≤ (j : Int) ∧ (j : Int) < (n : Int)) ∧ Is (0 + (j : Int).toNat * 3 + List.length [Value.int .i64 (iAt (pA e) (0 + (i : Int).toNat * 3)), Value.int .i64 (iAt (pA e) (0 + (i : Int).toNat * 3 + 1)), Value.int .i64 (iAt (pA e) (0 + (i : Int).toNat * 3 + 2))] ≤
      List.length (putL (pA e) (0 + (i : Int).toNat * 3) [Value.int .i64 (iAt (pA e) (0 + (j : Int).toNat * 3)), Value.int .i64 (iAt (pA e) (0 + (j : Int).toNat * 3 + 1)), Value.int .i64 (iAt (pA e) (0 + (j : Int).toNat * 3 + 2))])) ∧ X := by
  have hsz := hu.1
  refine ⟨⟨by omega, by omega⟩, ⟨ldR hu hj⟩, ⟨by omega, by omega⟩, ⟨ldR hu hi⟩, ⟨by omega, by omega⟩, ⟨?_⟩, ⟨by omega, by omega⟩, ⟨?_⟩, hX⟩
  · rw [k3, pA_len]; show i * 3 + 3 ≤ _; omega
  · rw [k3, k3, put_len (by omega)]; show j * 3 + 3 ≤ _; omega
theorem up_eqn (d : Array Mv) (a j i : Nat) : upB d a j i = if (decide (i ≤ j) && ltM d[i]! d[a]!) = true then upB d a j (i + 1) else i := by
  rw [upB, Go.Sort.scanUp]; rfl
theorem up_in {d : Array Mv} {a j b : Nat} (hj : j < b) : ∀ (k i : Nat), b - i ≤ k → i ≤ b → i ≤ upB d a j i ∧ upB d a j i ≤ b
  | 0, i, hk, hi => by
    rw [up_eqn, if_neg (by rw [decide_eq_false (show ¬ i ≤ j by omega)]; simp)]; omega
  | k + 1, i, hk, hi => by
    rw [up_eqn]
    split
    · rename_i h
      simp only [Bool.and_eq_true, decide_eq_true_eq] at h
      have := up_in (d := d) (a := a) hj k (i + 1) (by omega) (by omega)
      omega
    · omega
theorem dn_in {d : Array Mv} {a i : Nat} (hi : a + 1 ≤ i) : ∀ j, a ≤ j → a ≤ dnB d a i j ∧ dnB d a i j ≤ j
  | 0, h => ⟨h, Nat.le_refl _⟩
  | j + 1, h => by
    rw [dnB, Go.Sort.scanDown]
    split
    · rename_i hc
      simp only [Bool.and_eq_true, decide_eq_true_eq] at hc
      have := dn_in (d := d) hi j (by omega)
      rw [dnB] at this
      omega
    · omega
theorem dn_s {d : Array Mv} {a i j : Nat} : dnB d a i (j + 1) = if (decide (i ≤ j + 1) && !ltM d[j + 1]! d[a]!) = true then dnB d a i j else j + 1 := by
  rw [dnB, Go.Sort.scanDown]; rfl
theorem dn_no {d : Array Mv} {a i j : Nat} (h : ¬ i ≤ j) : dnB d a i j = j := by
  cases j with
  | zero => rfl
  | succ j => rw [dn_s, if_neg (by rw [decide_eq_false h]; simp)]
theorem pl_eq (a i j : Nat) (d : Array Mv) : Go.Sort.partLoop ltM a i j d = if upB d a j i > dnB d a (upB d a j i) j then (dnB d a (upB d a j i) j, d) else
    if dnB d a (upB d a j i) j - 1 + 1 - (upB d a j i + 1) < j + 1 - i then Go.Sort.partLoop ltM a (upB d a j i + 1) (dnB d a (upB d a j i) j - 1) (Go.Sort.swp d (upB d a j i) (dnB d a (upB d a j i) j)) else (dnB d a (upB d a j i) j, d) := by
  rw [Go.Sort.partLoop]; rfl
section
variable {d : Array Mv} {n c a b v : Nat}
/-- One round of the first scan. -/
theorem upL {e : Array Mv} {i j : Nat} (hu : gdM e n) (hj : j < b) (hbn : b ≤ n) (ha : a < b) (hi : a + 1 ≤ i ∧ i ≤ b) {X Y : Prop} (hX : i + 1 ≤ b → upB e a j (i + 1) = upB e a j i → X) (hY : i = upB e a j i → Y) :
    br (decide ((i : Int) ≤ (j : Int)))
      (Is ((0 : Int) ≤ (i : Int) ∧ (i : Int) < (n : Int)) ∧ Is ((if 0 + (i : Int).toNat * 3 + 3 ≤ List.length (pA e) then some (Value.agg (List.toArray (List.take 3 (List.drop (0 + (i : Int).toNat * 3) (pA e))))) else none) = some (gMv (pA e) (0 + (i : Int).toNat * 3))) ∧
        Is ((0 : Int) ≤ (a : Int) ∧ (a : Int) < (n : Int)) ∧ Is ((if 0 + (a : Int).toNat * 3 + 3 ≤ List.length (pA e) then some (Value.agg (List.toArray (List.take 3 (List.drop (0 + (a : Int).toNat * 3) (pA e))))) else none) = some (gMv (pA e) (0 + (a : Int).toNat * 3))) ∧
        Is (mvIn (iAt (pA e) (0 + (i : Int).toNat * 3)) (iAt (pA e) (0 + (i : Int).toNat * 3 + 1)) ∧ mvIn (iAt (pA e) (0 + (a : Int).toNat * 3)) (iAt (pA e) (0 + (a : Int).toNat * 3 + 1))) ∧
        br (decide (cpI (iAt (pA e) (0 + (i : Int).toNat * 3)) (iAt (pA e) (0 + (i : Int).toNat * 3 + 1)) (iAt (pA e) (0 + (i : Int).toNat * 3 + 2)) (iAt (pA e) (0 + (a : Int).toNat * 3)) (iAt (pA e) (0 + (a : Int).toNat * 3 + 1)) (iAt (pA e) (0 + (a : Int).toNat * 3 + 2)) < 0)) X Y) Y := by
  have hsz := hu.1
  refine br_of (fun h1 => ?_) (fun h1 => ?_)
  · have h1 := of_decide_eq_true h1
    have h1 : i ≤ j := by omega
    refine cmS hu (by omega) (by omega) (br_of (fun h2 => ?_) (fun h2 => ?_))
    · rw [k3, k3, cp_at (by omega) (by omega)] at h2
      refine hX (by omega) ?_
      conv => rhs; rw [up_eqn, if_pos (by rw [decide_eq_true h1, Bool.true_and]; exact h2)]
    · rw [k3, k3, cp_at (by omega) (by omega)] at h2
      refine hY ?_
      rw [up_eqn, if_neg (by rw [show ltM e[i]! e[a]! = false from h2, Bool.and_false]; decide)]
  · have h1 := of_decide_eq_false h1
    exact hY (by rw [up_eqn, if_neg (by rw [decide_eq_false (show ¬ i ≤ j by omega)]; simp)])
/-- One round of the second scan. -/
theorem dnL {e : Array Mv} {i j : Nat} (hu : gdM e n) (hi : a + 1 ≤ i) (hbn : b ≤ n) (hj : a ≤ j ∧ j < b) {X Y : Prop} (hX : 1 ≤ j → a ≤ j - 1 → dnB e a i (j - 1) = dnB e a i j → X) (hY : j = dnB e a i j → Y) :
    br (decide ((i : Int) ≤ (j : Int)))
      (Is ((0 : Int) ≤ (j : Int) ∧ (j : Int) < (n : Int)) ∧ Is ((if 0 + (j : Int).toNat * 3 + 3 ≤ List.length (pA e) then some (Value.agg (List.toArray (List.take 3 (List.drop (0 + (j : Int).toNat * 3) (pA e))))) else none) = some (gMv (pA e) (0 + (j : Int).toNat * 3))) ∧
        Is ((0 : Int) ≤ (a : Int) ∧ (a : Int) < (n : Int)) ∧ Is ((if 0 + (a : Int).toNat * 3 + 3 ≤ List.length (pA e) then some (Value.agg (List.toArray (List.take 3 (List.drop (0 + (a : Int).toNat * 3) (pA e))))) else none) = some (gMv (pA e) (0 + (a : Int).toNat * 3))) ∧
        Is (mvIn (iAt (pA e) (0 + (j : Int).toNat * 3)) (iAt (pA e) (0 + (j : Int).toNat * 3 + 1)) ∧ mvIn (iAt (pA e) (0 + (a : Int).toNat * 3)) (iAt (pA e) (0 + (a : Int).toNat * 3 + 1))) ∧
        br (!decide (cpI (iAt (pA e) (0 + (j : Int).toNat * 3)) (iAt (pA e) (0 + (j : Int).toNat * 3 + 1)) (iAt (pA e) (0 + (j : Int).toNat * 3 + 2)) (iAt (pA e) (0 + (a : Int).toNat * 3)) (iAt (pA e) (0 + (a : Int).toNat * 3 + 1)) (iAt (pA e) (0 + (a : Int).toNat * 3 + 2)) < 0)) X Y) Y := by
  have hsz := hu.1
  refine br_of (fun h1 => ?_) (fun h1 => ?_)
  · have h1 := of_decide_eq_true h1
    have h1 : i ≤ j := by omega
    obtain ⟨k, rfl⟩ : ∃ k, j = k + 1 := ⟨j - 1, by omega⟩
    refine cmS hu (by omega) (by omega) (br_of (fun h2 => ?_) (fun h2 => ?_))
    · rw [k3, k3, cp_at (by omega) (by omega)] at h2
      refine hX (by omega) (by omega) ?_
      rw [dn_s, if_pos (by rw [decide_eq_true h1, Bool.true_and]; exact h2)]; rfl
    · rw [k3, k3, cp_at (by omega) (by omega)] at h2
      refine hY ?_
      rw [dn_s, if_neg (by rw [show (!ltM e[k + 1]! e[a]!) = false from h2, Bool.and_false]; decide)]
  · have h1 := of_decide_eq_false h1
    exact hY (dn_no (by omega)).symm
end
end
end Qq
end
section
/- The sort's parting: what it gives. -/
open Go Go.Vm Go.Proofs Sp
namespace Qq
noncomputable section
theorem pt_ok {d : Array Mv} {n c a b v : Nat} (hg : gdM d n) (hav : a ≤ v) (hvb : v < b) (hbn : b ≤ n) :
    SmallRes Try.prog 84 [.slice (some ⟨0, 0, none⟩) n c, .int .i64 (a : Int), .int .i64 (b : Int), .int .i64 (v : Int), fF] [mR d]
      (.tuple #[.int .i64 ((Go.Sort.partition ltM d a b v).1 : Int), .bool (Go.Sort.partition ltM d a b v).2.1]) [mR (Go.Sort.partition ltM d a b v).2.2] := by
  have h49 := hg.2.1
  have hD : gdM (pD d a v) n := gd_swp hg (by omega) (by omega)
  have hI : a + 1 ≤ pI d a b v ∧ pI d a b v ≤ b := up_in (by omega) _ _ (Nat.le_refl _) (by omega)
  have hJ : a ≤ pJ d a b v ∧ pJ d a b v ≤ b - 1 := dn_in hI.1 _ (by omega)
  have er : Go.Sort.partition ltM d a b v = if pI d a b v > pJ d a b v then (pJ d a b v, true, Go.Sort.swp (pD d a v) (pJ d a b v) a) else (pTn d a b v, false, Go.Sort.swp (pTa d a b v) (pTn d a b v) a) := rfl
  have up1' : ∀ x : Nat, x ≤ 100 → IntKind.wrap .i64 ((x : Int) + 1) = ((x + 1 : Nat) : Int) := fun x hx => (wr_n (by omega) (by omega)).trans (by omega)
  have dn1' : ∀ x : Nat, x ≤ 100 → 1 ≤ x → IntKind.wrap .i64 ((x : Int) - 1) = ((x - 1 : Nat) : Int) := fun x hx h1 => (wr_n (by omega) (by omega)).trans (by omega)
  refine fnP_res hm c0_ok (hs := hsPt d n c a b v) ?_
  rw [pt_t]
  refine swS hg (by omega) (by omega) ⟨⟨⟨a + 1, ⟨rfl, Nat.le_refl _, by omega⟩, ⟨rfl, rfl, rfl, rfl, rfl, rfl, rfl, by rw [up1' a (by omega)], by rw [dn1' b (by omega) (by omega)], trivial⟩, ?_⟩, fun i hi => ?_⟩, fun _ _ => ⟨⟨⟨b - 1, ⟨rfl, by omega, by omega⟩, ⟨rfl, rfl, rfl, rfl, rfl, rfl, rfl, rfl, rfl, trivial⟩, rfl⟩, fun j hj => ?_⟩, fun _ _ => ?_⟩⟩
  · rw [k3, k3, swp_put (by rw [hg.1]; omega) (by rw [hg.1]; omega)]; rfl
  · obtain ⟨i1, i2, i3⟩ := hi.out
    exact upL hD (by omega) hbn (by omega) ⟨i2, i3⟩ (fun h1 h2 => ⟨i + 1, ⟨by rw [h2, i1], by omega, h1⟩, ⟨by omega⟩, ⟨rfl, rfl, rfl, rfl, rfl, rfl, rfl, by rw [up1' i (by omega)], rfl, trivial⟩, rfl⟩) fun e => ⟨0, ⟨rfl, trivial⟩, ⟨rfl, rfl, rfl, rfl, rfl, rfl, rfl, by rw [← i1, ← e], rfl, trivial⟩, rfl⟩
  · obtain ⟨j1, j2, j3⟩ := hj.out
    exact dnL hD hI.1 hbn ⟨j2, j3⟩ (fun h1 h2 h3 => ⟨j - 1, ⟨by rw [h3, j1], h2, by omega⟩, ⟨by omega⟩, ⟨rfl, rfl, rfl, rfl, rfl, rfl, rfl, rfl, by rw [dn1' j (by omega) h1], trivial⟩, rfl⟩)
      fun e => ⟨0, ⟨rfl, trivial⟩, ⟨rfl, rfl, rfl, rfl, rfl, rfl, rfl, rfl, by rw [← j1, ← e], trivial⟩, rfl⟩
  rw [er]
  refine br_of (fun h1 => ?_) (fun h1 => ?_)
  · have h1 := of_decide_eq_true h1
    have h1 : pI d a b v > pJ d a b v := by omega
    rw [if_pos h1]
    refine swS hD (by omega) (by omega) ⟨rfl, ?_⟩
    rw [k3, k3, swp_put (by rw [hD.1]; omega) (by rw [hD.1]; omega)]; rfl
  have h1 := of_decide_eq_false h1
  have h1 : ¬ pI d a b v > pJ d a b v := by omega
  rw [if_neg h1]
  have hN : ∀ s : Ps, ptV d n a b v s → gdM s.2.2 n ∧ (a + 1 ≤ ptU a s ∧ ptU a s ≤ b) ∧ (a ≤ ptD a s ∧ ptD a s ≤ s.2.1) ∧ s.1 ≤ ptU a s ∧
      (ptU a s > ptD a s → ptD a s = pTn d a b v ∧ s.2.2 = pTa d a b v) ∧
      (¬ ptU a s > ptD a s → ptV d n a b v (ptU a s + 1, ptD a s - 1, Go.Sort.swp s.2.2 (ptU a s) (ptD a s)) ∧ ptD a s - 1 + 1 - (ptU a s + 1) < s.2.1 + 1 - s.1) := fun s hs => by
    obtain ⟨⟨q1, q2⟩, ⟨q3, q4⟩, q5, q6⟩ := hs
    have u := up_in (d := s.2.2) (a := a) q6 _ s.1 (Nat.le_refl _) q4
    have w := dn_in (d := s.2.2) (i := ptU a s) (by have := u.1; show a + 1 ≤ upB _ _ _ _; omega) s.2.1 q5
    have u' : s.1 ≤ ptU a s ∧ ptU a s ≤ b := u
    have w' : a ≤ ptD a s ∧ ptD a s ≤ s.2.1 := w
    rw [pl_eq] at q1
    have q1 : (if ptU a s > ptD a s then (ptD a s, s.2.2) else if ptD a s - 1 + 1 - (ptU a s + 1) < s.2.1 + 1 - s.1 then Go.Sort.partLoop ltM a (ptU a s + 1) (ptD a s - 1) (Go.Sort.swp s.2.2 (ptU a s) (ptD a s)) else (ptD a s, s.2.2)) = pT d a b v := q1
    refine ⟨q2, ⟨by omega, u'.2⟩, w', u'.1, fun hgt => ?_, fun hle => ?_⟩
    · rw [if_pos hgt] at q1
      rw [pTn, pTa, ← q1]; exact ⟨rfl, rfl⟩
    · have hm' : ptD a s - 1 + 1 - (ptU a s + 1) < s.2.1 + 1 - s.1 := by omega
      rw [if_neg hle, if_pos hm'] at q1
      exact ⟨⟨⟨q1, gd_swp q2 (by omega) (by omega)⟩, ⟨by show a + 1 ≤ ptU a s + 1; omega, by show ptU a s + 1 ≤ b; omega⟩, by show a ≤ ptD a s - 1; omega, by show ptD a s - 1 < b; omega⟩, hm'⟩
  have hV0 : ptV d n a b v (pI d a b v + 1, pJ d a b v - 1, Go.Sort.swp (pD d a v) (pI d a b v) (pJ d a b v)) :=
    ⟨⟨rfl, gd_swp hD (by omega) (by omega)⟩, ⟨by show a + 1 ≤ pI d a b v + 1; omega, by show pI d a b v + 1 ≤ b; omega⟩, by show a ≤ pJ d a b v - 1; omega, by show pJ d a b v - 1 < b; omega⟩
  have sI := hI
  refine swS hD (by omega) (by omega) ?_
  rw [up1' (pI d a b v) (by omega), dn1' (pJ d a b v) (by omega) (by omega), k3, k3, swp_put (by rw [hD.1]; omega) (by rw [hD.1]; omega)]
  refine ⟨⟨(0, 0, d), ⟨(pI d a b v + 1, pJ d a b v - 1, Go.Sort.swp (pD d a v) (pI d a b v) (pJ d a b v)), ⟨hV0⟩, ⟨rfl, rfl, rfl, rfl, rfl, rfl, rfl, rfl, rfl, trivial⟩, rfl⟩, fun s hs => ?_⟩, fun _ _ => ?_⟩
  · have hv := hs.out
    obtain ⟨g1, ⟨g2, g3⟩, ⟨g4, g5⟩, g6, g7, g8⟩ := hN s hv
    obtain ⟨⟨_, _⟩, ⟨q3, q4⟩, q5, q6⟩ := hv
    refine ⟨s, ⟨s, ⟨s.1, ⟨rfl, q3, q4⟩, ⟨rfl, rfl, rfl, rfl, rfl, rfl, rfl, rfl, rfl, trivial⟩, rfl⟩, fun i hi => ?_⟩, fun _ _ => ⟨s, ⟨s, ⟨s.2.1, ⟨rfl, q5, q6⟩, ⟨rfl, rfl, rfl, rfl, rfl, rfl, rfl, rfl, rfl, trivial⟩, rfl⟩, fun j hj => ?_⟩, fun _ _ => ?_⟩⟩
    · obtain ⟨i1, i2, i3⟩ := hi.out
      exact upL g1 q6 hbn (by omega) ⟨i2, i3⟩ (fun h1 h2 => ⟨i + 1, ⟨by rw [h2, i1], by omega, h1⟩, ⟨by omega⟩, ⟨rfl, rfl, rfl, rfl, rfl, rfl, rfl, by rw [up1' i (by omega)], rfl, trivial⟩, rfl⟩)
        fun e => ⟨0, ⟨rfl, trivial⟩, ⟨rfl, rfl, rfl, rfl, rfl, rfl, rfl, by rw [← i1, ← e], rfl, trivial⟩, rfl⟩
    · obtain ⟨j1, j2, j3⟩ := hj.out
      exact dnL g1 g2 hbn ⟨j2, j3⟩ (fun h1 h2 h3 => ⟨j - 1, ⟨by rw [h3, j1], h2, by omega⟩, ⟨by omega⟩, ⟨rfl, rfl, rfl, rfl, rfl, rfl, rfl, rfl, by rw [dn1' j (by omega) h1], trivial⟩, rfl⟩)
        fun e => ⟨0, ⟨rfl, trivial⟩, ⟨rfl, rfl, rfl, rfl, rfl, rfl, rfl, rfl, by rw [← j1, ← e], trivial⟩, rfl⟩
    · refine br_of (fun h2 => ?_) (fun h2 => ?_)
      · have h2 := of_decide_eq_true h2
        obtain ⟨r1, r2⟩ := g7 (by omega)
        exact ⟨0, ⟨rfl, trivial⟩, ⟨rfl, rfl, rfl, rfl, rfl, rfl, rfl, by rw [r1], trivial⟩, by rw [r2]⟩
      · have h2 := of_decide_eq_false h2
        obtain ⟨r1, r2⟩ := g8 (by omega)
        refine swS g1 (by omega) (by omega) ?_
        rw [up1' (ptU a s) (by omega), dn1' (ptD a s) (by omega) (by omega), k3, k3, swp_put (by rw [g1.1]; omega) (by rw [g1.1]; omega)]
        exact ⟨(ptU a s + 1, ptD a s - 1, Go.Sort.swp s.2.2 (ptU a s) (ptD a s)), ⟨r1⟩, ⟨r2⟩, ⟨rfl, rfl, rfl, rfl, rfl, rfl, rfl, rfl, rfl, trivial⟩, rfl⟩
  · have hK : ∀ (k : Nat) (s : Ps), s.2.1 + 1 - s.1 ≤ k → ptV d n a b v s → gdM (pTa d a b v) n ∧ a ≤ pTn d a b v ∧ pTn d a b v < b := fun k => by
      induction k with
      | zero =>
        intro s hk hv
        obtain ⟨g1, ⟨g2, g3⟩, ⟨g4, g5⟩, g6, g7, g8⟩ := hN s hv
        obtain ⟨⟨_, _⟩, ⟨q3, q4⟩, q5, q6⟩ := hv
        obtain ⟨r1, r2⟩ := g7 (by omega)
        rw [← r1, ← r2]
        exact ⟨g1, g4, by omega⟩
      | succ k ih =>
        intro s hk hv
        obtain ⟨g1, ⟨g2, g3⟩, ⟨g4, g5⟩, g6, g7, g8⟩ := hN s hv
        by_cases hx : ptU a s > ptD a s
        · obtain ⟨r1, r2⟩ := g7 hx
          obtain ⟨⟨_, _⟩, ⟨q3, q4⟩, q5, q6⟩ := hv
          rw [← r1, ← r2]
          exact ⟨g1, g4, by omega⟩
        · obtain ⟨r1, r2⟩ := g8 hx
          exact ih _ (by show ptD a s - 1 + 1 - (ptU a s + 1) ≤ k; omega) r1
    obtain ⟨t1, t2, t3⟩ := hK _ _ (Nat.le_refl _) hV0
    refine swS t1 (by omega) (by omega) ⟨rfl, ?_⟩
    rw [k3, k3, swp_put (by rw [t1.1]; omega) (by rw [t1.1]; omega)]; rfl
end
end Qq
end
section
/- The sort's parting into equal ones and greater ones. -/
open Go Go.Vm Go.Proofs Sp
namespace Qq
noncomputable section
noncomputable def upE (d : Array Mv) (a j i : Nat) : Nat := Go.Sort.scanUp (fun x => !ltM d[a]! x) d j i
noncomputable def dnE (d : Array Mv) (a i j : Nat) : Nat := Go.Sort.scanDown (fun x => ltM d[a]! x) d i j
section
variable (d : Array Mv) (n c a b v : Nat)
noncomputable def eiq (i j : Nat) : List Value := slots 90 (s5 n c a b v ++ [(10, .int .i64 0), (11, .int .i64 (i : Int)), (12, .int .i64 (j : Int))])
noncomputable def qT : Nat × Array Mv := Go.Sort.partitionEqual ltM d a b v
noncomputable def qTn : Nat := (qT d a b v).1
noncomputable def qTa : Array Mv := (qT d a b v).2
def qtV (s : Ps) : Prop := (Go.Sort.partEqLoop ltM a s.1 s.2.1 s.2.2 = qT d a b v ∧ gdM s.2.2 n) ∧ (a + 1 ≤ s.1 ∧ s.1 ≤ b) ∧ (a ≤ s.2.1 ∧ s.2.1 < b)
noncomputable def qtU (s : Ps) : Nat := upE s.2.2 a s.2.1 s.1
noncomputable def qtD (s : Ps) : Nat := dnE s.2.2 a (qtU a s) s.2.1
noncomputable def lpQt : Lp where
  σ := Ps
  E s := eiq n c a b v s.1 s.2.1
  Hp s := [mR s.2.2]
  I s := qtV d n a b v s
  m s := s.2.1 + 1 - s.1
noncomputable def lpV2 (p : Ps) : Lp where
  σ := Nat
  E i := eiq n c a b v i p.2.1
  Hp _ := [mR p.2.2]
  I i := upE p.2.2 a p.2.1 i = qtU a p ∧ a + 1 ≤ i ∧ i ≤ b
  m i := b - i
noncomputable def lpW2 (p : Ps) : Lp where
  σ := Nat
  E j := eiq n c a b v (qtU a p) j
  Hp _ := [mR p.2.2]
  I j := dnE p.2.2 a (qtU a p) j = qtD a p ∧ a ≤ j ∧ j < b
  m j := j
noncomputable def hsQt : Hs Try.prog where
  op y := if [106, 110, 112, 114, 307, 311, 507, 511, 806, 810, 812, 814, 807, 811].contains y then some (if y = 807 ∨ y = 811 then hLc Try.prog gMv else hIa Try.prog)
    else if [107, 111, 308, 312, 508, 512].contains y then some (hLc Try.prog gMv)
    else if [113, 115, 813, 815].contains y then some (hSp Try.prog) else if [313, 513].contains y then some (hCa Try.prog 32 orcCp okCp) else none
  cut y := if y = 11 then some (lp0 (slots 90 (s5 n c a b v ++ [(10, .int .i64 0), (11, .int .i64 (qTn d a b v : Int))])) [mR (qTa d a b v)] True) else none
  cq y := if y = 5 then some ⟨Ps, fun p => lp0 (eiq n c a b v (qtU a p) p.2.1) [mR p.2.2] True⟩ else if y = 7 then some ⟨Ps, fun p => lp0 (eiq n c a b v (qtU a p) (qtD a p)) [mR p.2.2] True⟩ else none
  lq y := if y = 5 then some ⟨Ps, lpW2 n c a b v⟩ else none
  lx y env := if y = 3 then (match isPoi (gt env 30) with | true => some ⟨Ps, lpV2 n c a b v⟩ | false => some ⟨Ps, fun _ => lpQt d n c a b v⟩) else none
  cl y := if y = 11 then keep 90 [0, 1, 2, 3, 4, 10, 11] else keep 90 [0, 1, 2, 3, 4, 10, 11, 12]
  nl _ := [.stay]
  rn := [.stay]
  sm := true
  au := au0 Try.prog
end
set_option maxRecDepth 100000 in
theorem qt_t (d : Array Mv) (n : Nat) (c : Nat) (a : Nat) (b : Nat) (v : Nat) (K : Value → Heap → Prop) :
    (fnP Try.prog c0 (hsQt d n c a b v) (83 : FuncId) [Value.slice (some { block := (0 : Nat), off := (0 : Nat) }) n c, Value.int IntKind.i64 (↑a : Int), Value.int IntKind.i64 (↑b : Int), Value.int IntKind.i64 (↑v : Int), fF] [mR d] K) =
    (Is ((0 : Int) ≤ (↑v : Int) ∧ (↑v : Int) < (↑n : Int)) ∧ Is ((if (0 : Nat) + Int.toNat (↑v : Int) * (3 : Nat) + (3 : Nat) ≤ List.length (pA d) then some (Value.agg (List.toArray (List.take (3 : Nat) (List.drop ((0 : Nat) + Int.toNat (↑v : Int) * (3 : Nat)) (pA d))))) else none) = some (Value.agg #[Value.int IntKind.i64 (iAt (pA d) ((0 : Nat) + Int.toNat (↑v : Int) * (3 : Nat))), Value.int IntKind.i64 (iAt (pA d) ((0 : Nat) + Int.toNat (↑v : Int) * (3 : Nat) + (1 : Nat))), Value.int IntKind.i64 (iAt (pA d) ((0 : Nat) + Int.toNat (↑v : Int) * (3 : Nat) + (2 : Nat)))])) ∧ Is ((0 : Int) ≤ (↑a : Int) ∧ (↑a : Int) < (↑n : Int)) ∧ Is ((if (0 : Nat) + Int.toNat (↑a : Int) * (3 : Nat) + (3 : Nat) ≤ List.length (pA d) then some (Value.agg (List.toArray (List.take (3 : Nat) (List.drop ((0 : Nat) + Int.toNat (↑a : Int) * (3 : Nat)) (pA d))))) else none) = some (Value.agg #[Value.int IntKind.i64 (iAt (pA d) ((0 : Nat) + Int.toNat (↑a : Int) * (3 : Nat))), Value.int IntKind.i64 (iAt (pA d) ((0 : Nat) + Int.toNat (↑a : Int) * (3 : Nat) + (1 : Nat))), Value.int IntKind.i64 (iAt (pA d) ((0 : Nat) + Int.toNat (↑a : Int) * (3 : Nat) + (2 : Nat)))])) ∧ Is ((0 : Int) ≤ (↑a : Int) ∧ (↑a : Int) < (↑n : Int)) ∧ Is ((0 : Nat) + Int.toNat (↑a : Int) * (3 : Nat) + List.length [Value.int IntKind.i64 (iAt (pA d) ((0 : Nat) + Int.toNat (↑v : Int) * (3 : Nat))), Value.int IntKind.i64 (iAt (pA d) ((0 : Nat) + Int.toNat (↑v : Int) * (3 : Nat) + (1 : Nat))), Value.int IntKind.i64 (iAt (pA d) ((0 : Nat) + Int.toNat (↑v : Int) * (3 : Nat) + (2 : Nat)))] ≤ List.length (pA d)) ∧ Is ((0 : Int) ≤ (↑v : Int) ∧ (↑v : Int) < (↑n : Int)) ∧ Is ((0 : Nat) + Int.toNat (↑v : Int) * (3 : Nat) + List.length [Value.int IntKind.i64 (iAt (pA d) ((0 : Nat) + Int.toNat (↑a : Int) * (3 : Nat))), Value.int IntKind.i64 (iAt (pA d) ((0 : Nat) + Int.toNat (↑a : Int) * (3 : Nat) + (1 : Nat))), Value.int IntKind.i64 (iAt (pA d) ((0 : Nat) + Int.toNat (↑a : Int) * (3 : Nat) + (2 : Nat)))] ≤ List.length (putL (pA d) ((0 : Nat) + Int.toNat (↑a : Int) * (3 : Nat)) [Value.int IntKind.i64 (iAt (pA d) ((0 : Nat) + Int.toNat (↑v : Int) * (3 : Nat))), Value.int IntKind.i64 (iAt (pA d) ((0 : Nat) + Int.toNat (↑v : Int) * (3 : Nat) + (1 : Nat))), Value.int IntKind.i64 (iAt (pA d) ((0 : Nat) + Int.toNat (↑v : Int) * (3 : Nat) + (2 : Nat)))])) ∧ (∃ (p : Nat × Nat × Array Mv), (∃ (s : Nat × Nat × Array Mv), Is (qtV d n a b v s) ∧ (Value.slice (some { block := (0 : Nat), off := (0 : Nat) }) n c = Value.slice (some { block := (0 : Nat), off := (0 : Nat) }) n c ∧ Value.int IntKind.i64 (↑a : Int) = Value.int IntKind.i64 (↑a : Int) ∧ Value.int IntKind.i64 (↑b : Int) = Value.int IntKind.i64 (↑b : Int) ∧ Value.int IntKind.i64 (↑v : Int) = Value.int IntKind.i64 (↑v : Int) ∧ Value.func (Fn.func (32 : Nat)) #[] #[] = Value.func (Fn.func (32 : Nat)) #[] #[] ∧ Value.int IntKind.i64 (0 : Int) = Value.int IntKind.i64 (0 : Int) ∧ Value.int IntKind.i64 (IntKind.wrap IntKind.i64 ((↑a : Int) + (1 : Int))) = Value.int IntKind.i64 (↑(Prod.fst s) : Int) ∧ Value.int IntKind.i64 (IntKind.wrap IntKind.i64 ((↑b : Int) - (1 : Int))) = Value.int IntKind.i64 (↑(Prod.fst (Prod.snd s)) : Int) ∧ True) ∧ some (AObj.row (putL (putL (pA d) ((0 : Nat) + Int.toNat (↑a : Int) * (3 : Nat)) [Value.int IntKind.i64 (iAt (pA d) ((0 : Nat) + Int.toNat (↑v : Int) * (3 : Nat))), Value.int IntKind.i64 (iAt (pA d) ((0 : Nat) + Int.toNat (↑v : Int) * (3 : Nat) + (1 : Nat))), Value.int IntKind.i64 (iAt (pA d) ((0 : Nat) + Int.toNat (↑v : Int) * (3 : Nat) + (2 : Nat)))]) ((0 : Nat) + Int.toNat (↑v : Int) * (3 : Nat)) [Value.int IntKind.i64 (iAt (pA d) ((0 : Nat) + Int.toNat (↑a : Int) * (3 : Nat))), Value.int IntKind.i64 (iAt (pA d) ((0 : Nat) + Int.toNat (↑a : Int) * (3 : Nat) + (1 : Nat))), Value.int IntKind.i64 (iAt (pA d) ((0 : Nat) + Int.toNat (↑a : Int) * (3 : Nat) + (2 : Nat)))]) (3 : Nat) true true (true && List.all [Value.int IntKind.i64 (iAt (pA d) ((0 : Nat) + Int.toNat (↑v : Int) * (3 : Nat))), Value.int IntKind.i64 (iAt (pA d) ((0 : Nat) + Int.toNat (↑v : Int) * (3 : Nat) + (1 : Nat))), Value.int IntKind.i64 (iAt (pA d) ((0 : Nat) + Int.toNat (↑v : Int) * (3 : Nat) + (2 : Nat)))] atom && List.all [Value.int IntKind.i64 (iAt (pA d) ((0 : Nat) + Int.toNat (↑a : Int) * (3 : Nat))), Value.int IntKind.i64 (iAt (pA d) ((0 : Nat) + Int.toNat (↑a : Int) * (3 : Nat) + (1 : Nat))), Value.int IntKind.i64 (iAt (pA d) ((0 : Nat) + Int.toNat (↑a : Int) * (3 : Nat) + (2 : Nat)))] atom)) :: noH = some (AObj.row (pA (Prod.snd (Prod.snd s))) (3 : Nat) true true true) :: noH) ∧ ∀ (s : Nat × Nat × Array Mv), Is (qtV d n a b v s) → ∃ (p : Nat × Nat × Array Mv), (∃ (p_1 : Nat × Nat × Array Mv), (∃ (s_1 : Nat), Is (upE (Prod.snd (Prod.snd p_1)) a (Prod.fst (Prod.snd p_1)) s_1 = qtU a p_1 ∧ a + (1 : Nat) ≤ s_1 ∧ s_1 ≤ b) ∧ (Value.slice (some { block := (0 : Nat), off := (0 : Nat) }) n c = Value.slice (some { block := (0 : Nat), off := (0 : Nat) }) n c ∧ Value.int IntKind.i64 (↑a : Int) = Value.int IntKind.i64 (↑a : Int) ∧ Value.int IntKind.i64 (↑b : Int) = Value.int IntKind.i64 (↑b : Int) ∧ Value.int IntKind.i64 (↑v : Int) = Value.int IntKind.i64 (↑v : Int) ∧ Value.func (Fn.func (32 : Nat)) #[] #[] = Value.func (Fn.func (32 : Nat)) #[] #[] ∧ Value.int IntKind.i64 (0 : Int) = Value.int IntKind.i64 (0 : Int) ∧ Value.int IntKind.i64 (↑(Prod.fst s) : Int) = Value.int IntKind.i64 (↑s_1 : Int) ∧ Value.int IntKind.i64 (↑(Prod.fst (Prod.snd s)) : Int) = Value.int IntKind.i64 (↑(Prod.fst (Prod.snd p_1)) : Int) ∧ True) ∧ some (AObj.row (pA (Prod.snd (Prod.snd s))) (3 : Nat) true true true) :: noH = some (AObj.row (pA (Prod.snd (Prod.snd p_1))) (3 : Nat) true true true) :: noH) ∧ ∀ (s : Nat), Is (upE (Prod.snd (Prod.snd p_1)) a (Prod.fst (Prod.snd p_1)) s = qtU a p_1 ∧ a + (1 : Nat) ≤ s ∧ s ≤ b) → br (decide ((↑s : Int) ≤ (↑(Prod.fst (Prod.snd p_1)) : Int))) (Is ((0 : Int) ≤ (↑a : Int) ∧ (↑a : Int) < (↑n : Int)) ∧ Is ((if (0 : Nat) + Int.toNat (↑a : Int) * (3 : Nat) + (3 : Nat) ≤ List.length (pA (Prod.snd (Prod.snd p_1))) then some (Value.agg (List.toArray (List.take (3 : Nat) (List.drop ((0 : Nat) + Int.toNat (↑a : Int) * (3 : Nat)) (pA (Prod.snd (Prod.snd p_1))))))) else none) = some (Value.agg #[Value.int IntKind.i64 (iAt (pA (Prod.snd (Prod.snd p_1))) ((0 : Nat) + Int.toNat (↑a : Int) * (3 : Nat))), Value.int IntKind.i64 (iAt (pA (Prod.snd (Prod.snd p_1))) ((0 : Nat) + Int.toNat (↑a : Int) * (3 : Nat) + (1 : Nat))), Value.int IntKind.i64 (iAt (pA (Prod.snd (Prod.snd p_1))) ((0 : Nat) + Int.toNat (↑a : Int) * (3 : Nat) + (2 : Nat)))])) ∧ Is ((0 : Int) ≤ (↑s : Int) ∧ (↑s : Int) < (↑n : Int)) ∧ Is ((if (0 : Nat) + Int.toNat (↑s : Int) * (3 : Nat) + (3 : Nat) ≤ List.length (pA (Prod.snd (Prod.snd p_1))) then some (Value.agg (List.toArray (List.take (3 : Nat) (List.drop ((0 : Nat) + Int.toNat (↑s : Int) * (3 : Nat)) (pA (Prod.snd (Prod.snd p_1))))))) else none) = some (Value.agg #[Value.int IntKind.i64 (iAt (pA (Prod.snd (Prod.snd p_1))) ((0 : Nat) + Int.toNat (↑s : Int) * (3 : Nat))), Value.int IntKind.i64 (iAt (pA (Prod.snd (Prod.snd p_1))) ((0 : Nat) + Int.toNat (↑s : Int) * (3 : Nat) + (1 : Nat))), Value.int IntKind.i64 (iAt (pA (Prod.snd (Prod.snd p_1))) ((0 : Nat) + Int.toNat (↑s : Int) * (3 : Nat) + (2 : Nat)))])) ∧ Is (mvIn (iAt (pA (Prod.snd (Prod.snd p_1))) ((0 : Nat) + Int.toNat (↑a : Int) * (3 : Nat))) (iAt (pA (Prod.snd (Prod.snd p_1))) ((0 : Nat) + Int.toNat (↑a : Int) * (3 : Nat) + (1 : Nat))) ∧ mvIn (iAt (pA (Prod.snd (Prod.snd p_1))) ((0 : Nat) + Int.toNat (↑s : Int) * (3 : Nat))) (iAt (pA (Prod.snd (Prod.snd p_1))) ((0 : Nat) + Int.toNat (↑s : Int) * (3 : Nat) + (1 : Nat)))) ∧ br (!decide (cpI (iAt (pA (Prod.snd (Prod.snd p_1))) ((0 : Nat) + Int.toNat (↑a : Int) * (3 : Nat))) (iAt (pA (Prod.snd (Prod.snd p_1))) ((0 : Nat) + Int.toNat (↑a : Int) * (3 : Nat) + (1 : Nat))) (iAt (pA (Prod.snd (Prod.snd p_1))) ((0 : Nat) + Int.toNat (↑a : Int) * (3 : Nat) + (2 : Nat))) (iAt (pA (Prod.snd (Prod.snd p_1))) ((0 : Nat) + Int.toNat (↑s : Int) * (3 : Nat))) (iAt (pA (Prod.snd (Prod.snd p_1))) ((0 : Nat) + Int.toNat (↑s : Int) * (3 : Nat) + (1 : Nat))) (iAt (pA (Prod.snd (Prod.snd p_1))) ((0 : Nat) + Int.toNat (↑s : Int) * (3 : Nat) + (2 : Nat))) < (0 : Int))) (∃ (s' : Nat), Is (upE (Prod.snd (Prod.snd p_1)) a (Prod.fst (Prod.snd p_1)) s' = qtU a p_1 ∧ a + (1 : Nat) ≤ s' ∧ s' ≤ b) ∧ Is (b - s' < b - s) ∧ (Value.slice (some { block := (0 : Nat), off := (0 : Nat) }) n c = Value.slice (some { block := (0 : Nat), off := (0 : Nat) }) n c ∧ Value.int IntKind.i64 (↑a : Int) = Value.int IntKind.i64 (↑a : Int) ∧ Value.int IntKind.i64 (↑b : Int) = Value.int IntKind.i64 (↑b : Int) ∧ Value.int IntKind.i64 (↑v : Int) = Value.int IntKind.i64 (↑v : Int) ∧ Value.func (Fn.func (32 : Nat)) #[] #[] = Value.func (Fn.func (32 : Nat)) #[] #[] ∧ Value.int IntKind.i64 (0 : Int) = Value.int IntKind.i64 (0 : Int) ∧ Value.int IntKind.i64 (IntKind.wrap IntKind.i64 ((↑s : Int) + (1 : Int))) = Value.int IntKind.i64 (↑s' : Int) ∧ Value.int IntKind.i64 (↑(Prod.fst (Prod.snd p_1)) : Int) = Value.int IntKind.i64 (↑(Prod.fst (Prod.snd p_1)) : Int) ∧ True) ∧ some (AObj.row (pA (Prod.snd (Prod.snd p_1))) (3 : Nat) true true true) :: noH = some (AObj.row (pA (Prod.snd (Prod.snd p_1))) (3 : Nat) true true true) :: noH) (∃ (s_1 : Nat), Is (s_1 = (0 : Nat) ∧ True) ∧ (Value.slice (some { block := (0 : Nat), off := (0 : Nat) }) n c = Value.slice (some { block := (0 : Nat), off := (0 : Nat) }) n c ∧ Value.int IntKind.i64 (↑a : Int) = Value.int IntKind.i64 (↑a : Int) ∧ Value.int IntKind.i64 (↑b : Int) = Value.int IntKind.i64 (↑b : Int) ∧ Value.int IntKind.i64 (↑v : Int) = Value.int IntKind.i64 (↑v : Int) ∧ Value.func (Fn.func (32 : Nat)) #[] #[] = Value.func (Fn.func (32 : Nat)) #[] #[] ∧ Value.int IntKind.i64 (0 : Int) = Value.int IntKind.i64 (0 : Int) ∧ Value.int IntKind.i64 (↑s : Int) = Value.int IntKind.i64 (↑(qtU a p) : Int) ∧ Value.int IntKind.i64 (↑(Prod.fst (Prod.snd p_1)) : Int) = Value.int IntKind.i64 (↑(Prod.fst (Prod.snd p)) : Int) ∧ True) ∧ some (AObj.row (pA (Prod.snd (Prod.snd p_1))) (3 : Nat) true true true) :: noH = some (AObj.row (pA (Prod.snd (Prod.snd p))) (3 : Nat) true true true) :: noH)) (∃ (s_1 : Nat), Is (s_1 = (0 : Nat) ∧ True) ∧ (Value.slice (some { block := (0 : Nat), off := (0 : Nat) }) n c = Value.slice (some { block := (0 : Nat), off := (0 : Nat) }) n c ∧ Value.int IntKind.i64 (↑a : Int) = Value.int IntKind.i64 (↑a : Int) ∧ Value.int IntKind.i64 (↑b : Int) = Value.int IntKind.i64 (↑b : Int) ∧ Value.int IntKind.i64 (↑v : Int) = Value.int IntKind.i64 (↑v : Int) ∧ Value.func (Fn.func (32 : Nat)) #[] #[] = Value.func (Fn.func (32 : Nat)) #[] #[] ∧ Value.int IntKind.i64 (0 : Int) = Value.int IntKind.i64 (0 : Int) ∧ Value.int IntKind.i64 (↑s : Int) = Value.int IntKind.i64 (↑(qtU a p) : Int) ∧ Value.int IntKind.i64 (↑(Prod.fst (Prod.snd p_1)) : Int) = Value.int IntKind.i64 (↑(Prod.fst (Prod.snd p)) : Int) ∧ True) ∧ some (AObj.row (pA (Prod.snd (Prod.snd p_1))) (3 : Nat) true true true) :: noH = some (AObj.row (pA (Prod.snd (Prod.snd p))) (3 : Nat) true true true) :: noH)) ∧ ∀ (s_1 : Nat), Is (s_1 = (0 : Nat) ∧ True) → ∃ (p_1 : Nat × Nat × Array Mv), (∃ (p_2 : Nat × Nat × Array Mv), (∃ (s : Nat), Is (dnE (Prod.snd (Prod.snd p_2)) a (qtU a p_2) s = qtD a p_2 ∧ a ≤ s ∧ s < b) ∧ (Value.slice (some { block := (0 : Nat), off := (0 : Nat) }) n c = Value.slice (some { block := (0 : Nat), off := (0 : Nat) }) n c ∧ Value.int IntKind.i64 (↑a : Int) = Value.int IntKind.i64 (↑a : Int) ∧ Value.int IntKind.i64 (↑b : Int) = Value.int IntKind.i64 (↑b : Int) ∧ Value.int IntKind.i64 (↑v : Int) = Value.int IntKind.i64 (↑v : Int) ∧ Value.func (Fn.func (32 : Nat)) #[] #[] = Value.func (Fn.func (32 : Nat)) #[] #[] ∧ Value.int IntKind.i64 (0 : Int) = Value.int IntKind.i64 (0 : Int) ∧ Value.int IntKind.i64 (↑(qtU a p) : Int) = Value.int IntKind.i64 (↑(qtU a p_2) : Int) ∧ Value.int IntKind.i64 (↑(Prod.fst (Prod.snd p)) : Int) = Value.int IntKind.i64 (↑s : Int) ∧ True) ∧ some (AObj.row (pA (Prod.snd (Prod.snd p))) (3 : Nat) true true true) :: noH = some (AObj.row (pA (Prod.snd (Prod.snd p_2))) (3 : Nat) true true true) :: noH) ∧ ∀ (s : Nat), Is (dnE (Prod.snd (Prod.snd p_2)) a (qtU a p_2) s = qtD a p_2 ∧ a ≤ s ∧ s < b) → br (decide ((↑(qtU a p_2) : Int) ≤ (↑s : Int))) (Is ((0 : Int) ≤ (↑a : Int) ∧ (↑a : Int) < (↑n : Int)) ∧ Is ((if (0 : Nat) + Int.toNat (↑a : Int) * (3 : Nat) + (3 : Nat) ≤ List.length (pA (Prod.snd (Prod.snd p_2))) then some (Value.agg (List.toArray (List.take (3 : Nat) (List.drop ((0 : Nat) + Int.toNat (↑a : Int) * (3 : Nat)) (pA (Prod.snd (Prod.snd p_2))))))) else none) = some (Value.agg #[Value.int IntKind.i64 (iAt (pA (Prod.snd (Prod.snd p_2))) ((0 : Nat) + Int.toNat (↑a : Int) * (3 : Nat))), Value.int IntKind.i64 (iAt (pA (Prod.snd (Prod.snd p_2))) ((0 : Nat) + Int.toNat (↑a : Int) * (3 : Nat) + (1 : Nat))), Value.int IntKind.i64 (iAt (pA (Prod.snd (Prod.snd p_2))) ((0 : Nat) + Int.toNat (↑a : Int) * (3 : Nat) + (2 : Nat)))])) ∧ Is ((0 : Int) ≤ (↑s : Int) ∧ (↑s : Int) < (↑n : Int)) ∧ Is ((if (0 : Nat) + Int.toNat (↑s : Int) * (3 : Nat) + (3 : Nat) ≤ List.length (pA (Prod.snd (Prod.snd p_2))) then some (Value.agg (List.toArray (List.take (3 : Nat) (List.drop ((0 : Nat) + Int.toNat (↑s : Int) * (3 : Nat)) (pA (Prod.snd (Prod.snd p_2))))))) else none) = some (Value.agg #[Value.int IntKind.i64 (iAt (pA (Prod.snd (Prod.snd p_2))) ((0 : Nat) + Int.toNat (↑s : Int) * (3 : Nat))), Value.int IntKind.i64 (iAt (pA (Prod.snd (Prod.snd p_2))) ((0 : Nat) + Int.toNat (↑s : Int) * (3 : Nat) + (1 : Nat))), Value.int IntKind.i64 (iAt (pA (Prod.snd (Prod.snd p_2))) ((0 : Nat) + Int.toNat (↑s : Int) * (3 : Nat) + (2 : Nat)))])) ∧ Is (mvIn (iAt (pA (Prod.snd (Prod.snd p_2))) ((0 : Nat) + Int.toNat (↑a : Int) * (3 : Nat))) (iAt (pA (Prod.snd (Prod.snd p_2))) ((0 : Nat) + Int.toNat (↑a : Int) * (3 : Nat) + (1 : Nat))) ∧ mvIn (iAt (pA (Prod.snd (Prod.snd p_2))) ((0 : Nat) + Int.toNat (↑s : Int) * (3 : Nat))) (iAt (pA (Prod.snd (Prod.snd p_2))) ((0 : Nat) + Int.toNat (↑s : Int) * (3 : Nat) + (1 : Nat)))) ∧ br (decide (cpI (iAt (pA (Prod.snd (Prod.snd p_2))) ((0 : Nat) + Int.toNat (↑a : Int) * (3 : Nat))) (iAt (pA (Prod.snd (Prod.snd p_2))) ((0 : Nat) + Int.toNat (↑a : Int) * (3 : Nat) + (1 : Nat))) (iAt (pA (Prod.snd (Prod.snd p_2))) ((0 : Nat) + Int.toNat (↑a : Int) * (3 : Nat) + (2 : Nat))) (iAt (pA (Prod.snd (Prod.snd p_2))) ((0 : Nat) + Int.toNat (↑s : Int) * (3 : Nat))) (iAt (pA (Prod.snd (Prod.snd p_2))) ((0 : Nat) + Int.toNat (↑s : Int) * (3 : Nat) + (1 : Nat))) (iAt (pA (Prod.snd (Prod.snd p_2))) ((0 : Nat) + Int.toNat (↑s : Int) * (3 : Nat) + (2 : Nat))) < (0 : Int))) (∃ (s' : Nat), Is (dnE (Prod.snd (Prod.snd p_2)) a (qtU a p_2) s' = qtD a p_2 ∧ a ≤ s' ∧ s' < b) ∧ Is (s' < s) ∧ (Value.slice (some { block := (0 : Nat), off := (0 : Nat) }) n c = Value.slice (some { block := (0 : Nat), off := (0 : Nat) }) n c ∧ Value.int IntKind.i64 (↑a : Int) = Value.int IntKind.i64 (↑a : Int) ∧ Value.int IntKind.i64 (↑b : Int) = Value.int IntKind.i64 (↑b : Int) ∧ Value.int IntKind.i64 (↑v : Int) = Value.int IntKind.i64 (↑v : Int) ∧ Value.func (Fn.func (32 : Nat)) #[] #[] = Value.func (Fn.func (32 : Nat)) #[] #[] ∧ Value.int IntKind.i64 (0 : Int) = Value.int IntKind.i64 (0 : Int) ∧ Value.int IntKind.i64 (↑(qtU a p_2) : Int) = Value.int IntKind.i64 (↑(qtU a p_2) : Int) ∧ Value.int IntKind.i64 (IntKind.wrap IntKind.i64 ((↑s : Int) - (1 : Int))) = Value.int IntKind.i64 (↑s' : Int) ∧ True) ∧ some (AObj.row (pA (Prod.snd (Prod.snd p_2))) (3 : Nat) true true true) :: noH = some (AObj.row (pA (Prod.snd (Prod.snd p_2))) (3 : Nat) true true true) :: noH) (∃ (s_2 : Nat), Is (s_2 = (0 : Nat) ∧ True) ∧ (Value.slice (some { block := (0 : Nat), off := (0 : Nat) }) n c = Value.slice (some { block := (0 : Nat), off := (0 : Nat) }) n c ∧ Value.int IntKind.i64 (↑a : Int) = Value.int IntKind.i64 (↑a : Int) ∧ Value.int IntKind.i64 (↑b : Int) = Value.int IntKind.i64 (↑b : Int) ∧ Value.int IntKind.i64 (↑v : Int) = Value.int IntKind.i64 (↑v : Int) ∧ Value.func (Fn.func (32 : Nat)) #[] #[] = Value.func (Fn.func (32 : Nat)) #[] #[] ∧ Value.int IntKind.i64 (0 : Int) = Value.int IntKind.i64 (0 : Int) ∧ Value.int IntKind.i64 (↑(qtU a p_2) : Int) = Value.int IntKind.i64 (↑(qtU a p_1) : Int) ∧ Value.int IntKind.i64 (↑s : Int) = Value.int IntKind.i64 (↑(qtD a p_1) : Int) ∧ True) ∧ some (AObj.row (pA (Prod.snd (Prod.snd p_2))) (3 : Nat) true true true) :: noH = some (AObj.row (pA (Prod.snd (Prod.snd p_1))) (3 : Nat) true true true) :: noH)) (∃ (s_2 : Nat), Is (s_2 = (0 : Nat) ∧ True) ∧ (Value.slice (some { block := (0 : Nat), off := (0 : Nat) }) n c = Value.slice (some { block := (0 : Nat), off := (0 : Nat) }) n c ∧ Value.int IntKind.i64 (↑a : Int) = Value.int IntKind.i64 (↑a : Int) ∧ Value.int IntKind.i64 (↑b : Int) = Value.int IntKind.i64 (↑b : Int) ∧ Value.int IntKind.i64 (↑v : Int) = Value.int IntKind.i64 (↑v : Int) ∧ Value.func (Fn.func (32 : Nat)) #[] #[] = Value.func (Fn.func (32 : Nat)) #[] #[] ∧ Value.int IntKind.i64 (0 : Int) = Value.int IntKind.i64 (0 : Int) ∧ Value.int IntKind.i64 (↑(qtU a p_2) : Int) = Value.int IntKind.i64 (↑(qtU a p_1) : Int) ∧ Value.int IntKind.i64 (↑s : Int) = Value.int IntKind.i64 (↑(qtD a p_1) : Int) ∧ True) ∧ some (AObj.row (pA (Prod.snd (Prod.snd p_2))) (3 : Nat) true true true) :: noH = some (AObj.row (pA (Prod.snd (Prod.snd p_1))) (3 : Nat) true true true) :: noH)) ∧ ∀ (s_2 : Nat), Is (s_2 = (0 : Nat) ∧ True) → br (decide ((↑(qtD a p_1) : Int) < (↑(qtU a p_1) : Int))) (∃ (s : Nat), Is (s = (0 : Nat) ∧ True) ∧ (Value.slice (some { block := (0 : Nat), off := (0 : Nat) }) n c = Value.slice (some { block := (0 : Nat), off := (0 : Nat) }) n c ∧ Value.int IntKind.i64 (↑a : Int) = Value.int IntKind.i64 (↑a : Int) ∧ Value.int IntKind.i64 (↑b : Int) = Value.int IntKind.i64 (↑b : Int) ∧ Value.int IntKind.i64 (↑v : Int) = Value.int IntKind.i64 (↑v : Int) ∧ Value.func (Fn.func (32 : Nat)) #[] #[] = Value.func (Fn.func (32 : Nat)) #[] #[] ∧ Value.int IntKind.i64 (0 : Int) = Value.int IntKind.i64 (0 : Int) ∧ Value.int IntKind.i64 (↑(qtU a p_1) : Int) = Value.int IntKind.i64 (↑(qTn d a b v) : Int) ∧ True) ∧ some (AObj.row (pA (Prod.snd (Prod.snd p_1))) (3 : Nat) true true true) :: noH = some (AObj.row (pA (qTa d a b v)) (3 : Nat) true true true) :: noH) (Is ((0 : Int) ≤ (↑(qtD a p_1) : Int) ∧ (↑(qtD a p_1) : Int) < (↑n : Int)) ∧ Is ((if (0 : Nat) + Int.toNat (↑(qtD a p_1) : Int) * (3 : Nat) + (3 : Nat) ≤ List.length (pA (Prod.snd (Prod.snd p_1))) then some (Value.agg (List.toArray (List.take (3 : Nat) (List.drop ((0 : Nat) + Int.toNat (↑(qtD a p_1) : Int) * (3 : Nat)) (pA (Prod.snd (Prod.snd p_1))))))) else none) = some (Value.agg #[Value.int IntKind.i64 (iAt (pA (Prod.snd (Prod.snd p_1))) ((0 : Nat) + Int.toNat (↑(qtD a p_1) : Int) * (3 : Nat))), Value.int IntKind.i64 (iAt (pA (Prod.snd (Prod.snd p_1))) ((0 : Nat) + Int.toNat (↑(qtD a p_1) : Int) * (3 : Nat) + (1 : Nat))), Value.int IntKind.i64 (iAt (pA (Prod.snd (Prod.snd p_1))) ((0 : Nat) + Int.toNat (↑(qtD a p_1) : Int) * (3 : Nat) + (2 : Nat)))])) ∧ Is ((0 : Int) ≤ (↑(qtU a p_1) : Int) ∧ (↑(qtU a p_1) : Int) < (↑n : Int)) ∧ Is ((if (0 : Nat) + Int.toNat (↑(qtU a p_1) : Int) * (3 : Nat) + (3 : Nat) ≤ List.length (pA (Prod.snd (Prod.snd p_1))) then some (Value.agg (List.toArray (List.take (3 : Nat) (List.drop ((0 : Nat) + Int.toNat (↑(qtU a p_1) : Int) * (3 : Nat)) (pA (Prod.snd (Prod.snd p_1))))))) else none) = some (Value.agg #[Value.int IntKind.i64 (iAt (pA (Prod.snd (Prod.snd p_1))) ((0 : Nat) + Int.toNat (↑(qtU a p_1) : Int) * (3 : Nat))), Value.int IntKind.i64 (iAt (pA (Prod.snd (Prod.snd p_1))) ((0 : Nat) + Int.toNat (↑(qtU a p_1) : Int) * (3 : Nat) + (1 : Nat))), Value.int IntKind.i64 (iAt (pA (Prod.snd (Prod.snd p_1))) ((0 : Nat) + Int.toNat (↑(qtU a p_1) : Int) * (3 : Nat) + (2 : Nat)))])) ∧ Is ((0 : Int) ≤ (↑(qtU a p_1) : Int) ∧ (↑(qtU a p_1) : Int) < (↑n : Int)) ∧ Is ((0 : Nat) + Int.toNat (↑(qtU a p_1) : Int) * (3 : Nat) + List.length [Value.int IntKind.i64 (iAt (pA (Prod.snd (Prod.snd p_1))) ((0 : Nat) + Int.toNat (↑(qtD a p_1) : Int) * (3 : Nat))), Value.int IntKind.i64 (iAt (pA (Prod.snd (Prod.snd p_1))) ((0 : Nat) + Int.toNat (↑(qtD a p_1) : Int) * (3 : Nat) + (1 : Nat))), Value.int IntKind.i64 (iAt (pA (Prod.snd (Prod.snd p_1))) ((0 : Nat) + Int.toNat (↑(qtD a p_1) : Int) * (3 : Nat) + (2 : Nat)))] ≤ List.length (pA (Prod.snd (Prod.snd p_1)))) ∧ Is ((0 : Int) ≤ (↑(qtD a p_1) : Int) ∧ (↑(qtD a p_1) : Int) < (↑n : Int)) ∧ Is ((0 : Nat) + Int.toNat (↑(qtD a p_1) : Int) * (3 : Nat) + List.length [Value.int IntKind.i64 (iAt (pA (Prod.snd (Prod.snd p_1))) ((0 : Nat) + Int.toNat (↑(qtU a p_1) : Int) * (3 : Nat))), Value.int IntKind.i64 (iAt (pA (Prod.snd (Prod.snd p_1))) ((0 : Nat) + Int.toNat (↑(qtU a p_1) : Int) * (3 : Nat) + (1 : Nat))), Value.int IntKind.i64 (iAt (pA (Prod.snd (Prod.snd p_1))) ((0 : Nat) + Int.toNat (↑(qtU a p_1) : Int) * (3 : Nat) + (2 : Nat)))] ≤ List.length (putL (pA (Prod.snd (Prod.snd p_1))) ((0 : Nat) + Int.toNat (↑(qtU a p_1) : Int) * (3 : Nat)) [Value.int IntKind.i64 (iAt (pA (Prod.snd (Prod.snd p_1))) ((0 : Nat) + Int.toNat (↑(qtD a p_1) : Int) * (3 : Nat))), Value.int IntKind.i64 (iAt (pA (Prod.snd (Prod.snd p_1))) ((0 : Nat) + Int.toNat (↑(qtD a p_1) : Int) * (3 : Nat) + (1 : Nat))), Value.int IntKind.i64 (iAt (pA (Prod.snd (Prod.snd p_1))) ((0 : Nat) + Int.toNat (↑(qtD a p_1) : Int) * (3 : Nat) + (2 : Nat)))])) ∧ ∃ (s' : Nat × Nat × Array Mv), Is (qtV d n a b v s') ∧ Is (Prod.fst (Prod.snd s') + (1 : Nat) - Prod.fst s' < Prod.fst (Prod.snd s) + (1 : Nat) - Prod.fst s) ∧ (Value.slice (some { block := (0 : Nat), off := (0 : Nat) }) n c = Value.slice (some { block := (0 : Nat), off := (0 : Nat) }) n c ∧ Value.int IntKind.i64 (↑a : Int) = Value.int IntKind.i64 (↑a : Int) ∧ Value.int IntKind.i64 (↑b : Int) = Value.int IntKind.i64 (↑b : Int) ∧ Value.int IntKind.i64 (↑v : Int) = Value.int IntKind.i64 (↑v : Int) ∧ Value.func (Fn.func (32 : Nat)) #[] #[] = Value.func (Fn.func (32 : Nat)) #[] #[] ∧ Value.int IntKind.i64 (0 : Int) = Value.int IntKind.i64 (0 : Int) ∧ Value.int IntKind.i64 (IntKind.wrap IntKind.i64 ((↑(qtU a p_1) : Int) + (1 : Int))) = Value.int IntKind.i64 (↑(Prod.fst s') : Int) ∧ Value.int IntKind.i64 (IntKind.wrap IntKind.i64 ((↑(qtD a p_1) : Int) - (1 : Int))) = Value.int IntKind.i64 (↑(Prod.fst (Prod.snd s')) : Int) ∧ True) ∧ some (AObj.row (putL (putL (pA (Prod.snd (Prod.snd p_1))) ((0 : Nat) + Int.toNat (↑(qtU a p_1) : Int) * (3 : Nat)) [Value.int IntKind.i64 (iAt (pA (Prod.snd (Prod.snd p_1))) ((0 : Nat) + Int.toNat (↑(qtD a p_1) : Int) * (3 : Nat))), Value.int IntKind.i64 (iAt (pA (Prod.snd (Prod.snd p_1))) ((0 : Nat) + Int.toNat (↑(qtD a p_1) : Int) * (3 : Nat) + (1 : Nat))), Value.int IntKind.i64 (iAt (pA (Prod.snd (Prod.snd p_1))) ((0 : Nat) + Int.toNat (↑(qtD a p_1) : Int) * (3 : Nat) + (2 : Nat)))]) ((0 : Nat) + Int.toNat (↑(qtD a p_1) : Int) * (3 : Nat)) [Value.int IntKind.i64 (iAt (pA (Prod.snd (Prod.snd p_1))) ((0 : Nat) + Int.toNat (↑(qtU a p_1) : Int) * (3 : Nat))), Value.int IntKind.i64 (iAt (pA (Prod.snd (Prod.snd p_1))) ((0 : Nat) + Int.toNat (↑(qtU a p_1) : Int) * (3 : Nat) + (1 : Nat))), Value.int IntKind.i64 (iAt (pA (Prod.snd (Prod.snd p_1))) ((0 : Nat) + Int.toNat (↑(qtU a p_1) : Int) * (3 : Nat) + (2 : Nat)))]) (3 : Nat) true true (true && List.all [Value.int IntKind.i64 (iAt (pA (Prod.snd (Prod.snd p_1))) ((0 : Nat) + Int.toNat (↑(qtD a p_1) : Int) * (3 : Nat))), Value.int IntKind.i64 (iAt (pA (Prod.snd (Prod.snd p_1))) ((0 : Nat) + Int.toNat (↑(qtD a p_1) : Int) * (3 : Nat) + (1 : Nat))), Value.int IntKind.i64 (iAt (pA (Prod.snd (Prod.snd p_1))) ((0 : Nat) + Int.toNat (↑(qtD a p_1) : Int) * (3 : Nat) + (2 : Nat)))] atom && List.all [Value.int IntKind.i64 (iAt (pA (Prod.snd (Prod.snd p_1))) ((0 : Nat) + Int.toNat (↑(qtU a p_1) : Int) * (3 : Nat))), Value.int IntKind.i64 (iAt (pA (Prod.snd (Prod.snd p_1))) ((0 : Nat) + Int.toNat (↑(qtU a p_1) : Int) * (3 : Nat) + (1 : Nat))), Value.int IntKind.i64 (iAt (pA (Prod.snd (Prod.snd p_1))) ((0 : Nat) + Int.toNat (↑(qtU a p_1) : Int) * (3 : Nat) + (2 : Nat)))] atom)) :: noH = some (AObj.row (pA (Prod.snd (Prod.snd s'))) (3 : Nat) true true true) :: noH)) ∧ ∀ (s : Nat), Is (s = (0 : Nat) ∧ True) → K (Value.int IntKind.i64 (↑(qTn d a b v) : Int)) (some (AObj.row (pA (qTa d a b v)) (3 : Nat) true true true) :: noH)) := by kernel_rfl
theorem upE_eqn (d : Array Mv) (a j i : Nat) : upE d a j i = if (decide (i ≤ j) && !ltM d[a]! d[i]!) = true then upE d a j (i + 1) else i := by
  rw [upE, Go.Sort.scanUp]; rfl
theorem upE_in {d : Array Mv} {a j b : Nat} (hj : j < b) : ∀ (k i : Nat), b - i ≤ k → i ≤ b → i ≤ upE d a j i ∧ upE d a j i ≤ b
  | 0, i, hk, hi => by
    rw [upE_eqn, if_neg (by rw [decide_eq_false (show ¬ i ≤ j by omega)]; simp)]; omega
  | k + 1, i, hk, hi => by
    rw [upE_eqn]
    split
    · rename_i h
      simp only [Bool.and_eq_true, decide_eq_true_eq] at h
      have := upE_in (d := d) (a := a) hj k (i + 1) (by omega) (by omega)
      omega
    · omega
theorem dnE_in {d : Array Mv} {a i : Nat} (hi : a + 1 ≤ i) : ∀ j, a ≤ j → a ≤ dnE d a i j ∧ dnE d a i j ≤ j
  | 0, h => ⟨h, Nat.le_refl _⟩
  | j + 1, h => by
    rw [dnE, Go.Sort.scanDown]
    split
    · rename_i hc
      simp only [Bool.and_eq_true, decide_eq_true_eq] at hc
      have := dnE_in (d := d) hi j (by omega)
      rw [dnE] at this
      omega
    · omega
theorem dnE_s {d : Array Mv} {a i j : Nat} : dnE d a i (j + 1) = if (decide (i ≤ j + 1) && ltM d[a]! d[j + 1]!) = true then dnE d a i j else j + 1 := by
  rw [dnE, Go.Sort.scanDown]; rfl
theorem dnE_no {d : Array Mv} {a i j : Nat} (h : ¬ i ≤ j) : dnE d a i j = j := by
  cases j with
  | zero => rfl
  | succ j => rw [dnE_s, if_neg (by rw [decide_eq_false h]; simp)]
theorem ql_eq (a i j : Nat) (d : Array Mv) : Go.Sort.partEqLoop ltM a i j d = if upE d a j i > dnE d a (upE d a j i) j then (upE d a j i, d) else
    if dnE d a (upE d a j i) j - 1 + 1 - (upE d a j i + 1) < j + 1 - i then Go.Sort.partEqLoop ltM a (upE d a j i + 1) (dnE d a (upE d a j i) j - 1) (Go.Sort.swp d (upE d a j i) (dnE d a (upE d a j i) j)) else (upE d a j i, d) := by
  rw [Go.Sort.partEqLoop]; rfl
end
end Qq
end
section
/- The sort's parting into equal ones and greater ones: what it gives. -/
open Go Go.Vm Go.Proofs Sp
namespace Qq
noncomputable section
section
variable {d : Array Mv} {n c a b v : Nat}
/-- One round of the first scan. -/
theorem upM {e : Array Mv} {i j : Nat} (hu : gdM e n) (hj : j < b) (hbn : b ≤ n) (ha : a < b) (hi : a + 1 ≤ i ∧ i ≤ b) {X Y : Prop} (hX : i + 1 ≤ b → upE e a j (i + 1) = upE e a j i → X) (hY : i = upE e a j i → Y) :
    br (decide ((i : Int) ≤ (j : Int)))
      (Is ((0 : Int) ≤ (a : Int) ∧ (a : Int) < (n : Int)) ∧ Is ((if 0 + (a : Int).toNat * 3 + 3 ≤ List.length (pA e) then some (Value.agg (List.toArray (List.take 3 (List.drop (0 + (a : Int).toNat * 3) (pA e))))) else none) = some (gMv (pA e) (0 + (a : Int).toNat * 3))) ∧
        Is ((0 : Int) ≤ (i : Int) ∧ (i : Int) < (n : Int)) ∧ Is ((if 0 + (i : Int).toNat * 3 + 3 ≤ List.length (pA e) then some (Value.agg (List.toArray (List.take 3 (List.drop (0 + (i : Int).toNat * 3) (pA e))))) else none) = some (gMv (pA e) (0 + (i : Int).toNat * 3))) ∧
        Is (mvIn (iAt (pA e) (0 + (a : Int).toNat * 3)) (iAt (pA e) (0 + (a : Int).toNat * 3 + 1)) ∧ mvIn (iAt (pA e) (0 + (i : Int).toNat * 3)) (iAt (pA e) (0 + (i : Int).toNat * 3 + 1))) ∧
        br (!decide (cpI (iAt (pA e) (0 + (a : Int).toNat * 3)) (iAt (pA e) (0 + (a : Int).toNat * 3 + 1)) (iAt (pA e) (0 + (a : Int).toNat * 3 + 2)) (iAt (pA e) (0 + (i : Int).toNat * 3)) (iAt (pA e) (0 + (i : Int).toNat * 3 + 1)) (iAt (pA e) (0 + (i : Int).toNat * 3 + 2)) < 0)) X Y) Y := by
  have hsz := hu.1
  refine br_of (fun h1 => ?_) (fun h1 => ?_)
  · have h1 := of_decide_eq_true h1
    have h1 : i ≤ j := by omega
    refine cmS hu (by omega) (by omega) (br_of (fun h2 => ?_) (fun h2 => ?_))
    · rw [k3, k3, cp_at (by omega) (by omega)] at h2
      refine hX (by omega) ?_
      conv => rhs; rw [upE_eqn, if_pos (by rw [decide_eq_true h1, Bool.true_and]; exact h2)]
    · rw [k3, k3, cp_at (by omega) (by omega)] at h2
      refine hY ?_
      rw [upE_eqn, if_neg (by rw [show (!ltM e[a]! e[i]!) = false from h2, Bool.and_false]; decide)]
  · have h1 := of_decide_eq_false h1
    exact hY (by rw [upE_eqn, if_neg (by rw [decide_eq_false (show ¬ i ≤ j by omega)]; simp)])
/-- One round of the second scan. -/
theorem dnM {e : Array Mv} {i j : Nat} (hu : gdM e n) (hi : a + 1 ≤ i) (hbn : b ≤ n) (hj : a ≤ j ∧ j < b) {X Y : Prop} (hX : 1 ≤ j → a ≤ j - 1 → dnE e a i (j - 1) = dnE e a i j → X) (hY : j = dnE e a i j → Y) :
    br (decide ((i : Int) ≤ (j : Int)))
      (Is ((0 : Int) ≤ (a : Int) ∧ (a : Int) < (n : Int)) ∧ Is ((if 0 + (a : Int).toNat * 3 + 3 ≤ List.length (pA e) then some (Value.agg (List.toArray (List.take 3 (List.drop (0 + (a : Int).toNat * 3) (pA e))))) else none) = some (gMv (pA e) (0 + (a : Int).toNat * 3))) ∧
        Is ((0 : Int) ≤ (j : Int) ∧ (j : Int) < (n : Int)) ∧ Is ((if 0 + (j : Int).toNat * 3 + 3 ≤ List.length (pA e) then some (Value.agg (List.toArray (List.take 3 (List.drop (0 + (j : Int).toNat * 3) (pA e))))) else none) = some (gMv (pA e) (0 + (j : Int).toNat * 3))) ∧
        Is (mvIn (iAt (pA e) (0 + (a : Int).toNat * 3)) (iAt (pA e) (0 + (a : Int).toNat * 3 + 1)) ∧ mvIn (iAt (pA e) (0 + (j : Int).toNat * 3)) (iAt (pA e) (0 + (j : Int).toNat * 3 + 1))) ∧
        br (decide (cpI (iAt (pA e) (0 + (a : Int).toNat * 3)) (iAt (pA e) (0 + (a : Int).toNat * 3 + 1)) (iAt (pA e) (0 + (a : Int).toNat * 3 + 2)) (iAt (pA e) (0 + (j : Int).toNat * 3)) (iAt (pA e) (0 + (j : Int).toNat * 3 + 1)) (iAt (pA e) (0 + (j : Int).toNat * 3 + 2)) < 0)) X Y) Y := by
  have hsz := hu.1
  refine br_of (fun h1 => ?_) (fun h1 => ?_)
  · have h1 := of_decide_eq_true h1
    have h1 : i ≤ j := by omega
    obtain ⟨k, rfl⟩ : ∃ k, j = k + 1 := ⟨j - 1, by omega⟩
    refine cmS hu (by omega) (by omega) (br_of (fun h2 => ?_) (fun h2 => ?_))
    · rw [k3, k3, cp_at (by omega) (by omega)] at h2
      refine hX (by omega) (by omega) ?_
      rw [dnE_s, if_pos (by rw [decide_eq_true h1, Bool.true_and]; exact h2)]; rfl
    · rw [k3, k3, cp_at (by omega) (by omega)] at h2
      refine hY ?_
      rw [dnE_s, if_neg (by rw [show ltM e[a]! e[k + 1]! = false from h2, Bool.and_false]; decide)]
  · have h1 := of_decide_eq_false h1
    exact hY (dnE_no (by omega)).symm
end
theorem qt_ok {d : Array Mv} {n c a b v : Nat} (hg : gdM d n) (hav : a ≤ v) (hvb : v < b) (hbn : b ≤ n) :
    SmallRes Try.prog 83 [.slice (some ⟨0, 0, none⟩) n c, .int .i64 (a : Int), .int .i64 (b : Int), .int .i64 (v : Int), fF] [mR d]
      (.int .i64 ((Go.Sort.partitionEqual ltM d a b v).1 : Int)) [mR (Go.Sort.partitionEqual ltM d a b v).2] := by
  have h49 := hg.2.1
  have hD : gdM (Go.Sort.swp d a v) n := gd_swp hg (by omega) (by omega)
  have up1' : ∀ x : Nat, x ≤ 100 → IntKind.wrap .i64 ((x : Int) + 1) = ((x + 1 : Nat) : Int) := fun x hx => (wr_n (by omega) (by omega)).trans (by omega)
  have dn1' : ∀ x : Nat, x ≤ 100 → 1 ≤ x → IntKind.wrap .i64 ((x : Int) - 1) = ((x - 1 : Nat) : Int) := fun x hx h1 => (wr_n (by omega) (by omega)).trans (by omega)
  have hN : ∀ s : Ps, qtV d n a b v s → gdM s.2.2 n ∧ (a + 1 ≤ qtU a s ∧ qtU a s ≤ b) ∧ (a ≤ qtD a s ∧ qtD a s ≤ s.2.1) ∧ s.1 ≤ qtU a s ∧
      (qtU a s > qtD a s → qtU a s = qTn d a b v ∧ s.2.2 = qTa d a b v) ∧
      (¬ qtU a s > qtD a s → qtV d n a b v (qtU a s + 1, qtD a s - 1, Go.Sort.swp s.2.2 (qtU a s) (qtD a s)) ∧ qtD a s - 1 + 1 - (qtU a s + 1) < s.2.1 + 1 - s.1) := fun s hs => by
    obtain ⟨⟨q1, q2⟩, ⟨q3, q4⟩, q5, q6⟩ := hs
    have u := upE_in (d := s.2.2) (a := a) q6 _ s.1 (Nat.le_refl _) q4
    have w := dnE_in (d := s.2.2) (i := qtU a s) (by have := u.1; show a + 1 ≤ upE _ _ _ _; omega) s.2.1 q5
    have u' : s.1 ≤ qtU a s ∧ qtU a s ≤ b := u
    have w' : a ≤ qtD a s ∧ qtD a s ≤ s.2.1 := w
    rw [ql_eq] at q1
    have q1 : (if qtU a s > qtD a s then (qtU a s, s.2.2) else if qtD a s - 1 + 1 - (qtU a s + 1) < s.2.1 + 1 - s.1 then Go.Sort.partEqLoop ltM a (qtU a s + 1) (qtD a s - 1) (Go.Sort.swp s.2.2 (qtU a s) (qtD a s)) else (qtU a s, s.2.2)) = qT d a b v := q1
    refine ⟨q2, ⟨by omega, u'.2⟩, w', u'.1, fun hgt => ?_, fun hle => ?_⟩
    · rw [if_pos hgt] at q1
      rw [qTn, qTa, ← q1]; exact ⟨rfl, rfl⟩
    · have hm' : qtD a s - 1 + 1 - (qtU a s + 1) < s.2.1 + 1 - s.1 := by omega
      rw [if_neg hle, if_pos hm'] at q1
      exact ⟨⟨⟨q1, gd_swp q2 (by omega) (by omega)⟩, ⟨by show a + 1 ≤ qtU a s + 1; omega, by show qtU a s + 1 ≤ b; omega⟩, by show a ≤ qtD a s - 1; omega, by show qtD a s - 1 < b; omega⟩, hm'⟩
  have hV0 : qtV d n a b v (a + 1, b - 1, Go.Sort.swp d a v) :=
    ⟨⟨rfl, hD⟩, ⟨Nat.le_refl _, by show a + 1 ≤ b; omega⟩, by show a ≤ b - 1; omega, by show b - 1 < b; omega⟩
  refine fnP_res hm c0_ok (hs := hsQt d n c a b v) ?_
  rw [qt_t]
  refine swS hg (by omega) (by omega) ⟨?_, fun _ _ => ⟨rfl, rfl⟩⟩
  refine ⟨(0, 0, d), ⟨(a + 1, b - 1, Go.Sort.swp d a v), ⟨hV0⟩, ⟨rfl, rfl, rfl, rfl, rfl, rfl, by rw [up1' a (by omega)], by rw [dn1' b (by omega) (by omega)], trivial⟩, by rw [k3, k3, swp_put (by rw [hg.1]; omega) (by rw [hg.1]; omega)]; rfl⟩, fun s hs => ?_⟩
  have hv := hs.out
  obtain ⟨g1, ⟨g2, g3⟩, ⟨g4, g5⟩, g6, g7, g8⟩ := hN s hv
  obtain ⟨⟨_, _⟩, ⟨q3, q4⟩, q5, q6⟩ := hv
  refine ⟨s, ⟨s, ⟨s.1, ⟨rfl, q3, q4⟩, ⟨rfl, rfl, rfl, rfl, rfl, rfl, rfl, rfl, trivial⟩, rfl⟩, fun i hi => ?_⟩, fun _ _ => ⟨s, ⟨s, ⟨s.2.1, ⟨rfl, q5, q6⟩, ⟨rfl, rfl, rfl, rfl, rfl, rfl, rfl, rfl, trivial⟩, rfl⟩, fun j hj => ?_⟩, fun _ _ => ?_⟩⟩
  · obtain ⟨i1, i2, i3⟩ := hi.out
    exact upM g1 q6 hbn (by omega) ⟨i2, i3⟩ (fun h1 h2 => ⟨i + 1, ⟨by rw [h2, i1], by omega, h1⟩, ⟨by omega⟩, ⟨rfl, rfl, rfl, rfl, rfl, rfl, by rw [up1' i (by omega)], rfl, trivial⟩, rfl⟩)
      fun e => ⟨0, ⟨rfl, trivial⟩, ⟨rfl, rfl, rfl, rfl, rfl, rfl, by rw [← i1, ← e], rfl, trivial⟩, rfl⟩
  · obtain ⟨j1, j2, j3⟩ := hj.out
    exact dnM g1 g2 hbn ⟨j2, j3⟩ (fun h1 h2 h3 => ⟨j - 1, ⟨by rw [h3, j1], h2, by omega⟩, ⟨by omega⟩, ⟨rfl, rfl, rfl, rfl, rfl, rfl, rfl, by rw [dn1' j (by omega) h1], trivial⟩, rfl⟩)
      fun e => ⟨0, ⟨rfl, trivial⟩, ⟨rfl, rfl, rfl, rfl, rfl, rfl, rfl, by rw [← j1, ← e], trivial⟩, rfl⟩
  · refine br_of (fun h2 => ?_) (fun h2 => ?_)
    · have h2 := of_decide_eq_true h2
      obtain ⟨r1, r2⟩ := g7 (by omega)
      exact ⟨0, ⟨rfl, trivial⟩, ⟨rfl, rfl, rfl, rfl, rfl, rfl, by rw [r1], trivial⟩, by rw [r2]⟩
    · have h2 := of_decide_eq_false h2
      obtain ⟨r1, r2⟩ := g8 (by omega)
      refine swS g1 (by omega) (by omega) ?_
      rw [up1' (qtU a s) (by omega), dn1' (qtD a s) (by omega) (by omega), k3, k3, swp_put (by rw [g1.1]; omega) (by rw [g1.1]; omega)]
      exact ⟨(qtU a s + 1, qtD a s - 1, Go.Sort.swp s.2.2 (qtU a s) (qtD a s)), ⟨r1⟩, ⟨r2⟩, ⟨rfl, rfl, rfl, rfl, rfl, rfl, rfl, rfl, trivial⟩, rfl⟩
end
end Qq
end
section
/- The sort's patterns, broken. -/
open Go Go.Vm Go.Proofs Sp
namespace Sp
noncomputable section
noncomputable def nxI (r : Int) : Int := lxor .u64 (lxor .u64 (lxor .u64 r (shl .u64 r 13)) (shr .u64 (lxor .u64 r (shl .u64 r 13)) 7)) (shl .u64 (lxor .u64 (lxor .u64 r (shl .u64 r 13)) (shr .u64 (lxor .u64 r (shl .u64 r 13)) 7)) 17)
noncomputable def blN (x : Int) : Int := (Go.Sort.bitsLen x.toNat : Nat)
end
end Sp
namespace Qq
noncomputable section
noncomputable def hsNx : Hs Try.prog where
  op y := if [101, 104, 108, 201, 204, 208, 301, 304, 308, 401].contains y then some (hNc Try.prog) else if [106, 107, 207, 306, 307].contains y then some (hBx Try.prog) else if y = 206 then some (hBs Try.prog) else none
  nl _ := [.stay]
  rn := [.stay]
  au := au0 Try.prog
noncomputable def bxU (r : Int) : Option AObj := some (.row [.int .u64 r] 0 false true true)
theorem nx_t (r : Int) (K : Value → Heap → Prop) :
    (fnP Try.prog c0 hsNx (95 : FuncId) [Value.pointer (some { block := (0 : Nat), off := (0 : Nat) })] [bxU r] K) =
    (Is True ∧ Is True ∧ Is ((0 : Int) ≤ (13 : Int)) ∧ Is True ∧ Is True ∧ Is True ∧ Is True ∧ Is ((0 : Int) ≤ (7 : Int)) ∧ Is True ∧ Is True ∧ Is True ∧ Is True ∧ Is ((0 : Int) ≤ (17 : Int)) ∧ Is True ∧ Is True ∧ Is True ∧ K (Value.int IntKind.u64 (lxor IntKind.u64 (lxor IntKind.u64 (lxor IntKind.u64 r (shl IntKind.u64 r (13 : Int))) (shr IntKind.u64 (lxor IntKind.u64 r (shl IntKind.u64 r (13 : Int))) (7 : Int))) (shl IntKind.u64 (lxor IntKind.u64 (lxor IntKind.u64 r (shl IntKind.u64 r (13 : Int))) (shr IntKind.u64 (lxor IntKind.u64 r (shl IntKind.u64 r (13 : Int))) (7 : Int))) (17 : Int)))) (some (AObj.row [Value.int IntKind.u64 (lxor IntKind.u64 (lxor IntKind.u64 (lxor IntKind.u64 r (shl IntKind.u64 r (13 : Int))) (shr IntKind.u64 (lxor IntKind.u64 r (shl IntKind.u64 r (13 : Int))) (7 : Int))) (shl IntKind.u64 (lxor IntKind.u64 (lxor IntKind.u64 r (shl IntKind.u64 r (13 : Int))) (shr IntKind.u64 (lxor IntKind.u64 r (shl IntKind.u64 r (13 : Int))) (7 : Int))) (17 : Int)))] (0 : Nat) false true (true && List.all [Value.int IntKind.u64 (lxor IntKind.u64 r (shl IntKind.u64 r (13 : Int)))] atom && List.all [Value.int IntKind.u64 (lxor IntKind.u64 (lxor IntKind.u64 r (shl IntKind.u64 r (13 : Int))) (shr IntKind.u64 (lxor IntKind.u64 r (shl IntKind.u64 r (13 : Int))) (7 : Int)))] atom && List.all [Value.int IntKind.u64 (lxor IntKind.u64 (lxor IntKind.u64 (lxor IntKind.u64 r (shl IntKind.u64 r (13 : Int))) (shr IntKind.u64 (lxor IntKind.u64 r (shl IntKind.u64 r (13 : Int))) (7 : Int))) (shl IntKind.u64 (lxor IntKind.u64 (lxor IntKind.u64 r (shl IntKind.u64 r (13 : Int))) (shr IntKind.u64 (lxor IntKind.u64 r (shl IntKind.u64 r (13 : Int))) (7 : Int))) (17 : Int)))] atom)) :: noH)) := by kernel_rfl
theorem wrap_u {x : Int} (h0 : 0 ≤ x) (h1 : x ≤ 1000) : IntKind.wrap .u64 x = x := by
  have h : IntKind.wrap .u64 x = if (false && decide (x % 18446744073709551616 ≥ 9223372036854775808)) = true then x % 18446744073709551616 - 18446744073709551616 else x % 18446744073709551616 := rfl
  rw [h, Bool.false_and, if_neg (by decide)]
  omega
theorem bl_at (K : Value → Heap → Prop) : ∀ x, x < 64 → fnP Try.prog c0 hsNo 55 [.int .u64 ((x : Nat) : Int)] [] K = K (.int .i64 (blN (x : Int))) []
  | 0, _ => by kernel_rfl
  | 1, _ => by kernel_rfl
  | 2, _ => by kernel_rfl
  | 3, _ => by kernel_rfl
  | 4, _ => by kernel_rfl
  | 5, _ => by kernel_rfl
  | 6, _ => by kernel_rfl
  | 7, _ => by kernel_rfl
  | 8, _ => by kernel_rfl
  | 9, _ => by kernel_rfl
  | 10, _ => by kernel_rfl
  | 11, _ => by kernel_rfl
  | 12, _ => by kernel_rfl
  | 13, _ => by kernel_rfl
  | 14, _ => by kernel_rfl
  | 15, _ => by kernel_rfl
  | 16, _ => by kernel_rfl
  | 17, _ => by kernel_rfl
  | 18, _ => by kernel_rfl
  | 19, _ => by kernel_rfl
  | 20, _ => by kernel_rfl
  | 21, _ => by kernel_rfl
  | 22, _ => by kernel_rfl
  | 23, _ => by kernel_rfl
  | 24, _ => by kernel_rfl
  | 25, _ => by kernel_rfl
  | 26, _ => by kernel_rfl
  | 27, _ => by kernel_rfl
  | 28, _ => by kernel_rfl
  | 29, _ => by kernel_rfl
  | 30, _ => by kernel_rfl
  | 31, _ => by kernel_rfl
  | 32, _ => by kernel_rfl
  | 33, _ => by kernel_rfl
  | 34, _ => by kernel_rfl
  | 35, _ => by kernel_rfl
  | 36, _ => by kernel_rfl
  | 37, _ => by kernel_rfl
  | 38, _ => by kernel_rfl
  | 39, _ => by kernel_rfl
  | 40, _ => by kernel_rfl
  | 41, _ => by kernel_rfl
  | 42, _ => by kernel_rfl
  | 43, _ => by kernel_rfl
  | 44, _ => by kernel_rfl
  | 45, _ => by kernel_rfl
  | 46, _ => by kernel_rfl
  | 47, _ => by kernel_rfl
  | 48, _ => by kernel_rfl
  | 49, _ => by kernel_rfl
  | 50, _ => by kernel_rfl
  | 51, _ => by kernel_rfl
  | 52, _ => by kernel_rfl
  | 53, _ => by kernel_rfl
  | 54, _ => by kernel_rfl
  | 55, _ => by kernel_rfl
  | 56, _ => by kernel_rfl
  | 57, _ => by kernel_rfl
  | 58, _ => by kernel_rfl
  | 59, _ => by kernel_rfl
  | 60, _ => by kernel_rfl
  | 61, _ => by kernel_rfl
  | 62, _ => by kernel_rfl
  | 63, _ => by kernel_rfl
  | n + 64, h => by omega
noncomputable def orcBl : OrcV
  | [.int .u64 x], [] => some (.int .i64 (blN x), [], 0 ≤ x ∧ x < 64)
  | _, _ => none
theorem okBl : OkV Try.prog 55 orcBl := by
  intro args H ret H' vc h hv
  unfold orcBl at h
  split at h
  · rename_i x
    cases h
    obtain ⟨h1, h2⟩ := hv
    obtain ⟨n, rfl⟩ : ∃ n : Nat, x = (n : Int) := ⟨x.toNat, by omega⟩
    refine fnP_res hm c0_ok (hs := hsNo) ?_
    show fnP Try.prog c0 hsNo 55 _ _ _
    rw [bl_at _ n (by omega)]
    exact ⟨rfl, rfl⟩
  · cases h
noncomputable def hsNp : Hs Try.prog where
  op y := if y = 103 then some (hBx Try.prog) else none
  au := auCalls [(55, hCa Try.prog 55 orcBl okBl)]
theorem np_t (x : Int) (K : Value → Heap → Prop) :
    (fnP Try.prog c0 hsNp (94 : FuncId) [Value.int IntKind.i64 x] [] K) =
    (Is ((0 : Int) ≤ IntKind.wrap IntKind.u64 x ∧ IntKind.wrap IntKind.u64 x < (64 : Int)) ∧ Is ((0 : Int) ≤ blN (IntKind.wrap IntKind.u64 x)) ∧ K (Value.int IntKind.u64 (shl IntKind.u64 (1 : Int) (blN (IntKind.wrap IntKind.u64 x)))) noH) := by kernel_rfl
noncomputable def orcNx : OrcV
  | [.pointer (some ⟨0, 0, none⟩)], [some (.row [.int .u64 r] 0 false true true)] => some (.int .u64 (nxI r), [some (.row [.int .u64 (nxI r)] 0 false true true)], True)
  | _, _ => none
theorem okNx : OkV Try.prog 95 orcNx := by
  intro args H ret H' vc h hv
  unfold orcNx at h
  split at h
  · rename_i r
    cases h
    refine fnP_res hm c0_ok (hs := hsNx) ?_
    show fnP Try.prog c0 hsNx 95 _ [bxU r] _
    rw [nx_t]
    exact ⟨⟨trivial⟩, ⟨trivial⟩, ⟨by decide⟩, ⟨trivial⟩, ⟨trivial⟩, ⟨trivial⟩, ⟨trivial⟩, ⟨by decide⟩, ⟨trivial⟩, ⟨trivial⟩, ⟨trivial⟩, ⟨trivial⟩, ⟨by decide⟩, ⟨trivial⟩, ⟨trivial⟩, ⟨trivial⟩, rfl, rfl⟩
  · cases h
noncomputable def npI (x : Int) : Int := shl .u64 1 (blN x)
noncomputable def orcNp : OrcV
  | [.int .i64 x], [] => some (.int .u64 (npI x), [], 0 ≤ x ∧ x < 64)
  | _, _ => none
theorem okNp : OkV Try.prog 94 orcNp := by
  intro args H ret H' vc h hv
  unfold orcNp at h
  split at h
  · rename_i x
    cases h
    obtain ⟨h1, h2⟩ := hv
    have e : IntKind.wrap .u64 x = x := wrap_u h1 (by omega)
    refine fnP_res hm c0_ok (hs := hsNp) ?_
    rw [np_t, e]
    exact ⟨⟨h1, h2⟩, ⟨by rw [blN]; omega⟩, rfl, rfl⟩
  · cases h
/-- Behind t rounds. -/
noncomputable def bkO (L : Nat) (r : Int) : Int := land .u64 r (IntKind.wrap .u64 (npI (L : Int) - 1))
noncomputable def bkN (L : Nat) (r : Int) : Nat := if (L : Int) ≤ bkO L r then (bkO L r - L).toNat else (bkO L r).toNat
noncomputable def bkR (L : Nat) : Nat → Int
  | 0 => (L : Int)
  | t + 1 => nxI (bkR L t)
noncomputable def bkD (d : Array Mv) (a L : Nat) : Nat → Array Mv
  | 0 => d
  | t + 1 => Go.Sort.swp (bkD d a L t) (a + L / 4 * 2 - 1 + t) (a + bkN L (bkR L (t + 1)))
noncomputable def lpBk (d : Array Mv) (n c a b : Nat) : Lp where
  σ := Nat
  E t := slots 67 (s4 n c a b ++ [(8, .int .i64 ((b - a : Nat) : Int)), (9, .pointer (some ⟨1, 0, none⟩)), (10, .int .u64 (npI ((b - a : Nat) : Int))), (11, .int .i64 ((a + (b - a) / 4 * 2 - 1 + t : Nat) : Int))])
  Hp t := [mR (bkD d a (b - a) t), bxU (bkR (b - a) t)]
  I t := t ≤ 3
  m t := 3 - t
noncomputable def hsBk (d : Array Mv) (n c a b : Nat) : Hs Try.prog where
  op y := if [1010, 1014, 1016, 1018].contains y then some (hIa Try.prog) else if [1011, 1015].contains y then some (hLc Try.prog gMv) else if [1017, 1019].contains y then some (hSp Try.prog) else if y = 703 then some (hBs Try.prog) else none
  lp y := if y = 5 then some (lpBk d n c a b) else none
  cl _ := keep 67 [0, 1, 2, 3, 8, 9, 10, 11]
  nl _ := [.stay]
  sm := true
  au := auCalls [(94, hCa Try.prog 94 orcNp okNp), (95, hCa Try.prog 95 orcNx okNx)]
theorem bk_t (d : Array Mv) (n : Nat) (c : Nat) (a : Nat) (b : Nat) (K : Value → Heap → Prop) :
    (fnP Try.prog c0 (hsBk d n c a b) (79 : FuncId) [Value.slice (some { block := (0 : Nat), off := (0 : Nat) }) n c, Value.int IntKind.i64 (↑a : Int), Value.int IntKind.i64 (↑b : Int), fF] [mR d] K) =
    (br (decide ((8 : Int) ≤ IntKind.wrap IntKind.i64 ((↑b : Int) - (↑a : Int)))) (Is ((0 : Int) ≤ IntKind.wrap IntKind.i64 ((↑b : Int) - (↑a : Int)) ∧ IntKind.wrap IntKind.i64 ((↑b : Int) - (↑a : Int)) < (64 : Int)) ∧ Is ((4 : Int) ≠ (0 : Int)) ∧ (∃ (s : Nat), Is (s ≤ (3 : Nat)) ∧ (Value.slice (some { block := (0 : Nat), off := (0 : Nat) }) n c = Value.slice (some { block := (0 : Nat), off := (0 : Nat) }) n c ∧ Value.int IntKind.i64 (↑a : Int) = Value.int IntKind.i64 (↑a : Int) ∧ Value.int IntKind.i64 (↑b : Int) = Value.int IntKind.i64 (↑b : Int) ∧ Value.func (Fn.func (32 : Nat)) #[] #[] = Value.func (Fn.func (32 : Nat)) #[] #[] ∧ Value.int IntKind.i64 (IntKind.wrap IntKind.i64 ((↑b : Int) - (↑a : Int))) = Value.int IntKind.i64 (↑(b - a) : Int) ∧ Value.pointer (some { block := List.length (some (AObj.row (pA d) (3 : Nat) true true true) :: noH), off := (0 : Nat) }) = Value.pointer (some { block := (1 : Nat), off := (0 : Nat) }) ∧ Value.int IntKind.u64 (npI (IntKind.wrap IntKind.i64 ((↑b : Int) - (↑a : Int)))) = Value.int IntKind.u64 (npI (↑(b - a) : Int)) ∧ Value.int IntKind.i64 (IntKind.wrap IntKind.i64 (IntKind.wrap IntKind.i64 ((↑a : Int) + IntKind.wrap IntKind.i64 (IntKind.wrap IntKind.i64 (Int.tdiv (IntKind.wrap IntKind.i64 ((↑b : Int) - (↑a : Int))) (4 : Int)) * (2 : Int))) - (1 : Int))) = Value.int IntKind.i64 (↑(a + (b - a) / (4 : Nat) * (2 : Nat) - (1 : Nat) + s) : Int) ∧ True) ∧ some (AObj.row (pA d) (3 : Nat) true true true) :: some (AObj.row [Value.int IntKind.u64 (IntKind.wrap IntKind.u64 (IntKind.wrap IntKind.i64 ((↑b : Int) - (↑a : Int))))] (0 : Nat) false true (true && List.all [Value.int IntKind.u64 (IntKind.wrap IntKind.u64 (IntKind.wrap IntKind.i64 ((↑b : Int) - (↑a : Int))))] atom)) :: noH = some (AObj.row (pA (bkD d a (b - a) s)) (3 : Nat) true true true) :: some (AObj.row [Value.int IntKind.u64 (bkR (b - a) s)] (0 : Nat) false true true) :: noH) ∧ ∀ (s : Nat), Is (s ≤ (3 : Nat)) → Is ((4 : Int) ≠ (0 : Int)) ∧ br (decide ((↑(a + (b - a) / (4 : Nat) * (2 : Nat) - (1 : Nat) + s) : Int) ≤ IntKind.wrap IntKind.i64 (IntKind.wrap IntKind.i64 ((↑a : Int) + IntKind.wrap IntKind.i64 (IntKind.wrap IntKind.i64 (Int.tdiv (↑(b - a) : Int) (4 : Int)) * (2 : Int))) + (1 : Int)))) (Is True ∧ Is True ∧ br (decide ((↑(b - a) : Int) ≤ IntKind.wrap IntKind.i64 (land IntKind.u64 (nxI (bkR (b - a) s)) (IntKind.wrap IntKind.u64 (npI (↑(b - a) : Int) - (1 : Int)))))) (Is ((0 : Int) ≤ IntKind.wrap IntKind.i64 ((↑a : Int) + IntKind.wrap IntKind.i64 (IntKind.wrap IntKind.i64 (land IntKind.u64 (nxI (bkR (b - a) s)) (IntKind.wrap IntKind.u64 (npI (↑(b - a) : Int) - (1 : Int)))) - (↑(b - a) : Int))) ∧ IntKind.wrap IntKind.i64 ((↑a : Int) + IntKind.wrap IntKind.i64 (IntKind.wrap IntKind.i64 (land IntKind.u64 (nxI (bkR (b - a) s)) (IntKind.wrap IntKind.u64 (npI (↑(b - a) : Int) - (1 : Int)))) - (↑(b - a) : Int))) < (↑n : Int)) ∧ Is ((if (0 : Nat) + Int.toNat (IntKind.wrap IntKind.i64 ((↑a : Int) + IntKind.wrap IntKind.i64 (IntKind.wrap IntKind.i64 (land IntKind.u64 (nxI (bkR (b - a) s)) (IntKind.wrap IntKind.u64 (npI (↑(b - a) : Int) - (1 : Int)))) - (↑(b - a) : Int)))) * (3 : Nat) + (3 : Nat) ≤ List.length (pA (bkD d a (b - a) s)) then some (Value.agg (List.toArray (List.take (3 : Nat) (List.drop ((0 : Nat) + Int.toNat (IntKind.wrap IntKind.i64 ((↑a : Int) + IntKind.wrap IntKind.i64 (IntKind.wrap IntKind.i64 (land IntKind.u64 (nxI (bkR (b - a) s)) (IntKind.wrap IntKind.u64 (npI (↑(b - a) : Int) - (1 : Int)))) - (↑(b - a) : Int)))) * (3 : Nat)) (pA (bkD d a (b - a) s)))))) else none) = some (Value.agg #[Value.int IntKind.i64 (iAt (pA (bkD d a (b - a) s)) ((0 : Nat) + Int.toNat (IntKind.wrap IntKind.i64 ((↑a : Int) + IntKind.wrap IntKind.i64 (IntKind.wrap IntKind.i64 (land IntKind.u64 (nxI (bkR (b - a) s)) (IntKind.wrap IntKind.u64 (npI (↑(b - a) : Int) - (1 : Int)))) - (↑(b - a) : Int)))) * (3 : Nat))), Value.int IntKind.i64 (iAt (pA (bkD d a (b - a) s)) ((0 : Nat) + Int.toNat (IntKind.wrap IntKind.i64 ((↑a : Int) + IntKind.wrap IntKind.i64 (IntKind.wrap IntKind.i64 (land IntKind.u64 (nxI (bkR (b - a) s)) (IntKind.wrap IntKind.u64 (npI (↑(b - a) : Int) - (1 : Int)))) - (↑(b - a) : Int)))) * (3 : Nat) + (1 : Nat))), Value.int IntKind.i64 (iAt (pA (bkD d a (b - a) s)) ((0 : Nat) + Int.toNat (IntKind.wrap IntKind.i64 ((↑a : Int) + IntKind.wrap IntKind.i64 (IntKind.wrap IntKind.i64 (land IntKind.u64 (nxI (bkR (b - a) s)) (IntKind.wrap IntKind.u64 (npI (↑(b - a) : Int) - (1 : Int)))) - (↑(b - a) : Int)))) * (3 : Nat) + (2 : Nat)))])) ∧ Is ((0 : Int) ≤ (↑(a + (b - a) / (4 : Nat) * (2 : Nat) - (1 : Nat) + s) : Int) ∧ (↑(a + (b - a) / (4 : Nat) * (2 : Nat) - (1 : Nat) + s) : Int) < (↑n : Int)) ∧ Is ((if (0 : Nat) + Int.toNat (↑(a + (b - a) / (4 : Nat) * (2 : Nat) - (1 : Nat) + s) : Int) * (3 : Nat) + (3 : Nat) ≤ List.length (pA (bkD d a (b - a) s)) then some (Value.agg (List.toArray (List.take (3 : Nat) (List.drop ((0 : Nat) + Int.toNat (↑(a + (b - a) / (4 : Nat) * (2 : Nat) - (1 : Nat) + s) : Int) * (3 : Nat)) (pA (bkD d a (b - a) s)))))) else none) = some (Value.agg #[Value.int IntKind.i64 (iAt (pA (bkD d a (b - a) s)) ((0 : Nat) + Int.toNat (↑(a + (b - a) / (4 : Nat) * (2 : Nat) - (1 : Nat) + s) : Int) * (3 : Nat))), Value.int IntKind.i64 (iAt (pA (bkD d a (b - a) s)) ((0 : Nat) + Int.toNat (↑(a + (b - a) / (4 : Nat) * (2 : Nat) - (1 : Nat) + s) : Int) * (3 : Nat) + (1 : Nat))), Value.int IntKind.i64 (iAt (pA (bkD d a (b - a) s)) ((0 : Nat) + Int.toNat (↑(a + (b - a) / (4 : Nat) * (2 : Nat) - (1 : Nat) + s) : Int) * (3 : Nat) + (2 : Nat)))])) ∧ Is ((0 : Int) ≤ (↑(a + (b - a) / (4 : Nat) * (2 : Nat) - (1 : Nat) + s) : Int) ∧ (↑(a + (b - a) / (4 : Nat) * (2 : Nat) - (1 : Nat) + s) : Int) < (↑n : Int)) ∧ Is ((0 : Nat) + Int.toNat (↑(a + (b - a) / (4 : Nat) * (2 : Nat) - (1 : Nat) + s) : Int) * (3 : Nat) + List.length [Value.int IntKind.i64 (iAt (pA (bkD d a (b - a) s)) ((0 : Nat) + Int.toNat (IntKind.wrap IntKind.i64 ((↑a : Int) + IntKind.wrap IntKind.i64 (IntKind.wrap IntKind.i64 (land IntKind.u64 (nxI (bkR (b - a) s)) (IntKind.wrap IntKind.u64 (npI (↑(b - a) : Int) - (1 : Int)))) - (↑(b - a) : Int)))) * (3 : Nat))), Value.int IntKind.i64 (iAt (pA (bkD d a (b - a) s)) ((0 : Nat) + Int.toNat (IntKind.wrap IntKind.i64 ((↑a : Int) + IntKind.wrap IntKind.i64 (IntKind.wrap IntKind.i64 (land IntKind.u64 (nxI (bkR (b - a) s)) (IntKind.wrap IntKind.u64 (npI (↑(b - a) : Int) - (1 : Int)))) - (↑(b - a) : Int)))) * (3 : Nat) + (1 : Nat))), Value.int IntKind.i64 (iAt (pA (bkD d a (b - a) s)) ((0 : Nat) + Int.toNat (IntKind.wrap IntKind.i64 ((↑a : Int) + IntKind.wrap IntKind.i64 (IntKind.wrap IntKind.i64 (land IntKind.u64 (nxI (bkR (b - a) s)) (IntKind.wrap IntKind.u64 (npI (↑(b - a) : Int) - (1 : Int)))) - (↑(b - a) : Int)))) * (3 : Nat) + (2 : Nat)))] ≤ List.length (pA (bkD d a (b - a) s))) ∧ Is ((0 : Int) ≤ IntKind.wrap IntKind.i64 ((↑a : Int) + IntKind.wrap IntKind.i64 (IntKind.wrap IntKind.i64 (land IntKind.u64 (nxI (bkR (b - a) s)) (IntKind.wrap IntKind.u64 (npI (↑(b - a) : Int) - (1 : Int)))) - (↑(b - a) : Int))) ∧ IntKind.wrap IntKind.i64 ((↑a : Int) + IntKind.wrap IntKind.i64 (IntKind.wrap IntKind.i64 (land IntKind.u64 (nxI (bkR (b - a) s)) (IntKind.wrap IntKind.u64 (npI (↑(b - a) : Int) - (1 : Int)))) - (↑(b - a) : Int))) < (↑n : Int)) ∧ Is ((0 : Nat) + Int.toNat (IntKind.wrap IntKind.i64 ((↑a : Int) + IntKind.wrap IntKind.i64 (IntKind.wrap IntKind.i64 (land IntKind.u64 (nxI (bkR (b - a) s)) (IntKind.wrap IntKind.u64 (npI (↑(b - a) : Int) - (1 : Int)))) - (↑(b - a) : Int)))) * (3 : Nat) + List.length [Value.int IntKind.i64 (iAt (pA (bkD d a (b - a) s)) ((0 : Nat) + Int.toNat (↑(a + (b - a) / (4 : Nat) * (2 : Nat) - (1 : Nat) + s) : Int) * (3 : Nat))), Value.int IntKind.i64 (iAt (pA (bkD d a (b - a) s)) ((0 : Nat) + Int.toNat (↑(a + (b - a) / (4 : Nat) * (2 : Nat) - (1 : Nat) + s) : Int) * (3 : Nat) + (1 : Nat))), Value.int IntKind.i64 (iAt (pA (bkD d a (b - a) s)) ((0 : Nat) + Int.toNat (↑(a + (b - a) / (4 : Nat) * (2 : Nat) - (1 : Nat) + s) : Int) * (3 : Nat) + (2 : Nat)))] ≤ List.length (putL (pA (bkD d a (b - a) s)) ((0 : Nat) + Int.toNat (↑(a + (b - a) / (4 : Nat) * (2 : Nat) - (1 : Nat) + s) : Int) * (3 : Nat)) [Value.int IntKind.i64 (iAt (pA (bkD d a (b - a) s)) ((0 : Nat) + Int.toNat (IntKind.wrap IntKind.i64 ((↑a : Int) + IntKind.wrap IntKind.i64 (IntKind.wrap IntKind.i64 (land IntKind.u64 (nxI (bkR (b - a) s)) (IntKind.wrap IntKind.u64 (npI (↑(b - a) : Int) - (1 : Int)))) - (↑(b - a) : Int)))) * (3 : Nat))), Value.int IntKind.i64 (iAt (pA (bkD d a (b - a) s)) ((0 : Nat) + Int.toNat (IntKind.wrap IntKind.i64 ((↑a : Int) + IntKind.wrap IntKind.i64 (IntKind.wrap IntKind.i64 (land IntKind.u64 (nxI (bkR (b - a) s)) (IntKind.wrap IntKind.u64 (npI (↑(b - a) : Int) - (1 : Int)))) - (↑(b - a) : Int)))) * (3 : Nat) + (1 : Nat))), Value.int IntKind.i64 (iAt (pA (bkD d a (b - a) s)) ((0 : Nat) + Int.toNat (IntKind.wrap IntKind.i64 ((↑a : Int) + IntKind.wrap IntKind.i64 (IntKind.wrap IntKind.i64 (land IntKind.u64 (nxI (bkR (b - a) s)) (IntKind.wrap IntKind.u64 (npI (↑(b - a) : Int) - (1 : Int)))) - (↑(b - a) : Int)))) * (3 : Nat) + (2 : Nat)))])) ∧ ∃ (s' : Nat), Is (s' ≤ (3 : Nat)) ∧ Is ((3 : Nat) - s' < (3 : Nat) - s) ∧ (Value.slice (some { block := (0 : Nat), off := (0 : Nat) }) n c = Value.slice (some { block := (0 : Nat), off := (0 : Nat) }) n c ∧ Value.int IntKind.i64 (↑a : Int) = Value.int IntKind.i64 (↑a : Int) ∧ Value.int IntKind.i64 (↑b : Int) = Value.int IntKind.i64 (↑b : Int) ∧ Value.func (Fn.func (32 : Nat)) #[] #[] = Value.func (Fn.func (32 : Nat)) #[] #[] ∧ Value.int IntKind.i64 (↑(b - a) : Int) = Value.int IntKind.i64 (↑(b - a) : Int) ∧ Value.pointer (some { block := (1 : Nat), off := (0 : Nat) }) = Value.pointer (some { block := (1 : Nat), off := (0 : Nat) }) ∧ Value.int IntKind.u64 (npI (↑(b - a) : Int)) = Value.int IntKind.u64 (npI (↑(b - a) : Int)) ∧ Value.int IntKind.i64 (IntKind.wrap IntKind.i64 ((↑(a + (b - a) / (4 : Nat) * (2 : Nat) - (1 : Nat) + s) : Int) + (1 : Int))) = Value.int IntKind.i64 (↑(a + (b - a) / (4 : Nat) * (2 : Nat) - (1 : Nat) + s') : Int) ∧ True) ∧ some (AObj.row (putL (putL (pA (bkD d a (b - a) s)) ((0 : Nat) + Int.toNat (↑(a + (b - a) / (4 : Nat) * (2 : Nat) - (1 : Nat) + s) : Int) * (3 : Nat)) [Value.int IntKind.i64 (iAt (pA (bkD d a (b - a) s)) ((0 : Nat) + Int.toNat (IntKind.wrap IntKind.i64 ((↑a : Int) + IntKind.wrap IntKind.i64 (IntKind.wrap IntKind.i64 (land IntKind.u64 (nxI (bkR (b - a) s)) (IntKind.wrap IntKind.u64 (npI (↑(b - a) : Int) - (1 : Int)))) - (↑(b - a) : Int)))) * (3 : Nat))), Value.int IntKind.i64 (iAt (pA (bkD d a (b - a) s)) ((0 : Nat) + Int.toNat (IntKind.wrap IntKind.i64 ((↑a : Int) + IntKind.wrap IntKind.i64 (IntKind.wrap IntKind.i64 (land IntKind.u64 (nxI (bkR (b - a) s)) (IntKind.wrap IntKind.u64 (npI (↑(b - a) : Int) - (1 : Int)))) - (↑(b - a) : Int)))) * (3 : Nat) + (1 : Nat))), Value.int IntKind.i64 (iAt (pA (bkD d a (b - a) s)) ((0 : Nat) + Int.toNat (IntKind.wrap IntKind.i64 ((↑a : Int) + IntKind.wrap IntKind.i64 (IntKind.wrap IntKind.i64 (land IntKind.u64 (nxI (bkR (b - a) s)) (IntKind.wrap IntKind.u64 (npI (↑(b - a) : Int) - (1 : Int)))) - (↑(b - a) : Int)))) * (3 : Nat) + (2 : Nat)))]) ((0 : Nat) + Int.toNat (IntKind.wrap IntKind.i64 ((↑a : Int) + IntKind.wrap IntKind.i64 (IntKind.wrap IntKind.i64 (land IntKind.u64 (nxI (bkR (b - a) s)) (IntKind.wrap IntKind.u64 (npI (↑(b - a) : Int) - (1 : Int)))) - (↑(b - a) : Int)))) * (3 : Nat)) [Value.int IntKind.i64 (iAt (pA (bkD d a (b - a) s)) ((0 : Nat) + Int.toNat (↑(a + (b - a) / (4 : Nat) * (2 : Nat) - (1 : Nat) + s) : Int) * (3 : Nat))), Value.int IntKind.i64 (iAt (pA (bkD d a (b - a) s)) ((0 : Nat) + Int.toNat (↑(a + (b - a) / (4 : Nat) * (2 : Nat) - (1 : Nat) + s) : Int) * (3 : Nat) + (1 : Nat))), Value.int IntKind.i64 (iAt (pA (bkD d a (b - a) s)) ((0 : Nat) + Int.toNat (↑(a + (b - a) / (4 : Nat) * (2 : Nat) - (1 : Nat) + s) : Int) * (3 : Nat) + (2 : Nat)))]) (3 : Nat) true true (true && List.all [Value.int IntKind.i64 (iAt (pA (bkD d a (b - a) s)) ((0 : Nat) + Int.toNat (IntKind.wrap IntKind.i64 ((↑a : Int) + IntKind.wrap IntKind.i64 (IntKind.wrap IntKind.i64 (land IntKind.u64 (nxI (bkR (b - a) s)) (IntKind.wrap IntKind.u64 (npI (↑(b - a) : Int) - (1 : Int)))) - (↑(b - a) : Int)))) * (3 : Nat))), Value.int IntKind.i64 (iAt (pA (bkD d a (b - a) s)) ((0 : Nat) + Int.toNat (IntKind.wrap IntKind.i64 ((↑a : Int) + IntKind.wrap IntKind.i64 (IntKind.wrap IntKind.i64 (land IntKind.u64 (nxI (bkR (b - a) s)) (IntKind.wrap IntKind.u64 (npI (↑(b - a) : Int) - (1 : Int)))) - (↑(b - a) : Int)))) * (3 : Nat) + (1 : Nat))), Value.int IntKind.i64 (iAt (pA (bkD d a (b - a) s)) ((0 : Nat) + Int.toNat (IntKind.wrap IntKind.i64 ((↑a : Int) + IntKind.wrap IntKind.i64 (IntKind.wrap IntKind.i64 (land IntKind.u64 (nxI (bkR (b - a) s)) (IntKind.wrap IntKind.u64 (npI (↑(b - a) : Int) - (1 : Int)))) - (↑(b - a) : Int)))) * (3 : Nat) + (2 : Nat)))] atom && List.all [Value.int IntKind.i64 (iAt (pA (bkD d a (b - a) s)) ((0 : Nat) + Int.toNat (↑(a + (b - a) / (4 : Nat) * (2 : Nat) - (1 : Nat) + s) : Int) * (3 : Nat))), Value.int IntKind.i64 (iAt (pA (bkD d a (b - a) s)) ((0 : Nat) + Int.toNat (↑(a + (b - a) / (4 : Nat) * (2 : Nat) - (1 : Nat) + s) : Int) * (3 : Nat) + (1 : Nat))), Value.int IntKind.i64 (iAt (pA (bkD d a (b - a) s)) ((0 : Nat) + Int.toNat (↑(a + (b - a) / (4 : Nat) * (2 : Nat) - (1 : Nat) + s) : Int) * (3 : Nat) + (2 : Nat)))] atom)) :: some (AObj.row [Value.int IntKind.u64 (nxI (bkR (b - a) s))] (0 : Nat) false true true) :: noH = some (AObj.row (pA (bkD d a (b - a) s')) (3 : Nat) true true true) :: some (AObj.row [Value.int IntKind.u64 (bkR (b - a) s')] (0 : Nat) false true true) :: noH) (Is ((0 : Int) ≤ IntKind.wrap IntKind.i64 ((↑a : Int) + IntKind.wrap IntKind.i64 (land IntKind.u64 (nxI (bkR (b - a) s)) (IntKind.wrap IntKind.u64 (npI (↑(b - a) : Int) - (1 : Int))))) ∧ IntKind.wrap IntKind.i64 ((↑a : Int) + IntKind.wrap IntKind.i64 (land IntKind.u64 (nxI (bkR (b - a) s)) (IntKind.wrap IntKind.u64 (npI (↑(b - a) : Int) - (1 : Int))))) < (↑n : Int)) ∧ Is ((if (0 : Nat) + Int.toNat (IntKind.wrap IntKind.i64 ((↑a : Int) + IntKind.wrap IntKind.i64 (land IntKind.u64 (nxI (bkR (b - a) s)) (IntKind.wrap IntKind.u64 (npI (↑(b - a) : Int) - (1 : Int)))))) * (3 : Nat) + (3 : Nat) ≤ List.length (pA (bkD d a (b - a) s)) then some (Value.agg (List.toArray (List.take (3 : Nat) (List.drop ((0 : Nat) + Int.toNat (IntKind.wrap IntKind.i64 ((↑a : Int) + IntKind.wrap IntKind.i64 (land IntKind.u64 (nxI (bkR (b - a) s)) (IntKind.wrap IntKind.u64 (npI (↑(b - a) : Int) - (1 : Int)))))) * (3 : Nat)) (pA (bkD d a (b - a) s)))))) else none) = some (Value.agg #[Value.int IntKind.i64 (iAt (pA (bkD d a (b - a) s)) ((0 : Nat) + Int.toNat (IntKind.wrap IntKind.i64 ((↑a : Int) + IntKind.wrap IntKind.i64 (land IntKind.u64 (nxI (bkR (b - a) s)) (IntKind.wrap IntKind.u64 (npI (↑(b - a) : Int) - (1 : Int)))))) * (3 : Nat))), Value.int IntKind.i64 (iAt (pA (bkD d a (b - a) s)) ((0 : Nat) + Int.toNat (IntKind.wrap IntKind.i64 ((↑a : Int) + IntKind.wrap IntKind.i64 (land IntKind.u64 (nxI (bkR (b - a) s)) (IntKind.wrap IntKind.u64 (npI (↑(b - a) : Int) - (1 : Int)))))) * (3 : Nat) + (1 : Nat))), Value.int IntKind.i64 (iAt (pA (bkD d a (b - a) s)) ((0 : Nat) + Int.toNat (IntKind.wrap IntKind.i64 ((↑a : Int) + IntKind.wrap IntKind.i64 (land IntKind.u64 (nxI (bkR (b - a) s)) (IntKind.wrap IntKind.u64 (npI (↑(b - a) : Int) - (1 : Int)))))) * (3 : Nat) + (2 : Nat)))])) ∧ Is ((0 : Int) ≤ (↑(a + (b - a) / (4 : Nat) * (2 : Nat) - (1 : Nat) + s) : Int) ∧ (↑(a + (b - a) / (4 : Nat) * (2 : Nat) - (1 : Nat) + s) : Int) < (↑n : Int)) ∧ Is ((if (0 : Nat) + Int.toNat (↑(a + (b - a) / (4 : Nat) * (2 : Nat) - (1 : Nat) + s) : Int) * (3 : Nat) + (3 : Nat) ≤ List.length (pA (bkD d a (b - a) s)) then some (Value.agg (List.toArray (List.take (3 : Nat) (List.drop ((0 : Nat) + Int.toNat (↑(a + (b - a) / (4 : Nat) * (2 : Nat) - (1 : Nat) + s) : Int) * (3 : Nat)) (pA (bkD d a (b - a) s)))))) else none) = some (Value.agg #[Value.int IntKind.i64 (iAt (pA (bkD d a (b - a) s)) ((0 : Nat) + Int.toNat (↑(a + (b - a) / (4 : Nat) * (2 : Nat) - (1 : Nat) + s) : Int) * (3 : Nat))), Value.int IntKind.i64 (iAt (pA (bkD d a (b - a) s)) ((0 : Nat) + Int.toNat (↑(a + (b - a) / (4 : Nat) * (2 : Nat) - (1 : Nat) + s) : Int) * (3 : Nat) + (1 : Nat))), Value.int IntKind.i64 (iAt (pA (bkD d a (b - a) s)) ((0 : Nat) + Int.toNat (↑(a + (b - a) / (4 : Nat) * (2 : Nat) - (1 : Nat) + s) : Int) * (3 : Nat) + (2 : Nat)))])) ∧ Is ((0 : Int) ≤ (↑(a + (b - a) / (4 : Nat) * (2 : Nat) - (1 : Nat) + s) : Int) ∧ (↑(a + (b - a) / (4 : Nat) * (2 : Nat) - (1 : Nat) + s) : Int) < (↑n : Int)) ∧ Is ((0 : Nat) + Int.toNat (↑(a + (b - a) / (4 : Nat) * (2 : Nat) - (1 : Nat) + s) : Int) * (3 : Nat) + List.length [Value.int IntKind.i64 (iAt (pA (bkD d a (b - a) s)) ((0 : Nat) + Int.toNat (IntKind.wrap IntKind.i64 ((↑a : Int) + IntKind.wrap IntKind.i64 (land IntKind.u64 (nxI (bkR (b - a) s)) (IntKind.wrap IntKind.u64 (npI (↑(b - a) : Int) - (1 : Int)))))) * (3 : Nat))), Value.int IntKind.i64 (iAt (pA (bkD d a (b - a) s)) ((0 : Nat) + Int.toNat (IntKind.wrap IntKind.i64 ((↑a : Int) + IntKind.wrap IntKind.i64 (land IntKind.u64 (nxI (bkR (b - a) s)) (IntKind.wrap IntKind.u64 (npI (↑(b - a) : Int) - (1 : Int)))))) * (3 : Nat) + (1 : Nat))), Value.int IntKind.i64 (iAt (pA (bkD d a (b - a) s)) ((0 : Nat) + Int.toNat (IntKind.wrap IntKind.i64 ((↑a : Int) + IntKind.wrap IntKind.i64 (land IntKind.u64 (nxI (bkR (b - a) s)) (IntKind.wrap IntKind.u64 (npI (↑(b - a) : Int) - (1 : Int)))))) * (3 : Nat) + (2 : Nat)))] ≤ List.length (pA (bkD d a (b - a) s))) ∧ Is ((0 : Int) ≤ IntKind.wrap IntKind.i64 ((↑a : Int) + IntKind.wrap IntKind.i64 (land IntKind.u64 (nxI (bkR (b - a) s)) (IntKind.wrap IntKind.u64 (npI (↑(b - a) : Int) - (1 : Int))))) ∧ IntKind.wrap IntKind.i64 ((↑a : Int) + IntKind.wrap IntKind.i64 (land IntKind.u64 (nxI (bkR (b - a) s)) (IntKind.wrap IntKind.u64 (npI (↑(b - a) : Int) - (1 : Int))))) < (↑n : Int)) ∧ Is ((0 : Nat) + Int.toNat (IntKind.wrap IntKind.i64 ((↑a : Int) + IntKind.wrap IntKind.i64 (land IntKind.u64 (nxI (bkR (b - a) s)) (IntKind.wrap IntKind.u64 (npI (↑(b - a) : Int) - (1 : Int)))))) * (3 : Nat) + List.length [Value.int IntKind.i64 (iAt (pA (bkD d a (b - a) s)) ((0 : Nat) + Int.toNat (↑(a + (b - a) / (4 : Nat) * (2 : Nat) - (1 : Nat) + s) : Int) * (3 : Nat))), Value.int IntKind.i64 (iAt (pA (bkD d a (b - a) s)) ((0 : Nat) + Int.toNat (↑(a + (b - a) / (4 : Nat) * (2 : Nat) - (1 : Nat) + s) : Int) * (3 : Nat) + (1 : Nat))), Value.int IntKind.i64 (iAt (pA (bkD d a (b - a) s)) ((0 : Nat) + Int.toNat (↑(a + (b - a) / (4 : Nat) * (2 : Nat) - (1 : Nat) + s) : Int) * (3 : Nat) + (2 : Nat)))] ≤ List.length (putL (pA (bkD d a (b - a) s)) ((0 : Nat) + Int.toNat (↑(a + (b - a) / (4 : Nat) * (2 : Nat) - (1 : Nat) + s) : Int) * (3 : Nat)) [Value.int IntKind.i64 (iAt (pA (bkD d a (b - a) s)) ((0 : Nat) + Int.toNat (IntKind.wrap IntKind.i64 ((↑a : Int) + IntKind.wrap IntKind.i64 (land IntKind.u64 (nxI (bkR (b - a) s)) (IntKind.wrap IntKind.u64 (npI (↑(b - a) : Int) - (1 : Int)))))) * (3 : Nat))), Value.int IntKind.i64 (iAt (pA (bkD d a (b - a) s)) ((0 : Nat) + Int.toNat (IntKind.wrap IntKind.i64 ((↑a : Int) + IntKind.wrap IntKind.i64 (land IntKind.u64 (nxI (bkR (b - a) s)) (IntKind.wrap IntKind.u64 (npI (↑(b - a) : Int) - (1 : Int)))))) * (3 : Nat) + (1 : Nat))), Value.int IntKind.i64 (iAt (pA (bkD d a (b - a) s)) ((0 : Nat) + Int.toNat (IntKind.wrap IntKind.i64 ((↑a : Int) + IntKind.wrap IntKind.i64 (land IntKind.u64 (nxI (bkR (b - a) s)) (IntKind.wrap IntKind.u64 (npI (↑(b - a) : Int) - (1 : Int)))))) * (3 : Nat) + (2 : Nat)))])) ∧ ∃ (s' : Nat), Is (s' ≤ (3 : Nat)) ∧ Is ((3 : Nat) - s' < (3 : Nat) - s) ∧ (Value.slice (some { block := (0 : Nat), off := (0 : Nat) }) n c = Value.slice (some { block := (0 : Nat), off := (0 : Nat) }) n c ∧ Value.int IntKind.i64 (↑a : Int) = Value.int IntKind.i64 (↑a : Int) ∧ Value.int IntKind.i64 (↑b : Int) = Value.int IntKind.i64 (↑b : Int) ∧ Value.func (Fn.func (32 : Nat)) #[] #[] = Value.func (Fn.func (32 : Nat)) #[] #[] ∧ Value.int IntKind.i64 (↑(b - a) : Int) = Value.int IntKind.i64 (↑(b - a) : Int) ∧ Value.pointer (some { block := (1 : Nat), off := (0 : Nat) }) = Value.pointer (some { block := (1 : Nat), off := (0 : Nat) }) ∧ Value.int IntKind.u64 (npI (↑(b - a) : Int)) = Value.int IntKind.u64 (npI (↑(b - a) : Int)) ∧ Value.int IntKind.i64 (IntKind.wrap IntKind.i64 ((↑(a + (b - a) / (4 : Nat) * (2 : Nat) - (1 : Nat) + s) : Int) + (1 : Int))) = Value.int IntKind.i64 (↑(a + (b - a) / (4 : Nat) * (2 : Nat) - (1 : Nat) + s') : Int) ∧ True) ∧ some (AObj.row (putL (putL (pA (bkD d a (b - a) s)) ((0 : Nat) + Int.toNat (↑(a + (b - a) / (4 : Nat) * (2 : Nat) - (1 : Nat) + s) : Int) * (3 : Nat)) [Value.int IntKind.i64 (iAt (pA (bkD d a (b - a) s)) ((0 : Nat) + Int.toNat (IntKind.wrap IntKind.i64 ((↑a : Int) + IntKind.wrap IntKind.i64 (land IntKind.u64 (nxI (bkR (b - a) s)) (IntKind.wrap IntKind.u64 (npI (↑(b - a) : Int) - (1 : Int)))))) * (3 : Nat))), Value.int IntKind.i64 (iAt (pA (bkD d a (b - a) s)) ((0 : Nat) + Int.toNat (IntKind.wrap IntKind.i64 ((↑a : Int) + IntKind.wrap IntKind.i64 (land IntKind.u64 (nxI (bkR (b - a) s)) (IntKind.wrap IntKind.u64 (npI (↑(b - a) : Int) - (1 : Int)))))) * (3 : Nat) + (1 : Nat))), Value.int IntKind.i64 (iAt (pA (bkD d a (b - a) s)) ((0 : Nat) + Int.toNat (IntKind.wrap IntKind.i64 ((↑a : Int) + IntKind.wrap IntKind.i64 (land IntKind.u64 (nxI (bkR (b - a) s)) (IntKind.wrap IntKind.u64 (npI (↑(b - a) : Int) - (1 : Int)))))) * (3 : Nat) + (2 : Nat)))]) ((0 : Nat) + Int.toNat (IntKind.wrap IntKind.i64 ((↑a : Int) + IntKind.wrap IntKind.i64 (land IntKind.u64 (nxI (bkR (b - a) s)) (IntKind.wrap IntKind.u64 (npI (↑(b - a) : Int) - (1 : Int)))))) * (3 : Nat)) [Value.int IntKind.i64 (iAt (pA (bkD d a (b - a) s)) ((0 : Nat) + Int.toNat (↑(a + (b - a) / (4 : Nat) * (2 : Nat) - (1 : Nat) + s) : Int) * (3 : Nat))), Value.int IntKind.i64 (iAt (pA (bkD d a (b - a) s)) ((0 : Nat) + Int.toNat (↑(a + (b - a) / (4 : Nat) * (2 : Nat) - (1 : Nat) + s) : Int) * (3 : Nat) + (1 : Nat))), Value.int IntKind.i64 (iAt (pA (bkD d a (b - a) s)) ((0 : Nat) + Int.toNat (↑(a + (b - a) / (4 : Nat) * (2 : Nat) - (1 : Nat) + s) : Int) * (3 : Nat) + (2 : Nat)))]) (3 : Nat) true true (true && List.all [Value.int IntKind.i64 (iAt (pA (bkD d a (b - a) s)) ((0 : Nat) + Int.toNat (IntKind.wrap IntKind.i64 ((↑a : Int) + IntKind.wrap IntKind.i64 (land IntKind.u64 (nxI (bkR (b - a) s)) (IntKind.wrap IntKind.u64 (npI (↑(b - a) : Int) - (1 : Int)))))) * (3 : Nat))), Value.int IntKind.i64 (iAt (pA (bkD d a (b - a) s)) ((0 : Nat) + Int.toNat (IntKind.wrap IntKind.i64 ((↑a : Int) + IntKind.wrap IntKind.i64 (land IntKind.u64 (nxI (bkR (b - a) s)) (IntKind.wrap IntKind.u64 (npI (↑(b - a) : Int) - (1 : Int)))))) * (3 : Nat) + (1 : Nat))), Value.int IntKind.i64 (iAt (pA (bkD d a (b - a) s)) ((0 : Nat) + Int.toNat (IntKind.wrap IntKind.i64 ((↑a : Int) + IntKind.wrap IntKind.i64 (land IntKind.u64 (nxI (bkR (b - a) s)) (IntKind.wrap IntKind.u64 (npI (↑(b - a) : Int) - (1 : Int)))))) * (3 : Nat) + (2 : Nat)))] atom && List.all [Value.int IntKind.i64 (iAt (pA (bkD d a (b - a) s)) ((0 : Nat) + Int.toNat (↑(a + (b - a) / (4 : Nat) * (2 : Nat) - (1 : Nat) + s) : Int) * (3 : Nat))), Value.int IntKind.i64 (iAt (pA (bkD d a (b - a) s)) ((0 : Nat) + Int.toNat (↑(a + (b - a) / (4 : Nat) * (2 : Nat) - (1 : Nat) + s) : Int) * (3 : Nat) + (1 : Nat))), Value.int IntKind.i64 (iAt (pA (bkD d a (b - a) s)) ((0 : Nat) + Int.toNat (↑(a + (b - a) / (4 : Nat) * (2 : Nat) - (1 : Nat) + s) : Int) * (3 : Nat) + (2 : Nat)))] atom)) :: some (AObj.row [Value.int IntKind.u64 (nxI (bkR (b - a) s))] (0 : Nat) false true true) :: noH = some (AObj.row (pA (bkD d a (b - a) s')) (3 : Nat) true true true) :: some (AObj.row [Value.int IntKind.u64 (bkR (b - a) s')] (0 : Nat) false true true) :: noH)) (K undef (some (AObj.row (pA (bkD d a (b - a) s)) (3 : Nat) true true true) :: noH))) (K undef (some (AObj.row (pA d) (3 : Nat) true true true) :: noH))) := by kernel_rfl
noncomputable def kR (L : Nat) : Nat → UInt64
  | 0 => UInt64.ofNat L
  | t + 1 => Go.Sort.xorNext (kR L t)
noncomputable def kO (L t : Nat) : Nat := (kR L (t + 1)).toNat &&& (1 <<< Go.Sort.bitsLen L - 1)
noncomputable def kN (L t : Nat) : Nat := if kO L t ≥ L then kO L t - L else kO L t
noncomputable def bkC (L t : Nat) : Bool := decide (0 ≤ bkO L (bkR L (t + 1))) && decide (bkO L (bkR L (t + 1)) ≤ 1000) && Nat.blt (bkN L (bkR L (t + 1))) L && Nat.beq (bkN L (bkR L (t + 1))) (kN L t)
theorem bk_chk : ((List.range 42).all fun k => (List.range 3).all fun t => bkC (k + 8) t) = true := by kernel_rfl
theorem bk_c {L t : Nat} (h8 : 8 ≤ L) (h49 : L ≤ 49) (ht : t < 3) : (0 ≤ bkO L (bkR L (t + 1)) ∧ bkO L (bkR L (t + 1)) ≤ 1000) ∧ bkN L (bkR L (t + 1)) < L ∧ bkN L (bkR L (t + 1)) = kN L t := by
  have h := List.all_eq_true.1 bk_chk (L - 8) (List.mem_range.2 (by omega))
  have h := List.all_eq_true.1 h t (List.mem_range.2 ht)
  rw [show L - 8 + 8 = L by omega, bkC] at h
  simp only [Bool.and_eq_true, decide_eq_true_eq] at h
  obtain ⟨⟨⟨h1, h2⟩, h3⟩, h4⟩ := h
  exact ⟨⟨h1, h2⟩, by simpa using h3, Nat.eq_of_beq_eq_true h4⟩
theorem bs_eq (a L m idx : Nat) (st : UInt64 × Array Mv) : Go.Sort.breakStep a L m st idx = (Go.Sort.xorNext st.1, Go.Sort.swp st.2 idx (a + (if (Go.Sort.xorNext st.1).toNat &&& (m - 1) ≥ L then ((Go.Sort.xorNext st.1).toNat &&& (m - 1)) - L else (Go.Sort.xorNext st.1).toNat &&& (m - 1)))) := by
  rw [Go.Sort.breakStep]
theorem bkD_eq {d : Array Mv} {a b : Nat} (h8 : 8 ≤ b - a) (h49 : b - a ≤ 49) : bkD d a (b - a) 3 = Go.Sort.breakPatterns d a b := by
  have e : Go.Sort.breakPatterns d a b = Go.Sort.swp (Go.Sort.swp (Go.Sort.swp d (a + (b - a) / 4 * 2 - 1) (a + kN (b - a) 0)) (a + (b - a) / 4 * 2 - 1 + 1) (a + kN (b - a) 1)) (a + (b - a) / 4 * 2 - 1 + 2) (a + kN (b - a) 2) := by
    rw [Go.Sort.breakPatterns]
    simp only [ge_iff_le, if_pos h8, bs_eq, kN, kO, kR]
  rw [e, ← (bk_c h8 h49 (t := 0) (by omega)).2.2, ← (bk_c h8 h49 (t := 1) (by omega)).2.2, ← (bk_c h8 h49 (t := 2) (by omega)).2.2]
  rw [bkD, bkD, bkD, bkD, Nat.add_zero]
theorem bk_gd {d : Array Mv} {n a L : Nat} (hg : gdM d n) (h8 : 8 ≤ L) (hn : a + L ≤ n) : ∀ t, t ≤ 3 → gdM (bkD d a L t) n
  | 0, _ => hg
  | t + 1, ht => gd_swp (bk_gd hg h8 hn t (by omega)) (by omega) (by have := (bk_c h8 (by have := hg.2.1; omega) (t := t) (by omega)).2.1; omega)
set_option maxHeartbeats 2000000 in
theorem bk_ok {d : Array Mv} {n c a b : Nat} (hg : gdM d n) (h8 : 8 ≤ b - a) (hbn : b ≤ n) : SmallRes Try.prog 79 [.slice (some ⟨0, 0, none⟩) n c, .int .i64 (a : Int), .int .i64 (b : Int), fF] [mR d] undef [mR (Go.Sort.breakPatterns d a b)] := by
  have h49 := hg.2.1
  refine fnP_res hm c0_ok (hs := hsBk d n c a b) ?_
  rw [bk_t, ← bkD_eq h8 (by omega)]
  have e0 : IntKind.wrap .i64 ((b : Int) - a) = ((b - a : Nat) : Int) := (wr_n (by omega) (by omega)).trans (by omega)
  have e4 : IntKind.wrap .i64 (Int.tdiv ((b - a : Nat) : Int) 4) = (((b - a) / 4 : Nat) : Int) := by
    rw [Int.tdiv_eq_ediv_of_nonneg (by omega)]
    exact (wr_n (by omega) (by omega)).trans (by omega)
  have e5 : IntKind.wrap .i64 ((((b - a) / 4 : Nat) : Int) * 2) = (((b - a) / 4 * 2 : Nat) : Int) := (wr_n (by omega) (by omega)).trans (by omega)
  have e6 : IntKind.wrap .i64 ((a : Int) + (((b - a) / 4 * 2 : Nat) : Int)) = ((a + (b - a) / 4 * 2 : Nat) : Int) := (wr_n (by omega) (by omega)).trans (by omega)
  have e7 : IntKind.wrap .i64 (((a + (b - a) / 4 * 2 : Nat) : Int) - 1) = ((a + (b - a) / 4 * 2 - 1 : Nat) : Int) := (wr_n (by omega) (by omega)).trans (by omega)
  have e8 : IntKind.wrap .i64 (((a + (b - a) / 4 * 2 : Nat) : Int) + 1) = ((a + (b - a) / 4 * 2 - 1 + 2 : Nat) : Int) := (wr_n (by omega) (by omega)).trans (by omega)
  rw [e0, e4, e5, e6, e7, e8]
  refine br_of (fun _ => ⟨⟨by omega, by omega⟩, ⟨by decide⟩, ⟨0, ⟨by decide⟩, ⟨rfl, rfl, rfl, rfl, rfl, rfl, rfl, rfl, trivial⟩, ?_⟩, fun t ht => ⟨⟨by decide⟩, br_of (fun h1 => ?_) (fun h1 => ?_)⟩⟩) (fun h => absurd (of_decide_eq_false h) (by omega))
  · rw [wrap_u (by omega) (by omega)]; rfl
  · have ht := ht.out
    have h1 := of_decide_eq_true h1
    have ht3 : t < 3 := by omega
    obtain ⟨⟨o0, o1⟩, n1, _⟩ := bk_c h8 (by omega : b - a ≤ 49) ht3
    have hu := bk_gd (a := a) hg h8 (by omega) t ht
    have eo : land .u64 (nxI (bkR (b - a) t)) (IntKind.wrap .u64 (npI ((b - a : Nat) : Int) - 1)) = bkO (b - a) (bkR (b - a) (t + 1)) := rfl
    rw [eo, wr_n (x := bkO (b - a) (bkR (b - a) (t + 1))) (by omega) (by omega)]
    refine ⟨⟨trivial⟩, ⟨trivial⟩, br_of (fun h2 => ?_) (fun h2 => ?_)⟩
    · have h2 := of_decide_eq_true h2
      have ek : IntKind.wrap .i64 ((a : Int) + IntKind.wrap .i64 (bkO (b - a) (bkR (b - a) (t + 1)) - ((b - a : Nat) : Int))) = ((a + bkN (b - a) (bkR (b - a) (t + 1)) : Nat) : Int) := by
        have : bkN (b - a) (bkR (b - a) (t + 1)) = (bkO (b - a) (bkR (b - a) (t + 1)) - ((b - a : Nat) : Int)).toNat := by rw [bkN, if_pos h2]
        rw [wr_n (x := bkO (b - a) (bkR (b - a) (t + 1)) - ((b - a : Nat) : Int)) (by omega) (by omega), wr_n (by omega) (by omega)]
        omega
      rw [ek]
      refine swS hu (by omega) (by omega) ⟨t + 1, ⟨by omega⟩, ⟨by omega⟩, ⟨rfl, rfl, rfl, rfl, rfl, rfl, rfl, ?_, trivial⟩, ?_⟩
      · rw [wr_n (by omega) (by omega)]; rfl
      · rw [k3, k3, swp_put (by rw [hu.1]; omega) (by rw [hu.1]; omega)]; rfl
    · have h2 := of_decide_eq_false h2
      have ek : IntKind.wrap .i64 ((a : Int) + bkO (b - a) (bkR (b - a) (t + 1))) = ((a + bkN (b - a) (bkR (b - a) (t + 1)) : Nat) : Int) := by
        have : bkN (b - a) (bkR (b - a) (t + 1)) = (bkO (b - a) (bkR (b - a) (t + 1))).toNat := by rw [bkN, if_neg h2]
        rw [wr_n (by omega) (by omega)]
        omega
      rw [ek]
      refine swS hu (by omega) (by omega) ⟨t + 1, ⟨by omega⟩, ⟨by omega⟩, ⟨rfl, rfl, rfl, rfl, rfl, rfl, rfl, ?_, trivial⟩, ?_⟩
      · rw [wr_n (by omega) (by omega)]; rfl
      · rw [k3, k3, swp_put (by rw [hu.1]; omega) (by rw [hu.1]; omega)]; rfl
  · have h1 := of_decide_eq_false h1
    have e : t = 3 := by have := ht.out; omega
    subst e
    refine ⟨rfl, ?_⟩
    generalize bkD d a (b - a) 3 = z
    rfl
end
end Qq
end
section
/- The sort's parts as contracts of what they are given. -/
open Go Go.Vm Go.Proofs Sp
namespace Qq
noncomputable section
noncomputable def isF (cells : List Value) (a b : Int) : List Value := pA (Go.Sort.insertionSort ltM (dA cells) a.toNat b.toNat)
noncomputable def hsF (cells : List Value) (a b : Int) : List Value := pA (Go.Sort.heapSort ltM (dA cells) a.toNat b.toNat)
noncomputable def bkF (cells : List Value) (a b : Int) : List Value := pA (Go.Sort.breakPatterns (dA cells) a.toNat b.toNat)
noncomputable def rrF (cells : List Value) (a b : Int) : List Value := pA (Go.Sort.reverseRange (dA cells) a.toNat b.toNat)
noncomputable def psB (cells : List Value) (a b : Int) : Bool := (Go.Sort.partialInsertionSort ltM (dA cells) a.toNat b.toNat).2
noncomputable def peN (cells : List Value) (a b v : Int) : Nat := (Go.Sort.partitionEqual ltM (dA cells) a.toNat b.toNat v.toNat).1
noncomputable def peA (cells : List Value) (a b v : Int) : List Value := pA (Go.Sort.partitionEqual ltM (dA cells) a.toNat b.toNat v.toNat).2
noncomputable def pnN (cells : List Value) (a b v : Int) : Nat := (Go.Sort.partition ltM (dA cells) a.toNat b.toNat v.toNat).1
noncomputable def pnB (cells : List Value) (a b v : Int) : Bool := (Go.Sort.partition ltM (dA cells) a.toNat b.toNat v.toNat).2.1
noncomputable def pnA (cells : List Value) (a b v : Int) : List Value := pA (Go.Sort.partition ltM (dA cells) a.toNat b.toNat v.toNat).2.2
theorem ps_same {d : Array Mv} {a b : Nat} (h : b - a < 50) : (Go.Sort.partialInsertionSort ltM d a b).1 = d := by
  rw [Go.Sort.partialInsertionSort, Go.Sort.partialIns]
  by_cases hx : Go.Sort.scanSorted ltM d b (a + 1) = b
  · simp only [hx, if_true]
  · simp only [hx, if_false, if_pos h]
noncomputable def orcIs : OrcV
  | [.slice (some ⟨0, 0, none⟩) n _, .int .i64 a, .int .i64 b, f], [some (.row cells 3 true true true)] => some (undef, [some (.row (isF cells a b) 3 true true true)], isM cells n ∧ (0 ≤ a ∧ a ≤ b ∧ b ≤ n) ∧ f = fF)
  | _, _ => none
theorem okIs : OkV Try.prog 77 orcIs := by
  intro args H ret H' vc h hv
  unfold orcIs at h
  split at h
  · rename_i n c a b f cells
    cases h
    obtain ⟨⟨d, rfl, hg⟩, ⟨a0, ab, bn⟩, rfl⟩ := hv
    obtain ⟨a, rfl⟩ : ∃ k : Nat, a = (k : Int) := ⟨a.toNat, by omega⟩
    obtain ⟨b, rfl⟩ : ∃ k : Nat, b = (k : Int) := ⟨b.toNat, by omega⟩
    have h49 := hg.2.1
    have := is_ok (d := d) (n := n) (c := c) (a := a) (b := b) hg (by omega) (by omega)
    rw [isF, dA_pA, Int.toNat_natCast, Int.toNat_natCast]
    exact this
  · cases h
noncomputable def orcHs : OrcV
  | [.slice (some ⟨0, 0, none⟩) n _, .int .i64 a, .int .i64 b, f], [some (.row cells 3 true true true)] => some (undef, [some (.row (hsF cells a b) 3 true true true)], isM cells n ∧ (0 ≤ a ∧ a < b ∧ b ≤ n) ∧ f = fF)
  | _, _ => none
theorem okHs : OkV Try.prog 78 orcHs := by
  intro args H ret H' vc h hv
  unfold orcHs at h
  split at h
  · rename_i n c a b f cells
    cases h
    obtain ⟨⟨d, rfl, hg⟩, ⟨a0, ab, bn⟩, rfl⟩ := hv
    obtain ⟨a, rfl⟩ : ∃ k : Nat, a = (k : Int) := ⟨a.toNat, by omega⟩
    obtain ⟨b, rfl⟩ : ∃ k : Nat, b = (k : Int) := ⟨b.toNat, by omega⟩
    have h49 := hg.2.1
    have := hs_ok (d := d) (n := n) (c := c) (a := a) (b := b) hg (by omega) (by omega)
    rw [hsF, dA_pA, Int.toNat_natCast, Int.toNat_natCast]
    exact this
  · cases h
noncomputable def orcBk : OrcV
  | [.slice (some ⟨0, 0, none⟩) n _, .int .i64 a, .int .i64 b, f], [some (.row cells 3 true true true)] => some (undef, [some (.row (bkF cells a b) 3 true true true)], isM cells n ∧ (0 ≤ a ∧ a + 8 ≤ b ∧ b ≤ n) ∧ f = fF)
  | _, _ => none
theorem okBk : OkV Try.prog 79 orcBk := by
  intro args H ret H' vc h hv
  unfold orcBk at h
  split at h
  · rename_i n c a b f cells
    cases h
    obtain ⟨⟨d, rfl, hg⟩, ⟨a0, ab, bn⟩, rfl⟩ := hv
    obtain ⟨a, rfl⟩ : ∃ k : Nat, a = (k : Int) := ⟨a.toNat, by omega⟩
    obtain ⟨b, rfl⟩ : ∃ k : Nat, b = (k : Int) := ⟨b.toNat, by omega⟩
    have h49 := hg.2.1
    have := bk_ok (d := d) (n := n) (c := c) (a := a) (b := b) hg (by omega) (by omega)
    rw [bkF, dA_pA, Int.toNat_natCast, Int.toNat_natCast]
    exact this
  · cases h
noncomputable def orcRr : OrcV
  | [.slice (some ⟨0, 0, none⟩) n _, .int .i64 a, .int .i64 b, f], [some (.row cells 3 true true true)] => some (undef, [some (.row (rrF cells a b) 3 true true true)], isM cells n ∧ (0 ≤ a ∧ a < b ∧ b ≤ n) ∧ f = fF)
  | _, _ => none
theorem okRr : OkV Try.prog 81 orcRr := by
  intro args H ret H' vc h hv
  unfold orcRr at h
  split at h
  · rename_i n c a b f cells
    cases h
    obtain ⟨⟨d, rfl, hg⟩, ⟨a0, ab, bn⟩, rfl⟩ := hv
    obtain ⟨a, rfl⟩ : ∃ k : Nat, a = (k : Int) := ⟨a.toNat, by omega⟩
    obtain ⟨b, rfl⟩ : ∃ k : Nat, b = (k : Int) := ⟨b.toNat, by omega⟩
    have h49 := hg.2.1
    have := rr_ok (d := d) (n := n) (c := c) (a := a) (b := b) hg (by omega) (by omega)
    rw [rrF, dA_pA, Int.toNat_natCast, Int.toNat_natCast]
    exact this
  · cases h
noncomputable def orcPs : OrcV
  | [.slice (some ⟨0, 0, none⟩) n _, .int .i64 a, .int .i64 b, f], [some (.row cells 3 true true true)] => some (.bool (psB cells a b), [some (.row (cells) 3 true true true)], isM cells n ∧ (0 ≤ a ∧ a < b ∧ b ≤ n) ∧ f = fF)
  | _, _ => none
theorem okPs : OkV Try.prog 82 orcPs := by
  intro args H ret H' vc h hv
  unfold orcPs at h
  split at h
  · rename_i n c a b f cells
    cases h
    obtain ⟨⟨d, rfl, hg⟩, ⟨a0, ab, bn⟩, rfl⟩ := hv
    obtain ⟨a, rfl⟩ : ∃ k : Nat, a = (k : Int) := ⟨a.toNat, by omega⟩
    obtain ⟨b, rfl⟩ : ∃ k : Nat, b = (k : Int) := ⟨b.toNat, by omega⟩
    have h49 := hg.2.1
    have := ps_ok (d := d) (n := n) (c := c) (a := a) (b := b) hg (by omega) (by omega)
    rw [ps_same (by omega)] at this
    rw [psB, dA_pA, Int.toNat_natCast, Int.toNat_natCast]
    exact this
  · cases h
noncomputable def orcPe : OrcV
  | [.slice (some ⟨0, 0, none⟩) n _, .int .i64 a, .int .i64 b, .int .i64 v, f], [some (.row cells 3 true true true)] => some (.int .i64 (peN cells a b v : Int), [some (.row (peA cells a b v) 3 true true true)], isM cells n ∧ (0 ≤ a ∧ a ≤ v ∧ v < b ∧ b ≤ n) ∧ f = fF)
  | _, _ => none
theorem okPe : OkV Try.prog 83 orcPe := by
  intro args H ret H' vc h hv
  unfold orcPe at h
  split at h
  · rename_i n c a b v f cells
    cases h
    obtain ⟨⟨d, rfl, hg⟩, ⟨a0, av, vb, bn⟩, rfl⟩ := hv
    obtain ⟨a, rfl⟩ : ∃ k : Nat, a = (k : Int) := ⟨a.toNat, by omega⟩
    obtain ⟨b, rfl⟩ : ∃ k : Nat, b = (k : Int) := ⟨b.toNat, by omega⟩
    obtain ⟨v, rfl⟩ : ∃ k : Nat, v = (k : Int) := ⟨v.toNat, by omega⟩
    have := qt_ok (d := d) (n := n) (c := c) (a := a) (b := b) (v := v) hg (by omega) (by omega) (by omega)
    rw [peN, peA, dA_pA, Int.toNat_natCast, Int.toNat_natCast, Int.toNat_natCast]
    exact this
  · cases h
noncomputable def orcPn : OrcV
  | [.slice (some ⟨0, 0, none⟩) n _, .int .i64 a, .int .i64 b, .int .i64 v, f], [some (.row cells 3 true true true)] => some (.tuple #[.int .i64 (pnN cells a b v : Int), .bool (pnB cells a b v)], [some (.row (pnA cells a b v) 3 true true true)], isM cells n ∧ (0 ≤ a ∧ a ≤ v ∧ v < b ∧ b ≤ n) ∧ f = fF)
  | _, _ => none
theorem okPn : OkV Try.prog 84 orcPn := by
  intro args H ret H' vc h hv
  unfold orcPn at h
  split at h
  · rename_i n c a b v f cells
    cases h
    obtain ⟨⟨d, rfl, hg⟩, ⟨a0, av, vb, bn⟩, rfl⟩ := hv
    obtain ⟨a, rfl⟩ : ∃ k : Nat, a = (k : Int) := ⟨a.toNat, by omega⟩
    obtain ⟨b, rfl⟩ : ∃ k : Nat, b = (k : Int) := ⟨b.toNat, by omega⟩
    obtain ⟨v, rfl⟩ : ∃ k : Nat, v = (k : Int) := ⟨v.toNat, by omega⟩
    have := pt_ok (d := d) (n := n) (c := c) (a := a) (b := b) (v := v) hg (by omega) (by omega) (by omega)
    rw [pnN, pnB, pnA, dA_pA, Int.toNat_natCast, Int.toNat_natCast, Int.toNat_natCast]
    exact this
  · cases h
theorem pn_in {d : Array Mv} {n a b v : Nat} (hg : gdM d n) (hav : a ≤ v) (hvb : v < b) (hbn : b ≤ n) : (a ≤ (Go.Sort.partition ltM d a b v).1 ∧ (Go.Sort.partition ltM d a b v).1 < b) ∧ gdM (Go.Sort.partition ltM d a b v).2.2 n := by
  have hD : gdM (pD d a v) n := gd_swp hg (by omega) (by omega)
  have hI : a + 1 ≤ pI d a b v ∧ pI d a b v ≤ b := up_in (by omega) _ _ (Nat.le_refl _) (by omega)
  have hJ : a ≤ pJ d a b v ∧ pJ d a b v ≤ b - 1 := dn_in hI.1 _ (by omega)
  have er : Go.Sort.partition ltM d a b v = if pI d a b v > pJ d a b v then (pJ d a b v, true, Go.Sort.swp (pD d a v) (pJ d a b v) a) else (pTn d a b v, false, Go.Sort.swp (pTa d a b v) (pTn d a b v) a) := rfl
  rw [er]
  by_cases h1 : pI d a b v > pJ d a b v
  · rw [if_pos h1]
    exact ⟨⟨hJ.1, by show pJ d a b v < b; omega⟩, gd_swp hD (by omega) (by omega)⟩
  rw [if_neg h1]
  have hK : ∀ (k i j : Nat) (e : Array Mv), j + 1 - i ≤ k → gdM e n → a + 1 ≤ i → i ≤ b → a ≤ j → j < b → gdM (Go.Sort.partLoop ltM a i j e).2 n ∧ a ≤ (Go.Sort.partLoop ltM a i j e).1 ∧ (Go.Sort.partLoop ltM a i j e).1 < b := fun k => by
    induction k with
    | zero =>
      intro i j e hk he q3 q4 q5 q6
      have u := up_in (d := e) (a := a) q6 _ i (Nat.le_refl _) q4
      have w := dn_in (d := e) (i := upB e a j i) (by omega) j q5
      rw [pl_eq, if_pos (by omega)]
      exact ⟨he, w.1, by show dnB e a (upB e a j i) j < b; omega⟩
    | succ k ih =>
      intro i j e hk he q3 q4 q5 q6
      have u := up_in (d := e) (a := a) q6 _ i (Nat.le_refl _) q4
      have w := dn_in (d := e) (i := upB e a j i) (by omega) j q5
      rw [pl_eq]
      by_cases hx : upB e a j i > dnB e a (upB e a j i) j
      · rw [if_pos hx]
        exact ⟨he, w.1, by show dnB e a (upB e a j i) j < b; omega⟩
      · rw [if_neg hx, if_pos (by omega)]
        exact ih _ _ _ (by omega) (gd_swp he (by omega) (by omega)) (by omega) (by omega) (by omega) (by omega)
  obtain ⟨t1, t2, t3⟩ := hK _ (pI d a b v + 1) (pJ d a b v - 1) (Go.Sort.swp (pD d a v) (pI d a b v) (pJ d a b v)) (Nat.le_refl _) (gd_swp hD (by omega) (by omega)) (by omega) (by omega) (by omega) (by omega)
  exact ⟨⟨t2, t3⟩, gd_swp t1 (show pTn d a b v < n by have : pTn d a b v < b := t3; omega) (by omega)⟩
theorem pe_in {d : Array Mv} {n a b v : Nat} (hg : gdM d n) (hav : a ≤ v) (hvb : v < b) (hbn : b ≤ n) : (a < (Go.Sort.partitionEqual ltM d a b v).1 ∧ (Go.Sort.partitionEqual ltM d a b v).1 ≤ b) ∧ gdM (Go.Sort.partitionEqual ltM d a b v).2 n := by
  have hD : gdM (Go.Sort.swp d a v) n := gd_swp hg (by omega) (by omega)
  have hK : ∀ (k i j : Nat) (e : Array Mv), j + 1 - i ≤ k → gdM e n → a + 1 ≤ i → i ≤ b → a ≤ j → j < b → gdM (Go.Sort.partEqLoop ltM a i j e).2 n ∧ a < (Go.Sort.partEqLoop ltM a i j e).1 ∧ (Go.Sort.partEqLoop ltM a i j e).1 ≤ b := fun k => by
    induction k with
    | zero =>
      intro i j e hk he q3 q4 q5 q6
      have u := upE_in (d := e) (a := a) q6 _ i (Nat.le_refl _) q4
      have w := dnE_in (d := e) (i := upE e a j i) (by omega) j q5
      rw [ql_eq, if_pos (by omega)]
      exact ⟨he, by show a < upE e a j i; omega, u.2⟩
    | succ k ih =>
      intro i j e hk he q3 q4 q5 q6
      have u := upE_in (d := e) (a := a) q6 _ i (Nat.le_refl _) q4
      have w := dnE_in (d := e) (i := upE e a j i) (by omega) j q5
      rw [ql_eq]
      by_cases hx : upE e a j i > dnE e a (upE e a j i) j
      · rw [if_pos hx]
        exact ⟨he, by show a < upE e a j i; omega, u.2⟩
      · rw [if_neg hx, if_pos (by omega)]
        exact ih _ _ _ (by omega) (gd_swp he (by omega) (by omega)) (by omega) (by omega) (by omega) (by omega)
  obtain ⟨t1, t2, t3⟩ := hK _ (a + 1) (b - 1) (Go.Sort.swp d a v) (Nat.le_refl _) hD (by omega) (by omega) (by omega) (by omega)
  exact ⟨⟨t2, t3⟩, t1⟩
theorem ii_gd {n a : Nat} : ∀ (j : Nat) (d : Array Mv), j < n → gdM d n → gdM (Go.Sort.insInner ltM a j d) n
  | 0, _, _, hg => hg
  | j + 1, d, hj, hg => by
    rw [Go.Sort.insInner]
    split
    · exact ii_gd j _ (by omega) (gd_swp hg hj (by omega))
    · exact hg
theorem io_gd {n a b : Nat} (hb : b ≤ n) : ∀ (k i : Nat) (d : Array Mv), b - i ≤ k → gdM d n → gdM (Go.Sort.insOuter ltM a b i d) n
  | 0, i, d, hk, hg => by rw [Go.Sort.insOuter, if_neg (by omega)]; exact hg
  | k + 1, i, d, hk, hg => by
    rw [Go.Sort.insOuter]
    split
    · exact io_gd hb k _ _ (by omega) (ii_gd _ _ (by omega) hg)
    · exact hg
theorem is_gd {n a b : Nat} {d : Array Mv} (hb : b ≤ n) (hg : gdM d n) : gdM (Go.Sort.insertionSort ltM d a b) n := io_gd hb _ _ _ (Nat.le_refl _) hg
theorem hp_gd {n a : Nat} : ∀ (k : Nat) (d : Array Mv), a + k ≤ n → gdM d n → gdM (Go.Sort.heapPop ltM a k d) n
  | 0, _, _, hg => hg
  | k + 1, d, hk, hg => hp_gd k _ (by omega) (sd_gd (by omega) _ _ _ (Nat.le_refl _) (gd_swp hg (by omega) (by omega)))
theorem hs_gd {n a b : Nat} {d : Array Mv} (hab : a ≤ b) (hb : b ≤ n) (hg : gdM d n) : gdM (Go.Sort.heapSort ltM d a b) n := hp_gd _ _ (by omega) (hb_gd (by omega) _ _ hg)
theorem rl_gd {n : Nat} : ∀ (k i j : Nat) (d : Array Mv), j - i ≤ k → j < n → gdM d n → gdM (Go.Sort.reverseLoop i j d) n
  | 0, i, j, d, hk, hj, hg => by rw [Go.Sort.reverseLoop, if_neg (by omega)]; exact hg
  | k + 1, i, j, d, hk, hj, hg => by
    rw [Go.Sort.reverseLoop]
    split
    · exact rl_gd k _ _ _ (by omega) (by omega) (gd_swp hg (by omega) (by omega))
    · exact hg
theorem rr_gd {n a b : Nat} {d : Array Mv} (hab : a < b) (hb : b ≤ n) (hg : gdM d n) : gdM (Go.Sort.reverseRange d a b) n := rl_gd _ _ _ _ (Nat.le_refl _) (by omega) hg
end
end Qq
end
