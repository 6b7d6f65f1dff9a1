/- Parts of the proof: KL, KM, KN, KO, KV, LC, LE. -/
import Derived.Test.YtjcncnppohmoeaaZAG
import Derived.Test.YtjcncnppohmoeaaZAE
section
/- The sort itself, stepped through. -/
open Go Go.Vm Go.Proofs Sp
namespace Sp
structure Pq where
  a : Nat
  b : Nat
  l : Nat
  wb : Bool
  wp : Bool
  d : Array Mv
end Sp
namespace Qq
noncomputable section
noncomputable def pqL (p : Pq) : Nat := if (!p.wb) = true then p.l - 1 else p.l
noncomputable def pqD (p : Pq) : Array Mv := if (!p.wb) = true then Go.Sort.breakPatterns p.d p.a p.b else p.d
noncomputable def pqC (p : Pq) : Nat × Go.Sort.Hint := Go.Sort.choosePivot ltM (pqD p) p.a p.b
noncomputable def pqV (p : Pq) : Nat := if (pqC p).2 = .decreasing then (p.b - 1) - ((pqC p).1 - p.a) else (pqC p).1
noncomputable def pqH (p : Pq) : Go.Sort.Hint := if (pqC p).2 = .decreasing then .increasing else (pqC p).2
noncomputable def pqE (p : Pq) : Array Mv := if (pqC p).2 = .decreasing then Go.Sort.reverseRange (pqD p) p.a p.b else pqD p
noncomputable def pqP (p : Pq) : Array Mv × Bool := if (p.wb && p.wp && decide (pqH p = .increasing)) = true then Go.Sort.partialInsertionSort ltM (pqE p) p.a p.b else (pqE p, false)
noncomputable def pqI (p : Pq) : Int := hN (pqH p)
noncomputable def qF (cells : List Value) (a b l : Int) : List Value := pA (Go.Sort.pdq ltM (dA cells) a.toNat b.toNat l.toNat true true)
noncomputable def orcPq (N : Nat) : OrcV
  | [.slice (some ⟨0, 0, none⟩) n _, .int .i64 a, .int .i64 b, .int .i64 l, f], [some (.row cells 3 true true true)] => some (undef, [some (.row (qF cells a b l) 3 true true true)], isM cells n ∧ (0 ≤ a ∧ a ≤ b ∧ b ≤ n ∧ b < a + N) ∧ (0 ≤ l ∧ l ≤ 100) ∧ f = fF)
  | _, _ => none
section
variable (n c : Nat)
noncomputable def sP (p : Pq) (l : Nat) : List (Nat × Value) := [(0, .slice (some ⟨0, 0, none⟩) n c), (1, .int .i64 (p.a : Int)), (2, .int .i64 (p.b : Int)), (3, .int .i64 (l : Int)), (4, fF), (10, .bool p.wb), (11, .bool p.wp)]
noncomputable def lpPq (T : Array Mv) (N : Nat) : Lp where
  σ := Pq
  E p := slots 148 (sP n c p p.l)
  Hp p := [mR p.d]
  I p := (Go.Sort.pdq ltM p.d p.a p.b p.l p.wb p.wp = T ∧ gdM p.d n) ∧ (p.a ≤ p.b ∧ p.b ≤ n) ∧ p.l ≤ 100 ∧ p.b ≤ p.a + N
  m p := p.b - p.a
noncomputable def hsPq (T : Array Mv) (N : Nat) (ok : OkV Try.prog 54 (orcPq N)) : Hs Try.prog where
  op y := if [1707, 1711].contains y then some (hIa Try.prog) else if [1708, 1712].contains y then some (hLc Try.prog gMv) else if y = 1713 then some (hCa Try.prog 32 orcCp okCp) else none
  lp y := if y = 2 then some (lpPq n c T N) else none
  cq y := if y = 10 then some ⟨Pq, fun p => lp0 (slots 148 (sP n c p (pqL p) ++ [(12, .int .i64 ((p.b - p.a : Nat) : Int))])) [mR (pqD p)] True⟩
    else if y = 15 then some ⟨Pq, fun p => lp0 (slots 148 (sP n c p (pqL p) ++ [(12, .int .i64 ((p.b - p.a : Nat) : Int)), (13, .int .i64 (pqV p : Int)), (14, .int .i64 (pqI p))])) [mR (pqE p)] True⟩
    else if y = 17 then some ⟨Pq, fun p => lp0 (slots 148 (sP n c p (pqL p) ++ [(12, .int .i64 ((p.b - p.a : Nat) : Int)), (13, .int .i64 (pqV p : Int))])) [mR (pqE p)] ((pqP p).2 = false)⟩ else none
  cl y := if y = 2 then keep 148 [0, 1, 2, 3, 4, 10, 11] else if y = 10 then keep 148 [0, 1, 2, 3, 4, 10, 11, 12] else if y = 15 then keep 148 [0, 1, 2, 3, 4, 10, 11, 12, 13, 14] else keep 148 [0, 1, 2, 3, 4, 10, 11, 12, 13]
  nl _ := [.stay]
  rn := [.stay]
  sm := true
  au := auCalls [(77, hCa Try.prog 77 orcIs okIs), (78, hCa Try.prog 78 orcHs okHs), (79, hCa Try.prog 79 orcBk okBk), (80, hCa Try.prog 80 orcCv okCv), (81, hCa Try.prog 81 orcRr okRr), (82, hCa Try.prog 82 orcPs okPs), (83, hCa Try.prog 83 orcPe okPe), (84, hCa Try.prog 84 orcPn okPn), (54, hCa Try.prog 54 (orcPq N) ok)]
end
set_option maxRecDepth 100000 in
theorem pq_t (n : Nat) (c : Nat) (T : Array Mv) (d : Array Mv) (N : Nat) (ok : OkV Try.prog (54 : FuncId) (orcPq N)) (a : Nat) (b : Nat) (l : Nat) (K : Value → Heap → Prop) :
    (fnP Try.prog c0 (hsPq n c T N ok) (54 : FuncId) [Value.slice (some { block := (0 : Nat), off := (0 : Nat) }) n c, Value.int IntKind.i64 (↑a : Int), Value.int IntKind.i64 (↑b : Int), Value.int IntKind.i64 (↑l : Int), fF] [mR d] K) =
    ((∃ (s : Pq), Is ((«Sort».pdq ltM (Pq.d s) (Pq.a s) (Pq.b s) (Pq.l s) (Pq.wb s) (Pq.wp s) = T ∧ gdM (Pq.d s) n) ∧ (Pq.a s ≤ Pq.b s ∧ Pq.b s ≤ n) ∧ Pq.l s ≤ (100 : Nat) ∧ Pq.b s ≤ Pq.a s + N) ∧ (Value.slice (some { block := (0 : Nat), off := (0 : Nat) }) n c = Value.slice (some { block := (0 : Nat), off := (0 : Nat) }) n c ∧ Value.int IntKind.i64 (↑a : Int) = Value.int IntKind.i64 (↑(Pq.a s) : Int) ∧ Value.int IntKind.i64 (↑b : Int) = Value.int IntKind.i64 (↑(Pq.b s) : Int) ∧ Value.int IntKind.i64 (↑l : Int) = Value.int IntKind.i64 (↑(Pq.l s) : Int) ∧ Value.func (Fn.func (32 : Nat)) #[] #[] = Value.func (Fn.func (32 : Nat)) #[] #[] ∧ Value.bool true = Value.bool (Pq.wb s) ∧ Value.bool true = Value.bool (Pq.wp s) ∧ True) ∧ some (AObj.row (pA d) (3 : Nat) true true true) :: noH = some (AObj.row (pA (Pq.d s)) (3 : Nat) true true true) :: noH) ∧ ∀ (s : Pq), Is ((«Sort».pdq ltM (Pq.d s) (Pq.a s) (Pq.b s) (Pq.l s) (Pq.wb s) (Pq.wp s) = T ∧ gdM (Pq.d s) n) ∧ (Pq.a s ≤ Pq.b s ∧ Pq.b s ≤ n) ∧ Pq.l s ≤ (100 : Nat) ∧ Pq.b s ≤ Pq.a s + N) → br (decide (IntKind.wrap IntKind.i64 ((↑(Pq.b s) : Int) - (↑(Pq.a s) : Int)) ≤ (12 : Int))) (Is (isM (pA (Pq.d s)) n ∧ ((0 : Int) ≤ (↑(Pq.a s) : Int) ∧ (↑(Pq.a s) : Int) ≤ (↑(Pq.b s) : Int) ∧ (↑(Pq.b s) : Int) ≤ (↑n : Int)) ∧ Value.func (Fn.func (32 : Nat)) #[] #[] = Value.func (Fn.func (32 : Nat)) #[] #[]) ∧ K undef (some (AObj.row (isF (pA (Pq.d s)) (↑(Pq.a s) : Int) (↑(Pq.b s) : Int)) (3 : Nat) true true true) :: noH)) (br ((↑(Pq.l s) : Int) == (0 : Int)) (Is (isM (pA (Pq.d s)) n ∧ ((0 : Int) ≤ (↑(Pq.a s) : Int) ∧ (↑(Pq.a s) : Int) < (↑(Pq.b s) : Int) ∧ (↑(Pq.b s) : Int) ≤ (↑n : Int)) ∧ Value.func (Fn.func (32 : Nat)) #[] #[] = Value.func (Fn.func (32 : Nat)) #[] #[]) ∧ K undef (some (AObj.row (hsF (pA (Pq.d s)) (↑(Pq.a s) : Int) (↑(Pq.b s) : Int)) (3 : Nat) true true true) :: noH)) (∃ (p : Pq), br (!Pq.wb s) (Is (isM (pA (Pq.d s)) n ∧ ((0 : Int) ≤ (↑(Pq.a s) : Int) ∧ (↑(Pq.a s) : Int) + (8 : Int) ≤ (↑(Pq.b s) : Int) ∧ (↑(Pq.b s) : Int) ≤ (↑n : Int)) ∧ Value.func (Fn.func (32 : Nat)) #[] #[] = Value.func (Fn.func (32 : Nat)) #[] #[]) ∧ ∃ (s_1 : Nat), Is (s_1 = (0 : Nat) ∧ True) ∧ (Value.slice (some { block := (0 : Nat), off := (0 : Nat) }) n c = Value.slice (some { block := (0 : Nat), off := (0 : Nat) }) n c ∧ Value.int IntKind.i64 (↑(Pq.a s) : Int) = Value.int IntKind.i64 (↑(Pq.a p) : Int) ∧ Value.int IntKind.i64 (↑(Pq.b s) : Int) = Value.int IntKind.i64 (↑(Pq.b p) : Int) ∧ Value.int IntKind.i64 (IntKind.wrap IntKind.i64 ((↑(Pq.l s) : Int) - (1 : Int))) = Value.int IntKind.i64 (↑(pqL p) : Int) ∧ Value.func (Fn.func (32 : Nat)) #[] #[] = Value.func (Fn.func (32 : Nat)) #[] #[] ∧ Value.bool (Pq.wb s) = Value.bool (Pq.wb p) ∧ Value.bool (Pq.wp s) = Value.bool (Pq.wp p) ∧ Value.int IntKind.i64 (IntKind.wrap IntKind.i64 ((↑(Pq.b s) : Int) - (↑(Pq.a s) : Int))) = Value.int IntKind.i64 (↑(Pq.b p - Pq.a p) : Int) ∧ True) ∧ some (AObj.row (bkF (pA (Pq.d s)) (↑(Pq.a s) : Int) (↑(Pq.b s) : Int)) (3 : Nat) true true true) :: noH = some (AObj.row (pA (pqD p)) (3 : Nat) true true true) :: noH) (∃ (s_1 : Nat), Is (s_1 = (0 : Nat) ∧ True) ∧ (Value.slice (some { block := (0 : Nat), off := (0 : Nat) }) n c = Value.slice (some { block := (0 : Nat), off := (0 : Nat) }) n c ∧ Value.int IntKind.i64 (↑(Pq.a s) : Int) = Value.int IntKind.i64 (↑(Pq.a p) : Int) ∧ Value.int IntKind.i64 (↑(Pq.b s) : Int) = Value.int IntKind.i64 (↑(Pq.b p) : Int) ∧ Value.int IntKind.i64 (↑(Pq.l s) : Int) = Value.int IntKind.i64 (↑(pqL p) : Int) ∧ Value.func (Fn.func (32 : Nat)) #[] #[] = Value.func (Fn.func (32 : Nat)) #[] #[] ∧ Value.bool (Pq.wb s) = Value.bool (Pq.wb p) ∧ Value.bool (Pq.wp s) = Value.bool (Pq.wp p) ∧ Value.int IntKind.i64 (IntKind.wrap IntKind.i64 ((↑(Pq.b s) : Int) - (↑(Pq.a s) : Int))) = Value.int IntKind.i64 (↑(Pq.b p - Pq.a p) : Int) ∧ True) ∧ some (AObj.row (pA (Pq.d s)) (3 : Nat) true true true) :: noH = some (AObj.row (pA (pqD p)) (3 : Nat) true true true) :: noH) ∧ ∀ (s_1 : Nat), Is (s_1 = (0 : Nat) ∧ True) → Is (isM (pA (pqD p)) n ∧ ((0 : Int) ≤ (↑(Pq.a p) : Int) ∧ (↑(Pq.a p) : Int) < (↑(Pq.b p) : Int) ∧ (↑(Pq.b p) : Int) ≤ (↑n : Int)) ∧ Value.func (Fn.func (32 : Nat)) #[] #[] = Value.func (Fn.func (32 : Nat)) #[] #[]) ∧ ∃ (p_1 : Pq), br (cvH (pA (pqD p)) (↑(Pq.a p) : Int) (↑(Pq.b p) : Int) == (2 : Int)) (Is (isM (pA (pqD p)) n ∧ ((0 : Int) ≤ (↑(Pq.a p) : Int) ∧ (↑(Pq.a p) : Int) < (↑(Pq.b p) : Int) ∧ (↑(Pq.b p) : Int) ≤ (↑n : Int)) ∧ Value.func (Fn.func (32 : Nat)) #[] #[] = Value.func (Fn.func (32 : Nat)) #[] #[]) ∧ ∃ (s : Nat), Is (s = (0 : Nat) ∧ True) ∧ (Value.slice (some { block := (0 : Nat), off := (0 : Nat) }) n c = Value.slice (some { block := (0 : Nat), off := (0 : Nat) }) n c ∧ Value.int IntKind.i64 (↑(Pq.a p) : Int) = Value.int IntKind.i64 (↑(Pq.a p_1) : Int) ∧ Value.int IntKind.i64 (↑(Pq.b p) : Int) = Value.int IntKind.i64 (↑(Pq.b p_1) : Int) ∧ Value.int IntKind.i64 (↑(pqL p) : Int) = Value.int IntKind.i64 (↑(pqL p_1) : Int) ∧ Value.func (Fn.func (32 : Nat)) #[] #[] = Value.func (Fn.func (32 : Nat)) #[] #[] ∧ Value.bool (Pq.wb p) = Value.bool (Pq.wb p_1) ∧ Value.bool (Pq.wp p) = Value.bool (Pq.wp p_1) ∧ Value.int IntKind.i64 (↑(Pq.b p - Pq.a p) : Int) = Value.int IntKind.i64 (↑(Pq.b p_1 - Pq.a p_1) : Int) ∧ Value.int IntKind.i64 (IntKind.wrap IntKind.i64 (IntKind.wrap IntKind.i64 ((↑(Pq.b p) : Int) - (1 : Int)) - IntKind.wrap IntKind.i64 ((↑(cvP (pA (pqD p)) (↑(Pq.a p) : Int) (↑(Pq.b p) : Int)) : Int) - (↑(Pq.a p) : Int)))) = Value.int IntKind.i64 (↑(pqV p_1) : Int) ∧ Value.int IntKind.i64 (1 : Int) = Value.int IntKind.i64 (pqI p_1) ∧ True) ∧ some (AObj.row (rrF (pA (pqD p)) (↑(Pq.a p) : Int) (↑(Pq.b p) : Int)) (3 : Nat) true true true) :: noH = some (AObj.row (pA (pqE p_1)) (3 : Nat) true true true) :: noH) (∃ (s : Nat), Is (s = (0 : Nat) ∧ True) ∧ (Value.slice (some { block := (0 : Nat), off := (0 : Nat) }) n c = Value.slice (some { block := (0 : Nat), off := (0 : Nat) }) n c ∧ Value.int IntKind.i64 (↑(Pq.a p) : Int) = Value.int IntKind.i64 (↑(Pq.a p_1) : Int) ∧ Value.int IntKind.i64 (↑(Pq.b p) : Int) = Value.int IntKind.i64 (↑(Pq.b p_1) : Int) ∧ Value.int IntKind.i64 (↑(pqL p) : Int) = Value.int IntKind.i64 (↑(pqL p_1) : Int) ∧ Value.func (Fn.func (32 : Nat)) #[] #[] = Value.func (Fn.func (32 : Nat)) #[] #[] ∧ Value.bool (Pq.wb p) = Value.bool (Pq.wb p_1) ∧ Value.bool (Pq.wp p) = Value.bool (Pq.wp p_1) ∧ Value.int IntKind.i64 (↑(Pq.b p - Pq.a p) : Int) = Value.int IntKind.i64 (↑(Pq.b p_1 - Pq.a p_1) : Int) ∧ Value.int IntKind.i64 (↑(cvP (pA (pqD p)) (↑(Pq.a p) : Int) (↑(Pq.b p) : Int)) : Int) = Value.int IntKind.i64 (↑(pqV p_1) : Int) ∧ Value.int IntKind.i64 (cvH (pA (pqD p)) (↑(Pq.a p) : Int) (↑(Pq.b p) : Int)) = Value.int IntKind.i64 (pqI p_1) ∧ True) ∧ some (AObj.row (pA (pqD p)) (3 : Nat) true true true) :: noH = some (AObj.row (pA (pqE p_1)) (3 : Nat) true true true) :: noH) ∧ ∀ (s_2 : Nat), Is (s_2 = (0 : Nat) ∧ True) → ∃ (p : Pq), br (Pq.wb p_1) (br (Pq.wp p_1) (br (pqI p_1 == (1 : Int)) (Is (isM (pA (pqE p_1)) n ∧ ((0 : Int) ≤ (↑(Pq.a p_1) : Int) ∧ (↑(Pq.a p_1) : Int) < (↑(Pq.b p_1) : Int) ∧ (↑(Pq.b p_1) : Int) ≤ (↑n : Int)) ∧ Value.func (Fn.func (32 : Nat)) #[] #[] = Value.func (Fn.func (32 : Nat)) #[] #[]) ∧ br (psB (pA (pqE p_1)) (↑(Pq.a p_1) : Int) (↑(Pq.b p_1) : Int)) (K undef (some (AObj.row (pA (pqE p_1)) (3 : Nat) true true true) :: noH)) (∃ (s : Nat), Is (s = (0 : Nat) ∧ Prod.snd (pqP p) = false) ∧ (Value.slice (some { block := (0 : Nat), off := (0 : Nat) }) n c = Value.slice (some { block := (0 : Nat), off := (0 : Nat) }) n c ∧ Value.int IntKind.i64 (↑(Pq.a p_1) : Int) = Value.int IntKind.i64 (↑(Pq.a p) : Int) ∧ Value.int IntKind.i64 (↑(Pq.b p_1) : Int) = Value.int IntKind.i64 (↑(Pq.b p) : Int) ∧ Value.int IntKind.i64 (↑(pqL p_1) : Int) = Value.int IntKind.i64 (↑(pqL p) : Int) ∧ Value.func (Fn.func (32 : Nat)) #[] #[] = Value.func (Fn.func (32 : Nat)) #[] #[] ∧ Value.bool (Pq.wb p_1) = Value.bool (Pq.wb p) ∧ Value.bool (Pq.wp p_1) = Value.bool (Pq.wp p) ∧ Value.int IntKind.i64 (↑(Pq.b p_1 - Pq.a p_1) : Int) = Value.int IntKind.i64 (↑(Pq.b p - Pq.a p) : Int) ∧ Value.int IntKind.i64 (↑(pqV p_1) : Int) = Value.int IntKind.i64 (↑(pqV p) : Int) ∧ True) ∧ some (AObj.row (pA (pqE p_1)) (3 : Nat) true true true) :: noH = some (AObj.row (pA (pqE p)) (3 : Nat) true true true) :: noH)) (∃ (s : Nat), Is (s = (0 : Nat) ∧ Prod.snd (pqP p) = false) ∧ (Value.slice (some { block := (0 : Nat), off := (0 : Nat) }) n c = Value.slice (some { block := (0 : Nat), off := (0 : Nat) }) n c ∧ Value.int IntKind.i64 (↑(Pq.a p_1) : Int) = Value.int IntKind.i64 (↑(Pq.a p) : Int) ∧ Value.int IntKind.i64 (↑(Pq.b p_1) : Int) = Value.int IntKind.i64 (↑(Pq.b p) : Int) ∧ Value.int IntKind.i64 (↑(pqL p_1) : Int) = Value.int IntKind.i64 (↑(pqL p) : Int) ∧ Value.func (Fn.func (32 : Nat)) #[] #[] = Value.func (Fn.func (32 : Nat)) #[] #[] ∧ Value.bool (Pq.wb p_1) = Value.bool (Pq.wb p) ∧ Value.bool (Pq.wp p_1) = Value.bool (Pq.wp p) ∧ Value.int IntKind.i64 (↑(Pq.b p_1 - Pq.a p_1) : Int) = Value.int IntKind.i64 (↑(Pq.b p - Pq.a p) : Int) ∧ Value.int IntKind.i64 (↑(pqV p_1) : Int) = Value.int IntKind.i64 (↑(pqV p) : Int) ∧ True) ∧ some (AObj.row (pA (pqE p_1)) (3 : Nat) true true true) :: noH = some (AObj.row (pA (pqE p)) (3 : Nat) true true true) :: noH)) (∃ (s : Nat), Is (s = (0 : Nat) ∧ Prod.snd (pqP p) = false) ∧ (Value.slice (some { block := (0 : Nat), off := (0 : Nat) }) n c = Value.slice (some { block := (0 : Nat), off := (0 : Nat) }) n c ∧ Value.int IntKind.i64 (↑(Pq.a p_1) : Int) = Value.int IntKind.i64 (↑(Pq.a p) : Int) ∧ Value.int IntKind.i64 (↑(Pq.b p_1) : Int) = Value.int IntKind.i64 (↑(Pq.b p) : Int) ∧ Value.int IntKind.i64 (↑(pqL p_1) : Int) = Value.int IntKind.i64 (↑(pqL p) : Int) ∧ Value.func (Fn.func (32 : Nat)) #[] #[] = Value.func (Fn.func (32 : Nat)) #[] #[] ∧ Value.bool (Pq.wb p_1) = Value.bool (Pq.wb p) ∧ Value.bool (Pq.wp p_1) = Value.bool (Pq.wp p) ∧ Value.int IntKind.i64 (↑(Pq.b p_1 - Pq.a p_1) : Int) = Value.int IntKind.i64 (↑(Pq.b p - Pq.a p) : Int) ∧ Value.int IntKind.i64 (↑(pqV p_1) : Int) = Value.int IntKind.i64 (↑(pqV p) : Int) ∧ True) ∧ some (AObj.row (pA (pqE p_1)) (3 : Nat) true true true) :: noH = some (AObj.row (pA (pqE p)) (3 : Nat) true true true) :: noH)) (∃ (s : Nat), Is (s = (0 : Nat) ∧ Prod.snd (pqP p) = false) ∧ (Value.slice (some { block := (0 : Nat), off := (0 : Nat) }) n c = Value.slice (some { block := (0 : Nat), off := (0 : Nat) }) n c ∧ Value.int IntKind.i64 (↑(Pq.a p_1) : Int) = Value.int IntKind.i64 (↑(Pq.a p) : Int) ∧ Value.int IntKind.i64 (↑(Pq.b p_1) : Int) = Value.int IntKind.i64 (↑(Pq.b p) : Int) ∧ Value.int IntKind.i64 (↑(pqL p_1) : Int) = Value.int IntKind.i64 (↑(pqL p) : Int) ∧ Value.func (Fn.func (32 : Nat)) #[] #[] = Value.func (Fn.func (32 : Nat)) #[] #[] ∧ Value.bool (Pq.wb p_1) = Value.bool (Pq.wb p) ∧ Value.bool (Pq.wp p_1) = Value.bool (Pq.wp p) ∧ Value.int IntKind.i64 (↑(Pq.b p_1 - Pq.a p_1) : Int) = Value.int IntKind.i64 (↑(Pq.b p - Pq.a p) : Int) ∧ Value.int IntKind.i64 (↑(pqV p_1) : Int) = Value.int IntKind.i64 (↑(pqV p) : Int) ∧ True) ∧ some (AObj.row (pA (pqE p_1)) (3 : Nat) true true true) :: noH = some (AObj.row (pA (pqE p)) (3 : Nat) true true true) :: noH) ∧ ∀ (s_3 : Nat), Is (s_3 = (0 : Nat) ∧ Prod.snd (pqP p) = false) → br (decide ((0 : Int) < (↑(Pq.a p) : Int))) (Is ((0 : Int) ≤ IntKind.wrap IntKind.i64 ((↑(Pq.a p) : Int) - (1 : Int)) ∧ IntKind.wrap IntKind.i64 ((↑(Pq.a p) : Int) - (1 : Int)) < (↑n : Int)) ∧ Is ((if (0 : Nat) + Int.toNat (IntKind.wrap IntKind.i64 ((↑(Pq.a p) : Int) - (1 : Int))) * (3 : Nat) + (3 : Nat) ≤ List.length (pA (pqE p)) then some (Value.agg (List.toArray (List.take (3 : Nat) (List.drop ((0 : Nat) + Int.toNat (IntKind.wrap IntKind.i64 ((↑(Pq.a p) : Int) - (1 : Int))) * (3 : Nat)) (pA (pqE p)))))) else none) = some (Value.agg #[Value.int IntKind.i64 (iAt (pA (pqE p)) ((0 : Nat) + Int.toNat (IntKind.wrap IntKind.i64 ((↑(Pq.a p) : Int) - (1 : Int))) * (3 : Nat))), Value.int IntKind.i64 (iAt (pA (pqE p)) ((0 : Nat) + Int.toNat (IntKind.wrap IntKind.i64 ((↑(Pq.a p) : Int) - (1 : Int))) * (3 : Nat) + (1 : Nat))), Value.int IntKind.i64 (iAt (pA (pqE p)) ((0 : Nat) + Int.toNat (IntKind.wrap IntKind.i64 ((↑(Pq.a p) : Int) - (1 : Int))) * (3 : Nat) + (2 : Nat)))])) ∧ Is ((0 : Int) ≤ (↑(pqV p) : Int) ∧ (↑(pqV p) : Int) < (↑n : Int)) ∧ Is ((if (0 : Nat) + Int.toNat (↑(pqV p) : Int) * (3 : Nat) + (3 : Nat) ≤ List.length (pA (pqE p)) then some (Value.agg (List.toArray (List.take (3 : Nat) (List.drop ((0 : Nat) + Int.toNat (↑(pqV p) : Int) * (3 : Nat)) (pA (pqE p)))))) else none) = some (Value.agg #[Value.int IntKind.i64 (iAt (pA (pqE p)) ((0 : Nat) + Int.toNat (↑(pqV p) : Int) * (3 : Nat))), Value.int IntKind.i64 (iAt (pA (pqE p)) ((0 : Nat) + Int.toNat (↑(pqV p) : Int) * (3 : Nat) + (1 : Nat))), Value.int IntKind.i64 (iAt (pA (pqE p)) ((0 : Nat) + Int.toNat (↑(pqV p) : Int) * (3 : Nat) + (2 : Nat)))])) ∧ Is (mvIn (iAt (pA (pqE p)) ((0 : Nat) + Int.toNat (IntKind.wrap IntKind.i64 ((↑(Pq.a p) : Int) - (1 : Int))) * (3 : Nat))) (iAt (pA (pqE p)) ((0 : Nat) + Int.toNat (IntKind.wrap IntKind.i64 ((↑(Pq.a p) : Int) - (1 : Int))) * (3 : Nat) + (1 : Nat))) ∧ mvIn (iAt (pA (pqE p)) ((0 : Nat) + Int.toNat (↑(pqV p) : Int) * (3 : Nat))) (iAt (pA (pqE p)) ((0 : Nat) + Int.toNat (↑(pqV p) : Int) * (3 : Nat) + (1 : Nat)))) ∧ br (!decide (cpI (iAt (pA (pqE p)) ((0 : Nat) + Int.toNat (IntKind.wrap IntKind.i64 ((↑(Pq.a p) : Int) - (1 : Int))) * (3 : Nat))) (iAt (pA (pqE p)) ((0 : Nat) + Int.toNat (IntKind.wrap IntKind.i64 ((↑(Pq.a p) : Int) - (1 : Int))) * (3 : Nat) + (1 : Nat))) (iAt (pA (pqE p)) ((0 : Nat) + Int.toNat (IntKind.wrap IntKind.i64 ((↑(Pq.a p) : Int) - (1 : Int))) * (3 : Nat) + (2 : Nat))) (iAt (pA (pqE p)) ((0 : Nat) + Int.toNat (↑(pqV p) : Int) * (3 : Nat))) (iAt (pA (pqE p)) ((0 : Nat) + Int.toNat (↑(pqV p) : Int) * (3 : Nat) + (1 : Nat))) (iAt (pA (pqE p)) ((0 : Nat) + Int.toNat (↑(pqV p) : Int) * (3 : Nat) + (2 : Nat))) < (0 : Int))) (Is (isM (pA (pqE p)) n ∧ ((0 : Int) ≤ (↑(Pq.a p) : Int) ∧ (↑(Pq.a p) : Int) ≤ (↑(pqV p) : Int) ∧ (↑(pqV p) : Int) < (↑(Pq.b p) : Int) ∧ (↑(Pq.b p) : Int) ≤ (↑n : Int)) ∧ Value.func (Fn.func (32 : Nat)) #[] #[] = Value.func (Fn.func (32 : Nat)) #[] #[]) ∧ ∃ (s' : Pq), Is ((«Sort».pdq ltM (Pq.d s') (Pq.a s') (Pq.b s') (Pq.l s') (Pq.wb s') (Pq.wp s') = T ∧ gdM (Pq.d s') n) ∧ (Pq.a s' ≤ Pq.b s' ∧ Pq.b s' ≤ n) ∧ Pq.l s' ≤ (100 : Nat) ∧ Pq.b s' ≤ Pq.a s' + N) ∧ Is (Pq.b s' - Pq.a s' < Pq.b s - Pq.a s) ∧ (Value.slice (some { block := (0 : Nat), off := (0 : Nat) }) n c = Value.slice (some { block := (0 : Nat), off := (0 : Nat) }) n c ∧ Value.int IntKind.i64 (↑(peN (pA (pqE p)) (↑(Pq.a p) : Int) (↑(Pq.b p) : Int) (↑(pqV p) : Int)) : Int) = Value.int IntKind.i64 (↑(Pq.a s') : Int) ∧ Value.int IntKind.i64 (↑(Pq.b p) : Int) = Value.int IntKind.i64 (↑(Pq.b s') : Int) ∧ Value.int IntKind.i64 (↑(pqL p) : Int) = Value.int IntKind.i64 (↑(Pq.l s') : Int) ∧ Value.func (Fn.func (32 : Nat)) #[] #[] = Value.func (Fn.func (32 : Nat)) #[] #[] ∧ Value.bool (Pq.wb p) = Value.bool (Pq.wb s') ∧ Value.bool (Pq.wp p) = Value.bool (Pq.wp s') ∧ True) ∧ some (AObj.row (peA (pA (pqE p)) (↑(Pq.a p) : Int) (↑(Pq.b p) : Int) (↑(pqV p) : Int)) (3 : Nat) true true true) :: noH = some (AObj.row (pA (Pq.d s')) (3 : Nat) true true true) :: noH) (Is (isM (pA (pqE p)) n ∧ ((0 : Int) ≤ (↑(Pq.a p) : Int) ∧ (↑(Pq.a p) : Int) ≤ (↑(pqV p) : Int) ∧ (↑(pqV p) : Int) < (↑(Pq.b p) : Int) ∧ (↑(Pq.b p) : Int) ≤ (↑n : Int)) ∧ Value.func (Fn.func (32 : Nat)) #[] #[] = Value.func (Fn.func (32 : Nat)) #[] #[]) ∧ Is ((8 : Int) ≠ (0 : Int)) ∧ br (decide (IntKind.wrap IntKind.i64 ((↑(pnN (pA (pqE p)) (↑(Pq.a p) : Int) (↑(Pq.b p) : Int) (↑(pqV p) : Int)) : Int) - (↑(Pq.a p) : Int)) < IntKind.wrap IntKind.i64 ((↑(Pq.b p) : Int) - (↑(pnN (pA (pqE p)) (↑(Pq.a p) : Int) (↑(Pq.b p) : Int) (↑(pqV p) : Int)) : Int)))) (Is (isM (pnA (pA (pqE p)) (↑(Pq.a p) : Int) (↑(Pq.b p) : Int) (↑(pqV p) : Int)) n ∧ ((0 : Int) ≤ (↑(Pq.a p) : Int) ∧ (↑(Pq.a p) : Int) ≤ (↑(pnN (pA (pqE p)) (↑(Pq.a p) : Int) (↑(Pq.b p) : Int) (↑(pqV p) : Int)) : Int) ∧ (↑(pnN (pA (pqE p)) (↑(Pq.a p) : Int) (↑(Pq.b p) : Int) (↑(pqV p) : Int)) : Int) ≤ (↑n : Int) ∧ (↑(pnN (pA (pqE p)) (↑(Pq.a p) : Int) (↑(Pq.b p) : Int) (↑(pqV p) : Int)) : Int) < (↑(Pq.a p) : Int) + (↑N : Int)) ∧ ((0 : Int) ≤ (↑(pqL p) : Int) ∧ (↑(pqL p) : Int) ≤ (100 : Int)) ∧ Value.func (Fn.func (32 : Nat)) #[] #[] = Value.func (Fn.func (32 : Nat)) #[] #[]) ∧ ∃ (s' : Pq), Is ((«Sort».pdq ltM (Pq.d s') (Pq.a s') (Pq.b s') (Pq.l s') (Pq.wb s') (Pq.wp s') = T ∧ gdM (Pq.d s') n) ∧ (Pq.a s' ≤ Pq.b s' ∧ Pq.b s' ≤ n) ∧ Pq.l s' ≤ (100 : Nat) ∧ Pq.b s' ≤ Pq.a s' + N) ∧ Is (Pq.b s' - Pq.a s' < Pq.b s - Pq.a s) ∧ (Value.slice (some { block := (0 : Nat), off := (0 : Nat) }) n c = Value.slice (some { block := (0 : Nat), off := (0 : Nat) }) n c ∧ Value.int IntKind.i64 (IntKind.wrap IntKind.i64 ((↑(pnN (pA (pqE p)) (↑(Pq.a p) : Int) (↑(Pq.b p) : Int) (↑(pqV p) : Int)) : Int) + (1 : Int))) = Value.int IntKind.i64 (↑(Pq.a s') : Int) ∧ Value.int IntKind.i64 (↑(Pq.b p) : Int) = Value.int IntKind.i64 (↑(Pq.b s') : Int) ∧ Value.int IntKind.i64 (↑(pqL p) : Int) = Value.int IntKind.i64 (↑(Pq.l s') : Int) ∧ Value.func (Fn.func (32 : Nat)) #[] #[] = Value.func (Fn.func (32 : Nat)) #[] #[] ∧ Value.bool (decide (IntKind.wrap IntKind.i64 (Int.tdiv (↑(Pq.b p - Pq.a p) : Int) (8 : Int)) ≤ IntKind.wrap IntKind.i64 ((↑(pnN (pA (pqE p)) (↑(Pq.a p) : Int) (↑(Pq.b p) : Int) (↑(pqV p) : Int)) : Int) - (↑(Pq.a p) : Int)))) = Value.bool (Pq.wb s') ∧ Value.bool (pnB (pA (pqE p)) (↑(Pq.a p) : Int) (↑(Pq.b p) : Int) (↑(pqV p) : Int)) = Value.bool (Pq.wp s') ∧ True) ∧ some (AObj.row (qF (pnA (pA (pqE p)) (↑(Pq.a p) : Int) (↑(Pq.b p) : Int) (↑(pqV p) : Int)) (↑(Pq.a p) : Int) (↑(pnN (pA (pqE p)) (↑(Pq.a p) : Int) (↑(Pq.b p) : Int) (↑(pqV p) : Int)) : Int) (↑(pqL p) : Int)) (3 : Nat) true true true) :: noH = some (AObj.row (pA (Pq.d s')) (3 : Nat) true true true) :: noH) (Is (isM (pnA (pA (pqE p)) (↑(Pq.a p) : Int) (↑(Pq.b p) : Int) (↑(pqV p) : Int)) n ∧ ((0 : Int) ≤ IntKind.wrap IntKind.i64 ((↑(pnN (pA (pqE p)) (↑(Pq.a p) : Int) (↑(Pq.b p) : Int) (↑(pqV p) : Int)) : Int) + (1 : Int)) ∧ IntKind.wrap IntKind.i64 ((↑(pnN (pA (pqE p)) (↑(Pq.a p) : Int) (↑(Pq.b p) : Int) (↑(pqV p) : Int)) : Int) + (1 : Int)) ≤ (↑(Pq.b p) : Int) ∧ (↑(Pq.b p) : Int) ≤ (↑n : Int) ∧ (↑(Pq.b p) : Int) < IntKind.wrap IntKind.i64 ((↑(pnN (pA (pqE p)) (↑(Pq.a p) : Int) (↑(Pq.b p) : Int) (↑(pqV p) : Int)) : Int) + (1 : Int)) + (↑N : Int)) ∧ ((0 : Int) ≤ (↑(pqL p) : Int) ∧ (↑(pqL p) : Int) ≤ (100 : Int)) ∧ Value.func (Fn.func (32 : Nat)) #[] #[] = Value.func (Fn.func (32 : Nat)) #[] #[]) ∧ ∃ (s' : Pq), Is ((«Sort».pdq ltM (Pq.d s') (Pq.a s') (Pq.b s') (Pq.l s') (Pq.wb s') (Pq.wp s') = T ∧ gdM (Pq.d s') n) ∧ (Pq.a s' ≤ Pq.b s' ∧ Pq.b s' ≤ n) ∧ Pq.l s' ≤ (100 : Nat) ∧ Pq.b s' ≤ Pq.a s' + N) ∧ Is (Pq.b s' - Pq.a s' < Pq.b s - Pq.a s) ∧ (Value.slice (some { block := (0 : Nat), off := (0 : Nat) }) n c = Value.slice (some { block := (0 : Nat), off := (0 : Nat) }) n c ∧ Value.int IntKind.i64 (↑(Pq.a p) : Int) = Value.int IntKind.i64 (↑(Pq.a s') : Int) ∧ Value.int IntKind.i64 (↑(pnN (pA (pqE p)) (↑(Pq.a p) : Int) (↑(Pq.b p) : Int) (↑(pqV p) : Int)) : Int) = Value.int IntKind.i64 (↑(Pq.b s') : Int) ∧ Value.int IntKind.i64 (↑(pqL p) : Int) = Value.int IntKind.i64 (↑(Pq.l s') : Int) ∧ Value.func (Fn.func (32 : Nat)) #[] #[] = Value.func (Fn.func (32 : Nat)) #[] #[] ∧ Value.bool (decide (IntKind.wrap IntKind.i64 (Int.tdiv (↑(Pq.b p - Pq.a p) : Int) (8 : Int)) ≤ IntKind.wrap IntKind.i64 ((↑(Pq.b p) : Int) - (↑(pnN (pA (pqE p)) (↑(Pq.a p) : Int) (↑(Pq.b p) : Int) (↑(pqV p) : Int)) : Int)))) = Value.bool (Pq.wb s') ∧ Value.bool (pnB (pA (pqE p)) (↑(Pq.a p) : Int) (↑(Pq.b p) : Int) (↑(pqV p) : Int)) = Value.bool (Pq.wp s') ∧ True) ∧ some (AObj.row (qF (pnA (pA (pqE p)) (↑(Pq.a p) : Int) (↑(Pq.b p) : Int) (↑(pqV p) : Int)) (IntKind.wrap IntKind.i64 ((↑(pnN (pA (pqE p)) (↑(Pq.a p) : Int) (↑(Pq.b p) : Int) (↑(pqV p) : Int)) : Int) + (1 : Int))) (↑(Pq.b p) : Int) (↑(pqL p) : Int)) (3 : Nat) true true true) :: noH = some (AObj.row (pA (Pq.d s')) (3 : Nat) true true true) :: noH))) (Is (isM (pA (pqE p)) n ∧ ((0 : Int) ≤ (↑(Pq.a p) : Int) ∧ (↑(Pq.a p) : Int) ≤ (↑(pqV p) : Int) ∧ (↑(pqV p) : Int) < (↑(Pq.b p) : Int) ∧ (↑(Pq.b p) : Int) ≤ (↑n : Int)) ∧ Value.func (Fn.func (32 : Nat)) #[] #[] = Value.func (Fn.func (32 : Nat)) #[] #[]) ∧ Is ((8 : Int) ≠ (0 : Int)) ∧ br (decide (IntKind.wrap IntKind.i64 ((↑(pnN (pA (pqE p)) (↑(Pq.a p) : Int) (↑(Pq.b p) : Int) (↑(pqV p) : Int)) : Int) - (↑(Pq.a p) : Int)) < IntKind.wrap IntKind.i64 ((↑(Pq.b p) : Int) - (↑(pnN (pA (pqE p)) (↑(Pq.a p) : Int) (↑(Pq.b p) : Int) (↑(pqV p) : Int)) : Int)))) (Is (isM (pnA (pA (pqE p)) (↑(Pq.a p) : Int) (↑(Pq.b p) : Int) (↑(pqV p) : Int)) n ∧ ((0 : Int) ≤ (↑(Pq.a p) : Int) ∧ (↑(Pq.a p) : Int) ≤ (↑(pnN (pA (pqE p)) (↑(Pq.a p) : Int) (↑(Pq.b p) : Int) (↑(pqV p) : Int)) : Int) ∧ (↑(pnN (pA (pqE p)) (↑(Pq.a p) : Int) (↑(Pq.b p) : Int) (↑(pqV p) : Int)) : Int) ≤ (↑n : Int) ∧ (↑(pnN (pA (pqE p)) (↑(Pq.a p) : Int) (↑(Pq.b p) : Int) (↑(pqV p) : Int)) : Int) < (↑(Pq.a p) : Int) + (↑N : Int)) ∧ ((0 : Int) ≤ (↑(pqL p) : Int) ∧ (↑(pqL p) : Int) ≤ (100 : Int)) ∧ Value.func (Fn.func (32 : Nat)) #[] #[] = Value.func (Fn.func (32 : Nat)) #[] #[]) ∧ ∃ (s' : Pq), Is ((«Sort».pdq ltM (Pq.d s') (Pq.a s') (Pq.b s') (Pq.l s') (Pq.wb s') (Pq.wp s') = T ∧ gdM (Pq.d s') n) ∧ (Pq.a s' ≤ Pq.b s' ∧ Pq.b s' ≤ n) ∧ Pq.l s' ≤ (100 : Nat) ∧ Pq.b s' ≤ Pq.a s' + N) ∧ Is (Pq.b s' - Pq.a s' < Pq.b s - Pq.a s) ∧ (Value.slice (some { block := (0 : Nat), off := (0 : Nat) }) n c = Value.slice (some { block := (0 : Nat), off := (0 : Nat) }) n c ∧ Value.int IntKind.i64 (IntKind.wrap IntKind.i64 ((↑(pnN (pA (pqE p)) (↑(Pq.a p) : Int) (↑(Pq.b p) : Int) (↑(pqV p) : Int)) : Int) + (1 : Int))) = Value.int IntKind.i64 (↑(Pq.a s') : Int) ∧ Value.int IntKind.i64 (↑(Pq.b p) : Int) = Value.int IntKind.i64 (↑(Pq.b s') : Int) ∧ Value.int IntKind.i64 (↑(pqL p) : Int) = Value.int IntKind.i64 (↑(Pq.l s') : Int) ∧ Value.func (Fn.func (32 : Nat)) #[] #[] = Value.func (Fn.func (32 : Nat)) #[] #[] ∧ Value.bool (decide (IntKind.wrap IntKind.i64 (Int.tdiv (↑(Pq.b p - Pq.a p) : Int) (8 : Int)) ≤ IntKind.wrap IntKind.i64 ((↑(pnN (pA (pqE p)) (↑(Pq.a p) : Int) (↑(Pq.b p) : Int) (↑(pqV p) : Int)) : Int) - (↑(Pq.a p) : Int)))) = Value.bool (Pq.wb s') ∧ Value.bool (pnB (pA (pqE p)) (↑(Pq.a p) : Int) (↑(Pq.b p) : Int) (↑(pqV p) : Int)) = Value.bool (Pq.wp s') ∧ True) ∧ some (AObj.row (qF (pnA (pA (pqE p)) (↑(Pq.a p) : Int) (↑(Pq.b p) : Int) (↑(pqV p) : Int)) (↑(Pq.a p) : Int) (↑(pnN (pA (pqE p)) (↑(Pq.a p) : Int) (↑(Pq.b p) : Int) (↑(pqV p) : Int)) : Int) (↑(pqL p) : Int)) (3 : Nat) true true true) :: noH = some (AObj.row (pA (Pq.d s')) (3 : Nat) true true true) :: noH) (Is (isM (pnA (pA (pqE p)) (↑(Pq.a p) : Int) (↑(Pq.b p) : Int) (↑(pqV p) : Int)) n ∧ ((0 : Int) ≤ IntKind.wrap IntKind.i64 ((↑(pnN (pA (pqE p)) (↑(Pq.a p) : Int) (↑(Pq.b p) : Int) (↑(pqV p) : Int)) : Int) + (1 : Int)) ∧ IntKind.wrap IntKind.i64 ((↑(pnN (pA (pqE p)) (↑(Pq.a p) : Int) (↑(Pq.b p) : Int) (↑(pqV p) : Int)) : Int) + (1 : Int)) ≤ (↑(Pq.b p) : Int) ∧ (↑(Pq.b p) : Int) ≤ (↑n : Int) ∧ (↑(Pq.b p) : Int) < IntKind.wrap IntKind.i64 ((↑(pnN (pA (pqE p)) (↑(Pq.a p) : Int) (↑(Pq.b p) : Int) (↑(pqV p) : Int)) : Int) + (1 : Int)) + (↑N : Int)) ∧ ((0 : Int) ≤ (↑(pqL p) : Int) ∧ (↑(pqL p) : Int) ≤ (100 : Int)) ∧ Value.func (Fn.func (32 : Nat)) #[] #[] = Value.func (Fn.func (32 : Nat)) #[] #[]) ∧ ∃ (s' : Pq), Is ((«Sort».pdq ltM (Pq.d s') (Pq.a s') (Pq.b s') (Pq.l s') (Pq.wb s') (Pq.wp s') = T ∧ gdM (Pq.d s') n) ∧ (Pq.a s' ≤ Pq.b s' ∧ Pq.b s' ≤ n) ∧ Pq.l s' ≤ (100 : Nat) ∧ Pq.b s' ≤ Pq.a s' + N) ∧ Is (Pq.b s' - Pq.a s' < Pq.b s - Pq.a s) ∧ (Value.slice (some { block := (0 : Nat), off := (0 : Nat) }) n c = Value.slice (some { block := (0 : Nat), off := (0 : Nat) }) n c ∧ Value.int IntKind.i64 (↑(Pq.a p) : Int) = Value.int IntKind.i64 (↑(Pq.a s') : Int) ∧ Value.int IntKind.i64 (↑(pnN (pA (pqE p)) (↑(Pq.a p) : Int) (↑(Pq.b p) : Int) (↑(pqV p) : Int)) : Int) = Value.int IntKind.i64 (↑(Pq.b s') : Int) ∧ Value.int IntKind.i64 (↑(pqL p) : Int) = Value.int IntKind.i64 (↑(Pq.l s') : Int) ∧ Value.func (Fn.func (32 : Nat)) #[] #[] = Value.func (Fn.func (32 : Nat)) #[] #[] ∧ Value.bool (decide (IntKind.wrap IntKind.i64 (Int.tdiv (↑(Pq.b p - Pq.a p) : Int) (8 : Int)) ≤ IntKind.wrap IntKind.i64 ((↑(Pq.b p) : Int) - (↑(pnN (pA (pqE p)) (↑(Pq.a p) : Int) (↑(Pq.b p) : Int) (↑(pqV p) : Int)) : Int)))) = Value.bool (Pq.wb s') ∧ Value.bool (pnB (pA (pqE p)) (↑(Pq.a p) : Int) (↑(Pq.b p) : Int) (↑(pqV p) : Int)) = Value.bool (Pq.wp s') ∧ True) ∧ some (AObj.row (qF (pnA (pA (pqE p)) (↑(Pq.a p) : Int) (↑(Pq.b p) : Int) (↑(pqV p) : Int)) (IntKind.wrap IntKind.i64 ((↑(pnN (pA (pqE p)) (↑(Pq.a p) : Int) (↑(Pq.b p) : Int) (↑(pqV p) : Int)) : Int) + (1 : Int))) (↑(Pq.b p) : Int) (↑(pqL p) : Int)) (3 : Nat) true true true) :: noH = some (AObj.row (pA (Pq.d s')) (3 : Nat) true true true) :: noH))))) := by kernel_rfl
noncomputable def pqX (p : Pq) : Nat × Array Mv := Go.Sort.partitionEqual ltM (pqP p).1 p.a p.b (pqV p)
noncomputable def pqR (p : Pq) : Nat × Bool × Array Mv := Go.Sort.partition ltM (pqP p).1 p.a p.b (pqV p)
theorem pdq_eq (p : Pq) : Go.Sort.pdq ltM p.d p.a p.b p.l p.wb p.wp =
    if p.b - p.a ≤ 12 then Go.Sort.insertionSort ltM p.d p.a p.b else if p.l = 0 then Go.Sort.heapSort ltM p.d p.a p.b else
    if (pqP p).2 = true then (pqP p).1 else
    if (decide (p.a > 0) && !ltM (pqP p).1[p.a - 1]! (pqP p).1[pqV p]!) = true then
      (if _h : p.a < (pqX p).1 ∧ (pqX p).1 ≤ p.b then Go.Sort.pdq ltM (pqX p).2 (pqX p).1 p.b (pqL p) p.wb p.wp else (pqX p).2)
    else (if _h : p.a ≤ (pqR p).1 ∧ (pqR p).1 < p.b then
      (if (pqR p).1 - p.a < p.b - (pqR p).1 then Go.Sort.pdq ltM (Go.Sort.pdq ltM (pqR p).2.2 p.a (pqR p).1 (pqL p) true true) ((pqR p).1 + 1) p.b (pqL p) (decide ((pqR p).1 - p.a ≥ (p.b - p.a) / 8)) (pqR p).2.1
       else Go.Sort.pdq ltM (Go.Sort.pdq ltM (pqR p).2.2 ((pqR p).1 + 1) p.b (pqL p) true true) p.a (pqR p).1 (pqL p) (decide (p.b - (pqR p).1 ≥ (p.b - p.a) / 8)) (pqR p).2.1)
      else (pqR p).2.2) := by
  rw [Go.Sort.pdq]; rfl
end
end Qq
end
section
/- The sort: what it gives. -/
open Go Go.Vm Go.Proofs Sp
namespace Qq
noncomputable section
theorem bp_gd {d : Array Mv} {n a b : Nat} (hg : gdM d n) (h8 : 8 ≤ b - a) (hbn : b ≤ n) : gdM (Go.Sort.breakPatterns d a b) n := by
  have h49 := hg.2.1
  rw [← bkD_eq h8 (by omega)]
  exact bk_gd hg h8 (by omega) 3 (Nat.le_refl _)
section
variable {p : Pq} {n : Nat} (hg : gdM p.d n) (hab : p.a ≤ p.b) (hbn : p.b ≤ n) (h12 : ¬ p.b - p.a ≤ 12)
include hg hbn h12
theorem pqD_gd : gdM (pqD p) n := by
  rw [pqD]
  split
  · exact bp_gd hg (by omega) hbn
  · exact hg
omit hg hbn in
theorem pqC_in : p.a ≤ (pqC p).1 ∧ (pqC p).1 < p.b := Go.Sort.choosePivot_holds ltM (pqD p) p.a p.b (by omega)
omit hg hbn in
theorem pqV_in : p.a ≤ pqV p ∧ pqV p < p.b := by
  have := pqC_in h12
  rw [pqV]
  split <;> omega
theorem pqE_gd : gdM (pqE p) n := by
  have := pqD_gd hg hbn h12
  rw [pqE]
  split
  · exact rr_gd (by omega) hbn this
  · exact this
theorem pqP_fst : (pqP p).1 = pqE p := by
  have h49 := hg.2.1
  have _ := h12
  rw [pqP]
  split
  · exact ps_same (by omega)
  · rfl
theorem pqX_in : (p.a < (pqX p).1 ∧ (pqX p).1 ≤ p.b) ∧ gdM (pqX p).2 n := by
  have hv := pqV_in h12
  rw [pqX, pqP_fst hg hbn h12]
  exact pe_in (pqE_gd hg hbn h12) hv.1 hv.2 hbn
theorem pqR_in : (p.a ≤ (pqR p).1 ∧ (pqR p).1 < p.b) ∧ gdM (pqR p).2.2 n := by
  have hv := pqV_in h12
  rw [pqR, pqP_fst hg hbn h12]
  exact pn_in (pqE_gd hg hbn h12) hv.1 hv.2 hbn
end
theorem pq_gd {n : Nat} : ∀ (k : Nat) (p : Pq), p.b - p.a < k → gdM p.d n → p.b ≤ n → gdM (Go.Sort.pdq ltM p.d p.a p.b p.l p.wb p.wp) n
  | 0, _, hk, _, _ => by omega
  | k + 1, p, hk, hg, hbn => by
    rw [pdq_eq]
    by_cases h12 : p.b - p.a ≤ 12
    · rw [if_pos h12]; exact is_gd hbn hg
    rw [if_neg h12]
    by_cases h0 : p.l = 0
    · rw [if_pos h0]; exact hs_gd (by omega) hbn hg
    rw [if_neg h0]
    split
    · rw [pqP_fst hg hbn h12]; exact pqE_gd hg hbn h12
    split
    · obtain ⟨⟨x1, x2⟩, x3⟩ := pqX_in hg hbn h12
      rw [dif_pos ⟨x1, x2⟩]
      exact pq_gd k ⟨(pqX p).1, p.b, pqL p, p.wb, p.wp, (pqX p).2⟩ (by show p.b - (pqX p).1 < k; omega) x3 hbn
    · obtain ⟨⟨x1, x2⟩, x3⟩ := pqR_in hg hbn h12
      rw [dif_pos ⟨x1, x2⟩]
      split
      · have h1 := pq_gd k ⟨p.a, (pqR p).1, pqL p, true, true, (pqR p).2.2⟩ (by show (pqR p).1 - p.a < k; omega) x3 (by show (pqR p).1 ≤ n; omega)
        exact pq_gd k ⟨(pqR p).1 + 1, p.b, pqL p, decide ((pqR p).1 - p.a ≥ (p.b - p.a) / 8), (pqR p).2.1, _⟩ (by show p.b - ((pqR p).1 + 1) < k; omega) h1 hbn
      · have h1 := pq_gd k ⟨(pqR p).1 + 1, p.b, pqL p, true, true, (pqR p).2.2⟩ (by show p.b - ((pqR p).1 + 1) < k; omega) x3 hbn
        exact pq_gd k ⟨p.a, (pqR p).1, pqL p, decide (p.b - (pqR p).1 ≥ (p.b - p.a) / 8), (pqR p).2.1, _⟩ (by show (pqR p).1 - p.a < k; omega) h1 (by show (pqR p).1 ≤ n; omega)
end
end Qq
end
section
/- The sort: walked. -/
open Go Go.Vm Go.Proofs Sp
namespace Qq
noncomputable section
theorem isF_eq (d : Array Mv) (a b : Nat) : isF (pA d) (a : Int) (b : Int) = pA (Go.Sort.insertionSort ltM d a b) := by rw [isF, dA_pA, Int.toNat_natCast, Int.toNat_natCast]
theorem hsF_eq (d : Array Mv) (a b : Nat) : hsF (pA d) (a : Int) (b : Int) = pA (Go.Sort.heapSort ltM d a b) := by rw [hsF, dA_pA, Int.toNat_natCast, Int.toNat_natCast]
theorem bkF_eq (d : Array Mv) (a b : Nat) : bkF (pA d) (a : Int) (b : Int) = pA (Go.Sort.breakPatterns d a b) := by rw [bkF, dA_pA, Int.toNat_natCast, Int.toNat_natCast]
theorem rrF_eq (d : Array Mv) (a b : Nat) : rrF (pA d) (a : Int) (b : Int) = pA (Go.Sort.reverseRange d a b) := by rw [rrF, dA_pA, Int.toNat_natCast, Int.toNat_natCast]
theorem psB_eq (d : Array Mv) (a b : Nat) : psB (pA d) (a : Int) (b : Int) = (Go.Sort.partialInsertionSort ltM d a b).2 := by rw [psB, dA_pA, Int.toNat_natCast, Int.toNat_natCast]
theorem cvP_eq (d : Array Mv) (a b : Nat) : cvP (pA d) (a : Int) (b : Int) = (Go.Sort.choosePivot ltM d a b).1 := by rw [cvP, dA_pA, Int.toNat_natCast, Int.toNat_natCast]
theorem cvH_eq (d : Array Mv) (a b : Nat) : cvH (pA d) (a : Int) (b : Int) = hN (Go.Sort.choosePivot ltM d a b).2 := by rw [cvH, dA_pA, Int.toNat_natCast, Int.toNat_natCast]
theorem peN_eq (d : Array Mv) (a b v : Nat) : peN (pA d) (a : Int) (b : Int) (v : Int) = (Go.Sort.partitionEqual ltM d a b v).1 := by rw [peN, dA_pA, Int.toNat_natCast, Int.toNat_natCast, Int.toNat_natCast]
theorem peA_eq (d : Array Mv) (a b v : Nat) : peA (pA d) (a : Int) (b : Int) (v : Int) = pA (Go.Sort.partitionEqual ltM d a b v).2 := by rw [peA, dA_pA, Int.toNat_natCast, Int.toNat_natCast, Int.toNat_natCast]
theorem pnN_eq (d : Array Mv) (a b v : Nat) : pnN (pA d) (a : Int) (b : Int) (v : Int) = (Go.Sort.partition ltM d a b v).1 := by rw [pnN, dA_pA, Int.toNat_natCast, Int.toNat_natCast, Int.toNat_natCast]
theorem pnB_eq (d : Array Mv) (a b v : Nat) : pnB (pA d) (a : Int) (b : Int) (v : Int) = (Go.Sort.partition ltM d a b v).2.1 := by rw [pnB, dA_pA, Int.toNat_natCast, Int.toNat_natCast, Int.toNat_natCast]
theorem pnA_eq (d : Array Mv) (a b v : Nat) : pnA (pA d) (a : Int) (b : Int) (v : Int) = pA (Go.Sort.partition ltM d a b v).2.2 := by rw [pnA, dA_pA, Int.toNat_natCast, Int.toNat_natCast, Int.toNat_natCast]
theorem qF_eq (d : Array Mv) (a b l : Nat) : qF (pA d) (a : Int) (b : Int) (l : Int) = pA (Go.Sort.pdq ltM d a b l true true) := by rw [qF, dA_pA, Int.toNat_natCast, Int.toNat_natCast, Int.toNat_natCast]
theorem hN_dec {h : Go.Sort.Hint} : (hN h == 2) = true ↔ h = .decreasing := by cases h <;> simp [hN]
theorem hN_inc {h : Go.Sort.Hint} : (hN h == 1) = true ↔ h = .increasing := by cases h <;> simp [hN]
theorem pq_ok {N : Nat} (ok : OkV Try.prog 54 (orcPq N)) {d : Array Mv} {n c a b l : Nat} (hg : gdM d n) (hab : a ≤ b) (hbn : b ≤ n) (hl : l ≤ 100) (hN' : b ≤ a + N) :
    SmallRes Try.prog 54 [.slice (some ⟨0, 0, none⟩) n c, .int .i64 (a : Int), .int .i64 (b : Int), .int .i64 (l : Int), fF] [mR d] undef [mR (Go.Sort.pdq ltM d a b l true true)] := by
  obtain ⟨T, hT0⟩ : ∃ T, T = Go.Sort.pdq ltM d a b l true true := ⟨_, rfl⟩
  rw [← hT0]
  refine fnP_res hm c0_ok (hs := hsPq n c T N ok) ?_
  rw [pq_t]
  refine ⟨⟨⟨a, b, l, true, true, d⟩, ⟨⟨hT0.symm, hg⟩, ⟨hab, hbn⟩, hl, hN'⟩, ⟨rfl, rfl, rfl, rfl, rfl, rfl, rfl, trivial⟩, rfl⟩, fun p hp => ?_⟩
  clear hT0 hg hab hbn hl hN'
  obtain ⟨⟨hT, hg⟩, ⟨hab, hbn⟩, hl, hN'⟩ := hp.out
  have h49 := hg.2.1
  have e0 : IntKind.wrap .i64 ((p.b : Int) - (p.a : Int)) = ((p.b - p.a : Nat) : Int) := (wr_n (by omega) (by omega)).trans (by omega)
  rw [e0]
  refine br_of (fun h1 => ?_) (fun h1 => br_of (fun h2 => ?_) (fun h2 => ?_))
  · have h1 := of_decide_eq_true h1
    refine ⟨⟨isM_of hg, ⟨by omega, by omega, by omega⟩, rfl⟩, rfl, ?_⟩
    rw [pdq_eq, if_pos (by omega)] at hT
    rw [isF_eq, hT]; rfl
  · have h1 := of_decide_eq_false h1
    have h2 : p.l = 0 := by
      have : (p.l : Int) = 0 := by simpa using h2
      omega
    refine ⟨⟨isM_of hg, ⟨by omega, by omega, by omega⟩, rfl⟩, rfl, ?_⟩
    rw [pdq_eq, if_neg (by omega), if_pos h2] at hT
    rw [hsF_eq, hT]; rfl
  have h1 := of_decide_eq_false h1
  have h12 : ¬ p.b - p.a ≤ 12 := by omega
  have h0 : ¬ p.l = 0 := fun e => by rw [e] at h2; simp at h2
  rw [pdq_eq, if_neg h12, if_neg h0] at hT
  have gD := pqD_gd hg hbn h12
  have gE := pqE_gd hg hbn h12
  have hC := pqC_in h12
  have hV := pqV_in h12
  have hP := pqP_fst hg hbn h12
  have hL : pqL p ≤ p.l := by
    rw [pqL]
    split <;> omega
  have eP : cvP (pA (pqD p)) (p.a : Int) (p.b : Int) = (pqC p).1 := cvP_eq _ _ _
  have eH : cvH (pA (pqD p)) (p.a : Int) (p.b : Int) = hN (pqC p).2 := cvH_eq _ _ _
  have w8 : IntKind.wrap .i64 (Int.tdiv ((p.b - p.a : Nat) : Int) 8) = (((p.b - p.a) / 8 : Nat) : Int) := by
    rw [Int.tdiv_eq_ediv_of_nonneg (by omega)]
    exact (wr_n (by omega) (by omega)).trans (by omega)
  have nx : (pqP p).2 = false → ∃ s : Nat, Is (s = 0 ∧ (pqP p).2 = false) ∧ (Value.slice (some ⟨0, 0, none⟩) n c = Value.slice (some ⟨0, 0, none⟩) n c ∧ Value.int .i64 (p.a : Int) = Value.int .i64 (p.a : Int) ∧ Value.int .i64 (p.b : Int) = Value.int .i64 (p.b : Int) ∧ Value.int .i64 (pqL p : Int) = Value.int .i64 (pqL p : Int) ∧ fF = fF ∧ Value.bool p.wb = Value.bool p.wb ∧ Value.bool p.wp = Value.bool p.wp ∧ Value.int .i64 ((p.b - p.a : Nat) : Int) = Value.int .i64 ((p.b - p.a : Nat) : Int) ∧ Value.int .i64 (pqV p : Int) = Value.int .i64 (pqV p : Int) ∧ True) ∧
      some (AObj.row (pA (pqE p)) 3 true true true) :: noH = some (AObj.row (pA (pqE p)) 3 true true true) :: noH := fun h => ⟨0, ⟨rfl, h⟩, ⟨rfl, rfl, rfl, rfl, rfl, rfl, rfl, rfl, rfl, trivial⟩, rfl⟩
  refine ⟨p, br_of (fun hw => ?_) (fun hw => ?_), fun _ _ => ⟨⟨isM_of gD, ⟨by omega, by omega, by omega⟩, rfl⟩, p, br_of (fun hc => ?_) (fun hc => ?_), fun _ _ => ⟨p, br_of (fun hb => br_of (fun hq => br_of (fun hi => ⟨⟨isM_of gE, ⟨by omega, by omega, by omega⟩, rfl⟩, br_of (fun hps => ?_) (fun hps => nx ?_)⟩) (fun hi => nx ?_)) (fun hq => nx ?_)) (fun hb => nx ?_), fun _ hx => ?_⟩⟩⟩
  · refine ⟨⟨isM_of hg, ⟨by omega, by omega, by omega⟩, rfl⟩, 0, ⟨rfl, trivial⟩, ⟨rfl, rfl, rfl, ?_, rfl, rfl, rfl, rfl, trivial⟩, ?_⟩
    · rw [pqL, if_pos hw, wr_n (by omega) (by omega)]
      exact congrArg _ (by omega)
    · rw [bkF_eq, pqD, if_pos hw]
  · have hw' : ¬ (!p.wb) = true := by rw [hw]; decide
    exact ⟨0, ⟨rfl, trivial⟩, ⟨rfl, rfl, rfl, by rw [pqL, if_neg hw'], rfl, rfl, rfl, rfl, trivial⟩, by rw [pqD, if_neg hw']⟩
  · rw [eH] at hc
    have hd : (pqC p).2 = .decreasing := hN_dec.1 hc
    refine ⟨⟨isM_of gD, ⟨by omega, by omega, by omega⟩, rfl⟩, 0, ⟨rfl, trivial⟩, ⟨rfl, rfl, rfl, rfl, rfl, rfl, rfl, rfl, ?_, ?_, trivial⟩, ?_⟩
    · rw [eP, pqV, if_pos hd, wr_n (x := (p.b : Int) - 1) (by omega) (by omega), wr_n (x := ((pqC p).1 : Int) - (p.a : Int)) (by omega) (by omega), wr_n (by omega) (by omega)]
      exact congrArg _ (by omega)
    · rw [pqI, pqH, if_pos hd]; rfl
    · rw [rrF_eq, pqE, if_pos hd]
  · rw [eH] at hc
    have hd : ¬ (pqC p).2 = .decreasing := fun e => by rw [hN_dec.2 e] at hc; cases hc
    exact ⟨0, ⟨rfl, trivial⟩, ⟨rfl, rfl, rfl, rfl, rfl, rfl, rfl, rfl, by rw [eP, pqV, if_neg hd], by rw [eH, pqI, pqH, if_neg hd], trivial⟩, by rw [pqE, if_neg hd]⟩
  · have ec : (p.wb && p.wp && decide (pqH p = .increasing)) = true := by rw [hb, hq, decide_eq_true (hN_inc.1 hi)]; rfl
    have e2 : (pqP p).2 = true := by rw [pqP, if_pos ec, ← psB_eq]; exact hps
    rw [if_pos e2, hP] at hT
    rw [hT]; exact ⟨rfl, rfl⟩
  · have ec : (p.wb && p.wp && decide (pqH p = .increasing)) = true := by rw [hb, hq, decide_eq_true (hN_inc.1 hi)]; rfl
    rw [pqP, if_pos ec, ← psB_eq]; exact hps
  · have ec : ¬ (p.wb && p.wp && decide (pqH p = .increasing)) = true := by
      rw [decide_eq_false (fun e => by
        have hi : (hN (pqH p) == 1) = false := hi
        rw [hN_inc.2 e] at hi; cases hi)]; simp
    rw [pqP, if_neg ec]
  · rw [pqP, if_neg (by rw [hq]; simp)]
  · rw [pqP, if_neg (by rw [hb]; simp)]
  rw [if_neg (by rw [hx.out.2]; decide), hP] at hT
  have gEs := gE.1
  refine br_of (fun h3 => ?_) (fun h3 => ?_)
  · have h3 := of_decide_eq_true h3
    have h3 : p.a > 0 := by omega
    have wa : IntKind.wrap .i64 ((p.a : Int) - 1) = ((p.a - 1 : Nat) : Int) := (wr_n (by omega) (by omega)).trans (by omega)
    rw [wa]
    refine cmS gE (by omega) (by omega) (br_of (fun h4 => ?_) (fun h4 => ?_))
    · rw [k3, k3, cp_at (by omega) (by omega)] at h4
      obtain ⟨⟨x1, x2⟩, x3⟩ := pqX_in hg hbn h12
      rw [if_pos (by rw [decide_eq_true h3, Bool.true_and]; exact h4), dif_pos ⟨x1, x2⟩] at hT
      have eX : Go.Sort.partitionEqual ltM (pqE p) p.a p.b (pqV p) = pqX p := by rw [pqX, hP]
      rw [peN_eq, peA_eq, eX]
      exact ⟨⟨isM_of gE, ⟨by omega, by omega, by omega, by omega⟩, rfl⟩, ⟨(pqX p).1, p.b, pqL p, p.wb, p.wp, (pqX p).2⟩, ⟨⟨hT, x3⟩, ⟨x2, hbn⟩, by show pqL p ≤ 100; omega, by show p.b ≤ (pqX p).1 + N; omega⟩, ⟨by show p.b - (pqX p).1 < p.b - p.a; omega⟩, ⟨rfl, rfl, rfl, rfl, rfl, rfl, rfl, trivial⟩, rfl⟩
    · rw [k3, k3, cp_at (by omega) (by omega)] at h4
      have hcf : (decide (p.a > 0) && !ltM (pqE p)[p.a - 1]! (pqE p)[pqV p]!) = false := by rw [decide_eq_true h3, Bool.true_and]; exact h4
      obtain ⟨⟨x1, x2⟩, x3⟩ := pqR_in hg hbn h12
      rw [if_neg (by rw [hcf]; decide), dif_pos ⟨x1, x2⟩] at hT
      have eR : Go.Sort.partition ltM (pqE p) p.a p.b (pqV p) = pqR p := by rw [pqR, hP]
      have w1 : IntKind.wrap .i64 (((pqR p).1 : Int) - (p.a : Int)) = (((pqR p).1 - p.a : Nat) : Int) := (wr_n (by omega) (by omega)).trans (by omega)
      have w2 : IntKind.wrap .i64 ((p.b : Int) - ((pqR p).1 : Int)) = ((p.b - (pqR p).1 : Nat) : Int) := (wr_n (by omega) (by omega)).trans (by omega)
      have w3 : IntKind.wrap .i64 (((pqR p).1 : Int) + 1) = (((pqR p).1 + 1 : Nat) : Int) := (wr_n (by omega) (by omega)).trans (by omega)
      rw [pnN_eq, pnA_eq, pnB_eq, eR, w1, w2, w3, w8, qF_eq, qF_eq]
      refine ⟨⟨isM_of gE, ⟨by omega, by omega, by omega, by omega⟩, rfl⟩, ⟨by decide⟩, br_of (fun h5 => ?_) (fun h5 => ?_)⟩
      · have h5 := of_decide_eq_true h5
        have h5 : (pqR p).1 - p.a < p.b - (pqR p).1 := by omega
        rw [if_pos h5] at hT
        have gQ := pq_gd _ ⟨p.a, (pqR p).1, pqL p, true, true, (pqR p).2.2⟩ (Nat.lt_succ_self _) x3 (by show (pqR p).1 ≤ n; omega)
        refine ⟨⟨isM_of x3, ⟨by omega, by omega, by omega, by omega⟩, ⟨by omega, by omega⟩, rfl⟩, ⟨(pqR p).1 + 1, p.b, pqL p, decide ((pqR p).1 - p.a ≥ (p.b - p.a) / 8), (pqR p).2.1, Go.Sort.pdq ltM (pqR p).2.2 p.a (pqR p).1 (pqL p) true true⟩,
          ⟨⟨hT, gQ⟩, ⟨by show (pqR p).1 + 1 ≤ p.b; omega, hbn⟩, by show pqL p ≤ 100; omega, by show p.b ≤ (pqR p).1 + 1 + N; omega⟩, ⟨by show p.b - ((pqR p).1 + 1) < p.b - p.a; omega⟩, ⟨rfl, rfl, rfl, rfl, rfl, ?_, rfl, trivial⟩, rfl⟩
        exact congrArg Value.bool (decide_eq_decide.2 (by omega))
      · have h5 := of_decide_eq_false h5
        have h5 : ¬ (pqR p).1 - p.a < p.b - (pqR p).1 := by omega
        rw [if_neg h5] at hT
        have gQ := pq_gd _ ⟨(pqR p).1 + 1, p.b, pqL p, true, true, (pqR p).2.2⟩ (Nat.lt_succ_self _) x3 hbn
        refine ⟨⟨isM_of x3, ⟨by omega, by omega, by omega, by omega⟩, ⟨by omega, by omega⟩, rfl⟩, ⟨p.a, (pqR p).1, pqL p, decide (p.b - (pqR p).1 ≥ (p.b - p.a) / 8), (pqR p).2.1, Go.Sort.pdq ltM (pqR p).2.2 ((pqR p).1 + 1) p.b (pqL p) true true⟩,
          ⟨⟨hT, gQ⟩, ⟨x1, by show (pqR p).1 ≤ n; omega⟩, by show pqL p ≤ 100; omega, by show (pqR p).1 ≤ p.a + N; omega⟩, ⟨by show (pqR p).1 - p.a < p.b - p.a; omega⟩, ⟨rfl, rfl, rfl, rfl, rfl, ?_, rfl, trivial⟩, rfl⟩
        exact congrArg Value.bool (decide_eq_decide.2 (by omega))
  · have h3 := of_decide_eq_false h3
    have hcf : (decide (p.a > 0) && !ltM (pqE p)[p.a - 1]! (pqE p)[pqV p]!) = false := by rw [decide_eq_false (by omega), Bool.false_and]
    obtain ⟨⟨x1, x2⟩, x3⟩ := pqR_in hg hbn h12
    rw [if_neg (by rw [hcf]; decide), dif_pos ⟨x1, x2⟩] at hT
    have eR : Go.Sort.partition ltM (pqE p) p.a p.b (pqV p) = pqR p := by rw [pqR, hP]
    have w1 : IntKind.wrap .i64 (((pqR p).1 : Int) - (p.a : Int)) = (((pqR p).1 - p.a : Nat) : Int) := (wr_n (by omega) (by omega)).trans (by omega)
    have w2 : IntKind.wrap .i64 ((p.b : Int) - ((pqR p).1 : Int)) = ((p.b - (pqR p).1 : Nat) : Int) := (wr_n (by omega) (by omega)).trans (by omega)
    have w3 : IntKind.wrap .i64 (((pqR p).1 : Int) + 1) = (((pqR p).1 + 1 : Nat) : Int) := (wr_n (by omega) (by omega)).trans (by omega)
    rw [pnN_eq, pnA_eq, pnB_eq, eR, w1, w2, w3, w8, qF_eq, qF_eq]
    refine ⟨⟨isM_of gE, ⟨by omega, by omega, by omega, by omega⟩, rfl⟩, ⟨by decide⟩, br_of (fun h5 => ?_) (fun h5 => ?_)⟩
    · have h5 := of_decide_eq_true h5
      have h5 : (pqR p).1 - p.a < p.b - (pqR p).1 := by omega
      rw [if_pos h5] at hT
      have gQ := pq_gd _ ⟨p.a, (pqR p).1, pqL p, true, true, (pqR p).2.2⟩ (Nat.lt_succ_self _) x3 (by show (pqR p).1 ≤ n; omega)
      refine ⟨⟨isM_of x3, ⟨by omega, by omega, by omega, by omega⟩, ⟨by omega, by omega⟩, rfl⟩, ⟨(pqR p).1 + 1, p.b, pqL p, decide ((pqR p).1 - p.a ≥ (p.b - p.a) / 8), (pqR p).2.1, Go.Sort.pdq ltM (pqR p).2.2 p.a (pqR p).1 (pqL p) true true⟩,
        ⟨⟨hT, gQ⟩, ⟨by show (pqR p).1 + 1 ≤ p.b; omega, hbn⟩, by show pqL p ≤ 100; omega, by show p.b ≤ (pqR p).1 + 1 + N; omega⟩, ⟨by show p.b - ((pqR p).1 + 1) < p.b - p.a; omega⟩, ⟨rfl, rfl, rfl, rfl, rfl, ?_, rfl, trivial⟩, rfl⟩
      exact congrArg Value.bool (decide_eq_decide.2 (by omega))
    · have h5 := of_decide_eq_false h5
      have h5 : ¬ (pqR p).1 - p.a < p.b - (pqR p).1 := by omega
      rw [if_neg h5] at hT
      have gQ := pq_gd _ ⟨(pqR p).1 + 1, p.b, pqL p, true, true, (pqR p).2.2⟩ (Nat.lt_succ_self _) x3 hbn
      refine ⟨⟨isM_of x3, ⟨by omega, by omega, by omega, by omega⟩, ⟨by omega, by omega⟩, rfl⟩, ⟨p.a, (pqR p).1, pqL p, decide (p.b - (pqR p).1 ≥ (p.b - p.a) / 8), (pqR p).2.1, Go.Sort.pdq ltM (pqR p).2.2 ((pqR p).1 + 1) p.b (pqL p) true true⟩,
        ⟨⟨hT, gQ⟩, ⟨x1, by show (pqR p).1 ≤ n; omega⟩, by show pqL p ≤ 100; omega, by show (pqR p).1 ≤ p.a + N; omega⟩, ⟨by show (pqR p).1 - p.a < p.b - p.a; omega⟩, ⟨rfl, rfl, rfl, rfl, rfl, ?_, rfl, trivial⟩, rfl⟩
      exact congrArg Value.bool (decide_eq_decide.2 (by omega))
theorem okPq : ∀ N, OkV Try.prog 54 (orcPq N)
  | 0 => by
    intro args H ret H' vc h hv
    unfold orcPq at h
    split at h
    · cases h
      obtain ⟨_, ⟨_, _, _, _⟩, _⟩ := hv
      omega
    · cases h
  | N + 1 => by
    have ih := okPq N
    intro args H ret H' vc h hv
    unfold orcPq at h
    split at h
    · rename_i n c a b l f cells
      cases h
      obtain ⟨⟨d, rfl, hg⟩, ⟨a0, ab, bn, bN⟩, ⟨l0, l1⟩, rfl⟩ := hv
      obtain ⟨a, rfl⟩ : ∃ k : Nat, a = (k : Int) := ⟨a.toNat, by omega⟩
      obtain ⟨b, rfl⟩ : ∃ k : Nat, b = (k : Int) := ⟨b.toNat, by omega⟩
      obtain ⟨l, rfl⟩ : ∃ k : Nat, l = (k : Int) := ⟨l.toNat, by omega⟩
      have := pq_ok ih (d := d) (n := n) (c := c) (a := a) (b := b) (l := l) hg (by omega) (by omega) (by omega) (by omega)
      rw [qF_eq]
      exact this
    · cases h
end
end Qq
end
section
/- Sorted moves: the first one is the best. -/
open Go Go.Vm Go.Proofs Sp
namespace Qq
noncomputable section
theorem cmI_lt {a b : Int} : cmI a b < 0 ↔ a < b := by
  rw [cmI]
  split
  · rename_i h; exact ⟨fun _ => h, fun _ => by decide⟩
  · split
    · rename_i h1 h2; exact ⟨fun h => by omega, fun h => by omega⟩
    · rename_i h1 h2; exact ⟨fun h => by omega, fun h => by omega⟩
theorem cmI_z {a b : Int} : cmI a b = 0 ↔ a = b := by
  rw [cmI]
  split
  · rename_i h; exact ⟨fun h => by omega, fun h => by omega⟩
  · split
    · rename_i h1 h2; exact ⟨fun h => by omega, fun h => by omega⟩
    · rename_i h1 h2; exact ⟨fun _ => by omega, fun _ => rfl⟩
theorem or3_lt {a b c : Int} : or3 a b c < 0 ↔ (a ≠ 0 ∧ a < 0) ∨ (a = 0 ∧ ((b ≠ 0 ∧ b < 0) ∨ (b = 0 ∧ c < 0))) := by
  rw [or3]
  split
  · rename_i h
    split
    · rename_i h2; exact ⟨fun h3 => .inr ⟨h, .inr ⟨h2, h3⟩⟩, fun h3 => by rcases h3 with ⟨h4, _⟩ | ⟨_, ⟨h4, _⟩ | ⟨_, h4⟩⟩; exact absurd h h4; exact absurd h2 h4; exact h4⟩
    · rename_i h2; exact ⟨fun h3 => .inr ⟨h, .inl ⟨h2, h3⟩⟩, fun h3 => by rcases h3 with ⟨h4, _⟩ | ⟨_, ⟨_, h4⟩ | ⟨h4, _⟩⟩; exact absurd h h4; exact h4; exact absurd h4 h2⟩
  · rename_i h; exact ⟨fun h3 => .inl ⟨h, h3⟩, fun h3 => by rcases h3 with ⟨_, h4⟩ | ⟨h4, _⟩; exact h4; exact absurd h4 h⟩
noncomputable def farM (m : Mv) : Int := farI m.1 m.2.1
theorem lt_iff {a b : Mv} : ltM a b = true ↔ a.2.2 < b.2.2 ∨ (a.2.2 = b.2.2 ∧ (farM a < farM b ∨ (farM a = farM b ∧ (a.1 < b.1 ∨ (a.1 = b.1 ∧ a.2.1 < b.2.1))))) := by
  rw [ltM, decide_eq_true_eq, cpM, cpI, or3_lt, or3_lt, farM, farM]
  simp only [ne_eq, cmI_lt, cmI_z]
  generalize farI a.1 a.2.1 = f
  generalize farI b.1 b.2.1 = g
  constructor
  · rintro (⟨_, h⟩ | ⟨h1, ⟨_, h⟩ | ⟨h2, ⟨_, h⟩ | ⟨h3, ⟨_, h⟩ | ⟨_, h⟩⟩⟩⟩)
    · exact .inl h
    · exact .inr ⟨h1, .inl h⟩
    · exact .inr ⟨h1, .inr ⟨h2, .inl h⟩⟩
    · exact .inr ⟨h1, .inr ⟨h2, .inr ⟨h3, h⟩⟩⟩
    · omega
  · rintro (h | ⟨h1, h | ⟨h2, h | ⟨h3, h⟩⟩⟩)
    · exact .inl ⟨by omega, h⟩
    · exact .inr ⟨h1, .inl ⟨by omega, h⟩⟩
    · exact .inr ⟨h1, .inr ⟨h2, .inl ⟨by omega, h⟩⟩⟩
    · exact .inr ⟨h1, .inr ⟨h2, .inr ⟨h3, .inl ⟨by omega, h⟩⟩⟩⟩
theorem swo : Go.Sort.SWO ltM where
  irrefl x := by
    cases h : ltM x x with
    | false => rfl
    | true => have := lt_iff.1 h; omega
  trans x y z h1 h2 := by
    have h1 := lt_iff.1 h1
    have h2 := lt_iff.1 h2
    rw [lt_iff]
    omega
  ntrans x y z h1 h2 := by
    have h1 : ¬ _ := fun h => by rw [lt_iff.2 h] at h1; cases h1
    have h2 : ¬ _ := fun h => by rw [lt_iff.2 h] at h2; cases h2
    cases h : ltM x z with
    | false => rfl
    | true => have h := lt_iff.1 h; omega
noncomputable def soA (d : Array Mv) (n : Nat) : Array Mv := Go.Sort.pdq ltM d 0 n (Go.Sort.bitsLen n) true true
noncomputable def soF (cells : List Value) (n : Nat) : List Value := pA (soA (dA cells) n)
theorem so_gd {d : Array Mv} {n : Nat} (hg : gdM d n) : gdM (soA d n) n := pq_gd _ ⟨0, n, Go.Sort.bitsLen n, true, true, d⟩ (Nat.lt_succ_self _) hg (Nat.le_refl _)
/-- The first one of the sorted ones is one of them, and none is better. -/
theorem so_min {d : Array Mv} {n : Nat} (hg : gdM d n) (h0 : 0 < n) : (soA d n)[0]! ∈ d.toList ∧ ∀ m ∈ d.toList, ltM m (soA d n)[0]! = false := by
  obtain ⟨⟨p1, _, p3⟩, s1⟩ := Go.Sort.pdq_sorts ltM swo d 0 n (Go.Sort.bitsLen n) true true (Nat.zero_le _) (by rw [hg.1]; exact Nat.le_refl _) (.inl rfl)
  have hs := (so_gd hg).1
  have e1 : (Go.Sort.pdq ltM d 0 n (Go.Sort.bitsLen n) true true).extract 0 n = soA d n := by
    have : (soA d n).extract 0 (soA d n).size = soA d n := by simp
    rw [hs] at this; exact this
  have e2 : d.extract 0 n = d := by
    have : d.extract 0 d.size = d := by simp
    rw [hg.1] at this; exact this
  rw [e1, e2] at p3
  have m0 : (soA d n)[0]! ∈ (soA d n).toList := by rw [get!_eq (by omega)]; exact List.getElem_mem _
  refine ⟨p3.mem_iff.1 m0, fun m hm => ?_⟩
  obtain ⟨i, hi, e⟩ := List.getElem_of_mem (p3.mem_iff.2 hm)
  have hi : i < (soA d n).size := hi
  have e : (soA d n)[i]! = m := by rw [get!_eq hi]; exact e
  cases i with
  | zero => rw [← e]; exact swo.irrefl _
  | succ i => rw [← e]; exact s1 0 (i + 1) (Nat.le_refl _) (Nat.succ_pos _) (by omega)
noncomputable def hsSf : Hs Try.prog where
  au := auCalls [(55, hCa Try.prog 55 orcBl okBl), (54, hCa Try.prog 54 (orcPq 50) (okPq 50))]
  nl _ := [.stay]
  rn := [.stay]
theorem sf_t (d : Array Mv) (n : Nat) (c : Nat) (K : Value → Heap → Prop) :
    (fnP Try.prog c0 hsSf (31 : FuncId) [Value.slice (some { block := (0 : Nat), off := (0 : Nat) }) n c, fF] [mR d] K) =
    (Is ((0 : Int) ≤ IntKind.wrap IntKind.u64 (↑n : Int) ∧ IntKind.wrap IntKind.u64 (↑n : Int) < (64 : Int)) ∧ Is (isM (pA d) n ∧ ((0 : Int) ≤ (0 : Int) ∧ (0 : Int) ≤ (↑n : Int) ∧ (↑n : Int) ≤ (↑n : Int) ∧ (↑n : Int) < (50 : Int)) ∧ ((0 : Int) ≤ blN (IntKind.wrap IntKind.u64 (↑n : Int)) ∧ blN (IntKind.wrap IntKind.u64 (↑n : Int)) ≤ (100 : Int)) ∧ Value.func (Fn.func (32 : Nat)) #[] #[] = Value.func (Fn.func (32 : Nat)) #[] #[]) ∧ K undef (some (AObj.row (qF (pA d) (0 : Int) (↑n : Int) (blN (IntKind.wrap IntKind.u64 (↑n : Int)))) (3 : Nat) true true true) :: noH)) := by kernel_rfl
noncomputable def orcSf : OrcV
  | [.slice (some ⟨0, 0, none⟩) n _, f], [some (.row cells 3 true true true)] => some (undef, [some (.row (soF cells n) 3 true true true)], isM cells n ∧ f = fF)
  | _, _ => none
theorem bl_le {n : Nat} (h : n < 64) : Go.Sort.bitsLen n ≤ 6 := by
  rw [Go.Sort.bitsLen]
  split
  · omega
  · have : Nat.log2 n < 6 := (Nat.log2_lt (by omega)).2 (by omega)
    omega
theorem okSf : OkV Try.prog 31 orcSf := by
  intro args H ret H' vc h hv
  unfold orcSf at h
  split at h
  · rename_i n c f cells
    cases h
    obtain ⟨⟨d, rfl, hg⟩, rfl⟩ := hv
    have h49 := hg.2.1
    refine fnP_res hm c0_ok (hs := hsSf) ?_
    show fnP Try.prog c0 hsSf 31 [_, fF] [mR d] _
    have eb : blN (n : Int) = ((Go.Sort.bitsLen n : Nat) : Int) := by rw [blN, Int.toNat_natCast]
    have hb := bl_le (n := n) (by omega)
    rw [sf_t, wrap_u (by omega) (by omega), eb, show (0 : Int) = ((0 : Nat) : Int) from rfl, qF_eq, soF, dA_pA]
    exact ⟨⟨by omega, by omega⟩, ⟨isM_of hg, ⟨by omega, by omega, by omega, by omega⟩, ⟨by omega, by omega⟩, rfl⟩, rfl, rfl⟩
  · cases h
end
end Qq
end
section
/- The fit. -/
open Go Go.Vm Go.Proofs Sp
namespace Sp
open Qq
noncomputable section
noncomputable def mvX (i : Nat) : Int := ((i / 7 : Nat) : Int) - 3
noncomputable def mvY (i : Nat) : Int := ((i % 7 : Nat) : Int) - 3
/-- The moves that are permitted, of the first so many, with their costs. -/
noncomputable def fitL (zs : List Int) (n : Nat) (ys : List Int) (k : Nat) (cs : List Int) (l : Nat) : Nat → List Mv
  | 0 => []
  | i + 1 => fitL zs n ys k cs l i ++ (if ctB ys k cs l (mvX i) (mvY i) = true then [(mvX i, mvY i, ctN zs n ys k cs l (mvX i) (mvY i))] else [])
noncomputable def cM (L : List Mv) : List Value := L.flatMap mC
noncomputable def soG (cells : List Value) (n : Nat) : List Value := soF cells n
/-- The fit: the move, and its cost. -/
noncomputable def fitM (zs : List Int) (n : Nat) (ys : List Int) (k : Nat) (cs : List Int) (l : Nat) : Mv := (soA (fitL zs n ys k cs l 49).toArray (fitL zs n ys k cs l 49).length)[0]!
noncomputable def gBy (cells : List Value) (off : Nat) : Value := .agg #[.int .i64 (iAt cells off), .int .i64 (iAt cells (off + 1))]
end
end Sp
namespace Qq
noncomputable section
noncomputable def orcMo : OrcV
  | [.slice (some ⟨0, 0, none⟩) n _, .agg ⟨[.int .i64 x, .int .i64 y]⟩], [some (.row e 2 true true true)] =>
    some (.tuple #[.slice (some ⟨1, 0, none⟩) n 0, .int .i64 0], [some (.row e 2 true true true), some (.row (ints (mvS x y n (deI e))) 2 true true true)], okZ e n ∧ (cmE x y = 0 ∧ mvIn x y) ∧ pfE (mvS x y n (deI e)) n = 0)
  | _, _ => none
theorem okMo : OkV Try.prog 14 orcMo := by
  intro args H ret H' vc h hv
  unfold orcMo at h
  split at h
  · rename_i n c x y e
    cases h
    obtain ⟨h1, ⟨h2, h3⟩, h4⟩ := hv
    refine fnP_res hm c1_ok (hs := hsMo) ?_
    show fnP Try.prog c1 hsMo 14 [_, .agg #[.int .i64 x, .int .i64 y]] [r2c _] _
    have hl : (mvS x y n (deI e)).length = n * 2 := by rw [mvS_len, h1.2.len]
    rw [mo_t, okZ_pf h1, h2]
    simp only [deI_ints]
    rw [h4]
    exact ⟨⟨okZ_isZ h1⟩, ⟨trivial⟩, ⟨h1, h3⟩, ⟨isZ_of hl (by have := h1.2.hi; omega)⟩, by first | trivial | rfl, by first | trivial | rfl⟩
  · cases h
noncomputable def orcSg : OrcV
  | [.slice (some ⟨0, 0, none⟩) n _, f], [some (.row cells 3 true true true)] => some (undef, [some (.row (soG cells n) 3 true true true)], isM cells n ∧ f = fF)
  | _, _ => none
theorem okSg : OkV Try.prog 31 orcSg := by
  intro args H ret H' vc h hv
  unfold orcSg at h
  split at h
  · rename_i n c f cells
    cases h
    exact okSf [.slice (some ⟨0, 0, none⟩) n c, f] [some (.row cells 3 true true true)] _ _ _ rfl hv
  · cases h
noncomputable def rM (L : List Mv) : Option AObj := some (.row (cM L) 3 true true true)
section
variable (zs ys cs : List Int) (n c k d l a : Nat)
noncomputable def hpF (t : List (Option AObj)) : Heap := [rZ zs true true, rZ ys true true, rC cs] ++ t
noncomputable def sF (i : Nat) : List (Nat × Value) := [(0, .slice (some ⟨0, 0, none⟩) n c), (1, .slice (some ⟨1, 0, none⟩) k d), (2, .slice (some ⟨2, 0, none⟩) l a), (3, .int .i64 3), (8, .pointer (some ⟨3, 0, none⟩)), (12, .slice (some ⟨4, 0, none⟩) (fitL zs n ys k cs l i).length 0)]
noncomputable def lpFx : Lp where
  σ := Nat
  E i := slots 78 (sF zs ys cs n c k d l a (i * 7) ++ [(13, .int .i64 ((i : Int) - 3))])
  Hp i := hpF zs ys cs [bx2 0 0, rM (fitL zs n ys k cs l (i * 7))]
  I i := i ≤ 7
  m i := 7 - i
noncomputable def lpFy (i : Nat) : Lp where
  σ := Nat
  E j := slots 78 (sF zs ys cs n c k d l a (i * 7 + j) ++ [(13, .int .i64 ((i : Int) - 3)), (14, .int .i64 ((j : Int) - 3))])
  Hp j := hpF zs ys cs [bx2 0 0, rM (fitL zs n ys k cs l (i * 7 + j))]
  I j := j ≤ 7 ∧ i < 7
  m j := 7 - j
noncomputable def hsFit : Hs Try.prog where
  op q := if q = 1308 then some (hAp Try.prog) else if [1701, 1706].contains q then some (hIa Try.prog) else if q = 1704 then some (hLc Try.prog gBy) else if q = 1708 then some (hLc Try.prog gI) else none
  lp q := if q = 6 then some (lpFx zs ys cs n c k d l a) else none
  lq q := if q = 9 then some ⟨Nat, lpFy zs ys cs n c k d l a⟩ else none
  cl q := if q = 6 then keep 78 [0, 1, 2, 3, 8, 12, 13] else keep 78 [0, 1, 2, 3, 8, 12, 13, 14]
  nl q := if q = 6 then [.only (.slot 12 3)] else []
  sm := true
  au := auCalls [(28, hCa Try.prog 28 orcCk okCk), (30, hCa Try.prog 30 orcCt okCt), (31, hCa Try.prog 31 orcSg okSg)]
end
theorem fit_t (zs : List Int) (ys : List Int) (cs : List Int) (n : Nat) (c : Nat) (k : Nat) (d : Nat) (l : Nat) (a : Nat) (K : Value → Heap → Prop) :
    (fnP Try.prog c2 (hsFit zs ys cs n c k d l a) (13 : FuncId) [Value.slice (some { block := (0 : Nat), off := (0 : Nat) }) n c, Value.slice (some { block := (1 : Nat), off := (0 : Nat) }) k d, Value.slice (some { block := (2 : Nat), off := (0 : Nat) }) l a, Value.int IntKind.i64 (3 : Int)] (hpF zs ys cs []) K) =
    (Is (ftO (ints zs) n (ints ys) k (ints cs) l) ∧ (∃ (s : Nat), Is (s ≤ (7 : Nat)) ∧ (Value.slice (some { block := (0 : Nat), off := (0 : Nat) }) n c = Value.slice (some { block := (0 : Nat), off := (0 : Nat) }) n c ∧ Value.slice (some { block := (1 : Nat), off := (0 : Nat) }) k d = Value.slice (some { block := (1 : Nat), off := (0 : Nat) }) k d ∧ Value.slice (some { block := (2 : Nat), off := (0 : Nat) }) l a = Value.slice (some { block := (2 : Nat), off := (0 : Nat) }) l a ∧ Value.int IntKind.i64 (3 : Int) = Value.int IntKind.i64 (3 : Int) ∧ Value.pointer (some { block := (3 : Nat), off := (0 : Nat) }) = Value.pointer (some { block := (3 : Nat), off := (0 : Nat) }) ∧ Value.slice (some { block := (4 : Nat), off := (0 : Nat) }) (0 : Nat) (0 : Nat) = Value.slice (some { block := (4 : Nat), off := (0 : Nat) }) (List.length (fitL zs n ys k cs l (s * (7 : Nat)))) (0 : Nat) ∧ Value.int IntKind.i64 (-3 : Int) = Value.int IntKind.i64 ((↑s : Int) - (3 : Int)) ∧ True) ∧ some (AObj.row (ints zs) (2 : Nat) true true true) :: some (AObj.row (ints ys) (2 : Nat) true true true) :: some (AObj.row (ints cs) (1 : Nat) true true true) :: some (AObj.row [Value.int IntKind.i64 (0 : Int), Value.int IntKind.i64 (0 : Int)] (0 : Nat) false true true) :: some (AObj.row [] (3 : Nat) true true true) :: noH = some (AObj.row (ints zs) (2 : Nat) true true true) :: some (AObj.row (ints ys) (2 : Nat) true true true) :: some (AObj.row (ints cs) (1 : Nat) true true true) :: some (AObj.row [Value.int IntKind.i64 (0 : Int), Value.int IntKind.i64 (0 : Int)] (0 : Nat) false true true) :: some (AObj.row (cM (fitL zs n ys k cs l (s * (7 : Nat)))) (3 : Nat) true true true) :: noH) ∧ ∀ (s : Nat), Is (s ≤ (7 : Nat)) → br (decide ((↑s : Int) - (3 : Int) ≤ (3 : Int))) (∃ (p : Nat), (∃ (s_1 : Nat), Is (s_1 ≤ (7 : Nat) ∧ p < (7 : Nat)) ∧ (Value.slice (some { block := (0 : Nat), off := (0 : Nat) }) n c = Value.slice (some { block := (0 : Nat), off := (0 : Nat) }) n c ∧ Value.slice (some { block := (1 : Nat), off := (0 : Nat) }) k d = Value.slice (some { block := (1 : Nat), off := (0 : Nat) }) k d ∧ Value.slice (some { block := (2 : Nat), off := (0 : Nat) }) l a = Value.slice (some { block := (2 : Nat), off := (0 : Nat) }) l a ∧ Value.int IntKind.i64 (3 : Int) = Value.int IntKind.i64 (3 : Int) ∧ Value.pointer (some { block := (3 : Nat), off := (0 : Nat) }) = Value.pointer (some { block := (3 : Nat), off := (0 : Nat) }) ∧ Value.slice (some { block := (4 : Nat), off := (0 : Nat) }) (List.length (fitL zs n ys k cs l (s * (7 : Nat)))) (0 : Nat) = Value.slice (some { block := (4 : Nat), off := (0 : Nat) }) (List.length (fitL zs n ys k cs l (p * (7 : Nat) + s_1))) (0 : Nat) ∧ Value.int IntKind.i64 ((↑s : Int) - (3 : Int)) = Value.int IntKind.i64 ((↑p : Int) - (3 : Int)) ∧ Value.int IntKind.i64 (-3 : Int) = Value.int IntKind.i64 ((↑s_1 : Int) - (3 : Int)) ∧ True) ∧ some (AObj.row (ints zs) (2 : Nat) true true true) :: some (AObj.row (ints ys) (2 : Nat) true true true) :: some (AObj.row (ints cs) (1 : Nat) true true true) :: some (AObj.row [Value.int IntKind.i64 (0 : Int), Value.int IntKind.i64 (0 : Int)] (0 : Nat) false true true) :: some (AObj.row (cM (fitL zs n ys k cs l (s * (7 : Nat)))) (3 : Nat) true true true) :: noH = some (AObj.row (ints zs) (2 : Nat) true true true) :: some (AObj.row (ints ys) (2 : Nat) true true true) :: some (AObj.row (ints cs) (1 : Nat) true true true) :: some (AObj.row [Value.int IntKind.i64 (0 : Int), Value.int IntKind.i64 (0 : Int)] (0 : Nat) false true true) :: some (AObj.row (cM (fitL zs n ys k cs l (p * (7 : Nat) + s_1))) (3 : Nat) true true true) :: noH) ∧ ∀ (s_1 : Nat), Is (s_1 ≤ (7 : Nat) ∧ p < (7 : Nat)) → br (decide ((↑s_1 : Int) - (3 : Int) ≤ (3 : Int))) (Is ((okZ (ints zs) n ∧ okZ (ints ys) k) ∧ isC (ints cs) l ∧ mvIn ((↑p : Int) - (3 : Int)) ((↑s_1 : Int) - (3 : Int))) ∧ br (ctB (deI (ints ys)) k (deI (ints cs)) l ((↑p : Int) - (3 : Int)) ((↑s_1 : Int) - (3 : Int))) (Is (List.length (cM (fitL zs n ys k cs l (p * (7 : Nat) + s_1))) = List.length (fitL zs n ys k cs l (p * (7 : Nat) + s_1)) * (3 : Nat) ∧ (List.length (fitL zs n ys k cs l (p * (7 : Nat) + s_1)) + (1 : Nat)) * (24 : Nat) ≤ (140737488355328 : Nat) ∧ List.length (fitL zs n ys k cs l (p * (7 : Nat) + s_1)) + (1 : Nat) ≤ (9223372036854775807 : Nat)) ∧ ∃ (s' : Nat), Is (s' ≤ (7 : Nat) ∧ p < (7 : Nat)) ∧ Is ((7 : Nat) - s' < (7 : Nat) - s_1) ∧ (Value.slice (some { block := (0 : Nat), off := (0 : Nat) }) n c = Value.slice (some { block := (0 : Nat), off := (0 : Nat) }) n c ∧ Value.slice (some { block := (1 : Nat), off := (0 : Nat) }) k d = Value.slice (some { block := (1 : Nat), off := (0 : Nat) }) k d ∧ Value.slice (some { block := (2 : Nat), off := (0 : Nat) }) l a = Value.slice (some { block := (2 : Nat), off := (0 : Nat) }) l a ∧ Value.int IntKind.i64 (3 : Int) = Value.int IntKind.i64 (3 : Int) ∧ Value.pointer (some { block := (3 : Nat), off := (0 : Nat) }) = Value.pointer (some { block := (3 : Nat), off := (0 : Nat) }) ∧ Value.slice (some { block := (4 : Nat), off := (0 : Nat) }) (List.length (fitL zs n ys k cs l (p * (7 : Nat) + s_1)) + (1 : Nat)) (0 : Nat) = Value.slice (some { block := (4 : Nat), off := (0 : Nat) }) (List.length (fitL zs n ys k cs l (p * (7 : Nat) + s'))) (0 : Nat) ∧ Value.int IntKind.i64 ((↑p : Int) - (3 : Int)) = Value.int IntKind.i64 ((↑p : Int) - (3 : Int)) ∧ Value.int IntKind.i64 (IntKind.wrap IntKind.i64 ((↑s_1 : Int) - (3 : Int) + (1 : Int))) = Value.int IntKind.i64 ((↑s' : Int) - (3 : Int)) ∧ True) ∧ some (AObj.row (ints zs) (2 : Nat) true true true) :: some (AObj.row (ints ys) (2 : Nat) true true true) :: some (AObj.row (ints cs) (1 : Nat) true true true) :: some (AObj.row [Value.int IntKind.i64 (0 : Int), Value.int IntKind.i64 (0 : Int)] (0 : Nat) false true true) :: some (AObj.row (cM (fitL zs n ys k cs l (p * (7 : Nat) + s_1)) ++ [Value.int IntKind.i64 ((↑p : Int) - (3 : Int)), Value.int IntKind.i64 ((↑s_1 : Int) - (3 : Int)), Value.int IntKind.i64 (ctN (deI (ints zs)) n (deI (ints ys)) k (deI (ints cs)) l ((↑p : Int) - (3 : Int)) ((↑s_1 : Int) - (3 : Int)))]) (3 : Nat) true true (List.all [Value.int IntKind.i64 ((↑p : Int) - (3 : Int)), Value.int IntKind.i64 ((↑s_1 : Int) - (3 : Int)), Value.int IntKind.i64 (ctN (deI (ints zs)) n (deI (ints ys)) k (deI (ints cs)) l ((↑p : Int) - (3 : Int)) ((↑s_1 : Int) - (3 : Int)))] atom)) :: noH = some (AObj.row (ints zs) (2 : Nat) true true true) :: some (AObj.row (ints ys) (2 : Nat) true true true) :: some (AObj.row (ints cs) (1 : Nat) true true true) :: some (AObj.row [Value.int IntKind.i64 (0 : Int), Value.int IntKind.i64 (0 : Int)] (0 : Nat) false true true) :: some (AObj.row (cM (fitL zs n ys k cs l (p * (7 : Nat) + s'))) (3 : Nat) true true true) :: noH) (∃ (s' : Nat), Is (s' ≤ (7 : Nat) ∧ p < (7 : Nat)) ∧ Is ((7 : Nat) - s' < (7 : Nat) - s_1) ∧ (Value.slice (some { block := (0 : Nat), off := (0 : Nat) }) n c = Value.slice (some { block := (0 : Nat), off := (0 : Nat) }) n c ∧ Value.slice (some { block := (1 : Nat), off := (0 : Nat) }) k d = Value.slice (some { block := (1 : Nat), off := (0 : Nat) }) k d ∧ Value.slice (some { block := (2 : Nat), off := (0 : Nat) }) l a = Value.slice (some { block := (2 : Nat), off := (0 : Nat) }) l a ∧ Value.int IntKind.i64 (3 : Int) = Value.int IntKind.i64 (3 : Int) ∧ Value.pointer (some { block := (3 : Nat), off := (0 : Nat) }) = Value.pointer (some { block := (3 : Nat), off := (0 : Nat) }) ∧ Value.slice (some { block := (4 : Nat), off := (0 : Nat) }) (List.length (fitL zs n ys k cs l (p * (7 : Nat) + s_1))) (0 : Nat) = Value.slice (some { block := (4 : Nat), off := (0 : Nat) }) (List.length (fitL zs n ys k cs l (p * (7 : Nat) + s'))) (0 : Nat) ∧ Value.int IntKind.i64 ((↑p : Int) - (3 : Int)) = Value.int IntKind.i64 ((↑p : Int) - (3 : Int)) ∧ Value.int IntKind.i64 (IntKind.wrap IntKind.i64 ((↑s_1 : Int) - (3 : Int) + (1 : Int))) = Value.int IntKind.i64 ((↑s' : Int) - (3 : Int)) ∧ True) ∧ some (AObj.row (ints zs) (2 : Nat) true true true) :: some (AObj.row (ints ys) (2 : Nat) true true true) :: some (AObj.row (ints cs) (1 : Nat) true true true) :: some (AObj.row [Value.int IntKind.i64 (0 : Int), Value.int IntKind.i64 (0 : Int)] (0 : Nat) false true true) :: some (AObj.row (cM (fitL zs n ys k cs l (p * (7 : Nat) + s_1))) (3 : Nat) true true true) :: noH = some (AObj.row (ints zs) (2 : Nat) true true true) :: some (AObj.row (ints ys) (2 : Nat) true true true) :: some (AObj.row (ints cs) (1 : Nat) true true true) :: some (AObj.row [Value.int IntKind.i64 (0 : Int), Value.int IntKind.i64 (0 : Int)] (0 : Nat) false true true) :: some (AObj.row (cM (fitL zs n ys k cs l (p * (7 : Nat) + s'))) (3 : Nat) true true true) :: noH)) (∃ (s' : Nat), Is (s' ≤ (7 : Nat)) ∧ Is ((7 : Nat) - s' < (7 : Nat) - s) ∧ (Value.slice (some { block := (0 : Nat), off := (0 : Nat) }) n c = Value.slice (some { block := (0 : Nat), off := (0 : Nat) }) n c ∧ Value.slice (some { block := (1 : Nat), off := (0 : Nat) }) k d = Value.slice (some { block := (1 : Nat), off := (0 : Nat) }) k d ∧ Value.slice (some { block := (2 : Nat), off := (0 : Nat) }) l a = Value.slice (some { block := (2 : Nat), off := (0 : Nat) }) l a ∧ Value.int IntKind.i64 (3 : Int) = Value.int IntKind.i64 (3 : Int) ∧ Value.pointer (some { block := (3 : Nat), off := (0 : Nat) }) = Value.pointer (some { block := (3 : Nat), off := (0 : Nat) }) ∧ Value.slice (some { block := (4 : Nat), off := (0 : Nat) }) (List.length (fitL zs n ys k cs l (p * (7 : Nat) + s_1))) (0 : Nat) = Value.slice (some { block := (4 : Nat), off := (0 : Nat) }) (List.length (fitL zs n ys k cs l (s' * (7 : Nat)))) (0 : Nat) ∧ Value.int IntKind.i64 (IntKind.wrap IntKind.i64 ((↑p : Int) - (3 : Int) + (1 : Int))) = Value.int IntKind.i64 ((↑s' : Int) - (3 : Int)) ∧ True) ∧ some (AObj.row (ints zs) (2 : Nat) true true true) :: some (AObj.row (ints ys) (2 : Nat) true true true) :: some (AObj.row (ints cs) (1 : Nat) true true true) :: some (AObj.row [Value.int IntKind.i64 (0 : Int), Value.int IntKind.i64 (0 : Int)] (0 : Nat) false true true) :: some (AObj.row (cM (fitL zs n ys k cs l (p * (7 : Nat) + s_1))) (3 : Nat) true true true) :: noH = some (AObj.row (ints zs) (2 : Nat) true true true) :: some (AObj.row (ints ys) (2 : Nat) true true true) :: some (AObj.row (ints cs) (1 : Nat) true true true) :: some (AObj.row [Value.int IntKind.i64 (0 : Int), Value.int IntKind.i64 (0 : Int)] (0 : Nat) false true true) :: some (AObj.row (cM (fitL zs n ys k cs l (s' * (7 : Nat)))) (3 : Nat) true true true) :: noH)) (br ((↑(List.length (fitL zs n ys k cs l (s * (7 : Nat)))) : Int) == (0 : Int)) (K (Value.tuple #[Value.agg #[Value.int IntKind.i64 (0 : Int), Value.int IntKind.i64 (0 : Int)], Value.int IntKind.i64 (0 : Int), Value.int IntKind.i64 (18 : Int)]) (some (AObj.row (ints zs) (2 : Nat) true true true) :: some (AObj.row (ints ys) (2 : Nat) true true true) :: some (AObj.row (ints cs) (1 : Nat) true true true) :: noH)) (Is (isM (cM (fitL zs n ys k cs l (s * (7 : Nat)))) (List.length (fitL zs n ys k cs l (s * (7 : Nat)))) ∧ Value.func (Fn.func (32 : Nat)) #[] #[] = Value.func (Fn.func (32 : Nat)) #[] #[]) ∧ Is ((0 : Int) ≤ (0 : Int) ∧ (0 : Int) < (↑(List.length (fitL zs n ys k cs l (s * (7 : Nat)))) : Int)) ∧ Is ((if (2 : Nat) ≤ List.length (soG (cM (fitL zs n ys k cs l (s * (7 : Nat)))) (List.length (fitL zs n ys k cs l (s * (7 : Nat))))) then some (Value.agg (List.toArray (List.take (2 : Nat) (List.drop (0 : Nat) (soG (cM (fitL zs n ys k cs l (s * (7 : Nat)))) (List.length (fitL zs n ys k cs l (s * (7 : Nat))))))))) else none) = some (Value.agg #[Value.int IntKind.i64 (iAt (soG (cM (fitL zs n ys k cs l (s * (7 : Nat)))) (List.length (fitL zs n ys k cs l (s * (7 : Nat))))) (0 : Nat)), Value.int IntKind.i64 (iAt (soG (cM (fitL zs n ys k cs l (s * (7 : Nat)))) (List.length (fitL zs n ys k cs l (s * (7 : Nat))))) (1 : Nat))])) ∧ Is ((0 : Int) ≤ (0 : Int) ∧ (0 : Int) < (↑(List.length (fitL zs n ys k cs l (s * (7 : Nat)))) : Int)) ∧ Is ((soG (cM (fitL zs n ys k cs l (s * (7 : Nat)))) (List.length (fitL zs n ys k cs l (s * (7 : Nat)))))[(2 : Nat)]? = some (Value.int IntKind.i64 (iAt (soG (cM (fitL zs n ys k cs l (s * (7 : Nat)))) (List.length (fitL zs n ys k cs l (s * (7 : Nat))))) (2 : Nat)))) ∧ K (Value.tuple #[Value.agg #[Value.int IntKind.i64 (iAt (soG (cM (fitL zs n ys k cs l (s * (7 : Nat)))) (List.length (fitL zs n ys k cs l (s * (7 : Nat))))) (0 : Nat)), Value.int IntKind.i64 (iAt (soG (cM (fitL zs n ys k cs l (s * (7 : Nat)))) (List.length (fitL zs n ys k cs l (s * (7 : Nat))))) (1 : Nat))], Value.int IntKind.i64 (iAt (soG (cM (fitL zs n ys k cs l (s * (7 : Nat)))) (List.length (fitL zs n ys k cs l (s * (7 : Nat))))) (2 : Nat)), Value.int IntKind.i64 (0 : Int)]) (some (AObj.row (ints zs) (2 : Nat) true true true) :: some (AObj.row (ints ys) (2 : Nat) true true true) :: some (AObj.row (ints cs) (1 : Nat) true true true) :: noH)))) := by kernel_rfl
section
variable {zs ys cs : List Int} {n k l : Nat}
theorem fitL_yes {i : Nat} (h : ctB ys k cs l (mvX i) (mvY i) = true) : fitL zs n ys k cs l (i + 1) = fitL zs n ys k cs l i ++ [(mvX i, mvY i, ctN zs n ys k cs l (mvX i) (mvY i))] := by rw [fitL, if_pos h]
theorem fitL_no {i : Nat} (h : ctB ys k cs l (mvX i) (mvY i) = false) : fitL zs n ys k cs l (i + 1) = fitL zs n ys k cs l i := by rw [fitL, if_neg (by rw [h]; decide), List.append_nil]
theorem fitL_len : ∀ i, (fitL zs n ys k cs l i).length ≤ i
  | 0 => Nat.le_refl _
  | i + 1 => by
    have := fitL_len i
    cases h : ctB ys k cs l (mvX i) (mvY i) with
    | true => rw [fitL_yes h, List.length_append]; simp only [List.length_cons, List.length_nil]; omega
    | false => rw [fitL_no h]; omega
theorem fitL_mem {m : Mv} : ∀ {i : Nat}, m ∈ fitL zs n ys k cs l i → ∃ j, j < i ∧ ctB ys k cs l (mvX j) (mvY j) = true ∧ m = (mvX j, mvY j, ctN zs n ys k cs l (mvX j) (mvY j))
  | 0, h => by cases h
  | i + 1, h => by
    cases hb : ctB ys k cs l (mvX i) (mvY i) with
    | true =>
      rw [fitL_yes hb] at h
      rcases List.mem_append.1 h with h | h
      · obtain ⟨j, h1, h2⟩ := fitL_mem h; exact ⟨j, by omega, h2⟩
      · exact ⟨i, by omega, hb, by simpa using h⟩
    | false =>
      rw [fitL_no hb] at h
      obtain ⟨j, h1, h2⟩ := fitL_mem h; exact ⟨j, by omega, h2⟩
theorem fitL_in {j : Nat} (hb : ctB ys k cs l (mvX j) (mvY j) = true) : ∀ {i : Nat}, j < i → (mvX j, mvY j, ctN zs n ys k cs l (mvX j) (mvY j)) ∈ fitL zs n ys k cs l i
  | 0, h => by omega
  | i + 1, h => by
    rcases (by omega : j = i ∨ j < i) with rfl | h
    · rw [fitL_yes hb]; exact List.mem_append_right _ (List.mem_singleton_self _)
    · rw [fitL]; exact List.mem_append_left _ (fitL_in hb h)
theorem mv_small {j : Nat} (h : j < 49) : (-3 ≤ mvX j ∧ mvX j ≤ 3) ∧ -3 ≤ mvY j ∧ mvY j ≤ 3 := by
  rw [mvX, mvY]; omega
theorem cM_pA (L : List Mv) : cM L = pA L.toArray := rfl
theorem cM_len (L : List Mv) : (cM L).length = L.length * 3 := pC_len L
theorem fit_gd {i : Nat} (hi : i ≤ 49) : gdM (fitL zs n ys k cs l i).toArray (fitL zs n ys k cs l i).length := by
  refine ⟨rfl, Nat.le_trans (fitL_len i) hi, fun m hm => ?_⟩
  obtain ⟨j, h1, _, rfl⟩ := fitL_mem (List.mem_toArray.1 (by simpa using hm))
  have := mv_small (j := j) (by omega)
  exact ⟨⟨by show -1000 ≤ mvX j; omega, by show mvX j ≤ 1000; omega⟩, by show -1000 ≤ mvY j; omega, by show mvY j ≤ 1000; omega⟩
end
theorem fit_z {zs ys cs : List Int} {n k l : Nat} (hb : ctB ys k cs l 0 0 = true) : (0, 0, ctN zs n ys k cs l 0 0) ∈ fitL zs n ys k cs l 49 := fitL_in (j := 24) hb (by omega)
theorem mvS_id : ∀ (s : Nat) (zs : List Int), mvS 0 0 s zs = zs
  | 0, zs => mvS_zero
  | s + 1, [] => by rw [mvS]; intro _ _ _ _ _ h; cases h
  | s + 1, [x] => by rw [mvS]; intro _ _ _ _ _ h; cases h
  | s + 1, x :: y :: r => by rw [mvS, mvS_id s r, Int.add_zero, Int.add_zero]
theorem ctB_z {ys cs : List Int} {k l : Nat} (h1 : PfOk ys k) (h2 : col1 ys k cs l = 0) : ctB ys k cs l 0 0 = true := by
  rw [ctB, mvS_id, (pf_iff h1.len).2 h1, h2]; rfl
theorem ctN_z {zs ys cs : List Int} {n k l : Nat} (h : ctB ys k cs l 0 0 = true) : ctN zs n ys k cs l 0 0 = sqS (wrL zs n ys k cs) := by
  rw [ctN, if_pos h, mvS_id]
/-- What the fit is. -/
theorem fitM_spec {zs ys cs : List Int} {n k l : Nat} (hb : ctB ys k cs l 0 0 = true) :
    ∃ x y : Int, fitM zs n ys k cs l = (x, y, ctN zs n ys k cs l x y) ∧ ctB ys k cs l x y = true ∧ (-3 ≤ x ∧ x ≤ 3) ∧ (-3 ≤ y ∧ y ≤ 3) ∧ ctN zs n ys k cs l x y ≤ sqS (wrL zs n ys k cs) := by
  have hz := fit_z (zs := zs) (n := n) hb
  have hg := fit_gd (zs := zs) (ys := ys) (cs := cs) (n := n) (k := k) (l := l) (Nat.le_refl 49)
  obtain ⟨h1, h2⟩ := so_min hg (List.length_pos_of_mem hz)
  have h1' : fitM zs n ys k cs l ∈ fitL zs n ys k cs l 49 := by rw [fitM]; simpa using h1
  obtain ⟨j, j1, j2, j3⟩ := fitL_mem h1'
  have sm := mv_small j1
  refine ⟨_, _, j3, j2, sm.1, sm.2, ?_⟩
  have h3 := h2 (0, 0, ctN zs n ys k cs l 0 0) (by simpa using hz)
  have h3 : ltM (0, 0, ctN zs n ys k cs l 0 0) (fitM zs n ys k cs l) = false := h3
  rw [j3] at h3
  rcases Int.lt_or_le (ctN zs n ys k cs l 0 0) (ctN zs n ys k cs l (mvX j) (mvY j)) with h | h
  · have := (lt_iff (a := (0, 0, ctN zs n ys k cs l 0 0)) (b := (mvX j, mvY j, ctN zs n ys k cs l (mvX j) (mvY j)))).2 (.inl h)
    rw [this] at h3; cases h3
  · rw [ctN_z hb] at h; exact h
set_option maxRecDepth 100000 in
theorem fit_ok {zs ys cs : List Int} {n c k d l a : Nat} (hz : PfOk zs n) (hy : PfOk ys k) (hl : cs.length = l) (h9 : l ≤ 1000) (h1 : col1 zs n cs l = 0) (h2 : col1 ys k cs l = 0) :
    SmallRes Try.prog 13 [.slice (some ⟨0, 0, none⟩) n c, .slice (some ⟨1, 0, none⟩) k d, .slice (some ⟨2, 0, none⟩) l a, .int .i64 3] (hpF zs ys cs [])
      (.tuple #[.agg #[.int .i64 (fitM zs n ys k cs l).1, .int .i64 (fitM zs n ys k cs l).2.1], .int .i64 (fitM zs n ys k cs l).2.2, .int .i64 0]) (hpF zs ys cs []) := by
  refine fnP_res Qq.hm c2_ok (hs := hsFit zs ys cs n c k d l a) ?_
  rw [fit_t]
  simp only [deI_ints]
  have z1 : okZ (ints zs) n := by rw [okZ, deI_ints]; exact ⟨rfl, hz⟩
  have z2 : okZ (ints ys) k := by rw [okZ, deI_ints]; exact ⟨rfl, hy⟩
  have hC : isC (ints cs) l := by rw [isC, deI_ints]; exact ⟨rfl, hl, h9⟩
  have hb := ctB_z hy h2
  have hzero := fit_z (zs := zs) (n := n) hb
  refine ⟨⟨z1, z2, hC, by rw [deI_ints, deI_ints]; exact h1⟩, ⟨(0 : Nat), ⟨by omega⟩, ⟨by first | rfl | trivial, by first | rfl | trivial, by first | rfl | trivial, by first | rfl | trivial, by first | rfl | trivial, by first | rfl | trivial, by first | rfl | trivial, trivial⟩, by first | rfl | trivial⟩, fun s hs => br_of (fun h => ?_) (fun h => ?_)⟩
  · have h := of_decide_eq_true h
    have h7 : s < 7 := by omega
    refine ⟨s, ⟨(0 : Nat), ⟨by omega, h7⟩, ⟨by first | rfl | trivial, by first | rfl | trivial, by first | rfl | trivial, by first | rfl | trivial, by first | rfl | trivial, by first | rfl | trivial, by first | rfl | trivial, by first | rfl | trivial, trivial⟩, by first | rfl | trivial⟩, fun j hj => br_of (fun h => ?_) (fun h => ?_)⟩
    · have h := of_decide_eq_true h
      have j7 : j < 7 := by omega
      have ex : mvX (s * 7 + j) = (s : Int) - 3 := by rw [mvX, show (s * 7 + j) / 7 = s by omega]
      have ey : mvY (s * 7 + j) = (j : Int) - 3 := by rw [mvY, show (s * 7 + j) % 7 = j by omega]
      have wu : IntKind.wrap .i64 ((j : Int) - 3 + 1) = ((j + 1 : Nat) : Int) - 3 := by rw [wrap_eq (by omega) (by omega)]; omega
      have len := fitL_len (zs := zs) (ys := ys) (cs := cs) (n := n) (k := k) (l := l) (s * 7 + j)
      rw [wu]
      refine ⟨⟨⟨z1, z2⟩, hC, ⟨by omega, by omega⟩, by omega, by omega⟩, br_of (fun hc => ⟨⟨cM_len _, by omega, by omega⟩, j + 1, ⟨by omega, h7⟩, ⟨by omega⟩, ?_, ?_⟩) (fun hc => ⟨j + 1, ⟨by omega, h7⟩, ⟨by omega⟩, ?_, ?_⟩)⟩
      · rw [← ex, ← ey] at hc
        rw [← Nat.add_assoc, fitL_yes hc, List.length_append]
        exact ⟨by first | rfl | trivial, by first | rfl | trivial, by first | rfl | trivial, by first | rfl | trivial, by first | rfl | trivial, by first | rfl | trivial, by first | rfl | trivial, by first | rfl | trivial, trivial⟩
      · rw [← ex, ← ey] at hc ⊢
        rw [← Nat.add_assoc, fitL_yes hc, cM, cM, List.flatMap_append]
        rfl
      · rw [← ex, ← ey] at hc
        rw [← Nat.add_assoc, fitL_no hc]
        exact ⟨by first | rfl | trivial, by first | rfl | trivial, by first | rfl | trivial, by first | rfl | trivial, by first | rfl | trivial, by first | rfl | trivial, by first | rfl | trivial, by first | rfl | trivial, trivial⟩
      · rw [← ex, ← ey] at hc
        rw [← Nat.add_assoc, fitL_no hc]
    · have h := of_decide_eq_false h
      have j7 : j = 7 := by have := hj.out; omega
      subst j7
      have wu : IntKind.wrap .i64 ((s : Int) - 3 + 1) = ((s + 1 : Nat) : Int) - 3 := by rw [wrap_eq (by omega) (by omega)]; omega
      rw [wu, show s * 7 + 7 = (s + 1) * 7 by omega]
      exact ⟨s + 1, ⟨by omega⟩, ⟨by omega⟩, ⟨by first | rfl | trivial, by first | rfl | trivial, by first | rfl | trivial, by first | rfl | trivial, by first | rfl | trivial, by first | rfl | trivial, by first | rfl | trivial, trivial⟩, by first | rfl | trivial⟩
  · have h := of_decide_eq_false h
    have e : s = 7 := by have := hs.out; omega
    subst e
    rw [show (7 : Nat) * 7 = 49 from rfl]
    revert hzero
    have hg := fit_gd (zs := zs) (ys := ys) (cs := cs) (n := n) (k := k) (l := l) (Nat.le_refl 49)
    revert hg
    rw [fitM]
    generalize fitL zs n ys k cs l 49 = L
    intro hg hzero
    have hpos := List.length_pos_of_mem hzero
    have es : soG (cM L) L.length = pA (soA L.toArray L.length) := by
      rw [soG, soF, cM_pA, dA_pA]
    have hso := so_gd hg
    have hsz := hso.1
    have hat := pA_at (d := soA L.toArray L.length) (p := 0) (by omega)
    rw [Nat.zero_mul, Nat.zero_add, Nat.zero_add] at hat
    obtain ⟨a1, a2, a3⟩ := hat
    refine br_of (fun h0 => ?_) (fun h0 => ?_)
    · have h0 : (L.length : Int) = 0 := by simpa using h0
      omega
    · rw [es, a1, a2, a3]
      have hM : isM (cM L) L.length := isM_of hg
      refine ⟨⟨hM, by first | rfl | trivial⟩, ⟨by omega, by omega⟩, ⟨?_⟩, ⟨by omega, by omega⟩, ⟨?_⟩, by first | rfl | trivial, by first | rfl | trivial⟩
      · obtain ⟨A, B, e1, e2, _⟩ := pA_cut (d := soA L.toArray L.length) (p := 0) (by omega)
        have e2 : A = [] := List.eq_nil_of_length_eq_zero (by omega)
        rw [e1, e2]
        rfl
      · obtain ⟨A, B, e1, e2, _⟩ := pA_cut (d := soA L.toArray L.length) (p := 0) (by omega)
        have e2 : A = [] := List.eq_nil_of_length_eq_zero (by omega)
        rw [e1, e2]
        rfl
noncomputable def orcFit : OrcV
  | [.slice (some ⟨0, 0, none⟩) n _, .slice (some ⟨1, 0, none⟩) k _, .slice (some ⟨2, 0, none⟩) l _, .int .i64 3], [some (.row e 2 true true true), some (.row g 2 true true true), some (.row cs 1 true true true)] =>
    some (.tuple #[.agg #[.int .i64 (fitM (deI e) n (deI g) k (deI cs) l).1, .int .i64 (fitM (deI e) n (deI g) k (deI cs) l).2.1], .int .i64 (fitM (deI e) n (deI g) k (deI cs) l).2.2, .int .i64 0], [some (.row e 2 true true true), some (.row g 2 true true true), some (.row cs 1 true true true)],
      ftO e n g k cs l ∧ col1 (deI g) k (deI cs) l = 0)
  | _, _ => none
theorem okFit : OkV Try.prog 13 orcFit := by
  intro args H ret H' vc h hv
  unfold orcFit at h
  split at h
  · cases h
    obtain ⟨⟨⟨e1, h1⟩, ⟨e2, h2⟩, ⟨e3, h3, h4⟩, h5⟩, h6⟩ := hv
    rw [e1, e2, e3]
    simp only [deI_ints]
    exact fit_ok h1 h2 h3 h4 h5 h6
  · cases h
end
end Qq
end
section
/- The law's small functions. -/
open Go Go.Vm Go.Proofs Sp
namespace Qq
noncomputable section
noncomputable def rZv (zs : List Int) : Option AObj := some (.row (ints zs) 2 true false true)
theorem shn_t (e : List Value) (n : Nat) (c : Nat) (K : Value → Heap → Prop) :
    (fnP Try.prog c0 h0 (4 : FuncId) [Value.slice (some { block := (0 : Nat), off := (0 : Nat) }) n c] [some (AObj.row e (2 : Nat) true false true)] K) =
    (br (decide ((↑n : Int) ≤ (12 : Int))) (K (Value.bool true) (some (AObj.row e (2 : Nat) true false true) :: noH)) (K (Value.bool ((↑n : Int) == (25 : Int))) (some (AObj.row e (2 : Nat) true false true) :: noH))) := by kernel_rfl
noncomputable def lpJp (zs : List Int) (n c : Nat) : Lp where
  σ := Nat
  E i := slots 18 [(3, .slice (some ⟨1, 0, none⟩) i 0), (6, .slice (some ⟨0, 0, none⟩) n c), (7, .int .i64 (Int.ofNat n)), (8, .int .i64 (Int.ofNat i))]
  Hp i := [rZv zs, rZ (zs.take (i * 2)) true true]
  I i := i ≤ n
  m i := n - i
noncomputable def hsJp (zs : List Int) (n c : Nat) : Hs Try.prog where
  op y := if y = 400 then some (hIa Try.prog) else if y = 401 then some (hLd Try.prog (z2 zs)) else if y = 503 then some (hAp Try.prog) else none
  lp _ := some (lpJp zs n c)
  cl _ := keep 18 [3, 6, 7, 8]
  nl _ := [.only (.slot 3 2)]
  sm := true
  au := au0 Try.prog
theorem jp_t (zs : List Int) (n : Nat) (c : Nat) (K : Value → Heap → Prop) :
    (fnP Try.prog c0 (hsJp zs n c) (10 : FuncId) [Value.slice (some { block := (0 : Nat), off := (0 : Nat) }) n c] [rZv zs] K) =
    ((∃ (s : Nat), Is (s ≤ n) ∧ (Value.slice (some { block := (1 : Nat), off := (0 : Nat) }) (0 : Nat) (0 : Nat) = Value.slice (some { block := (1 : Nat), off := (0 : Nat) }) s (0 : Nat) ∧ Value.slice (some { block := (0 : Nat), off := (0 : Nat) }) n c = Value.slice (some { block := (0 : Nat), off := (0 : Nat) }) n c ∧ Value.int IntKind.i64 (↑n : Int) = Value.int IntKind.i64 (↑n : Int) ∧ Value.int IntKind.i64 (0 : Int) = Value.int IntKind.i64 (↑s : Int) ∧ True) ∧ some (AObj.row (ints zs) (2 : Nat) true false true) :: some (AObj.row [] (2 : Nat) true true true) :: noH = some (AObj.row (ints zs) (2 : Nat) true false true) :: some (AObj.row (ints (List.take (s * (2 : Nat)) zs)) (2 : Nat) true true true) :: noH) ∧ ∀ (s : Nat), Is (s ≤ n) → br (decide ((↑s : Int) < (↑n : Int))) (Is ((0 : Int) ≤ (↑s : Int) ∧ (↑s : Int) < (↑n : Int)) ∧ Is ((if (0 : Nat) + Int.toNat (↑s : Int) * (2 : Nat) + (2 : Nat) ≤ List.length (ints zs) then some (Value.agg (List.toArray (List.take (2 : Nat) (List.drop ((0 : Nat) + Int.toNat (↑s : Int) * (2 : Nat)) (ints zs))))) else none) = some (Value.agg #[Value.int IntKind.i64 (List.getD zs ((0 : Nat) + Int.toNat (↑s : Int) * (2 : Nat)) (0 : Int)), Value.int IntKind.i64 (List.getD zs ((0 : Nat) + Int.toNat (↑s : Int) * (2 : Nat) + (1 : Nat)) (0 : Int))])) ∧ Is (List.length (ints (List.take (s * (2 : Nat)) zs)) = s * (2 : Nat) ∧ (s + (1 : Nat)) * (16 : Nat) ≤ (140737488355328 : Nat) ∧ s + (1 : Nat) ≤ (9223372036854775807 : Nat)) ∧ ∃ (s' : Nat), Is (s' ≤ n) ∧ Is (n - s' < n - s) ∧ (Value.slice (some { block := (1 : Nat), off := (0 : Nat) }) (s + (1 : Nat)) (0 : Nat) = Value.slice (some { block := (1 : Nat), off := (0 : Nat) }) s' (0 : Nat) ∧ Value.slice (some { block := (0 : Nat), off := (0 : Nat) }) n c = Value.slice (some { block := (0 : Nat), off := (0 : Nat) }) n c ∧ Value.int IntKind.i64 (↑n : Int) = Value.int IntKind.i64 (↑n : Int) ∧ Value.int IntKind.i64 (IntKind.wrap IntKind.i64 ((↑s : Int) + (1 : Int))) = Value.int IntKind.i64 (↑s' : Int) ∧ True) ∧ some (AObj.row (ints zs) (2 : Nat) true false true) :: some (AObj.row (ints (List.take (s * (2 : Nat)) zs) ++ [Value.int IntKind.i64 (List.getD zs ((0 : Nat) + Int.toNat (↑s : Int) * (2 : Nat)) (0 : Int)), Value.int IntKind.i64 (List.getD zs ((0 : Nat) + Int.toNat (↑s : Int) * (2 : Nat) + (1 : Nat)) (0 : Int))]) (2 : Nat) true true (List.all [Value.int IntKind.i64 (List.getD zs ((0 : Nat) + Int.toNat (↑s : Int) * (2 : Nat)) (0 : Int)), Value.int IntKind.i64 (List.getD zs ((0 : Nat) + Int.toNat (↑s : Int) * (2 : Nat) + (1 : Nat)) (0 : Int))] atom)) :: noH = some (AObj.row (ints zs) (2 : Nat) true false true) :: some (AObj.row (ints (List.take (s' * (2 : Nat)) zs)) (2 : Nat) true true true) :: noH) (K (Value.slice (some { block := (1 : Nat), off := (0 : Nat) }) s (0 : Nat)) (some (AObj.row (ints zs) (2 : Nat) true false true) :: some (AObj.row (ints (List.take (s * (2 : Nat)) zs)) (2 : Nat) true true true) :: noH))) := by kernel_rfl
noncomputable def hsOn : Hs Try.prog where
  op y := if y = 102 then some (hAe Try.prog true) else none
theorem on_t (e : List Value) (l : Nat) (c : Nat) (K : Value → Heap → Prop) :
    (fnP Try.prog c0 hsOn (8 : FuncId) [Value.pointer (some { block := (0 : Nat), off := (0 : Nat) })] [some (AObj.row [Value.slice (some { block := (1 : Nat), off := (0 : Nat) }) l c] (0 : Nat) false true false), some (AObj.row e (1 : Nat) true false true)] K) =
    (Is (List.length e = l * (1 : Nat) ∧ (∀ (v : Value), v ∈ e → atom v = true) ∧ l * (8 : Nat) ≤ (140737488355328 : Nat) ∧ l ≤ (9223372036854775807 : Nat)) ∧ K (Value.slice (some { block := (2 : Nat), off := (0 : Nat) }) l (0 : Nat)) (some (AObj.row [Value.slice (some { block := (1 : Nat), off := (0 : Nat) }) l c] (0 : Nat) false true false) :: some (AObj.row e (1 : Nat) true false true) :: some (AObj.row e (1 : Nat) true true true) :: noH)) := by kernel_rfl
noncomputable def lpHi (cs : List Int) (l c : Nat) (x : Int) : Lp where
  σ := Nat
  E i := slots 18 [(0, .slice (some ⟨0, 0, none⟩) l c), (1, .int .i64 x), (5, .int .i64 (Int.ofNat i))]
  Hp _ := [rCv cs]
  I i := i ≤ l ∧ ∀ t, t < i → cs.getD t 0 ≠ x
  m i := l - i
noncomputable def hsHi (cs : List Int) (l c : Nat) (x : Int) : Hs Try.prog where
  op y := if y = 402 then some (hIa Try.prog) else if y = 403 then some (hLd Try.prog (zI cs)) else none
  lp _ := some (lpHi cs l c x)
  cl _ := keep 18 [0, 1, 5]
  au := au0 Try.prog
theorem hi_t (cs : List Int) (l : Nat) (c : Nat) (x : Int) (K : Value → Heap → Prop) :
    (fnP Try.prog c0 (hsHi cs l c x) (12 : FuncId) [Value.slice (some { block := (0 : Nat), off := (0 : Nat) }) l c, Value.int IntKind.i64 x] [rCv cs] K) =
    ((∃ (s : Nat), Is (s ≤ l ∧ ∀ (t : Nat), t < s → List.getD cs t (0 : Int) ≠ x) ∧ [Value.slice (some { block := (0 : Nat), off := (0 : Nat) }) l c, Value.int IntKind.i64 x, poi, poi, poi, Value.int IntKind.i64 (0 : Int), poi, poi, poi, poi, poi, poi, poi, poi, poi, poi, poi, poi] = [Value.slice (some { block := (0 : Nat), off := (0 : Nat) }) l c, Value.int IntKind.i64 x, poi, poi, poi, Value.int IntKind.i64 (↑s : Int), poi, poi, poi, poi, poi, poi, poi, poi, poi, poi, poi, poi] ∧ some (AObj.row (ints cs) (1 : Nat) true false true) :: noH = some (AObj.row (ints cs) (1 : Nat) true false true) :: noH) ∧ ∀ (s : Nat), Is (s ≤ l ∧ ∀ (t : Nat), t < s → List.getD cs t (0 : Int) ≠ x) → br (decide ((↑s : Int) < (↑l : Int))) (Is ((0 : Int) ≤ (↑s : Int) ∧ (↑s : Int) < (↑l : Int)) ∧ Is ((ints cs)[(0 : Nat) + Int.toNat (↑s : Int) * (1 : Nat)]? = some (Value.int IntKind.i64 (List.getD cs ((0 : Nat) + Int.toNat (↑s : Int) * (1 : Nat)) (0 : Int)))) ∧ br (List.getD cs ((0 : Nat) + Int.toNat (↑s : Int) * (1 : Nat)) (0 : Int) == x) (K (Value.bool true) (some (AObj.row (ints cs) (1 : Nat) true false true) :: noH)) (∃ (s' : Nat), Is (s' ≤ l ∧ ∀ (t : Nat), t < s' → List.getD cs t (0 : Int) ≠ x) ∧ Is (l - s' < l - s) ∧ [Value.slice (some { block := (0 : Nat), off := (0 : Nat) }) l c, Value.int IntKind.i64 x, poi, poi, poi, Value.int IntKind.i64 (IntKind.wrap IntKind.i64 ((↑s : Int) + (1 : Int))), poi, poi, poi, poi, poi, poi, poi, poi, poi, poi, poi, poi] = [Value.slice (some { block := (0 : Nat), off := (0 : Nat) }) l c, Value.int IntKind.i64 x, poi, poi, poi, Value.int IntKind.i64 (↑s' : Int), poi, poi, poi, poi, poi, poi, poi, poi, poi, poi, poi, poi] ∧ some (AObj.row (ints cs) (1 : Nat) true false true) :: noH = some (AObj.row (ints cs) (1 : Nat) true false true) :: noH)) (K (Value.bool false) (some (AObj.row (ints cs) (1 : Nat) true false true) :: noH))) := by kernel_rfl
noncomputable def row2 (p q : Int) : Option AObj := some (.row [.int .i64 p, .int .i64 q] 1 false true true)
theorem si_t (p : Int) (q : Int) (a : Int) (b : Int) (c : Nat) (d : Nat) (K : Value → Heap → Prop) :
    (fnP Try.prog c0 h0 (16 : FuncId) [Value.slice (some { block := (0 : Nat), off := (0 : Nat) }) (2 : Nat) c, Value.slice (some { block := (1 : Nat), off := (0 : Nat) }) (2 : Nat) d] [row2 p q, row2 a b] K) =
    (br (p != a) (K (Value.bool false) (some (AObj.row [Value.int IntKind.i64 p, Value.int IntKind.i64 q] (1 : Nat) false true true) :: some (AObj.row [Value.int IntKind.i64 a, Value.int IntKind.i64 b] (1 : Nat) false true true) :: noH)) (br (q != b) (K (Value.bool false) (some (AObj.row [Value.int IntKind.i64 p, Value.int IntKind.i64 q] (1 : Nat) false true true) :: some (AObj.row [Value.int IntKind.i64 a, Value.int IntKind.i64 b] (1 : Nat) false true true) :: noH)) (K (Value.bool true) (some (AObj.row [Value.int IntKind.i64 p, Value.int IntKind.i64 q] (1 : Nat) false true true) :: some (AObj.row [Value.int IntKind.i64 a, Value.int IntKind.i64 b] (1 : Nat) false true true) :: noH)))) := by kernel_rfl
noncomputable def orcShN : OrcV
  | [.slice (some ⟨0, 0, none⟩) n _], [some (.row e 2 true false true)] => some (.bool (decide ((n : Int) ≤ 12) || (n : Int) == 25), [some (.row e 2 true false true)], True)
  | _, _ => none
theorem okShN : OkV Try.prog 4 orcShN := by
  intro args H ret H' vc h hv
  unfold orcShN at h
  split at h
  · cases h
    refine fnP_res hm c0_ok (hs := h0) ?_
    rw [shn_t]
    refine br_of (fun h => ?_) (fun h => ?_)
    · rw [h]; exact ⟨by first | trivial | rfl, by first | trivial | rfl⟩
    · rw [h]; exact ⟨by first | trivial | rfl, by first | trivial | rfl⟩
  · cases h
theorem jp_ok {zs : List Int} {n c : Nat} (hl : zs.length = n * 2) (h9 : n ≤ 1000) :
    SmallRes Try.prog 10 [.slice (some ⟨0, 0, none⟩) n c] [rZv zs] (.slice (some ⟨1, 0, none⟩) n 0) [rZv zs, rZ zs true true] := by
  refine fnP_res hm c0_ok (hs := hsJp zs n c) ?_
  rw [jp_t]
  refine ⟨⟨(0 : Nat), ⟨by omega⟩, ⟨by first | trivial | rfl, by first | trivial | rfl, by first | trivial | rfl, by first | trivial | rfl, trivial⟩, by rw [Nat.zero_mul]; first | trivial | rfl⟩, fun s hs => br_of (fun h => ?_) (fun h => ?_)⟩
  · have h := lt_of_dec h
    have pair : (if s * 2 + 2 ≤ (ints zs).length then some (Value.agg (List.take 2 (List.drop (s * 2) (ints zs))).toArray) else none) = some (.agg #[.int .i64 (zs.getD (s * 2) 0), .int .i64 (zs.getD (s * 2 + 1) 0)]) := by
      rw [ints_len, if_pos (by omega), ints_pair (by omega)]
    simp only [Nat.zero_add, Int.toNat_natCast, up1 h (by omega)]
    refine ⟨⟨by omega, by omega⟩, ⟨pair⟩, ⟨by rw [ints_len, List.length_take]; omega, by omega, by omega⟩, s + 1, ⟨h⟩, ⟨by omega⟩, ⟨by first | trivial | rfl, by first | trivial | rfl, by first | trivial | rfl, by first | trivial | rfl, trivial⟩, ?_⟩
    have e2 : zs.take ((s + 1) * 2) = zs.take (s * 2) ++ [zs.getD (s * 2) 0, zs.getD (s * 2 + 1) 0] := by
      have g1 : zs[s * 2]? = some (zs.getD (s * 2) 0) := by rw [List.getD_eq_getElem?_getD, List.getElem?_eq_getElem (by omega)]; rfl
      have g2 : zs[s * 2 + 1]? = some (zs.getD (s * 2 + 1) 0) := by rw [List.getD_eq_getElem?_getD, List.getElem?_eq_getElem (by omega)]; rfl
      rw [show (s + 1) * 2 = s * 2 + 1 + 1 by omega, List.take_add_one, List.take_add_one, g1, g2, List.append_assoc]; rfl
    rw [e2, ← ints_app]
    rfl
  · have h := ge_of_dec h
    have : s = n := by have := hs.out; omega
    subst this
    rw [List.take_of_length_le (by omega)]
    exact ⟨by first | trivial | rfl, by first | trivial | rfl⟩
noncomputable def orcJp : OrcV
  | [.slice (some ⟨0, 0, none⟩) n _], [some (.row e 2 true false true)] => some (.slice (some ⟨1, 0, none⟩) n 0, [some (.row e 2 true false true), some (.row e 2 true true true)], isZ e n)
  | _, _ => none
theorem okJp : OkV Try.prog 10 orcJp := by
  intro args H ret H' vc h hv
  unfold orcJp at h
  split at h
  · rename_i n c e
    cases h
    obtain ⟨e1, h1, h2⟩ := hv
    revert e1 h1
    generalize deI e = zs
    rintro rfl h1
    exact jp_ok h1 h2
  · cases h
theorem atom_ints {l : List Int} : ∀ v ∈ ints l, atom v = true := by
  intro v hv
  obtain ⟨x, _, rfl⟩ := List.mem_map.1 hv
  rfl
noncomputable def orcOn : OrcV
  | [.pointer (some ⟨0, 0, none⟩)], [some (.row [.slice (some ⟨1, 0, none⟩) l c] 0 false true false), some (.row e 1 true false true)] =>
    some (.slice (some ⟨2, 0, none⟩) l 0, [some (.row [.slice (some ⟨1, 0, none⟩) l c] 0 false true false), some (.row e 1 true false true), some (.row e 1 true true true)], isC e l)
  | _, _ => none
theorem okOn : OkV Try.prog 8 orcOn := by
  intro args H ret H' vc h hv
  unfold orcOn at h
  split at h
  · rename_i l c e
    cases h
    obtain ⟨e1, h1, h2⟩ := hv
    revert e1 h1
    generalize deI e = zs
    rintro rfl h1
    refine fnP_res hm c0_ok (hs := hsOn) ?_
    rw [on_t]
    exact ⟨⟨by rw [ints_len]; omega, atom_ints, by omega, by omega⟩, by first | trivial | rfl, by first | trivial | rfl⟩
  · cases h
noncomputable def orcHi : OrcV
  | [.slice (some ⟨0, 0, none⟩) l _, .int .i64 x], [some (.row e 1 true false true)] => some (.bool true, [some (.row e 1 true false true)], isC e l ∧ x ∈ deI e)
  | _, _ => none
theorem okHi : OkV Try.prog 12 orcHi := by
  intro args H ret H' vc h hv
  unfold orcHi at h
  split at h
  · rename_i l c x e
    cases h
    obtain ⟨⟨e1, h1, h2⟩, hx⟩ := hv
    revert hx e1 h1
    generalize deI e = zs
    rintro hx rfl h1
    refine fnP_res hm c0_ok (hs := hsHi zs l c x) ?_
    show fnP Try.prog c0 (hsHi zs l c x) 12 _ [rCv zs] _
    rw [hi_t]
    refine ⟨⟨(0 : Nat), ⟨by omega, fun t ht => by omega⟩, by first | trivial | rfl, by first | trivial | rfl⟩, fun s hs => br_of (fun h => ?_) (fun h => ?_)⟩
    · have h := lt_of_dec h
      obtain ⟨a1, a2⟩ := hs.out
      simp only [Nat.zero_add, Nat.mul_one, Int.toNat_natCast, up1 h (by omega)]
      refine ⟨⟨by omega, by omega⟩, ⟨zint_at (by omega)⟩, br_of (fun hq => ?_) (fun hq => ?_)⟩
      · exact ⟨by first | trivial | rfl, by first | trivial | rfl⟩
      · have hq : zs.getD s 0 ≠ x := by simpa using hq
        refine ⟨s + 1, ⟨by omega, fun t ht => ?_⟩, ⟨by omega⟩, by first | trivial | rfl, by first | trivial | rfl⟩
        rcases (by omega : t = s ∨ t < s) with rfl | ht
        · exact hq
        · exact a2 t ht
    · have h := ge_of_dec h
      obtain ⟨a1, a2⟩ := hs.out
      obtain ⟨i, hi, e⟩ := List.getElem_of_mem hx
      refine absurd ?_ (a2 i (by omega))
      rw [List.getD_eq_getElem?_getD, List.getElem?_eq_getElem hi]; exact e
  · cases h
noncomputable def orcSi : OrcV
  | [.slice (some ⟨0, 0, none⟩) 2 _, .slice (some ⟨1, 0, none⟩) 2 _], [some (.row [.int .i64 p, .int .i64 q] 1 false true true), some (.row [.int .i64 a, .int .i64 b] 1 false true true)] =>
    some (.bool (p == a && q == b), [some (.row [.int .i64 p, .int .i64 q] 1 false true true), some (.row [.int .i64 a, .int .i64 b] 1 false true true)], True)
  | _, _ => none
theorem okSi : OkV Try.prog 16 orcSi := by
  intro args H ret H' vc h hv
  unfold orcSi at h
  split at h
  · cases h
    refine fnP_res hm c0_ok (hs := h0) ?_
    show fnP Try.prog c0 h0 16 _ [row2 _ _, row2 _ _] _
    rw [si_t]
    refine br_of (fun h => ?_) (fun h => br_of (fun h2 => ?_) (fun h2 => ?_))
    · have h := bne_iff_ne.1 h
      rw [beq_false_of_ne h]; exact ⟨by first | trivial | rfl, by first | trivial | rfl⟩
    · have h2 := bne_iff_ne.1 h2
      rw [beq_false_of_ne h2, Bool.and_false]; exact ⟨by first | trivial | rfl, by first | trivial | rfl⟩
    · have h := bne_eq_false_iff_eq.1 h
      have h2 := bne_eq_false_iff_eq.1 h2
      subst h h2
      rw [beq_self_eq_true, beq_self_eq_true]; exact ⟨by first | trivial | rfl, by first | trivial | rfl⟩
  · cases h
/-- Which round it is. -/
noncomputable def gOf (env : List Value) : Nat := match gt env 96 with
  | .int _ i => i.toNat
  | _ => 0
/-- A hint chosen by the round. -/
noncomputable def hEnv (h0 h1 : Hint Try.prog) : Hint Try.prog where
  fn o env H := match gOf env with
    | 0 => h0.fn o env H
    | _ => h1.fn o env H
  ok := by
    intro o env H out vc h hv
    split at h
    · exact h0.ok h hv
    · exact h1.ok h hv
/-- A truth value that is told. -/
noncomputable def hTell (b : Bool) (h : Hint Try.prog) : Hint Try.prog where
  fn o env H := match h.fn o env H with
    | some (⟨.bool v, d, x, y⟩, vc) => some (⟨.bool b, d, x, y⟩, vc ∧ v = b)
    | _ => none
  ok := by
    intro o env H out vc hh hv
    split at hh
    · rename_i v d x y vc0 h0
      cases hh
      obtain ⟨h1, rfl⟩ := hv
      exact h.ok h0 h1
    · cases hh
noncomputable def hTold (b : Bool) : Hint Try.prog where
  fn o env H := match evOp Try.prog env H H.length o with
    | some ⟨.bool v, d, x, y⟩ => some (⟨.bool b, d, x, y⟩, v = b)
    | _ => none
  ok := by
    intro o env H out vc hh hv
    split at hh
    · rename_i v d x y h0
      cases hh
      subst hv
      exact evOp_ok h0
    · cases hh
section
variable (zs : List Int) (n : Nat) (ys : List Int) (k : Nat) (cs : List Int)
noncomputable def orcWoQ : OrcV
  | [.slice (some ⟨0, 0, none⟩) n1 _, .slice (some ⟨1, 0, none⟩) k1 _, .slice (some ⟨2, 0, none⟩) l _], [some (.row e 2 true true true), some (.row g 2 true true true), some (.row c 1 true true true)] =>
    some (.tuple #[.int .i64 (mxL (wrL zs n ys k cs)), .int .i64 (atC (wrL zs n ys k cs) cs), .int .i64 0], [some (.row e 2 true true true), some (.row g 2 true true true), some (.row c 1 true true true)],
      ((e = ints zs ∧ n1 = n) ∧ (g = ints ys ∧ k1 = k) ∧ c = ints cs) ∧ weO e n1 g k1 c l)
  | _, _ => none
theorem okWoQ : OkV Try.prog 9 (orcWoQ zs n ys k cs) := by
  intro args H ret H' vc h hv
  unfold orcWoQ at h
  split at h
  · rename_i n1 a k1 b l c e g cc
    cases h
    obtain ⟨⟨⟨rfl, rfl⟩, ⟨rfl, rfl⟩, rfl⟩, h1⟩ := hv
    have := okWo [.slice (some ⟨0, 0, none⟩) n1 a, .slice (some ⟨1, 0, none⟩) k1 b, .slice (some ⟨2, 0, none⟩) l c] [some (.row (ints zs) 2 true true true), some (.row (ints ys) 2 true true true), some (.row (ints cs) 1 true true true)] _ _ _ rfl h1
    simp only [deI_ints] at this
    exact this
  · cases h
noncomputable def orcWxQ : OrcV
  | [.slice (some ⟨0, 0, none⟩) n1 _, .slice (some ⟨1, 0, none⟩) k1 _, .slice (some ⟨2, 0, none⟩) l _], [some (.row e 2 true true true), some (.row g 2 true true true), some (.row c 1 true true true)] =>
    some (.tuple #[.slice (some ⟨3, 0, none⟩) l 0, .int .i64 0], [some (.row e 2 true true true), some (.row g 2 true true true), some (.row c 1 true true true), some (.row (ints (wrL zs n ys k cs)) 1 true true true)],
      ((e = ints zs ∧ n1 = n) ∧ (g = ints ys ∧ k1 = k) ∧ c = ints cs) ∧ weO e n1 g k1 c l)
  | _, _ => none
theorem okWxQ : OkV Try.prog 11 (orcWxQ zs n ys k cs) := by
  intro args H ret H' vc h hv
  unfold orcWxQ at h
  split at h
  · rename_i n1 a k1 b l c e g cc
    cases h
    obtain ⟨⟨⟨rfl, rfl⟩, ⟨rfl, rfl⟩, rfl⟩, h1⟩ := hv
    have := okWx [.slice (some ⟨0, 0, none⟩) n1 a, .slice (some ⟨1, 0, none⟩) k1 b, .slice (some ⟨2, 0, none⟩) l c] [some (.row (ints zs) 2 true true true), some (.row (ints ys) 2 true true true), some (.row (ints cs) 1 true true true)] _ _ _ rfl h1
    simp only [deI_ints] at this
    exact this
  · cases h
/-- The fit. -/
noncomputable def _root_.Sp.fX (zs : List Int) (n : Nat) (ys : List Int) (k : Nat) (cs : List Int) (l : Nat) : Int := (fitM zs n ys k cs l).1
noncomputable def _root_.Sp.fY (zs : List Int) (n : Nat) (ys : List Int) (k : Nat) (cs : List Int) (l : Nat) : Int := (fitM zs n ys k cs l).2.1
noncomputable def _root_.Sp.fN (zs : List Int) (n : Nat) (ys : List Int) (k : Nat) (cs : List Int) (l : Nat) : Int := (fitM zs n ys k cs l).2.2
noncomputable def orcFitQ : OrcV
  | [.slice (some ⟨0, 0, none⟩) n1 _, .slice (some ⟨1, 0, none⟩) k1 _, .slice (some ⟨2, 0, none⟩) l _, .int .i64 3], [some (.row e 2 true true true), some (.row g 2 true true true), some (.row c 1 true true true)] =>
    some (.tuple #[.agg #[.int .i64 (fX zs n ys k cs l), .int .i64 (fY zs n ys k cs l)], .int .i64 (fN zs n ys k cs l), .int .i64 0], [some (.row e 2 true true true), some (.row g 2 true true true), some (.row c 1 true true true)],
      ((e = ints zs ∧ n1 = n) ∧ (g = ints ys ∧ k1 = k) ∧ c = ints cs) ∧ ftO e n1 g k1 c l ∧ col1 ys k cs l = 0)
  | _, _ => none
theorem okFitQ : OkV Try.prog 13 (orcFitQ zs n ys k cs) := by
  intro args H ret H' vc h hv
  unfold orcFitQ at h
  split at h
  · rename_i n1 a k1 b l c e g cc
    cases h
    obtain ⟨⟨⟨rfl, rfl⟩, ⟨rfl, rfl⟩, rfl⟩, h1, h2⟩ := hv
    have := okFit [.slice (some ⟨0, 0, none⟩) n1 a, .slice (some ⟨1, 0, none⟩) k1 b, .slice (some ⟨2, 0, none⟩) l c, .int .i64 3] [some (.row (ints zs) 2 true true true), some (.row (ints ys) 2 true true true), some (.row (ints cs) 1 true true true)] _ _ _ rfl ⟨h1, by rw [deI_ints, deI_ints]; exact h2⟩
    simp only [deI_ints] at this
    exact this
  · cases h
/-- The profile, moved by its fit. -/
noncomputable def _root_.Sp.fMv (zs : List Int) (n : Nat) (ys : List Int) (k : Nat) (cs : List Int) (l : Nat) : List Int := mvS (fX zs n ys k cs l) (fY zs n ys k cs l) k ys
noncomputable def orcMoQ (l : Nat) : OrcV
  | [.slice (some ⟨0, 0, none⟩) k1 _, .agg ⟨[.int .i64 x, .int .i64 y]⟩], [some (.row e 2 true true true)] =>
    some (.tuple #[.slice (some ⟨1, 0, none⟩) k1 0, .int .i64 0], [some (.row e 2 true true true), some (.row (ints (fMv zs n ys k cs l)) 2 true true true)],
      (e = ints ys ∧ k1 = k) ∧ (x = fX zs n ys k cs l ∧ y = fY zs n ys k cs l) ∧ okZ e k1 ∧ (cmE x y = 0 ∧ mvIn x y) ∧ pfE (fMv zs n ys k cs l) k = 0)
  | _, _ => none
theorem okMoQ (l : Nat) : OkV Try.prog 14 (orcMoQ zs n ys k cs l) := by
  intro args H ret H' vc h hv
  unfold orcMoQ at h
  split at h
  · rename_i k1 c x y e
    cases h
    obtain ⟨⟨rfl, rfl⟩, ⟨rfl, rfl⟩, h1, h2, h3⟩ := hv
    have := okMo [.slice (some ⟨0, 0, none⟩) k1 c, .agg #[.int .i64 (fX zs n ys k1 cs l), .int .i64 (fY zs n ys k1 cs l)]] [some (.row (ints ys) 2 true true true)] _ _ _ rfl ⟨h1, h2, by rw [deI_ints]; exact h3⟩
    simp only [deI_ints] at this
    exact this
  · cases h
end
end
end Qq
end
section
/- The law's conditions, told. -/
open Go Go.Vm Go.Proofs Sp
namespace Sp
noncomputable def mx0 (w : Int) : Int := if w > 0 then w else 0
end Sp
namespace Qq
noncomputable section
section
variable (zs : List Int) (n : Nat) (y1 : List Int) (k1 : Nat) (y2 : List Int) (k2 : Nat) (cs : List Int) (l b0 b1 b2 b3 : Nat)
noncomputable def bG : Heap := [rZv zs, rZv y1, rZv y2, rCv cs]
noncomputable def ar : List Value := [.slice (some ⟨0, 0, none⟩) n b0, .agg #[.slice (some ⟨1, 0, none⟩) k1 b1, .slice (some ⟨2, 0, none⟩) k2 b2], .slice (some ⟨3, 0, none⟩) l b3]
end
/-- Which one of the nine conditions is the first that fails. -/
noncomputable def opT (q : Nat) (y : Nat) : Option (Hint Try.prog) :=
  if y = 101 then some (hTell (!Nat.beq q 0) (hCa Try.prog 4 orcShN okShN))
  else if y = 106 then some (hTell (!Nat.beq q 1) (hCa Try.prog 4 orcShN okShN))
  else if y = 112 then some (hTell (!Nat.beq q 2) (hCa Try.prog 4 orcShN okShN))
  else if y = 118 then some (hTold (Nat.beq q 3))
  else if y = 124 then some (hTold (Nat.beq q 4))
  else if y = 130 then some (hTold (Nat.beq q 5))
  else if y = 135 then some (hTold (Nat.beq q 6))
  else if y = 143 then some (hTold (Nat.beq q 7))
  else if y = 151 then some (hTold (Nat.beq q 8)) else none
noncomputable def hsT (q : Nat) : Hs Try.prog where
  op y := opT q y
  au := auCalls [(5, hCa Try.prog 5 orcPf okPfR), (6, hCa Try.prog 6 orcCR okCR), (7, hCa Try.prog 7 orcJr okJr)]
set_option maxRecDepth 100000 in
theorem jt0_t (zs : List Int) (n : Nat) (y1 : List Int) (k1 : Nat) (y2 : List Int) (k2 : Nat) (cs : List Int) (l : Nat) (b0 : Nat) (b1 : Nat) (b2 : Nat) (b3 : Nat) (K : Value → Heap → Prop) :
    (fnP Try.prog c0 (hsT (0 : Nat)) (3 : FuncId) (ar n k1 k2 l b0 b1 b2 b3) (bG zs y1 y2 cs) K) =
    (Is (True ∧ (decide ((↑n : Int) ≤ (12 : Int)) || (↑n : Int) == (25 : Int)) = false) ∧ Is True ∧ K (Value.bool true) (some (AObj.row (ints zs) (2 : Nat) true false true) :: some (AObj.row (ints y1) (2 : Nat) true false true) :: some (AObj.row (ints y2) (2 : Nat) true false true) :: some (AObj.row (ints cs) (1 : Nat) true false true) :: noH)) := by kernel_rfl
set_option maxRecDepth 100000 in
theorem jt1_t (zs : List Int) (n : Nat) (y1 : List Int) (k1 : Nat) (y2 : List Int) (k2 : Nat) (cs : List Int) (l : Nat) (b0 : Nat) (b1 : Nat) (b2 : Nat) (b3 : Nat) (K : Value → Heap → Prop) :
    (fnP Try.prog c0 (hsT (1 : Nat)) (3 : FuncId) (ar n k1 k2 l b0 b1 b2 b3) (bG zs y1 y2 cs) K) =
    (Is (True ∧ (decide ((↑n : Int) ≤ (12 : Int)) || (↑n : Int) == (25 : Int)) = true) ∧ Is (True ∧ (decide ((↑k1 : Int) ≤ (12 : Int)) || (↑k1 : Int) == (25 : Int)) = false) ∧ Is True ∧ K (Value.bool true) (some (AObj.row (ints zs) (2 : Nat) true false true) :: some (AObj.row (ints y1) (2 : Nat) true false true) :: some (AObj.row (ints y2) (2 : Nat) true false true) :: some (AObj.row (ints cs) (1 : Nat) true false true) :: noH)) := by kernel_rfl
set_option maxRecDepth 100000 in
theorem jt2_t (zs : List Int) (n : Nat) (y1 : List Int) (k1 : Nat) (y2 : List Int) (k2 : Nat) (cs : List Int) (l : Nat) (b0 : Nat) (b1 : Nat) (b2 : Nat) (b3 : Nat) (K : Value → Heap → Prop) :
    (fnP Try.prog c0 (hsT (2 : Nat)) (3 : FuncId) (ar n k1 k2 l b0 b1 b2 b3) (bG zs y1 y2 cs) K) =
    (Is (True ∧ (decide ((↑n : Int) ≤ (12 : Int)) || (↑n : Int) == (25 : Int)) = true) ∧ Is (True ∧ (decide ((↑k1 : Int) ≤ (12 : Int)) || (↑k1 : Int) == (25 : Int)) = true) ∧ Is (True ∧ (decide ((↑k2 : Int) ≤ (12 : Int)) || (↑k2 : Int) == (25 : Int)) = false) ∧ Is True ∧ K (Value.bool true) (some (AObj.row (ints zs) (2 : Nat) true false true) :: some (AObj.row (ints y1) (2 : Nat) true false true) :: some (AObj.row (ints y2) (2 : Nat) true false true) :: some (AObj.row (ints cs) (1 : Nat) true false true) :: noH)) := by kernel_rfl
set_option maxRecDepth 100000 in
theorem jt3_t (zs : List Int) (n : Nat) (y1 : List Int) (k1 : Nat) (y2 : List Int) (k2 : Nat) (cs : List Int) (l : Nat) (b0 : Nat) (b1 : Nat) (b2 : Nat) (b3 : Nat) (K : Value → Heap → Prop) :
    (fnP Try.prog c0 (hsT (3 : Nat)) (3 : FuncId) (ar n k1 k2 l b0 b1 b2 b3) (bG zs y1 y2 cs) K) =
    (Is (True ∧ (decide ((↑n : Int) ≤ (12 : Int)) || (↑n : Int) == (25 : Int)) = true) ∧ Is (True ∧ (decide ((↑k1 : Int) ≤ (12 : Int)) || (↑k1 : Int) == (25 : Int)) = true) ∧ Is (True ∧ (decide ((↑k2 : Int) ≤ (12 : Int)) || (↑k2 : Int) == (25 : Int)) = true) ∧ Is (isZ (ints zs) n) ∧ Is ((pfE (deI (ints zs)) n != (0 : Int)) = true) ∧ Is True ∧ K (Value.bool true) (some (AObj.row (ints zs) (2 : Nat) true false true) :: some (AObj.row (ints y1) (2 : Nat) true false true) :: some (AObj.row (ints y2) (2 : Nat) true false true) :: some (AObj.row (ints cs) (1 : Nat) true false true) :: noH)) := by kernel_rfl
set_option maxRecDepth 100000 in
theorem jt4_t (zs : List Int) (n : Nat) (y1 : List Int) (k1 : Nat) (y2 : List Int) (k2 : Nat) (cs : List Int) (l : Nat) (b0 : Nat) (b1 : Nat) (b2 : Nat) (b3 : Nat) (K : Value → Heap → Prop) :
    (fnP Try.prog c0 (hsT (4 : Nat)) (3 : FuncId) (ar n k1 k2 l b0 b1 b2 b3) (bG zs y1 y2 cs) K) =
    (Is (True ∧ (decide ((↑n : Int) ≤ (12 : Int)) || (↑n : Int) == (25 : Int)) = true) ∧ Is (True ∧ (decide ((↑k1 : Int) ≤ (12 : Int)) || (↑k1 : Int) == (25 : Int)) = true) ∧ Is (True ∧ (decide ((↑k2 : Int) ≤ (12 : Int)) || (↑k2 : Int) == (25 : Int)) = true) ∧ Is (isZ (ints zs) n) ∧ Is ((pfE (deI (ints zs)) n != (0 : Int)) = false) ∧ Is (isZ (ints y1) k1) ∧ Is ((pfE (deI (ints y1)) k1 != (0 : Int)) = true) ∧ Is True ∧ K (Value.bool true) (some (AObj.row (ints zs) (2 : Nat) true false true) :: some (AObj.row (ints y1) (2 : Nat) true false true) :: some (AObj.row (ints y2) (2 : Nat) true false true) :: some (AObj.row (ints cs) (1 : Nat) true false true) :: noH)) := by kernel_rfl
set_option maxRecDepth 100000 in
theorem jt5_t (zs : List Int) (n : Nat) (y1 : List Int) (k1 : Nat) (y2 : List Int) (k2 : Nat) (cs : List Int) (l : Nat) (b0 : Nat) (b1 : Nat) (b2 : Nat) (b3 : Nat) (K : Value → Heap → Prop) :
    (fnP Try.prog c0 (hsT (5 : Nat)) (3 : FuncId) (ar n k1 k2 l b0 b1 b2 b3) (bG zs y1 y2 cs) K) =
    (Is (True ∧ (decide ((↑n : Int) ≤ (12 : Int)) || (↑n : Int) == (25 : Int)) = true) ∧ Is (True ∧ (decide ((↑k1 : Int) ≤ (12 : Int)) || (↑k1 : Int) == (25 : Int)) = true) ∧ Is (True ∧ (decide ((↑k2 : Int) ≤ (12 : Int)) || (↑k2 : Int) == (25 : Int)) = true) ∧ Is (isZ (ints zs) n) ∧ Is ((pfE (deI (ints zs)) n != (0 : Int)) = false) ∧ Is (isZ (ints y1) k1) ∧ Is ((pfE (deI (ints y1)) k1 != (0 : Int)) = false) ∧ Is (isZ (ints y2) k2) ∧ Is ((pfE (deI (ints y2)) k2 != (0 : Int)) = true) ∧ Is True ∧ K (Value.bool true) (some (AObj.row (ints zs) (2 : Nat) true false true) :: some (AObj.row (ints y1) (2 : Nat) true false true) :: some (AObj.row (ints y2) (2 : Nat) true false true) :: some (AObj.row (ints cs) (1 : Nat) true false true) :: noH)) := by kernel_rfl
set_option maxRecDepth 100000 in
theorem jt6_t (zs : List Int) (n : Nat) (y1 : List Int) (k1 : Nat) (y2 : List Int) (k2 : Nat) (cs : List Int) (l : Nat) (b0 : Nat) (b1 : Nat) (b2 : Nat) (b3 : Nat) (K : Value → Heap → Prop) :
    (fnP Try.prog c0 (hsT (6 : Nat)) (3 : FuncId) (ar n k1 k2 l b0 b1 b2 b3) (bG zs y1 y2 cs) K) =
    (Is (True ∧ (decide ((↑n : Int) ≤ (12 : Int)) || (↑n : Int) == (25 : Int)) = true) ∧ Is (True ∧ (decide ((↑k1 : Int) ≤ (12 : Int)) || (↑k1 : Int) == (25 : Int)) = true) ∧ Is (True ∧ (decide ((↑k2 : Int) ≤ (12 : Int)) || (↑k2 : Int) == (25 : Int)) = true) ∧ Is (isZ (ints zs) n) ∧ Is ((pfE (deI (ints zs)) n != (0 : Int)) = false) ∧ Is (isZ (ints y1) k1) ∧ Is ((pfE (deI (ints y1)) k1 != (0 : Int)) = false) ∧ Is (isZ (ints y2) k2) ∧ Is ((pfE (deI (ints y2)) k2 != (0 : Int)) = false) ∧ Is (decide ((12 : Int) < (↑l : Int)) = true) ∧ Is True ∧ K (Value.bool true) (some (AObj.row (ints zs) (2 : Nat) true false true) :: some (AObj.row (ints y1) (2 : Nat) true false true) :: some (AObj.row (ints y2) (2 : Nat) true false true) :: some (AObj.row (ints cs) (1 : Nat) true false true) :: noH)) := by kernel_rfl
set_option maxRecDepth 100000 in
theorem jt7_t (zs : List Int) (n : Nat) (y1 : List Int) (k1 : Nat) (y2 : List Int) (k2 : Nat) (cs : List Int) (l : Nat) (b0 : Nat) (b1 : Nat) (b2 : Nat) (b3 : Nat) (K : Value → Heap → Prop) :
    (fnP Try.prog c0 (hsT (7 : Nat)) (3 : FuncId) (ar n k1 k2 l b0 b1 b2 b3) (bG zs y1 y2 cs) K) =
    (Is (True ∧ (decide ((↑n : Int) ≤ (12 : Int)) || (↑n : Int) == (25 : Int)) = true) ∧ Is (True ∧ (decide ((↑k1 : Int) ≤ (12 : Int)) || (↑k1 : Int) == (25 : Int)) = true) ∧ Is (True ∧ (decide ((↑k2 : Int) ≤ (12 : Int)) || (↑k2 : Int) == (25 : Int)) = true) ∧ Is (isZ (ints zs) n) ∧ Is ((pfE (deI (ints zs)) n != (0 : Int)) = false) ∧ Is (isZ (ints y1) k1) ∧ Is ((pfE (deI (ints y1)) k1 != (0 : Int)) = false) ∧ Is (isZ (ints y2) k2) ∧ Is ((pfE (deI (ints y2)) k2 != (0 : Int)) = false) ∧ Is (decide ((12 : Int) < (↑l : Int)) = false) ∧ Is (isC (ints cs) l ∧ (isZ (ints zs) n ∧ (0 : Nat) < n) ∧ isZ (ints y1) k1 ∧ (0 : Nat) < k1) ∧ Is ((col2 (deI (ints zs)) n (deI (ints y1)) k1 (deI (ints cs)) l != (0 : Int)) = true) ∧ Is True ∧ K (Value.bool true) (some (AObj.row (ints zs) (2 : Nat) true false true) :: some (AObj.row (ints y1) (2 : Nat) true false true) :: some (AObj.row (ints y2) (2 : Nat) true false true) :: some (AObj.row (ints cs) (1 : Nat) true false true) :: noH)) := by kernel_rfl
set_option maxRecDepth 100000 in
theorem jt8_t (zs : List Int) (n : Nat) (y1 : List Int) (k1 : Nat) (y2 : List Int) (k2 : Nat) (cs : List Int) (l : Nat) (b0 : Nat) (b1 : Nat) (b2 : Nat) (b3 : Nat) (K : Value → Heap → Prop) :
    (fnP Try.prog c0 (hsT (8 : Nat)) (3 : FuncId) (ar n k1 k2 l b0 b1 b2 b3) (bG zs y1 y2 cs) K) =
    (Is (True ∧ (decide ((↑n : Int) ≤ (12 : Int)) || (↑n : Int) == (25 : Int)) = true) ∧ Is (True ∧ (decide ((↑k1 : Int) ≤ (12 : Int)) || (↑k1 : Int) == (25 : Int)) = true) ∧ Is (True ∧ (decide ((↑k2 : Int) ≤ (12 : Int)) || (↑k2 : Int) == (25 : Int)) = true) ∧ Is (isZ (ints zs) n) ∧ Is ((pfE (deI (ints zs)) n != (0 : Int)) = false) ∧ Is (isZ (ints y1) k1) ∧ Is ((pfE (deI (ints y1)) k1 != (0 : Int)) = false) ∧ Is (isZ (ints y2) k2) ∧ Is ((pfE (deI (ints y2)) k2 != (0 : Int)) = false) ∧ Is (decide ((12 : Int) < (↑l : Int)) = false) ∧ Is (isC (ints cs) l ∧ (isZ (ints zs) n ∧ (0 : Nat) < n) ∧ isZ (ints y1) k1 ∧ (0 : Nat) < k1) ∧ Is ((col2 (deI (ints zs)) n (deI (ints y1)) k1 (deI (ints cs)) l != (0 : Int)) = false) ∧ Is (isC (ints cs) l ∧ (isZ (ints zs) n ∧ (0 : Nat) < n) ∧ isZ (ints y2) k2 ∧ (0 : Nat) < k2) ∧ Is ((col2 (deI (ints zs)) n (deI (ints y2)) k2 (deI (ints cs)) l != (0 : Int)) = true) ∧ Is True ∧ K (Value.bool true) (some (AObj.row (ints zs) (2 : Nat) true false true) :: some (AObj.row (ints y1) (2 : Nat) true false true) :: some (AObj.row (ints y2) (2 : Nat) true false true) :: some (AObj.row (ints cs) (1 : Nat) true false true) :: noH)) := by kernel_rfl
end
end Qq
end
