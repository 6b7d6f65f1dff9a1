/- Parts of the proof: YGd, YGe, YK2, FlA, FlB, QLR, QLC, QXP, QFF, QHH, RA, RC, RF, RG, RO, RP, YL, YM, YN, YO. -/
import Derived.Test.YtdpnlnfpjmjgaaaGreatDoorZAF
import Ieee.Arith
import Derived.Test.YtdpnlnfpjmjgaaaGreatDoorZAC
import Derived.Test.YtdpnlnfpjmjgaaaGreatDoorZAE
import Derived.Test.YtdpnlnfpjmjgaaaGreatDoorZAD
import Derived.Test.YtdpnlnfpjmjgaaaGreatDoorZAA
section
/- The program's Ranked, the trees for 6 sections. -/
open Go Go.Vm Go.Proofs Sp
namespace Qq
noncomputable section
theorem rk6_t (l : Ls) (x : Int) (K : Value → Heap → Prop) :
    (fnP Tryz.prog cRk (hsRk l x (6 : Nat)) (6 : FuncId) [Value.slice (some { block := (0 : Nat), off := (0 : Nat) }) (6 : Nat) (0 : Nat), Value.int IntKind.i64 x] (owG l (6 : Nat)) K) =
    (Is (isC (Ls.N l (0 : Nat)) (Ls.K l (0 : Nat)) (ints (Ls.zs l (0 : Nat))) (acs (Ls.ks l (0 : Nat)))) ∧ Is True ∧ br (fi [ckC (Ls.nm l (0 : Nat)) (Ls.N l (0 : Nat)) (Ls.K l (0 : Nat)) (ints (Ls.zs l (0 : Nat))) (acs (Ls.ks l (0 : Nat))), wh (hasK (Ls.nm l (0 : Nat)) []) (9 : Int)] != (0 : Int)) (K (Value.tuple #[Value.slice (some { block := (13 : Nat), off := (0 : Nat) }) (0 : Nat) (0 : Nat), Value.int IntKind.i64 (fi [ckC (Ls.nm l (0 : Nat)) (Ls.N l (0 : Nat)) (Ls.K l (0 : Nat)) (ints (Ls.zs l (0 : Nat))) (acs (Ls.ks l (0 : Nat))), wh (hasK (Ls.nm l (0 : Nat)) []) (9 : Int)])]) (owG l 6 ++ some (AObj.row [] (1 : Nat) true true true) :: noH)) (Is (hasK (Ls.nm l (0 : Nat)) [] = false) ∧ Is (isC (Ls.N l (1 : Nat)) (Ls.K l (1 : Nat)) (ints (Ls.zs l (1 : Nat))) (acs (Ls.ks l (1 : Nat)))) ∧ Is True ∧ br (fi [ckC (Ls.nm l (1 : Nat)) (Ls.N l (1 : Nat)) (Ls.K l (1 : Nat)) (ints (Ls.zs l (1 : Nat))) (acs (Ls.ks l (1 : Nat))), wh (hasK (Ls.nm l (1 : Nat)) [(Ls.nm l (0 : Nat), Value.bool true)]) (9 : Int)] != (0 : Int)) (K (Value.tuple #[Value.slice (some { block := (13 : Nat), off := (0 : Nat) }) (0 : Nat) (0 : Nat), Value.int IntKind.i64 (fi [ckC (Ls.nm l (1 : Nat)) (Ls.N l (1 : Nat)) (Ls.K l (1 : Nat)) (ints (Ls.zs l (1 : Nat))) (acs (Ls.ks l (1 : Nat))), wh (hasK (Ls.nm l (1 : Nat)) [(Ls.nm l (0 : Nat), Value.bool true)]) (9 : Int)])]) (owG l 6 ++ some (AObj.row [] (1 : Nat) true true true) :: noH)) (Is (hasK (Ls.nm l (1 : Nat)) [(Ls.nm l (0 : Nat), Value.bool true)] = false) ∧ Is (isC (Ls.N l (2 : Nat)) (Ls.K l (2 : Nat)) (ints (Ls.zs l (2 : Nat))) (acs (Ls.ks l (2 : Nat)))) ∧ Is True ∧ br (fi [ckC (Ls.nm l (2 : Nat)) (Ls.N l (2 : Nat)) (Ls.K l (2 : Nat)) (ints (Ls.zs l (2 : Nat))) (acs (Ls.ks l (2 : Nat))), wh (hasK (Ls.nm l (2 : Nat)) [(Ls.nm l (0 : Nat), Value.bool true), (Ls.nm l (1 : Nat), Value.bool true)]) (9 : Int)] != (0 : Int)) (K (Value.tuple #[Value.slice (some { block := (13 : Nat), off := (0 : Nat) }) (0 : Nat) (0 : Nat), Value.int IntKind.i64 (fi [ckC (Ls.nm l (2 : Nat)) (Ls.N l (2 : Nat)) (Ls.K l (2 : Nat)) (ints (Ls.zs l (2 : Nat))) (acs (Ls.ks l (2 : Nat))), wh (hasK (Ls.nm l (2 : Nat)) [(Ls.nm l (0 : Nat), Value.bool true), (Ls.nm l (1 : Nat), Value.bool true)]) (9 : Int)])]) (owG l 6 ++ some (AObj.row [] (1 : Nat) true true true) :: noH)) (Is (hasK (Ls.nm l (2 : Nat)) [(Ls.nm l (0 : Nat), Value.bool true), (Ls.nm l (1 : Nat), Value.bool true)] = false) ∧ Is (isC (Ls.N l (3 : Nat)) (Ls.K l (3 : Nat)) (ints (Ls.zs l (3 : Nat))) (acs (Ls.ks l (3 : Nat)))) ∧ Is True ∧ br (fi [ckC (Ls.nm l (3 : Nat)) (Ls.N l (3 : Nat)) (Ls.K l (3 : Nat)) (ints (Ls.zs l (3 : Nat))) (acs (Ls.ks l (3 : Nat))), wh (hasK (Ls.nm l (3 : Nat)) [(Ls.nm l (0 : Nat), Value.bool true), (Ls.nm l (1 : Nat), Value.bool true), (Ls.nm l (2 : Nat), Value.bool true)]) (9 : Int)] != (0 : Int)) (K (Value.tuple #[Value.slice (some { block := (13 : Nat), off := (0 : Nat) }) (0 : Nat) (0 : Nat), Value.int IntKind.i64 (fi [ckC (Ls.nm l (3 : Nat)) (Ls.N l (3 : Nat)) (Ls.K l (3 : Nat)) (ints (Ls.zs l (3 : Nat))) (acs (Ls.ks l (3 : Nat))), wh (hasK (Ls.nm l (3 : Nat)) [(Ls.nm l (0 : Nat), Value.bool true), (Ls.nm l (1 : Nat), Value.bool true), (Ls.nm l (2 : Nat), Value.bool true)]) (9 : Int)])]) (owG l 6 ++ some (AObj.row [] (1 : Nat) true true true) :: noH)) (Is (hasK (Ls.nm l (3 : Nat)) [(Ls.nm l (0 : Nat), Value.bool true), (Ls.nm l (1 : Nat), Value.bool true), (Ls.nm l (2 : Nat), Value.bool true)] = false) ∧ Is (isC (Ls.N l (4 : Nat)) (Ls.K l (4 : Nat)) (ints (Ls.zs l (4 : Nat))) (acs (Ls.ks l (4 : Nat)))) ∧ Is True ∧ br (fi [ckC (Ls.nm l (4 : Nat)) (Ls.N l (4 : Nat)) (Ls.K l (4 : Nat)) (ints (Ls.zs l (4 : Nat))) (acs (Ls.ks l (4 : Nat))), wh (hasK (Ls.nm l (4 : Nat)) [(Ls.nm l (0 : Nat), Value.bool true), (Ls.nm l (1 : Nat), Value.bool true), (Ls.nm l (2 : Nat), Value.bool true), (Ls.nm l (3 : Nat), Value.bool true)]) (9 : Int)] != (0 : Int)) (K (Value.tuple #[Value.slice (some { block := (13 : Nat), off := (0 : Nat) }) (0 : Nat) (0 : Nat), Value.int IntKind.i64 (fi [ckC (Ls.nm l (4 : Nat)) (Ls.N l (4 : Nat)) (Ls.K l (4 : Nat)) (ints (Ls.zs l (4 : Nat))) (acs (Ls.ks l (4 : Nat))), wh (hasK (Ls.nm l (4 : Nat)) [(Ls.nm l (0 : Nat), Value.bool true), (Ls.nm l (1 : Nat), Value.bool true), (Ls.nm l (2 : Nat), Value.bool true), (Ls.nm l (3 : Nat), Value.bool true)]) (9 : Int)])]) (owG l 6 ++ some (AObj.row [] (1 : Nat) true true true) :: noH)) (Is (hasK (Ls.nm l (4 : Nat)) [(Ls.nm l (0 : Nat), Value.bool true), (Ls.nm l (1 : Nat), Value.bool true), (Ls.nm l (2 : Nat), Value.bool true), (Ls.nm l (3 : Nat), Value.bool true)] = false) ∧ Is (isC (Ls.N l (5 : Nat)) (Ls.K l (5 : Nat)) (ints (Ls.zs l (5 : Nat))) (acs (Ls.ks l (5 : Nat)))) ∧ Is True ∧ br (fi [ckC (Ls.nm l (5 : Nat)) (Ls.N l (5 : Nat)) (Ls.K l (5 : Nat)) (ints (Ls.zs l (5 : Nat))) (acs (Ls.ks l (5 : Nat))), wh (hasK (Ls.nm l (5 : Nat)) [(Ls.nm l (0 : Nat), Value.bool true), (Ls.nm l (1 : Nat), Value.bool true), (Ls.nm l (2 : Nat), Value.bool true), (Ls.nm l (3 : Nat), Value.bool true), (Ls.nm l (4 : Nat), Value.bool true)]) (9 : Int)] != (0 : Int)) (K (Value.tuple #[Value.slice (some { block := (13 : Nat), off := (0 : Nat) }) (0 : Nat) (0 : Nat), Value.int IntKind.i64 (fi [ckC (Ls.nm l (5 : Nat)) (Ls.N l (5 : Nat)) (Ls.K l (5 : Nat)) (ints (Ls.zs l (5 : Nat))) (acs (Ls.ks l (5 : Nat))), wh (hasK (Ls.nm l (5 : Nat)) [(Ls.nm l (0 : Nat), Value.bool true), (Ls.nm l (1 : Nat), Value.bool true), (Ls.nm l (2 : Nat), Value.bool true), (Ls.nm l (3 : Nat), Value.bool true), (Ls.nm l (4 : Nat), Value.bool true)]) (9 : Int)])]) (owG l 6 ++ some (AObj.row [] (1 : Nat) true true true) :: noH)) (Is (hasK (Ls.nm l (5 : Nat)) [(Ls.nm l (0 : Nat), Value.bool true), (Ls.nm l (1 : Nat), Value.bool true), (Ls.nm l (2 : Nat), Value.bool true), (Ls.nm l (3 : Nat), Value.bool true), (Ls.nm l (4 : Nat), Value.bool true)] = false) ∧ br (wi x (0 : Int) (100000 : Int) != (0 : Int)) (K (Value.tuple #[Value.slice (some { block := (13 : Nat), off := (0 : Nat) }) (0 : Nat) (0 : Nat), Value.int IntKind.i64 (wi x (0 : Int) (100000 : Int))]) (owG l 6 ++ some (AObj.row [] (1 : Nat) true true true) :: noH)) (∃ (p : Unit), (Is (ipC (Ls.N l (0 : Nat)) (Ls.K l (0 : Nat)) (↑(Ls.K l (0 : Nat)) : Int) x (ints (Ls.zs l (0 : Nat))) (acs (Ls.ks l (0 : Nat)))) ∧ br (rdC (Ls.N l (0 : Nat)) (Ls.K l (0 : Nat)) (↑(Ls.K l (0 : Nat)) : Int) x (ints (Ls.zs l (0 : Nat))) (acs (Ls.ks l (0 : Nat))) == (0 : Int)) (∃ (s : Unit), Is True ∧ (Value.slice (some { block := (0 : Nat), off := (0 : Nat) }) (6 : Nat) (0 : Nat) = Value.slice (some { block := (0 : Nat), off := (0 : Nat) }) (6 : Nat) (0 : Nat) ∧ Value.int IntKind.i64 x = Value.int IntKind.i64 x ∧ Value.slice none (0 : Nat) (0 : Nat) = Value.slice none (0 : Nat) (0 : Nat) ∧ Value.pointer (some { block := (13 : Nat), off := (0 : Nat) }) = Value.pointer (some { block := (13 : Nat), off := (0 : Nat) }) ∧ Value.slice (some { block := (0 : Nat), off := (0 : Nat) }) (6 : Nat) (0 : Nat) = Value.slice (some { block := (0 : Nat), off := (0 : Nat) }) (6 : Nat) (0 : Nat) ∧ Value.int IntKind.i64 (6 : Int) = Value.int IntKind.i64 (6 : Int) ∧ Value.int IntKind.i64 (0 : Int) = Value.int IntKind.i64 (0 : Int) ∧ True) ∧ owG l 6 ++ some (AObj.row [poi, poi, poi, Value.int IntKind.i64 (gz (rdC (Ls.N l (0 : Nat)) (Ls.K l (0 : Nat)) (↑(Ls.K l (0 : Nat)) : Int) x (ints (Ls.zs l (0 : Nat))) (acs (Ls.ks l (0 : Nat)))) (rnC (Ls.N l (0 : Nat)) (Ls.K l (0 : Nat)) (↑(Ls.K l (0 : Nat)) : Int) x (ints (Ls.zs l (0 : Nat))) (acs (Ls.ks l (0 : Nat))))), Value.int IntKind.i64 (0 : Int)] (0 : Nat) false true false) :: noH = owG l 6 ++ some (AObj.row [poi, poi, poi, Value.int IntKind.i64 (dI l x (0 : Nat)), Value.int IntKind.i64 (0 : Int)] (0 : Nat) false true false) :: noH) (∃ (s : Unit), Is True ∧ (Value.slice (some { block := (0 : Nat), off := (0 : Nat) }) (6 : Nat) (0 : Nat) = Value.slice (some { block := (0 : Nat), off := (0 : Nat) }) (6 : Nat) (0 : Nat) ∧ Value.int IntKind.i64 x = Value.int IntKind.i64 x ∧ Value.slice none (0 : Nat) (0 : Nat) = Value.slice none (0 : Nat) (0 : Nat) ∧ Value.pointer (some { block := (13 : Nat), off := (0 : Nat) }) = Value.pointer (some { block := (13 : Nat), off := (0 : Nat) }) ∧ Value.slice (some { block := (0 : Nat), off := (0 : Nat) }) (6 : Nat) (0 : Nat) = Value.slice (some { block := (0 : Nat), off := (0 : Nat) }) (6 : Nat) (0 : Nat) ∧ Value.int IntKind.i64 (6 : Int) = Value.int IntKind.i64 (6 : Int) ∧ Value.int IntKind.i64 (0 : Int) = Value.int IntKind.i64 (0 : Int) ∧ True) ∧ owG l 6 ++ some (AObj.row [poi, poi, poi, Value.int IntKind.i64 (100001 : Int), Value.int IntKind.i64 (0 : Int)] (0 : Nat) false true false) :: noH = owG l 6 ++ some (AObj.row [poi, poi, poi, Value.int IntKind.i64 (dI l x (0 : Nat)), Value.int IntKind.i64 (0 : Int)] (0 : Nat) false true false) :: noH)) ∧ ∀ (s : Unit), Is True → ∃ (p : Unit), (Is (ipC (Ls.N l (1 : Nat)) (Ls.K l (1 : Nat)) (↑(Ls.K l (1 : Nat)) : Int) x (ints (Ls.zs l (1 : Nat))) (acs (Ls.ks l (1 : Nat)))) ∧ br (rdC (Ls.N l (1 : Nat)) (Ls.K l (1 : Nat)) (↑(Ls.K l (1 : Nat)) : Int) x (ints (Ls.zs l (1 : Nat))) (acs (Ls.ks l (1 : Nat))) == (0 : Int)) (∃ (s : Unit), Is True ∧ (Value.slice (some { block := (0 : Nat), off := (0 : Nat) }) (6 : Nat) (0 : Nat) = Value.slice (some { block := (0 : Nat), off := (0 : Nat) }) (6 : Nat) (0 : Nat) ∧ Value.int IntKind.i64 x = Value.int IntKind.i64 x ∧ Value.slice (some { block := (13 : Nat), off := (0 : Nat) }) (1 : Nat) (0 : Nat) = Value.slice (some { block := (13 : Nat), off := (0 : Nat) }) (1 : Nat) (0 : Nat) ∧ Value.pointer (some { block := (14 : Nat), off := (0 : Nat) }) = Value.pointer (some { block := (14 : Nat), off := (0 : Nat) }) ∧ Value.slice (some { block := (0 : Nat), off := (0 : Nat) }) (6 : Nat) (0 : Nat) = Value.slice (some { block := (0 : Nat), off := (0 : Nat) }) (6 : Nat) (0 : Nat) ∧ Value.int IntKind.i64 (6 : Int) = Value.int IntKind.i64 (6 : Int) ∧ Value.int IntKind.i64 (1 : Int) = Value.int IntKind.i64 (1 : Int) ∧ True) ∧ owG l 6 ++ some (AObj.row [poi, poi, poi, Value.int IntKind.i64 (dI l x (0 : Nat)), Value.int IntKind.i64 (0 : Int)] (5 : Nat) true true false) :: some (AObj.row [poi, poi, poi, Value.int IntKind.i64 (gz (rdC (Ls.N l (1 : Nat)) (Ls.K l (1 : Nat)) (↑(Ls.K l (1 : Nat)) : Int) x (ints (Ls.zs l (1 : Nat))) (acs (Ls.ks l (1 : Nat)))) (rnC (Ls.N l (1 : Nat)) (Ls.K l (1 : Nat)) (↑(Ls.K l (1 : Nat)) : Int) x (ints (Ls.zs l (1 : Nat))) (acs (Ls.ks l (1 : Nat))))), Value.int IntKind.i64 (1 : Int)] (0 : Nat) false true false) :: noH = owG l 6 ++ some (AObj.row [poi, poi, poi, Value.int IntKind.i64 (dI l x (0 : Nat)), Value.int IntKind.i64 (0 : Int)] (5 : Nat) true true false) :: some (AObj.row [poi, poi, poi, Value.int IntKind.i64 (dI l x (1 : Nat)), Value.int IntKind.i64 (1 : Int)] (0 : Nat) false true false) :: noH) (∃ (s : Unit), Is True ∧ (Value.slice (some { block := (0 : Nat), off := (0 : Nat) }) (6 : Nat) (0 : Nat) = Value.slice (some { block := (0 : Nat), off := (0 : Nat) }) (6 : Nat) (0 : Nat) ∧ Value.int IntKind.i64 x = Value.int IntKind.i64 x ∧ Value.slice (some { block := (13 : Nat), off := (0 : Nat) }) (1 : Nat) (0 : Nat) = Value.slice (some { block := (13 : Nat), off := (0 : Nat) }) (1 : Nat) (0 : Nat) ∧ Value.pointer (some { block := (14 : Nat), off := (0 : Nat) }) = Value.pointer (some { block := (14 : Nat), off := (0 : Nat) }) ∧ Value.slice (some { block := (0 : Nat), off := (0 : Nat) }) (6 : Nat) (0 : Nat) = Value.slice (some { block := (0 : Nat), off := (0 : Nat) }) (6 : Nat) (0 : Nat) ∧ Value.int IntKind.i64 (6 : Int) = Value.int IntKind.i64 (6 : Int) ∧ Value.int IntKind.i64 (1 : Int) = Value.int IntKind.i64 (1 : Int) ∧ True) ∧ owG l 6 ++ some (AObj.row [poi, poi, poi, Value.int IntKind.i64 (dI l x (0 : Nat)), Value.int IntKind.i64 (0 : Int)] (5 : Nat) true true false) :: some (AObj.row [poi, poi, poi, Value.int IntKind.i64 (100001 : Int), Value.int IntKind.i64 (1 : Int)] (0 : Nat) false true false) :: noH = owG l 6 ++ some (AObj.row [poi, poi, poi, Value.int IntKind.i64 (dI l x (0 : Nat)), Value.int IntKind.i64 (0 : Int)] (5 : Nat) true true false) :: some (AObj.row [poi, poi, poi, Value.int IntKind.i64 (dI l x (1 : Nat)), Value.int IntKind.i64 (1 : Int)] (0 : Nat) false true false) :: noH)) ∧ ∀ (s : Unit), Is True → ∃ (p : Unit), (Is (ipC (Ls.N l (2 : Nat)) (Ls.K l (2 : Nat)) (↑(Ls.K l (2 : Nat)) : Int) x (ints (Ls.zs l (2 : Nat))) (acs (Ls.ks l (2 : Nat)))) ∧ br (rdC (Ls.N l (2 : Nat)) (Ls.K l (2 : Nat)) (↑(Ls.K l (2 : Nat)) : Int) x (ints (Ls.zs l (2 : Nat))) (acs (Ls.ks l (2 : Nat))) == (0 : Int)) (∃ (s : Unit), Is True ∧ (Value.slice (some { block := (0 : Nat), off := (0 : Nat) }) (6 : Nat) (0 : Nat) = Value.slice (some { block := (0 : Nat), off := (0 : Nat) }) (6 : Nat) (0 : Nat) ∧ Value.int IntKind.i64 x = Value.int IntKind.i64 x ∧ Value.slice (some { block := (13 : Nat), off := (0 : Nat) }) (2 : Nat) (0 : Nat) = Value.slice (some { block := (13 : Nat), off := (0 : Nat) }) (2 : Nat) (0 : Nat) ∧ Value.pointer (some { block := (14 : Nat), off := (0 : Nat) }) = Value.pointer (some { block := (14 : Nat), off := (0 : Nat) }) ∧ Value.slice (some { block := (0 : Nat), off := (0 : Nat) }) (6 : Nat) (0 : Nat) = Value.slice (some { block := (0 : Nat), off := (0 : Nat) }) (6 : Nat) (0 : Nat) ∧ Value.int IntKind.i64 (6 : Int) = Value.int IntKind.i64 (6 : Int) ∧ Value.int IntKind.i64 (2 : Int) = Value.int IntKind.i64 (2 : Int) ∧ True) ∧ owG l 6 ++ some (AObj.row [poi, poi, poi, Value.int IntKind.i64 (dI l x (0 : Nat)), Value.int IntKind.i64 (0 : Int), poi, poi, poi, Value.int IntKind.i64 (dI l x (1 : Nat)), Value.int IntKind.i64 (1 : Int)] (5 : Nat) true true false) :: some (AObj.row [poi, poi, poi, Value.int IntKind.i64 (gz (rdC (Ls.N l (2 : Nat)) (Ls.K l (2 : Nat)) (↑(Ls.K l (2 : Nat)) : Int) x (ints (Ls.zs l (2 : Nat))) (acs (Ls.ks l (2 : Nat)))) (rnC (Ls.N l (2 : Nat)) (Ls.K l (2 : Nat)) (↑(Ls.K l (2 : Nat)) : Int) x (ints (Ls.zs l (2 : Nat))) (acs (Ls.ks l (2 : Nat))))), Value.int IntKind.i64 (2 : Int)] (0 : Nat) false true false) :: noH = owG l 6 ++ some (AObj.row [poi, poi, poi, Value.int IntKind.i64 (dI l x (0 : Nat)), Value.int IntKind.i64 (0 : Int), poi, poi, poi, Value.int IntKind.i64 (dI l x (1 : Nat)), Value.int IntKind.i64 (1 : Int)] (5 : Nat) true true false) :: some (AObj.row [poi, poi, poi, Value.int IntKind.i64 (dI l x (2 : Nat)), Value.int IntKind.i64 (2 : Int)] (0 : Nat) false true false) :: noH) (∃ (s : Unit), Is True ∧ (Value.slice (some { block := (0 : Nat), off := (0 : Nat) }) (6 : Nat) (0 : Nat) = Value.slice (some { block := (0 : Nat), off := (0 : Nat) }) (6 : Nat) (0 : Nat) ∧ Value.int IntKind.i64 x = Value.int IntKind.i64 x ∧ Value.slice (some { block := (13 : Nat), off := (0 : Nat) }) (2 : Nat) (0 : Nat) = Value.slice (some { block := (13 : Nat), off := (0 : Nat) }) (2 : Nat) (0 : Nat) ∧ Value.pointer (some { block := (14 : Nat), off := (0 : Nat) }) = Value.pointer (some { block := (14 : Nat), off := (0 : Nat) }) ∧ Value.slice (some { block := (0 : Nat), off := (0 : Nat) }) (6 : Nat) (0 : Nat) = Value.slice (some { block := (0 : Nat), off := (0 : Nat) }) (6 : Nat) (0 : Nat) ∧ Value.int IntKind.i64 (6 : Int) = Value.int IntKind.i64 (6 : Int) ∧ Value.int IntKind.i64 (2 : Int) = Value.int IntKind.i64 (2 : Int) ∧ True) ∧ owG l 6 ++ some (AObj.row [poi, poi, poi, Value.int IntKind.i64 (dI l x (0 : Nat)), Value.int IntKind.i64 (0 : Int), poi, poi, poi, Value.int IntKind.i64 (dI l x (1 : Nat)), Value.int IntKind.i64 (1 : Int)] (5 : Nat) true true false) :: some (AObj.row [poi, poi, poi, Value.int IntKind.i64 (100001 : Int), Value.int IntKind.i64 (2 : Int)] (0 : Nat) false true false) :: noH = owG l 6 ++ some (AObj.row [poi, poi, poi, Value.int IntKind.i64 (dI l x (0 : Nat)), Value.int IntKind.i64 (0 : Int), poi, poi, poi, Value.int IntKind.i64 (dI l x (1 : Nat)), Value.int IntKind.i64 (1 : Int)] (5 : Nat) true true false) :: some (AObj.row [poi, poi, poi, Value.int IntKind.i64 (dI l x (2 : Nat)), Value.int IntKind.i64 (2 : Int)] (0 : Nat) false true false) :: noH)) ∧ ∀ (s : Unit), Is True → ∃ (p : Unit), (Is (ipC (Ls.N l (3 : Nat)) (Ls.K l (3 : Nat)) (↑(Ls.K l (3 : Nat)) : Int) x (ints (Ls.zs l (3 : Nat))) (acs (Ls.ks l (3 : Nat)))) ∧ br (rdC (Ls.N l (3 : Nat)) (Ls.K l (3 : Nat)) (↑(Ls.K l (3 : Nat)) : Int) x (ints (Ls.zs l (3 : Nat))) (acs (Ls.ks l (3 : Nat))) == (0 : Int)) (∃ (s : Unit), Is True ∧ (Value.slice (some { block := (0 : Nat), off := (0 : Nat) }) (6 : Nat) (0 : Nat) = Value.slice (some { block := (0 : Nat), off := (0 : Nat) }) (6 : Nat) (0 : Nat) ∧ Value.int IntKind.i64 x = Value.int IntKind.i64 x ∧ Value.slice (some { block := (13 : Nat), off := (0 : Nat) }) (3 : Nat) (0 : Nat) = Value.slice (some { block := (13 : Nat), off := (0 : Nat) }) (3 : Nat) (0 : Nat) ∧ Value.pointer (some { block := (14 : Nat), off := (0 : Nat) }) = Value.pointer (some { block := (14 : Nat), off := (0 : Nat) }) ∧ Value.slice (some { block := (0 : Nat), off := (0 : Nat) }) (6 : Nat) (0 : Nat) = Value.slice (some { block := (0 : Nat), off := (0 : Nat) }) (6 : Nat) (0 : Nat) ∧ Value.int IntKind.i64 (6 : Int) = Value.int IntKind.i64 (6 : Int) ∧ Value.int IntKind.i64 (3 : Int) = Value.int IntKind.i64 (3 : Int) ∧ True) ∧ owG l 6 ++ some (AObj.row [poi, poi, poi, Value.int IntKind.i64 (dI l x (0 : Nat)), Value.int IntKind.i64 (0 : Int), poi, poi, poi, Value.int IntKind.i64 (dI l x (1 : Nat)), Value.int IntKind.i64 (1 : Int), poi, poi, poi, Value.int IntKind.i64 (dI l x (2 : Nat)), Value.int IntKind.i64 (2 : Int)] (5 : Nat) true true false) :: some (AObj.row [poi, poi, poi, Value.int IntKind.i64 (gz (rdC (Ls.N l (3 : Nat)) (Ls.K l (3 : Nat)) (↑(Ls.K l (3 : Nat)) : Int) x (ints (Ls.zs l (3 : Nat))) (acs (Ls.ks l (3 : Nat)))) (rnC (Ls.N l (3 : Nat)) (Ls.K l (3 : Nat)) (↑(Ls.K l (3 : Nat)) : Int) x (ints (Ls.zs l (3 : Nat))) (acs (Ls.ks l (3 : Nat))))), Value.int IntKind.i64 (3 : Int)] (0 : Nat) false true false) :: noH = owG l 6 ++ some (AObj.row [poi, poi, poi, Value.int IntKind.i64 (dI l x (0 : Nat)), Value.int IntKind.i64 (0 : Int), poi, poi, poi, Value.int IntKind.i64 (dI l x (1 : Nat)), Value.int IntKind.i64 (1 : Int), poi, poi, poi, Value.int IntKind.i64 (dI l x (2 : Nat)), Value.int IntKind.i64 (2 : Int)] (5 : Nat) true true false) :: some (AObj.row [poi, poi, poi, Value.int IntKind.i64 (dI l x (3 : Nat)), Value.int IntKind.i64 (3 : Int)] (0 : Nat) false true false) :: noH) (∃ (s : Unit), Is True ∧ (Value.slice (some { block := (0 : Nat), off := (0 : Nat) }) (6 : Nat) (0 : Nat) = Value.slice (some { block := (0 : Nat), off := (0 : Nat) }) (6 : Nat) (0 : Nat) ∧ Value.int IntKind.i64 x = Value.int IntKind.i64 x ∧ Value.slice (some { block := (13 : Nat), off := (0 : Nat) }) (3 : Nat) (0 : Nat) = Value.slice (some { block := (13 : Nat), off := (0 : Nat) }) (3 : Nat) (0 : Nat) ∧ Value.pointer (some { block := (14 : Nat), off := (0 : Nat) }) = Value.pointer (some { block := (14 : Nat), off := (0 : Nat) }) ∧ Value.slice (some { block := (0 : Nat), off := (0 : Nat) }) (6 : Nat) (0 : Nat) = Value.slice (some { block := (0 : Nat), off := (0 : Nat) }) (6 : Nat) (0 : Nat) ∧ Value.int IntKind.i64 (6 : Int) = Value.int IntKind.i64 (6 : Int) ∧ Value.int IntKind.i64 (3 : Int) = Value.int IntKind.i64 (3 : Int) ∧ True) ∧ owG l 6 ++ some (AObj.row [poi, poi, poi, Value.int IntKind.i64 (dI l x (0 : Nat)), Value.int IntKind.i64 (0 : Int), poi, poi, poi, Value.int IntKind.i64 (dI l x (1 : Nat)), Value.int IntKind.i64 (1 : Int), poi, poi, poi, Value.int IntKind.i64 (dI l x (2 : Nat)), Value.int IntKind.i64 (2 : Int)] (5 : Nat) true true false) :: some (AObj.row [poi, poi, poi, Value.int IntKind.i64 (100001 : Int), Value.int IntKind.i64 (3 : Int)] (0 : Nat) false true false) :: noH = owG l 6 ++ some (AObj.row [poi, poi, poi, Value.int IntKind.i64 (dI l x (0 : Nat)), Value.int IntKind.i64 (0 : Int), poi, poi, poi, Value.int IntKind.i64 (dI l x (1 : Nat)), Value.int IntKind.i64 (1 : Int), poi, poi, poi, Value.int IntKind.i64 (dI l x (2 : Nat)), Value.int IntKind.i64 (2 : Int)] (5 : Nat) true true false) :: some (AObj.row [poi, poi, poi, Value.int IntKind.i64 (dI l x (3 : Nat)), Value.int IntKind.i64 (3 : Int)] (0 : Nat) false true false) :: noH)) ∧ ∀ (s : Unit), Is True → ∃ (p : Unit), (Is (ipC (Ls.N l (4 : Nat)) (Ls.K l (4 : Nat)) (↑(Ls.K l (4 : Nat)) : Int) x (ints (Ls.zs l (4 : Nat))) (acs (Ls.ks l (4 : Nat)))) ∧ br (rdC (Ls.N l (4 : Nat)) (Ls.K l (4 : Nat)) (↑(Ls.K l (4 : Nat)) : Int) x (ints (Ls.zs l (4 : Nat))) (acs (Ls.ks l (4 : Nat))) == (0 : Int)) (∃ (s : Unit), Is True ∧ (Value.slice (some { block := (0 : Nat), off := (0 : Nat) }) (6 : Nat) (0 : Nat) = Value.slice (some { block := (0 : Nat), off := (0 : Nat) }) (6 : Nat) (0 : Nat) ∧ Value.int IntKind.i64 x = Value.int IntKind.i64 x ∧ Value.slice (some { block := (13 : Nat), off := (0 : Nat) }) (4 : Nat) (0 : Nat) = Value.slice (some { block := (13 : Nat), off := (0 : Nat) }) (4 : Nat) (0 : Nat) ∧ Value.pointer (some { block := (14 : Nat), off := (0 : Nat) }) = Value.pointer (some { block := (14 : Nat), off := (0 : Nat) }) ∧ Value.slice (some { block := (0 : Nat), off := (0 : Nat) }) (6 : Nat) (0 : Nat) = Value.slice (some { block := (0 : Nat), off := (0 : Nat) }) (6 : Nat) (0 : Nat) ∧ Value.int IntKind.i64 (6 : Int) = Value.int IntKind.i64 (6 : Int) ∧ Value.int IntKind.i64 (4 : Int) = Value.int IntKind.i64 (4 : Int) ∧ True) ∧ owG l 6 ++ some (AObj.row [poi, poi, poi, Value.int IntKind.i64 (dI l x (0 : Nat)), Value.int IntKind.i64 (0 : Int), poi, poi, poi, Value.int IntKind.i64 (dI l x (1 : Nat)), Value.int IntKind.i64 (1 : Int), poi, poi, poi, Value.int IntKind.i64 (dI l x (2 : Nat)), Value.int IntKind.i64 (2 : Int), poi, poi, poi, Value.int IntKind.i64 (dI l x (3 : Nat)), Value.int IntKind.i64 (3 : Int)] (5 : Nat) true true false) :: some (AObj.row [poi, poi, poi, Value.int IntKind.i64 (gz (rdC (Ls.N l (4 : Nat)) (Ls.K l (4 : Nat)) (↑(Ls.K l (4 : Nat)) : Int) x (ints (Ls.zs l (4 : Nat))) (acs (Ls.ks l (4 : Nat)))) (rnC (Ls.N l (4 : Nat)) (Ls.K l (4 : Nat)) (↑(Ls.K l (4 : Nat)) : Int) x (ints (Ls.zs l (4 : Nat))) (acs (Ls.ks l (4 : Nat))))), Value.int IntKind.i64 (4 : Int)] (0 : Nat) false true false) :: noH = owG l 6 ++ some (AObj.row [poi, poi, poi, Value.int IntKind.i64 (dI l x (0 : Nat)), Value.int IntKind.i64 (0 : Int), poi, poi, poi, Value.int IntKind.i64 (dI l x (1 : Nat)), Value.int IntKind.i64 (1 : Int), poi, poi, poi, Value.int IntKind.i64 (dI l x (2 : Nat)), Value.int IntKind.i64 (2 : Int), poi, poi, poi, Value.int IntKind.i64 (dI l x (3 : Nat)), Value.int IntKind.i64 (3 : Int)] (5 : Nat) true true false) :: some (AObj.row [poi, poi, poi, Value.int IntKind.i64 (dI l x (4 : Nat)), Value.int IntKind.i64 (4 : Int)] (0 : Nat) false true false) :: noH) (∃ (s : Unit), Is True ∧ (Value.slice (some { block := (0 : Nat), off := (0 : Nat) }) (6 : Nat) (0 : Nat) = Value.slice (some { block := (0 : Nat), off := (0 : Nat) }) (6 : Nat) (0 : Nat) ∧ Value.int IntKind.i64 x = Value.int IntKind.i64 x ∧ Value.slice (some { block := (13 : Nat), off := (0 : Nat) }) (4 : Nat) (0 : Nat) = Value.slice (some { block := (13 : Nat), off := (0 : Nat) }) (4 : Nat) (0 : Nat) ∧ Value.pointer (some { block := (14 : Nat), off := (0 : Nat) }) = Value.pointer (some { block := (14 : Nat), off := (0 : Nat) }) ∧ Value.slice (some { block := (0 : Nat), off := (0 : Nat) }) (6 : Nat) (0 : Nat) = Value.slice (some { block := (0 : Nat), off := (0 : Nat) }) (6 : Nat) (0 : Nat) ∧ Value.int IntKind.i64 (6 : Int) = Value.int IntKind.i64 (6 : Int) ∧ Value.int IntKind.i64 (4 : Int) = Value.int IntKind.i64 (4 : Int) ∧ True) ∧ owG l 6 ++ some (AObj.row [poi, poi, poi, Value.int IntKind.i64 (dI l x (0 : Nat)), Value.int IntKind.i64 (0 : Int), poi, poi, poi, Value.int IntKind.i64 (dI l x (1 : Nat)), Value.int IntKind.i64 (1 : Int), poi, poi, poi, Value.int IntKind.i64 (dI l x (2 : Nat)), Value.int IntKind.i64 (2 : Int), poi, poi, poi, Value.int IntKind.i64 (dI l x (3 : Nat)), Value.int IntKind.i64 (3 : Int)] (5 : Nat) true true false) :: some (AObj.row [poi, poi, poi, Value.int IntKind.i64 (100001 : Int), Value.int IntKind.i64 (4 : Int)] (0 : Nat) false true false) :: noH = owG l 6 ++ some (AObj.row [poi, poi, poi, Value.int IntKind.i64 (dI l x (0 : Nat)), Value.int IntKind.i64 (0 : Int), poi, poi, poi, Value.int IntKind.i64 (dI l x (1 : Nat)), Value.int IntKind.i64 (1 : Int), poi, poi, poi, Value.int IntKind.i64 (dI l x (2 : Nat)), Value.int IntKind.i64 (2 : Int), poi, poi, poi, Value.int IntKind.i64 (dI l x (3 : Nat)), Value.int IntKind.i64 (3 : Int)] (5 : Nat) true true false) :: some (AObj.row [poi, poi, poi, Value.int IntKind.i64 (dI l x (4 : Nat)), Value.int IntKind.i64 (4 : Int)] (0 : Nat) false true false) :: noH)) ∧ ∀ (s : Unit), Is True → ∃ (p : Unit), (Is (ipC (Ls.N l (5 : Nat)) (Ls.K l (5 : Nat)) (↑(Ls.K l (5 : Nat)) : Int) x (ints (Ls.zs l (5 : Nat))) (acs (Ls.ks l (5 : Nat)))) ∧ br (rdC (Ls.N l (5 : Nat)) (Ls.K l (5 : Nat)) (↑(Ls.K l (5 : Nat)) : Int) x (ints (Ls.zs l (5 : Nat))) (acs (Ls.ks l (5 : Nat))) == (0 : Int)) (∃ (s : Unit), Is True ∧ (Value.slice (some { block := (0 : Nat), off := (0 : Nat) }) (6 : Nat) (0 : Nat) = Value.slice (some { block := (0 : Nat), off := (0 : Nat) }) (6 : Nat) (0 : Nat) ∧ Value.int IntKind.i64 x = Value.int IntKind.i64 x ∧ Value.slice (some { block := (13 : Nat), off := (0 : Nat) }) (5 : Nat) (0 : Nat) = Value.slice (some { block := (13 : Nat), off := (0 : Nat) }) (5 : Nat) (0 : Nat) ∧ Value.pointer (some { block := (14 : Nat), off := (0 : Nat) }) = Value.pointer (some { block := (14 : Nat), off := (0 : Nat) }) ∧ Value.slice (some { block := (0 : Nat), off := (0 : Nat) }) (6 : Nat) (0 : Nat) = Value.slice (some { block := (0 : Nat), off := (0 : Nat) }) (6 : Nat) (0 : Nat) ∧ Value.int IntKind.i64 (6 : Int) = Value.int IntKind.i64 (6 : Int) ∧ Value.int IntKind.i64 (5 : Int) = Value.int IntKind.i64 (5 : Int) ∧ True) ∧ owG l 6 ++ some (AObj.row [poi, poi, poi, Value.int IntKind.i64 (dI l x (0 : Nat)), Value.int IntKind.i64 (0 : Int), poi, poi, poi, Value.int IntKind.i64 (dI l x (1 : Nat)), Value.int IntKind.i64 (1 : Int), poi, poi, poi, Value.int IntKind.i64 (dI l x (2 : Nat)), Value.int IntKind.i64 (2 : Int), poi, poi, poi, Value.int IntKind.i64 (dI l x (3 : Nat)), Value.int IntKind.i64 (3 : Int), poi, poi, poi, Value.int IntKind.i64 (dI l x (4 : Nat)), Value.int IntKind.i64 (4 : Int)] (5 : Nat) true true false) :: some (AObj.row [poi, poi, poi, Value.int IntKind.i64 (gz (rdC (Ls.N l (5 : Nat)) (Ls.K l (5 : Nat)) (↑(Ls.K l (5 : Nat)) : Int) x (ints (Ls.zs l (5 : Nat))) (acs (Ls.ks l (5 : Nat)))) (rnC (Ls.N l (5 : Nat)) (Ls.K l (5 : Nat)) (↑(Ls.K l (5 : Nat)) : Int) x (ints (Ls.zs l (5 : Nat))) (acs (Ls.ks l (5 : Nat))))), Value.int IntKind.i64 (5 : Int)] (0 : Nat) false true false) :: noH = owG l 6 ++ some (AObj.row [poi, poi, poi, Value.int IntKind.i64 (dI l x (0 : Nat)), Value.int IntKind.i64 (0 : Int), poi, poi, poi, Value.int IntKind.i64 (dI l x (1 : Nat)), Value.int IntKind.i64 (1 : Int), poi, poi, poi, Value.int IntKind.i64 (dI l x (2 : Nat)), Value.int IntKind.i64 (2 : Int), poi, poi, poi, Value.int IntKind.i64 (dI l x (3 : Nat)), Value.int IntKind.i64 (3 : Int), poi, poi, poi, Value.int IntKind.i64 (dI l x (4 : Nat)), Value.int IntKind.i64 (4 : Int)] (5 : Nat) true true false) :: some (AObj.row [poi, poi, poi, Value.int IntKind.i64 (dI l x (5 : Nat)), Value.int IntKind.i64 (5 : Int)] (0 : Nat) false true false) :: noH) (∃ (s : Unit), Is True ∧ (Value.slice (some { block := (0 : Nat), off := (0 : Nat) }) (6 : Nat) (0 : Nat) = Value.slice (some { block := (0 : Nat), off := (0 : Nat) }) (6 : Nat) (0 : Nat) ∧ Value.int IntKind.i64 x = Value.int IntKind.i64 x ∧ Value.slice (some { block := (13 : Nat), off := (0 : Nat) }) (5 : Nat) (0 : Nat) = Value.slice (some { block := (13 : Nat), off := (0 : Nat) }) (5 : Nat) (0 : Nat) ∧ Value.pointer (some { block := (14 : Nat), off := (0 : Nat) }) = Value.pointer (some { block := (14 : Nat), off := (0 : Nat) }) ∧ Value.slice (some { block := (0 : Nat), off := (0 : Nat) }) (6 : Nat) (0 : Nat) = Value.slice (some { block := (0 : Nat), off := (0 : Nat) }) (6 : Nat) (0 : Nat) ∧ Value.int IntKind.i64 (6 : Int) = Value.int IntKind.i64 (6 : Int) ∧ Value.int IntKind.i64 (5 : Int) = Value.int IntKind.i64 (5 : Int) ∧ True) ∧ owG l 6 ++ some (AObj.row [poi, poi, poi, Value.int IntKind.i64 (dI l x (0 : Nat)), Value.int IntKind.i64 (0 : Int), poi, poi, poi, Value.int IntKind.i64 (dI l x (1 : Nat)), Value.int IntKind.i64 (1 : Int), poi, poi, poi, Value.int IntKind.i64 (dI l x (2 : Nat)), Value.int IntKind.i64 (2 : Int), poi, poi, poi, Value.int IntKind.i64 (dI l x (3 : Nat)), Value.int IntKind.i64 (3 : Int), poi, poi, poi, Value.int IntKind.i64 (dI l x (4 : Nat)), Value.int IntKind.i64 (4 : Int)] (5 : Nat) true true false) :: some (AObj.row [poi, poi, poi, Value.int IntKind.i64 (100001 : Int), Value.int IntKind.i64 (5 : Int)] (0 : Nat) false true false) :: noH = owG l 6 ++ some (AObj.row [poi, poi, poi, Value.int IntKind.i64 (dI l x (0 : Nat)), Value.int IntKind.i64 (0 : Int), poi, poi, poi, Value.int IntKind.i64 (dI l x (1 : Nat)), Value.int IntKind.i64 (1 : Int), poi, poi, poi, Value.int IntKind.i64 (dI l x (2 : Nat)), Value.int IntKind.i64 (2 : Int), poi, poi, poi, Value.int IntKind.i64 (dI l x (3 : Nat)), Value.int IntKind.i64 (3 : Int), poi, poi, poi, Value.int IntKind.i64 (dI l x (4 : Nat)), Value.int IntKind.i64 (4 : Int)] (5 : Nat) true true false) :: some (AObj.row [poi, poi, poi, Value.int IntKind.i64 (dI l x (5 : Nat)), Value.int IntKind.i64 (5 : Int)] (0 : Nat) false true false) :: noH)) ∧ ∀ (s : Unit), Is True → K (Value.tuple #[Value.slice (some { block := (13 : Nat), off := (0 : Nat) }) (6 : Nat) (0 : Nat), Value.int IntKind.i64 (0 : Int)]) (owG l 6 ++ some (AObj.row [Value.int IntKind.i64 (sN [dI l x (0 : Nat), dI l x (1 : Nat), dI l x (2 : Nat), dI l x (3 : Nat), dI l x (4 : Nat), dI l x (5 : Nat)] (6 : Nat) (0 : Nat)), Value.int IntKind.i64 (sN [dI l x (0 : Nat), dI l x (1 : Nat), dI l x (2 : Nat), dI l x (3 : Nat), dI l x (4 : Nat), dI l x (5 : Nat)] (6 : Nat) (1 : Nat)), Value.int IntKind.i64 (sN [dI l x (0 : Nat), dI l x (1 : Nat), dI l x (2 : Nat), dI l x (3 : Nat), dI l x (4 : Nat), dI l x (5 : Nat)] (6 : Nat) (2 : Nat)), Value.int IntKind.i64 (sN [dI l x (0 : Nat), dI l x (1 : Nat), dI l x (2 : Nat), dI l x (3 : Nat), dI l x (4 : Nat), dI l x (5 : Nat)] (6 : Nat) (3 : Nat)), Value.int IntKind.i64 (sN [dI l x (0 : Nat), dI l x (1 : Nat), dI l x (2 : Nat), dI l x (3 : Nat), dI l x (4 : Nat), dI l x (5 : Nat)] (6 : Nat) (4 : Nat)), Value.int IntKind.i64 (sN [dI l x (0 : Nat), dI l x (1 : Nat), dI l x (2 : Nat), dI l x (3 : Nat), dI l x (4 : Nat), dI l x (5 : Nat)] (6 : Nat) (5 : Nat))] (1 : Nat) true true (List.all [Value.int IntKind.i64 (sN [dI l x (0 : Nat), dI l x (1 : Nat), dI l x (2 : Nat), dI l x (3 : Nat), dI l x (4 : Nat), dI l x (5 : Nat)] (6 : Nat) (0 : Nat))] atom && List.all [Value.int IntKind.i64 (sN [dI l x (0 : Nat), dI l x (1 : Nat), dI l x (2 : Nat), dI l x (3 : Nat), dI l x (4 : Nat), dI l x (5 : Nat)] (6 : Nat) (1 : Nat))] atom && List.all [Value.int IntKind.i64 (sN [dI l x (0 : Nat), dI l x (1 : Nat), dI l x (2 : Nat), dI l x (3 : Nat), dI l x (4 : Nat), dI l x (5 : Nat)] (6 : Nat) (2 : Nat))] atom && List.all [Value.int IntKind.i64 (sN [dI l x (0 : Nat), dI l x (1 : Nat), dI l x (2 : Nat), dI l x (3 : Nat), dI l x (4 : Nat), dI l x (5 : Nat)] (6 : Nat) (3 : Nat))] atom && List.all [Value.int IntKind.i64 (sN [dI l x (0 : Nat), dI l x (1 : Nat), dI l x (2 : Nat), dI l x (3 : Nat), dI l x (4 : Nat), dI l x (5 : Nat)] (6 : Nat) (4 : Nat))] atom && List.all [Value.int IntKind.i64 (sN [dI l x (0 : Nat), dI l x (1 : Nat), dI l x (2 : Nat), dI l x (3 : Nat), dI l x (4 : Nat), dI l x (5 : Nat)] (6 : Nat) (5 : Nat))] atom)) :: noH))))))))) := by kernel_rfl
end
end Qq
end
section
/- The program's Ranked, the trees for 5 sections. -/
open Go Go.Vm Go.Proofs Sp
namespace Qq
noncomputable section
theorem rk5_t (l : Ls) (x : Int) (K : Value → Heap → Prop) :
    (fnP Tryz.prog cRk (hsRk l x (5 : Nat)) (6 : FuncId) [Value.slice (some { block := (0 : Nat), off := (0 : Nat) }) (5 : Nat) (0 : Nat), Value.int IntKind.i64 x] (owG l (5 : Nat)) K) =
    (Is (isC (Ls.N l (0 : Nat)) (Ls.K l (0 : Nat)) (ints (Ls.zs l (0 : Nat))) (acs (Ls.ks l (0 : Nat)))) ∧ Is True ∧ br (fi [ckC (Ls.nm l (0 : Nat)) (Ls.N l (0 : Nat)) (Ls.K l (0 : Nat)) (ints (Ls.zs l (0 : Nat))) (acs (Ls.ks l (0 : Nat))), wh (hasK (Ls.nm l (0 : Nat)) []) (9 : Int)] != (0 : Int)) (K (Value.tuple #[Value.slice (some { block := (11 : Nat), off := (0 : Nat) }) (0 : Nat) (0 : Nat), Value.int IntKind.i64 (fi [ckC (Ls.nm l (0 : Nat)) (Ls.N l (0 : Nat)) (Ls.K l (0 : Nat)) (ints (Ls.zs l (0 : Nat))) (acs (Ls.ks l (0 : Nat))), wh (hasK (Ls.nm l (0 : Nat)) []) (9 : Int)])]) (owG l 5 ++ some (AObj.row [] (1 : Nat) true true true) :: noH)) (Is (hasK (Ls.nm l (0 : Nat)) [] = false) ∧ Is (isC (Ls.N l (1 : Nat)) (Ls.K l (1 : Nat)) (ints (Ls.zs l (1 : Nat))) (acs (Ls.ks l (1 : Nat)))) ∧ Is True ∧ br (fi [ckC (Ls.nm l (1 : Nat)) (Ls.N l (1 : Nat)) (Ls.K l (1 : Nat)) (ints (Ls.zs l (1 : Nat))) (acs (Ls.ks l (1 : Nat))), wh (hasK (Ls.nm l (1 : Nat)) [(Ls.nm l (0 : Nat), Value.bool true)]) (9 : Int)] != (0 : Int)) (K (Value.tuple #[Value.slice (some { block := (11 : Nat), off := (0 : Nat) }) (0 : Nat) (0 : Nat), Value.int IntKind.i64 (fi [ckC (Ls.nm l (1 : Nat)) (Ls.N l (1 : Nat)) (Ls.K l (1 : Nat)) (ints (Ls.zs l (1 : Nat))) (acs (Ls.ks l (1 : Nat))), wh (hasK (Ls.nm l (1 : Nat)) [(Ls.nm l (0 : Nat), Value.bool true)]) (9 : Int)])]) (owG l 5 ++ some (AObj.row [] (1 : Nat) true true true) :: noH)) (Is (hasK (Ls.nm l (1 : Nat)) [(Ls.nm l (0 : Nat), Value.bool true)] = false) ∧ Is (isC (Ls.N l (2 : Nat)) (Ls.K l (2 : Nat)) (ints (Ls.zs l (2 : Nat))) (acs (Ls.ks l (2 : Nat)))) ∧ Is True ∧ br (fi [ckC (Ls.nm l (2 : Nat)) (Ls.N l (2 : Nat)) (Ls.K l (2 : Nat)) (ints (Ls.zs l (2 : Nat))) (acs (Ls.ks l (2 : Nat))), wh (hasK (Ls.nm l (2 : Nat)) [(Ls.nm l (0 : Nat), Value.bool true), (Ls.nm l (1 : Nat), Value.bool true)]) (9 : Int)] != (0 : Int)) (K (Value.tuple #[Value.slice (some { block := (11 : Nat), off := (0 : Nat) }) (0 : Nat) (0 : Nat), Value.int IntKind.i64 (fi [ckC (Ls.nm l (2 : Nat)) (Ls.N l (2 : Nat)) (Ls.K l (2 : Nat)) (ints (Ls.zs l (2 : Nat))) (acs (Ls.ks l (2 : Nat))), wh (hasK (Ls.nm l (2 : Nat)) [(Ls.nm l (0 : Nat), Value.bool true), (Ls.nm l (1 : Nat), Value.bool true)]) (9 : Int)])]) (owG l 5 ++ some (AObj.row [] (1 : Nat) true true true) :: noH)) (Is (hasK (Ls.nm l (2 : Nat)) [(Ls.nm l (0 : Nat), Value.bool true), (Ls.nm l (1 : Nat), Value.bool true)] = false) ∧ Is (isC (Ls.N l (3 : Nat)) (Ls.K l (3 : Nat)) (ints (Ls.zs l (3 : Nat))) (acs (Ls.ks l (3 : Nat)))) ∧ Is True ∧ br (fi [ckC (Ls.nm l (3 : Nat)) (Ls.N l (3 : Nat)) (Ls.K l (3 : Nat)) (ints (Ls.zs l (3 : Nat))) (acs (Ls.ks l (3 : Nat))), wh (hasK (Ls.nm l (3 : Nat)) [(Ls.nm l (0 : Nat), Value.bool true), (Ls.nm l (1 : Nat), Value.bool true), (Ls.nm l (2 : Nat), Value.bool true)]) (9 : Int)] != (0 : Int)) (K (Value.tuple #[Value.slice (some { block := (11 : Nat), off := (0 : Nat) }) (0 : Nat) (0 : Nat), Value.int IntKind.i64 (fi [ckC (Ls.nm l (3 : Nat)) (Ls.N l (3 : Nat)) (Ls.K l (3 : Nat)) (ints (Ls.zs l (3 : Nat))) (acs (Ls.ks l (3 : Nat))), wh (hasK (Ls.nm l (3 : Nat)) [(Ls.nm l (0 : Nat), Value.bool true), (Ls.nm l (1 : Nat), Value.bool true), (Ls.nm l (2 : Nat), Value.bool true)]) (9 : Int)])]) (owG l 5 ++ some (AObj.row [] (1 : Nat) true true true) :: noH)) (Is (hasK (Ls.nm l (3 : Nat)) [(Ls.nm l (0 : Nat), Value.bool true), (Ls.nm l (1 : Nat), Value.bool true), (Ls.nm l (2 : Nat), Value.bool true)] = false) ∧ Is (isC (Ls.N l (4 : Nat)) (Ls.K l (4 : Nat)) (ints (Ls.zs l (4 : Nat))) (acs (Ls.ks l (4 : Nat)))) ∧ Is True ∧ br (fi [ckC (Ls.nm l (4 : Nat)) (Ls.N l (4 : Nat)) (Ls.K l (4 : Nat)) (ints (Ls.zs l (4 : Nat))) (acs (Ls.ks l (4 : Nat))), wh (hasK (Ls.nm l (4 : Nat)) [(Ls.nm l (0 : Nat), Value.bool true), (Ls.nm l (1 : Nat), Value.bool true), (Ls.nm l (2 : Nat), Value.bool true), (Ls.nm l (3 : Nat), Value.bool true)]) (9 : Int)] != (0 : Int)) (K (Value.tuple #[Value.slice (some { block := (11 : Nat), off := (0 : Nat) }) (0 : Nat) (0 : Nat), Value.int IntKind.i64 (fi [ckC (Ls.nm l (4 : Nat)) (Ls.N l (4 : Nat)) (Ls.K l (4 : Nat)) (ints (Ls.zs l (4 : Nat))) (acs (Ls.ks l (4 : Nat))), wh (hasK (Ls.nm l (4 : Nat)) [(Ls.nm l (0 : Nat), Value.bool true), (Ls.nm l (1 : Nat), Value.bool true), (Ls.nm l (2 : Nat), Value.bool true), (Ls.nm l (3 : Nat), Value.bool true)]) (9 : Int)])]) (owG l 5 ++ some (AObj.row [] (1 : Nat) true true true) :: noH)) (Is (hasK (Ls.nm l (4 : Nat)) [(Ls.nm l (0 : Nat), Value.bool true), (Ls.nm l (1 : Nat), Value.bool true), (Ls.nm l (2 : Nat), Value.bool true), (Ls.nm l (3 : Nat), Value.bool true)] = false) ∧ br (wi x (0 : Int) (100000 : Int) != (0 : Int)) (K (Value.tuple #[Value.slice (some { block := (11 : Nat), off := (0 : Nat) }) (0 : Nat) (0 : Nat), Value.int IntKind.i64 (wi x (0 : Int) (100000 : Int))]) (owG l 5 ++ some (AObj.row [] (1 : Nat) true true true) :: noH)) (∃ (p : Unit), (Is (ipC (Ls.N l (0 : Nat)) (Ls.K l (0 : Nat)) (↑(Ls.K l (0 : Nat)) : Int) x (ints (Ls.zs l (0 : Nat))) (acs (Ls.ks l (0 : Nat)))) ∧ br (rdC (Ls.N l (0 : Nat)) (Ls.K l (0 : Nat)) (↑(Ls.K l (0 : Nat)) : Int) x (ints (Ls.zs l (0 : Nat))) (acs (Ls.ks l (0 : Nat))) == (0 : Int)) (∃ (s : Unit), Is True ∧ (Value.slice (some { block := (0 : Nat), off := (0 : Nat) }) (5 : Nat) (0 : Nat) = Value.slice (some { block := (0 : Nat), off := (0 : Nat) }) (5 : Nat) (0 : Nat) ∧ Value.int IntKind.i64 x = Value.int IntKind.i64 x ∧ Value.slice none (0 : Nat) (0 : Nat) = Value.slice none (0 : Nat) (0 : Nat) ∧ Value.pointer (some { block := (11 : Nat), off := (0 : Nat) }) = Value.pointer (some { block := (11 : Nat), off := (0 : Nat) }) ∧ Value.slice (some { block := (0 : Nat), off := (0 : Nat) }) (5 : Nat) (0 : Nat) = Value.slice (some { block := (0 : Nat), off := (0 : Nat) }) (5 : Nat) (0 : Nat) ∧ Value.int IntKind.i64 (5 : Int) = Value.int IntKind.i64 (5 : Int) ∧ Value.int IntKind.i64 (0 : Int) = Value.int IntKind.i64 (0 : Int) ∧ True) ∧ owG l 5 ++ some (AObj.row [poi, poi, poi, Value.int IntKind.i64 (gz (rdC (Ls.N l (0 : Nat)) (Ls.K l (0 : Nat)) (↑(Ls.K l (0 : Nat)) : Int) x (ints (Ls.zs l (0 : Nat))) (acs (Ls.ks l (0 : Nat)))) (rnC (Ls.N l (0 : Nat)) (Ls.K l (0 : Nat)) (↑(Ls.K l (0 : Nat)) : Int) x (ints (Ls.zs l (0 : Nat))) (acs (Ls.ks l (0 : Nat))))), Value.int IntKind.i64 (0 : Int)] (0 : Nat) false true false) :: noH = owG l 5 ++ some (AObj.row [poi, poi, poi, Value.int IntKind.i64 (dI l x (0 : Nat)), Value.int IntKind.i64 (0 : Int)] (0 : Nat) false true false) :: noH) (∃ (s : Unit), Is True ∧ (Value.slice (some { block := (0 : Nat), off := (0 : Nat) }) (5 : Nat) (0 : Nat) = Value.slice (some { block := (0 : Nat), off := (0 : Nat) }) (5 : Nat) (0 : Nat) ∧ Value.int IntKind.i64 x = Value.int IntKind.i64 x ∧ Value.slice none (0 : Nat) (0 : Nat) = Value.slice none (0 : Nat) (0 : Nat) ∧ Value.pointer (some { block := (11 : Nat), off := (0 : Nat) }) = Value.pointer (some { block := (11 : Nat), off := (0 : Nat) }) ∧ Value.slice (some { block := (0 : Nat), off := (0 : Nat) }) (5 : Nat) (0 : Nat) = Value.slice (some { block := (0 : Nat), off := (0 : Nat) }) (5 : Nat) (0 : Nat) ∧ Value.int IntKind.i64 (5 : Int) = Value.int IntKind.i64 (5 : Int) ∧ Value.int IntKind.i64 (0 : Int) = Value.int IntKind.i64 (0 : Int) ∧ True) ∧ owG l 5 ++ some (AObj.row [poi, poi, poi, Value.int IntKind.i64 (100001 : Int), Value.int IntKind.i64 (0 : Int)] (0 : Nat) false true false) :: noH = owG l 5 ++ some (AObj.row [poi, poi, poi, Value.int IntKind.i64 (dI l x (0 : Nat)), Value.int IntKind.i64 (0 : Int)] (0 : Nat) false true false) :: noH)) ∧ ∀ (s : Unit), Is True → ∃ (p : Unit), (Is (ipC (Ls.N l (1 : Nat)) (Ls.K l (1 : Nat)) (↑(Ls.K l (1 : Nat)) : Int) x (ints (Ls.zs l (1 : Nat))) (acs (Ls.ks l (1 : Nat)))) ∧ br (rdC (Ls.N l (1 : Nat)) (Ls.K l (1 : Nat)) (↑(Ls.K l (1 : Nat)) : Int) x (ints (Ls.zs l (1 : Nat))) (acs (Ls.ks l (1 : Nat))) == (0 : Int)) (∃ (s : Unit), Is True ∧ (Value.slice (some { block := (0 : Nat), off := (0 : Nat) }) (5 : Nat) (0 : Nat) = Value.slice (some { block := (0 : Nat), off := (0 : Nat) }) (5 : Nat) (0 : Nat) ∧ Value.int IntKind.i64 x = Value.int IntKind.i64 x ∧ Value.slice (some { block := (11 : Nat), off := (0 : Nat) }) (1 : Nat) (0 : Nat) = Value.slice (some { block := (11 : Nat), off := (0 : Nat) }) (1 : Nat) (0 : Nat) ∧ Value.pointer (some { block := (12 : Nat), off := (0 : Nat) }) = Value.pointer (some { block := (12 : Nat), off := (0 : Nat) }) ∧ Value.slice (some { block := (0 : Nat), off := (0 : Nat) }) (5 : Nat) (0 : Nat) = Value.slice (some { block := (0 : Nat), off := (0 : Nat) }) (5 : Nat) (0 : Nat) ∧ Value.int IntKind.i64 (5 : Int) = Value.int IntKind.i64 (5 : Int) ∧ Value.int IntKind.i64 (1 : Int) = Value.int IntKind.i64 (1 : Int) ∧ True) ∧ owG l 5 ++ some (AObj.row [poi, poi, poi, Value.int IntKind.i64 (dI l x (0 : Nat)), Value.int IntKind.i64 (0 : Int)] (5 : Nat) true true false) :: some (AObj.row [poi, poi, poi, Value.int IntKind.i64 (gz (rdC (Ls.N l (1 : Nat)) (Ls.K l (1 : Nat)) (↑(Ls.K l (1 : Nat)) : Int) x (ints (Ls.zs l (1 : Nat))) (acs (Ls.ks l (1 : Nat)))) (rnC (Ls.N l (1 : Nat)) (Ls.K l (1 : Nat)) (↑(Ls.K l (1 : Nat)) : Int) x (ints (Ls.zs l (1 : Nat))) (acs (Ls.ks l (1 : Nat))))), Value.int IntKind.i64 (1 : Int)] (0 : Nat) false true false) :: noH = owG l 5 ++ some (AObj.row [poi, poi, poi, Value.int IntKind.i64 (dI l x (0 : Nat)), Value.int IntKind.i64 (0 : Int)] (5 : Nat) true true false) :: some (AObj.row [poi, poi, poi, Value.int IntKind.i64 (dI l x (1 : Nat)), Value.int IntKind.i64 (1 : Int)] (0 : Nat) false true false) :: noH) (∃ (s : Unit), Is True ∧ (Value.slice (some { block := (0 : Nat), off := (0 : Nat) }) (5 : Nat) (0 : Nat) = Value.slice (some { block := (0 : Nat), off := (0 : Nat) }) (5 : Nat) (0 : Nat) ∧ Value.int IntKind.i64 x = Value.int IntKind.i64 x ∧ Value.slice (some { block := (11 : Nat), off := (0 : Nat) }) (1 : Nat) (0 : Nat) = Value.slice (some { block := (11 : Nat), off := (0 : Nat) }) (1 : Nat) (0 : Nat) ∧ Value.pointer (some { block := (12 : Nat), off := (0 : Nat) }) = Value.pointer (some { block := (12 : Nat), off := (0 : Nat) }) ∧ Value.slice (some { block := (0 : Nat), off := (0 : Nat) }) (5 : Nat) (0 : Nat) = Value.slice (some { block := (0 : Nat), off := (0 : Nat) }) (5 : Nat) (0 : Nat) ∧ Value.int IntKind.i64 (5 : Int) = Value.int IntKind.i64 (5 : Int) ∧ Value.int IntKind.i64 (1 : Int) = Value.int IntKind.i64 (1 : Int) ∧ True) ∧ owG l 5 ++ some (AObj.row [poi, poi, poi, Value.int IntKind.i64 (dI l x (0 : Nat)), Value.int IntKind.i64 (0 : Int)] (5 : Nat) true true false) :: some (AObj.row [poi, poi, poi, Value.int IntKind.i64 (100001 : Int), Value.int IntKind.i64 (1 : Int)] (0 : Nat) false true false) :: noH = owG l 5 ++ some (AObj.row [poi, poi, poi, Value.int IntKind.i64 (dI l x (0 : Nat)), Value.int IntKind.i64 (0 : Int)] (5 : Nat) true true false) :: some (AObj.row [poi, poi, poi, Value.int IntKind.i64 (dI l x (1 : Nat)), Value.int IntKind.i64 (1 : Int)] (0 : Nat) false true false) :: noH)) ∧ ∀ (s : Unit), Is True → ∃ (p : Unit), (Is (ipC (Ls.N l (2 : Nat)) (Ls.K l (2 : Nat)) (↑(Ls.K l (2 : Nat)) : Int) x (ints (Ls.zs l (2 : Nat))) (acs (Ls.ks l (2 : Nat)))) ∧ br (rdC (Ls.N l (2 : Nat)) (Ls.K l (2 : Nat)) (↑(Ls.K l (2 : Nat)) : Int) x (ints (Ls.zs l (2 : Nat))) (acs (Ls.ks l (2 : Nat))) == (0 : Int)) (∃ (s : Unit), Is True ∧ (Value.slice (some { block := (0 : Nat), off := (0 : Nat) }) (5 : Nat) (0 : Nat) = Value.slice (some { block := (0 : Nat), off := (0 : Nat) }) (5 : Nat) (0 : Nat) ∧ Value.int IntKind.i64 x = Value.int IntKind.i64 x ∧ Value.slice (some { block := (11 : Nat), off := (0 : Nat) }) (2 : Nat) (0 : Nat) = Value.slice (some { block := (11 : Nat), off := (0 : Nat) }) (2 : Nat) (0 : Nat) ∧ Value.pointer (some { block := (12 : Nat), off := (0 : Nat) }) = Value.pointer (some { block := (12 : Nat), off := (0 : Nat) }) ∧ Value.slice (some { block := (0 : Nat), off := (0 : Nat) }) (5 : Nat) (0 : Nat) = Value.slice (some { block := (0 : Nat), off := (0 : Nat) }) (5 : Nat) (0 : Nat) ∧ Value.int IntKind.i64 (5 : Int) = Value.int IntKind.i64 (5 : Int) ∧ Value.int IntKind.i64 (2 : Int) = Value.int IntKind.i64 (2 : Int) ∧ True) ∧ owG l 5 ++ some (AObj.row [poi, poi, poi, Value.int IntKind.i64 (dI l x (0 : Nat)), Value.int IntKind.i64 (0 : Int), poi, poi, poi, Value.int IntKind.i64 (dI l x (1 : Nat)), Value.int IntKind.i64 (1 : Int)] (5 : Nat) true true false) :: some (AObj.row [poi, poi, poi, Value.int IntKind.i64 (gz (rdC (Ls.N l (2 : Nat)) (Ls.K l (2 : Nat)) (↑(Ls.K l (2 : Nat)) : Int) x (ints (Ls.zs l (2 : Nat))) (acs (Ls.ks l (2 : Nat)))) (rnC (Ls.N l (2 : Nat)) (Ls.K l (2 : Nat)) (↑(Ls.K l (2 : Nat)) : Int) x (ints (Ls.zs l (2 : Nat))) (acs (Ls.ks l (2 : Nat))))), Value.int IntKind.i64 (2 : Int)] (0 : Nat) false true false) :: noH = owG l 5 ++ some (AObj.row [poi, poi, poi, Value.int IntKind.i64 (dI l x (0 : Nat)), Value.int IntKind.i64 (0 : Int), poi, poi, poi, Value.int IntKind.i64 (dI l x (1 : Nat)), Value.int IntKind.i64 (1 : Int)] (5 : Nat) true true false) :: some (AObj.row [poi, poi, poi, Value.int IntKind.i64 (dI l x (2 : Nat)), Value.int IntKind.i64 (2 : Int)] (0 : Nat) false true false) :: noH) (∃ (s : Unit), Is True ∧ (Value.slice (some { block := (0 : Nat), off := (0 : Nat) }) (5 : Nat) (0 : Nat) = Value.slice (some { block := (0 : Nat), off := (0 : Nat) }) (5 : Nat) (0 : Nat) ∧ Value.int IntKind.i64 x = Value.int IntKind.i64 x ∧ Value.slice (some { block := (11 : Nat), off := (0 : Nat) }) (2 : Nat) (0 : Nat) = Value.slice (some { block := (11 : Nat), off := (0 : Nat) }) (2 : Nat) (0 : Nat) ∧ Value.pointer (some { block := (12 : Nat), off := (0 : Nat) }) = Value.pointer (some { block := (12 : Nat), off := (0 : Nat) }) ∧ Value.slice (some { block := (0 : Nat), off := (0 : Nat) }) (5 : Nat) (0 : Nat) = Value.slice (some { block := (0 : Nat), off := (0 : Nat) }) (5 : Nat) (0 : Nat) ∧ Value.int IntKind.i64 (5 : Int) = Value.int IntKind.i64 (5 : Int) ∧ Value.int IntKind.i64 (2 : Int) = Value.int IntKind.i64 (2 : Int) ∧ True) ∧ owG l 5 ++ some (AObj.row [poi, poi, poi, Value.int IntKind.i64 (dI l x (0 : Nat)), Value.int IntKind.i64 (0 : Int), poi, poi, poi, Value.int IntKind.i64 (dI l x (1 : Nat)), Value.int IntKind.i64 (1 : Int)] (5 : Nat) true true false) :: some (AObj.row [poi, poi, poi, Value.int IntKind.i64 (100001 : Int), Value.int IntKind.i64 (2 : Int)] (0 : Nat) false true false) :: noH = owG l 5 ++ some (AObj.row [poi, poi, poi, Value.int IntKind.i64 (dI l x (0 : Nat)), Value.int IntKind.i64 (0 : Int), poi, poi, poi, Value.int IntKind.i64 (dI l x (1 : Nat)), Value.int IntKind.i64 (1 : Int)] (5 : Nat) true true false) :: some (AObj.row [poi, poi, poi, Value.int IntKind.i64 (dI l x (2 : Nat)), Value.int IntKind.i64 (2 : Int)] (0 : Nat) false true false) :: noH)) ∧ ∀ (s : Unit), Is True → ∃ (p : Unit), (Is (ipC (Ls.N l (3 : Nat)) (Ls.K l (3 : Nat)) (↑(Ls.K l (3 : Nat)) : Int) x (ints (Ls.zs l (3 : Nat))) (acs (Ls.ks l (3 : Nat)))) ∧ br (rdC (Ls.N l (3 : Nat)) (Ls.K l (3 : Nat)) (↑(Ls.K l (3 : Nat)) : Int) x (ints (Ls.zs l (3 : Nat))) (acs (Ls.ks l (3 : Nat))) == (0 : Int)) (∃ (s : Unit), Is True ∧ (Value.slice (some { block := (0 : Nat), off := (0 : Nat) }) (5 : Nat) (0 : Nat) = Value.slice (some { block := (0 : Nat), off := (0 : Nat) }) (5 : Nat) (0 : Nat) ∧ Value.int IntKind.i64 x = Value.int IntKind.i64 x ∧ Value.slice (some { block := (11 : Nat), off := (0 : Nat) }) (3 : Nat) (0 : Nat) = Value.slice (some { block := (11 : Nat), off := (0 : Nat) }) (3 : Nat) (0 : Nat) ∧ Value.pointer (some { block := (12 : Nat), off := (0 : Nat) }) = Value.pointer (some { block := (12 : Nat), off := (0 : Nat) }) ∧ Value.slice (some { block := (0 : Nat), off := (0 : Nat) }) (5 : Nat) (0 : Nat) = Value.slice (some { block := (0 : Nat), off := (0 : Nat) }) (5 : Nat) (0 : Nat) ∧ Value.int IntKind.i64 (5 : Int) = Value.int IntKind.i64 (5 : Int) ∧ Value.int IntKind.i64 (3 : Int) = Value.int IntKind.i64 (3 : Int) ∧ True) ∧ owG l 5 ++ some (AObj.row [poi, poi, poi, Value.int IntKind.i64 (dI l x (0 : Nat)), Value.int IntKind.i64 (0 : Int), poi, poi, poi, Value.int IntKind.i64 (dI l x (1 : Nat)), Value.int IntKind.i64 (1 : Int), poi, poi, poi, Value.int IntKind.i64 (dI l x (2 : Nat)), Value.int IntKind.i64 (2 : Int)] (5 : Nat) true true false) :: some (AObj.row [poi, poi, poi, Value.int IntKind.i64 (gz (rdC (Ls.N l (3 : Nat)) (Ls.K l (3 : Nat)) (↑(Ls.K l (3 : Nat)) : Int) x (ints (Ls.zs l (3 : Nat))) (acs (Ls.ks l (3 : Nat)))) (rnC (Ls.N l (3 : Nat)) (Ls.K l (3 : Nat)) (↑(Ls.K l (3 : Nat)) : Int) x (ints (Ls.zs l (3 : Nat))) (acs (Ls.ks l (3 : Nat))))), Value.int IntKind.i64 (3 : Int)] (0 : Nat) false true false) :: noH = owG l 5 ++ some (AObj.row [poi, poi, poi, Value.int IntKind.i64 (dI l x (0 : Nat)), Value.int IntKind.i64 (0 : Int), poi, poi, poi, Value.int IntKind.i64 (dI l x (1 : Nat)), Value.int IntKind.i64 (1 : Int), poi, poi, poi, Value.int IntKind.i64 (dI l x (2 : Nat)), Value.int IntKind.i64 (2 : Int)] (5 : Nat) true true false) :: some (AObj.row [poi, poi, poi, Value.int IntKind.i64 (dI l x (3 : Nat)), Value.int IntKind.i64 (3 : Int)] (0 : Nat) false true false) :: noH) (∃ (s : Unit), Is True ∧ (Value.slice (some { block := (0 : Nat), off := (0 : Nat) }) (5 : Nat) (0 : Nat) = Value.slice (some { block := (0 : Nat), off := (0 : Nat) }) (5 : Nat) (0 : Nat) ∧ Value.int IntKind.i64 x = Value.int IntKind.i64 x ∧ Value.slice (some { block := (11 : Nat), off := (0 : Nat) }) (3 : Nat) (0 : Nat) = Value.slice (some { block := (11 : Nat), off := (0 : Nat) }) (3 : Nat) (0 : Nat) ∧ Value.pointer (some { block := (12 : Nat), off := (0 : Nat) }) = Value.pointer (some { block := (12 : Nat), off := (0 : Nat) }) ∧ Value.slice (some { block := (0 : Nat), off := (0 : Nat) }) (5 : Nat) (0 : Nat) = Value.slice (some { block := (0 : Nat), off := (0 : Nat) }) (5 : Nat) (0 : Nat) ∧ Value.int IntKind.i64 (5 : Int) = Value.int IntKind.i64 (5 : Int) ∧ Value.int IntKind.i64 (3 : Int) = Value.int IntKind.i64 (3 : Int) ∧ True) ∧ owG l 5 ++ some (AObj.row [poi, poi, poi, Value.int IntKind.i64 (dI l x (0 : Nat)), Value.int IntKind.i64 (0 : Int), poi, poi, poi, Value.int IntKind.i64 (dI l x (1 : Nat)), Value.int IntKind.i64 (1 : Int), poi, poi, poi, Value.int IntKind.i64 (dI l x (2 : Nat)), Value.int IntKind.i64 (2 : Int)] (5 : Nat) true true false) :: some (AObj.row [poi, poi, poi, Value.int IntKind.i64 (100001 : Int), Value.int IntKind.i64 (3 : Int)] (0 : Nat) false true false) :: noH = owG l 5 ++ some (AObj.row [poi, poi, poi, Value.int IntKind.i64 (dI l x (0 : Nat)), Value.int IntKind.i64 (0 : Int), poi, poi, poi, Value.int IntKind.i64 (dI l x (1 : Nat)), Value.int IntKind.i64 (1 : Int), poi, poi, poi, Value.int IntKind.i64 (dI l x (2 : Nat)), Value.int IntKind.i64 (2 : Int)] (5 : Nat) true true false) :: some (AObj.row [poi, poi, poi, Value.int IntKind.i64 (dI l x (3 : Nat)), Value.int IntKind.i64 (3 : Int)] (0 : Nat) false true false) :: noH)) ∧ ∀ (s : Unit), Is True → ∃ (p : Unit), (Is (ipC (Ls.N l (4 : Nat)) (Ls.K l (4 : Nat)) (↑(Ls.K l (4 : Nat)) : Int) x (ints (Ls.zs l (4 : Nat))) (acs (Ls.ks l (4 : Nat)))) ∧ br (rdC (Ls.N l (4 : Nat)) (Ls.K l (4 : Nat)) (↑(Ls.K l (4 : Nat)) : Int) x (ints (Ls.zs l (4 : Nat))) (acs (Ls.ks l (4 : Nat))) == (0 : Int)) (∃ (s : Unit), Is True ∧ (Value.slice (some { block := (0 : Nat), off := (0 : Nat) }) (5 : Nat) (0 : Nat) = Value.slice (some { block := (0 : Nat), off := (0 : Nat) }) (5 : Nat) (0 : Nat) ∧ Value.int IntKind.i64 x = Value.int IntKind.i64 x ∧ Value.slice (some { block := (11 : Nat), off := (0 : Nat) }) (4 : Nat) (0 : Nat) = Value.slice (some { block := (11 : Nat), off := (0 : Nat) }) (4 : Nat) (0 : Nat) ∧ Value.pointer (some { block := (12 : Nat), off := (0 : Nat) }) = Value.pointer (some { block := (12 : Nat), off := (0 : Nat) }) ∧ Value.slice (some { block := (0 : Nat), off := (0 : Nat) }) (5 : Nat) (0 : Nat) = Value.slice (some { block := (0 : Nat), off := (0 : Nat) }) (5 : Nat) (0 : Nat) ∧ Value.int IntKind.i64 (5 : Int) = Value.int IntKind.i64 (5 : Int) ∧ Value.int IntKind.i64 (4 : Int) = Value.int IntKind.i64 (4 : Int) ∧ True) ∧ owG l 5 ++ some (AObj.row [poi, poi, poi, Value.int IntKind.i64 (dI l x (0 : Nat)), Value.int IntKind.i64 (0 : Int), poi, poi, poi, Value.int IntKind.i64 (dI l x (1 : Nat)), Value.int IntKind.i64 (1 : Int), poi, poi, poi, Value.int IntKind.i64 (dI l x (2 : Nat)), Value.int IntKind.i64 (2 : Int), poi, poi, poi, Value.int IntKind.i64 (dI l x (3 : Nat)), Value.int IntKind.i64 (3 : Int)] (5 : Nat) true true false) :: some (AObj.row [poi, poi, poi, Value.int IntKind.i64 (gz (rdC (Ls.N l (4 : Nat)) (Ls.K l (4 : Nat)) (↑(Ls.K l (4 : Nat)) : Int) x (ints (Ls.zs l (4 : Nat))) (acs (Ls.ks l (4 : Nat)))) (rnC (Ls.N l (4 : Nat)) (Ls.K l (4 : Nat)) (↑(Ls.K l (4 : Nat)) : Int) x (ints (Ls.zs l (4 : Nat))) (acs (Ls.ks l (4 : Nat))))), Value.int IntKind.i64 (4 : Int)] (0 : Nat) false true false) :: noH = owG l 5 ++ some (AObj.row [poi, poi, poi, Value.int IntKind.i64 (dI l x (0 : Nat)), Value.int IntKind.i64 (0 : Int), poi, poi, poi, Value.int IntKind.i64 (dI l x (1 : Nat)), Value.int IntKind.i64 (1 : Int), poi, poi, poi, Value.int IntKind.i64 (dI l x (2 : Nat)), Value.int IntKind.i64 (2 : Int), poi, poi, poi, Value.int IntKind.i64 (dI l x (3 : Nat)), Value.int IntKind.i64 (3 : Int)] (5 : Nat) true true false) :: some (AObj.row [poi, poi, poi, Value.int IntKind.i64 (dI l x (4 : Nat)), Value.int IntKind.i64 (4 : Int)] (0 : Nat) false true false) :: noH) (∃ (s : Unit), Is True ∧ (Value.slice (some { block := (0 : Nat), off := (0 : Nat) }) (5 : Nat) (0 : Nat) = Value.slice (some { block := (0 : Nat), off := (0 : Nat) }) (5 : Nat) (0 : Nat) ∧ Value.int IntKind.i64 x = Value.int IntKind.i64 x ∧ Value.slice (some { block := (11 : Nat), off := (0 : Nat) }) (4 : Nat) (0 : Nat) = Value.slice (some { block := (11 : Nat), off := (0 : Nat) }) (4 : Nat) (0 : Nat) ∧ Value.pointer (some { block := (12 : Nat), off := (0 : Nat) }) = Value.pointer (some { block := (12 : Nat), off := (0 : Nat) }) ∧ Value.slice (some { block := (0 : Nat), off := (0 : Nat) }) (5 : Nat) (0 : Nat) = Value.slice (some { block := (0 : Nat), off := (0 : Nat) }) (5 : Nat) (0 : Nat) ∧ Value.int IntKind.i64 (5 : Int) = Value.int IntKind.i64 (5 : Int) ∧ Value.int IntKind.i64 (4 : Int) = Value.int IntKind.i64 (4 : Int) ∧ True) ∧ owG l 5 ++ some (AObj.row [poi, poi, poi, Value.int IntKind.i64 (dI l x (0 : Nat)), Value.int IntKind.i64 (0 : Int), poi, poi, poi, Value.int IntKind.i64 (dI l x (1 : Nat)), Value.int IntKind.i64 (1 : Int), poi, poi, poi, Value.int IntKind.i64 (dI l x (2 : Nat)), Value.int IntKind.i64 (2 : Int), poi, poi, poi, Value.int IntKind.i64 (dI l x (3 : Nat)), Value.int IntKind.i64 (3 : Int)] (5 : Nat) true true false) :: some (AObj.row [poi, poi, poi, Value.int IntKind.i64 (100001 : Int), Value.int IntKind.i64 (4 : Int)] (0 : Nat) false true false) :: noH = owG l 5 ++ some (AObj.row [poi, poi, poi, Value.int IntKind.i64 (dI l x (0 : Nat)), Value.int IntKind.i64 (0 : Int), poi, poi, poi, Value.int IntKind.i64 (dI l x (1 : Nat)), Value.int IntKind.i64 (1 : Int), poi, poi, poi, Value.int IntKind.i64 (dI l x (2 : Nat)), Value.int IntKind.i64 (2 : Int), poi, poi, poi, Value.int IntKind.i64 (dI l x (3 : Nat)), Value.int IntKind.i64 (3 : Int)] (5 : Nat) true true false) :: some (AObj.row [poi, poi, poi, Value.int IntKind.i64 (dI l x (4 : Nat)), Value.int IntKind.i64 (4 : Int)] (0 : Nat) false true false) :: noH)) ∧ ∀ (s : Unit), Is True → K (Value.tuple #[Value.slice (some { block := (11 : Nat), off := (0 : Nat) }) (5 : Nat) (0 : Nat), Value.int IntKind.i64 (0 : Int)]) (owG l 5 ++ some (AObj.row [Value.int IntKind.i64 (sN [dI l x (0 : Nat), dI l x (1 : Nat), dI l x (2 : Nat), dI l x (3 : Nat), dI l x (4 : Nat)] (5 : Nat) (0 : Nat)), Value.int IntKind.i64 (sN [dI l x (0 : Nat), dI l x (1 : Nat), dI l x (2 : Nat), dI l x (3 : Nat), dI l x (4 : Nat)] (5 : Nat) (1 : Nat)), Value.int IntKind.i64 (sN [dI l x (0 : Nat), dI l x (1 : Nat), dI l x (2 : Nat), dI l x (3 : Nat), dI l x (4 : Nat)] (5 : Nat) (2 : Nat)), Value.int IntKind.i64 (sN [dI l x (0 : Nat), dI l x (1 : Nat), dI l x (2 : Nat), dI l x (3 : Nat), dI l x (4 : Nat)] (5 : Nat) (3 : Nat)), Value.int IntKind.i64 (sN [dI l x (0 : Nat), dI l x (1 : Nat), dI l x (2 : Nat), dI l x (3 : Nat), dI l x (4 : Nat)] (5 : Nat) (4 : Nat))] (1 : Nat) true true (List.all [Value.int IntKind.i64 (sN [dI l x (0 : Nat), dI l x (1 : Nat), dI l x (2 : Nat), dI l x (3 : Nat), dI l x (4 : Nat)] (5 : Nat) (0 : Nat))] atom && List.all [Value.int IntKind.i64 (sN [dI l x (0 : Nat), dI l x (1 : Nat), dI l x (2 : Nat), dI l x (3 : Nat), dI l x (4 : Nat)] (5 : Nat) (1 : Nat))] atom && List.all [Value.int IntKind.i64 (sN [dI l x (0 : Nat), dI l x (1 : Nat), dI l x (2 : Nat), dI l x (3 : Nat), dI l x (4 : Nat)] (5 : Nat) (2 : Nat))] atom && List.all [Value.int IntKind.i64 (sN [dI l x (0 : Nat), dI l x (1 : Nat), dI l x (2 : Nat), dI l x (3 : Nat), dI l x (4 : Nat)] (5 : Nat) (3 : Nat))] atom && List.all [Value.int IntKind.i64 (sN [dI l x (0 : Nat), dI l x (1 : Nat), dI l x (2 : Nat), dI l x (3 : Nat), dI l x (4 : Nat)] (5 : Nat) (4 : Nat))] atom)) :: noH)))))))) := by kernel_rfl
end
end Qq
end
section
/- The program's Ranked as a contract: 4, 5, 6 sections. -/
open Go Go.Vm Go.Proofs Sp
namespace Qq
noncomputable section
theorem rk4_ok {l : Ls} {x : Int} (hl : okLt l 4) : SmallRes Tryz.prog 6 [.slice (some ⟨0, 0, none⟩) 4 0, .int .i64 x] (owG l 4) (.tuple #[.slice (some ⟨9, 0, none⟩) (rkM l 4 x) 0, .int .i64 (rkE l 4 x)]) (owG l 4 ++ [some (.row (ints (rkI l 4 x)) 1 true true true)]) := by
  refine fnP_res hm cRk_ok (hs := hsRk l x 4) ?_
  show fnP Tryz.prog cRk (hsRk l x 4) 6 _ _ _
  rw [rk4_t]
  have h0 : csA l 0 = 0 := rfl
  refine ⟨⟨is_of 0 hl (by decide)⟩, ⟨trivial⟩, br_of (fun h => ?_) (fun h => ?_)⟩
  · obtain ⟨e1, e2, e3⟩ := rk_bad (n := 4) (x := x) 0 h0 (by decide) h
    rw [e1, e2, e3]; exact ⟨rfl, rfl⟩
  obtain ⟨k0, h1, s0⟩ := rk_on 0 h0 h
  refine ⟨⟨k0⟩, ?_⟩
  refine ⟨⟨is_of 1 hl (by decide)⟩, ⟨trivial⟩, br_of (fun h => ?_) (fun h => ?_)⟩
  · obtain ⟨e1, e2, e3⟩ := rk_bad (n := 4) (x := x) 1 h1 (by decide) h
    rw [e1, e2, e3]; exact ⟨rfl, rfl⟩
  obtain ⟨k1, h2, s1⟩ := rk_on 1 h1 h
  refine ⟨⟨k1⟩, ?_⟩
  refine ⟨⟨is_of 2 hl (by decide)⟩, ⟨trivial⟩, br_of (fun h => ?_) (fun h => ?_)⟩
  · obtain ⟨e1, e2, e3⟩ := rk_bad (n := 4) (x := x) 2 h2 (by decide) h
    rw [e1, e2, e3]; exact ⟨rfl, rfl⟩
  obtain ⟨k2, h3, s2⟩ := rk_on 2 h2 h
  refine ⟨⟨k2⟩, ?_⟩
  refine ⟨⟨is_of 3 hl (by decide)⟩, ⟨trivial⟩, br_of (fun h => ?_) (fun h => ?_)⟩
  · obtain ⟨e1, e2, e3⟩ := rk_bad (n := 4) (x := x) 3 h3 (by decide) h
    rw [e1, e2, e3]; exact ⟨rfl, rfl⟩
  obtain ⟨k3, h4, s3⟩ := rk_on 3 h3 h
  refine ⟨⟨k3⟩, ?_⟩
  refine br_of (fun h => ?_) (fun h => ?_)
  · obtain ⟨e1, e2, e3⟩ := rk_lim (n := 4) h4 h
    rw [e1, e2, e3]; exact ⟨rfl, rfl⟩
  have hx := lim_in h
  refine ⟨⟨⟩, ⟨⟨ip_of 0 hl (by decide) s0 hx⟩, br_of (fun g => ⟨⟨⟩, ⟨trivial⟩, ⟨rfl, rfl, rfl, rfl, rfl, rfl, rfl, trivial⟩, by rw [dI_yes 0 g]⟩) (fun g => ⟨⟨⟩, ⟨trivial⟩, ⟨rfl, rfl, rfl, rfl, rfl, rfl, rfl, trivial⟩, by rw [dI_no 0 g]⟩)⟩, fun _ _ => ?_⟩
  refine ⟨⟨⟩, ⟨⟨ip_of 1 hl (by decide) s1 hx⟩, br_of (fun g => ⟨⟨⟩, ⟨trivial⟩, ⟨rfl, rfl, rfl, rfl, rfl, rfl, rfl, trivial⟩, by rw [dI_yes 1 g]⟩) (fun g => ⟨⟨⟩, ⟨trivial⟩, ⟨rfl, rfl, rfl, rfl, rfl, rfl, rfl, trivial⟩, by rw [dI_no 1 g]⟩)⟩, fun _ _ => ?_⟩
  refine ⟨⟨⟩, ⟨⟨ip_of 2 hl (by decide) s2 hx⟩, br_of (fun g => ⟨⟨⟩, ⟨trivial⟩, ⟨rfl, rfl, rfl, rfl, rfl, rfl, rfl, trivial⟩, by rw [dI_yes 2 g]⟩) (fun g => ⟨⟨⟩, ⟨trivial⟩, ⟨rfl, rfl, rfl, rfl, rfl, rfl, rfl, trivial⟩, by rw [dI_no 2 g]⟩)⟩, fun _ _ => ?_⟩
  refine ⟨⟨⟩, ⟨⟨ip_of 3 hl (by decide) s3 hx⟩, br_of (fun g => ⟨⟨⟩, ⟨trivial⟩, ⟨rfl, rfl, rfl, rfl, rfl, rfl, rfl, trivial⟩, by rw [dI_yes 3 g]⟩) (fun g => ⟨⟨⟩, ⟨trivial⟩, ⟨rfl, rfl, rfl, rfl, rfl, rfl, rfl, trivial⟩, by rw [dI_no 3 g]⟩)⟩, fun _ _ => ?_⟩
  obtain ⟨e1, e2, e3⟩ := rk_fin (n := 4) h4 h
  rw [e1, e2, e3]; exact ⟨rfl, rfl⟩
theorem rk5_ok {l : Ls} {x : Int} (hl : okLt l 5) : SmallRes Tryz.prog 6 [.slice (some ⟨0, 0, none⟩) 5 0, .int .i64 x] (owG l 5) (.tuple #[.slice (some ⟨11, 0, none⟩) (rkM l 5 x) 0, .int .i64 (rkE l 5 x)]) (owG l 5 ++ [some (.row (ints (rkI l 5 x)) 1 true true true)]) := by
  refine fnP_res hm cRk_ok (hs := hsRk l x 5) ?_
  show fnP Tryz.prog cRk (hsRk l x 5) 6 _ _ _
  rw [rk5_t]
  have h0 : csA l 0 = 0 := rfl
  refine ⟨⟨is_of 0 hl (by decide)⟩, ⟨trivial⟩, br_of (fun h => ?_) (fun h => ?_)⟩
  · obtain ⟨e1, e2, e3⟩ := rk_bad (n := 5) (x := x) 0 h0 (by decide) h
    rw [e1, e2, e3]; exact ⟨rfl, rfl⟩
  obtain ⟨k0, h1, s0⟩ := rk_on 0 h0 h
  refine ⟨⟨k0⟩, ?_⟩
  refine ⟨⟨is_of 1 hl (by decide)⟩, ⟨trivial⟩, br_of (fun h => ?_) (fun h => ?_)⟩
  · obtain ⟨e1, e2, e3⟩ := rk_bad (n := 5) (x := x) 1 h1 (by decide) h
    rw [e1, e2, e3]; exact ⟨rfl, rfl⟩
  obtain ⟨k1, h2, s1⟩ := rk_on 1 h1 h
  refine ⟨⟨k1⟩, ?_⟩
  refine ⟨⟨is_of 2 hl (by decide)⟩, ⟨trivial⟩, br_of (fun h => ?_) (fun h => ?_)⟩
  · obtain ⟨e1, e2, e3⟩ := rk_bad (n := 5) (x := x) 2 h2 (by decide) h
    rw [e1, e2, e3]; exact ⟨rfl, rfl⟩
  obtain ⟨k2, h3, s2⟩ := rk_on 2 h2 h
  refine ⟨⟨k2⟩, ?_⟩
  refine ⟨⟨is_of 3 hl (by decide)⟩, ⟨trivial⟩, br_of (fun h => ?_) (fun h => ?_)⟩
  · obtain ⟨e1, e2, e3⟩ := rk_bad (n := 5) (x := x) 3 h3 (by decide) h
    rw [e1, e2, e3]; exact ⟨rfl, rfl⟩
  obtain ⟨k3, h4, s3⟩ := rk_on 3 h3 h
  refine ⟨⟨k3⟩, ?_⟩
  refine ⟨⟨is_of 4 hl (by decide)⟩, ⟨trivial⟩, br_of (fun h => ?_) (fun h => ?_)⟩
  · obtain ⟨e1, e2, e3⟩ := rk_bad (n := 5) (x := x) 4 h4 (by decide) h
    rw [e1, e2, e3]; exact ⟨rfl, rfl⟩
  obtain ⟨k4, h5, s4⟩ := rk_on 4 h4 h
  refine ⟨⟨k4⟩, ?_⟩
  refine br_of (fun h => ?_) (fun h => ?_)
  · obtain ⟨e1, e2, e3⟩ := rk_lim (n := 5) h5 h
    rw [e1, e2, e3]; exact ⟨rfl, rfl⟩
  have hx := lim_in h
  refine ⟨⟨⟩, ⟨⟨ip_of 0 hl (by decide) s0 hx⟩, br_of (fun g => ⟨⟨⟩, ⟨trivial⟩, ⟨rfl, rfl, rfl, rfl, rfl, rfl, rfl, trivial⟩, by rw [dI_yes 0 g]⟩) (fun g => ⟨⟨⟩, ⟨trivial⟩, ⟨rfl, rfl, rfl, rfl, rfl, rfl, rfl, trivial⟩, by rw [dI_no 0 g]⟩)⟩, fun _ _ => ?_⟩
  refine ⟨⟨⟩, ⟨⟨ip_of 1 hl (by decide) s1 hx⟩, br_of (fun g => ⟨⟨⟩, ⟨trivial⟩, ⟨rfl, rfl, rfl, rfl, rfl, rfl, rfl, trivial⟩, by rw [dI_yes 1 g]⟩) (fun g => ⟨⟨⟩, ⟨trivial⟩, ⟨rfl, rfl, rfl, rfl, rfl, rfl, rfl, trivial⟩, by rw [dI_no 1 g]⟩)⟩, fun _ _ => ?_⟩
  refine ⟨⟨⟩, ⟨⟨ip_of 2 hl (by decide) s2 hx⟩, br_of (fun g => ⟨⟨⟩, ⟨trivial⟩, ⟨rfl, rfl, rfl, rfl, rfl, rfl, rfl, trivial⟩, by rw [dI_yes 2 g]⟩) (fun g => ⟨⟨⟩, ⟨trivial⟩, ⟨rfl, rfl, rfl, rfl, rfl, rfl, rfl, trivial⟩, by rw [dI_no 2 g]⟩)⟩, fun _ _ => ?_⟩
  refine ⟨⟨⟩, ⟨⟨ip_of 3 hl (by decide) s3 hx⟩, br_of (fun g => ⟨⟨⟩, ⟨trivial⟩, ⟨rfl, rfl, rfl, rfl, rfl, rfl, rfl, trivial⟩, by rw [dI_yes 3 g]⟩) (fun g => ⟨⟨⟩, ⟨trivial⟩, ⟨rfl, rfl, rfl, rfl, rfl, rfl, rfl, trivial⟩, by rw [dI_no 3 g]⟩)⟩, fun _ _ => ?_⟩
  refine ⟨⟨⟩, ⟨⟨ip_of 4 hl (by decide) s4 hx⟩, br_of (fun g => ⟨⟨⟩, ⟨trivial⟩, ⟨rfl, rfl, rfl, rfl, rfl, rfl, rfl, trivial⟩, by rw [dI_yes 4 g]⟩) (fun g => ⟨⟨⟩, ⟨trivial⟩, ⟨rfl, rfl, rfl, rfl, rfl, rfl, rfl, trivial⟩, by rw [dI_no 4 g]⟩)⟩, fun _ _ => ?_⟩
  obtain ⟨e1, e2, e3⟩ := rk_fin (n := 5) h5 h
  rw [e1, e2, e3]; exact ⟨rfl, rfl⟩
theorem rk6_ok {l : Ls} {x : Int} (hl : okLt l 6) : SmallRes Tryz.prog 6 [.slice (some ⟨0, 0, none⟩) 6 0, .int .i64 x] (owG l 6) (.tuple #[.slice (some ⟨13, 0, none⟩) (rkM l 6 x) 0, .int .i64 (rkE l 6 x)]) (owG l 6 ++ [some (.row (ints (rkI l 6 x)) 1 true true true)]) := by
  refine fnP_res hm cRk_ok (hs := hsRk l x 6) ?_
  show fnP Tryz.prog cRk (hsRk l x 6) 6 _ _ _
  rw [rk6_t]
  have h0 : csA l 0 = 0 := rfl
  refine ⟨⟨is_of 0 hl (by decide)⟩, ⟨trivial⟩, br_of (fun h => ?_) (fun h => ?_)⟩
  · obtain ⟨e1, e2, e3⟩ := rk_bad (n := 6) (x := x) 0 h0 (by decide) h
    rw [e1, e2, e3]; exact ⟨rfl, rfl⟩
  obtain ⟨k0, h1, s0⟩ := rk_on 0 h0 h
  refine ⟨⟨k0⟩, ?_⟩
  refine ⟨⟨is_of 1 hl (by decide)⟩, ⟨trivial⟩, br_of (fun h => ?_) (fun h => ?_)⟩
  · obtain ⟨e1, e2, e3⟩ := rk_bad (n := 6) (x := x) 1 h1 (by decide) h
    rw [e1, e2, e3]; exact ⟨rfl, rfl⟩
  obtain ⟨k1, h2, s1⟩ := rk_on 1 h1 h
  refine ⟨⟨k1⟩, ?_⟩
  refine ⟨⟨is_of 2 hl (by decide)⟩, ⟨trivial⟩, br_of (fun h => ?_) (fun h => ?_)⟩
  · obtain ⟨e1, e2, e3⟩ := rk_bad (n := 6) (x := x) 2 h2 (by decide) h
    rw [e1, e2, e3]; exact ⟨rfl, rfl⟩
  obtain ⟨k2, h3, s2⟩ := rk_on 2 h2 h
  refine ⟨⟨k2⟩, ?_⟩
  refine ⟨⟨is_of 3 hl (by decide)⟩, ⟨trivial⟩, br_of (fun h => ?_) (fun h => ?_)⟩
  · obtain ⟨e1, e2, e3⟩ := rk_bad (n := 6) (x := x) 3 h3 (by decide) h
    rw [e1, e2, e3]; exact ⟨rfl, rfl⟩
  obtain ⟨k3, h4, s3⟩ := rk_on 3 h3 h
  refine ⟨⟨k3⟩, ?_⟩
  refine ⟨⟨is_of 4 hl (by decide)⟩, ⟨trivial⟩, br_of (fun h => ?_) (fun h => ?_)⟩
  · obtain ⟨e1, e2, e3⟩ := rk_bad (n := 6) (x := x) 4 h4 (by decide) h
    rw [e1, e2, e3]; exact ⟨rfl, rfl⟩
  obtain ⟨k4, h5, s4⟩ := rk_on 4 h4 h
  refine ⟨⟨k4⟩, ?_⟩
  refine ⟨⟨is_of 5 hl (by decide)⟩, ⟨trivial⟩, br_of (fun h => ?_) (fun h => ?_)⟩
  · obtain ⟨e1, e2, e3⟩ := rk_bad (n := 6) (x := x) 5 h5 (by decide) h
    rw [e1, e2, e3]; exact ⟨rfl, rfl⟩
  obtain ⟨k5, h6, s5⟩ := rk_on 5 h5 h
  refine ⟨⟨k5⟩, ?_⟩
  refine br_of (fun h => ?_) (fun h => ?_)
  · obtain ⟨e1, e2, e3⟩ := rk_lim (n := 6) h6 h
    rw [e1, e2, e3]; exact ⟨rfl, rfl⟩
  have hx := lim_in h
  refine ⟨⟨⟩, ⟨⟨ip_of 0 hl (by decide) s0 hx⟩, br_of (fun g => ⟨⟨⟩, ⟨trivial⟩, ⟨rfl, rfl, rfl, rfl, rfl, rfl, rfl, trivial⟩, by rw [dI_yes 0 g]⟩) (fun g => ⟨⟨⟩, ⟨trivial⟩, ⟨rfl, rfl, rfl, rfl, rfl, rfl, rfl, trivial⟩, by rw [dI_no 0 g]⟩)⟩, fun _ _ => ?_⟩
  refine ⟨⟨⟩, ⟨⟨ip_of 1 hl (by decide) s1 hx⟩, br_of (fun g => ⟨⟨⟩, ⟨trivial⟩, ⟨rfl, rfl, rfl, rfl, rfl, rfl, rfl, trivial⟩, by rw [dI_yes 1 g]⟩) (fun g => ⟨⟨⟩, ⟨trivial⟩, ⟨rfl, rfl, rfl, rfl, rfl, rfl, rfl, trivial⟩, by rw [dI_no 1 g]⟩)⟩, fun _ _ => ?_⟩
  refine ⟨⟨⟩, ⟨⟨ip_of 2 hl (by decide) s2 hx⟩, br_of (fun g => ⟨⟨⟩, ⟨trivial⟩, ⟨rfl, rfl, rfl, rfl, rfl, rfl, rfl, trivial⟩, by rw [dI_yes 2 g]⟩) (fun g => ⟨⟨⟩, ⟨trivial⟩, ⟨rfl, rfl, rfl, rfl, rfl, rfl, rfl, trivial⟩, by rw [dI_no 2 g]⟩)⟩, fun _ _ => ?_⟩
  refine ⟨⟨⟩, ⟨⟨ip_of 3 hl (by decide) s3 hx⟩, br_of (fun g => ⟨⟨⟩, ⟨trivial⟩, ⟨rfl, rfl, rfl, rfl, rfl, rfl, rfl, trivial⟩, by rw [dI_yes 3 g]⟩) (fun g => ⟨⟨⟩, ⟨trivial⟩, ⟨rfl, rfl, rfl, rfl, rfl, rfl, rfl, trivial⟩, by rw [dI_no 3 g]⟩)⟩, fun _ _ => ?_⟩
  refine ⟨⟨⟩, ⟨⟨ip_of 4 hl (by decide) s4 hx⟩, br_of (fun g => ⟨⟨⟩, ⟨trivial⟩, ⟨rfl, rfl, rfl, rfl, rfl, rfl, rfl, trivial⟩, by rw [dI_yes 4 g]⟩) (fun g => ⟨⟨⟩, ⟨trivial⟩, ⟨rfl, rfl, rfl, rfl, rfl, rfl, rfl, trivial⟩, by rw [dI_no 4 g]⟩)⟩, fun _ _ => ?_⟩
  refine ⟨⟨⟩, ⟨⟨ip_of 5 hl (by decide) s5 hx⟩, br_of (fun g => ⟨⟨⟩, ⟨trivial⟩, ⟨rfl, rfl, rfl, rfl, rfl, rfl, rfl, trivial⟩, by rw [dI_yes 5 g]⟩) (fun g => ⟨⟨⟩, ⟨trivial⟩, ⟨rfl, rfl, rfl, rfl, rfl, rfl, rfl, trivial⟩, by rw [dI_no 5 g]⟩)⟩, fun _ _ => ?_⟩
  obtain ⟨e1, e2, e3⟩ := rk_fin (n := 6) h6 h
  rw [e1, e2, e3]; exact ⟨rfl, rfl⟩
end
end Qq
end
section
/- Floats of 32 bits as exact numbers: what a word stands for, times 2^400. -/
namespace Fl
open Ieee
/-- A number with its sign. -/
def sg (s : Bool) (n : Nat) : Int := if s then -(n : Int) else n
/-! ### Writing -/
end Fl
end
section
/- Samples: what is known of their floats. -/
open Go
namespace Fl
open Ieee Sp
/-- Bits that are a number. -/
def IsF (x : Nat) : Prop := ∃ s m i, single.read x = .number s m i ∧ m < 2 ^ 24 ∧ -149 ≤ i ∧ i ≤ 104
noncomputable def finB (x : Nat) : Bool := match single.read x with
  | .number .. => true
  | _ => false
def one : Nat := 2 ^ 400
/-- The value of a number, times 2^400. -/
noncomputable def val (x : Nat) : Int := match single.read x with
  | .number s m i => sg s (m * 2 ^ (i + 400).toNat)
  | _ => 0
end Fl
end
section
/- Quotients in lowest terms, and lines through two points: plain laws. -/
open Go Go.Vm Go.Proofs Sp
namespace Qq
noncomputable section

/-- A quotient in lowest terms. -/
structure Low (r : Int × Int) : Prop where
  pos : 0 < r.2
  one : r.1.natAbs.gcd r.2.natAbs = 1
structure LowIn (a d : Int) : Prop where
  h0 : 0 < d
  h1 : d < 9223372036854775808
  a0 : -9223372036854775808 < a
  a1 : a < 9223372036854775808
end
end Qq
end
section
/- Lines through two measurements, each plus or less an error: as the program lists them, and as the reference does. -/
open Go Go.Vm Go.Proofs Sp
namespace Sp
noncomputable section
/-- A line: a day, the level there, the slope, the denominator. -/
abbrev Ln := Int × Int × Int × Int
noncomputable def lnat (l : Ln) (x : Int) : Int := l.2.1 + l.2.2.1 * (x - l.1)
noncomputable def fitB (w : Int) (l : Ln) : List Int → Bool
  | t :: y :: r => !decide (w * l.2.2.2 < ((lnat l t - y * l.2.2.2).natAbs : Int)) && fitB w l r
  | _ => true
noncomputable def sgR (a : Nat) : Int := 2 * a - 1
noncomputable def cqR (L : List Int) (w : Int) (i k a b : Nat) : Ln := (L.getD (i * 2) 0, L.getD (i * 2 + 1) 0 + sgR a * w, L.getD (k * 2) 0, L.getD (k * 2 + 1) 0 + sgR b * w)
noncomputable def lnOf (c : Ln) : Ln := (c.1, c.2.1 * (c.2.2.1 - c.1), c.2.2.2 - c.2.1, c.2.2.1 - c.1)
noncomputable def oneR (L : List Int) (w : Int) (i k a b : Nat) : List Ln := if fitB w (lnOf (cqR L w i k a b)) L = true then [cqR L w i k a b] else []
end
end Sp
namespace Qq
noncomputable section
end
end Qq
end
section
/- Lines of measurements that are near each other: plain laws. -/
open Go Go.Vm Go.Proofs Sp
namespace Qq
noncomputable section
/-- Measurements near the first one. -/
structure Near (zs : List Int) (off m : Nat) : Prop where
  len : off + m * 2 ≤ zs.length
  few : m ≤ 8
  day : ∀ i, i < m → 0 ≤ zs.getD (off + i * 2) 0 - d0 zs off ∧ zs.getD (off + i * 2) 0 - d0 zs off ≤ 400
  idx : ∀ i, i < m → 0 ≤ zs.getD (off + i * 2 + 1) 0 ∧ zs.getD (off + i * 2 + 1) 0 ≤ 400
theorem Near.sums {zs : List Int} {off m : Nat} (h : Near zs off m) {i : Nat} (hi : i ≤ m) :
    (0 ≤ sX zs off i ∧ sX zs off i ≤ 3200) ∧ (0 ≤ sY zs off i ∧ sY zs off i ≤ 3200) ∧ (0 ≤ sXX zs off i ∧ sXX zs off i ≤ 1280000) ∧ (0 ≤ sXY zs off i ∧ sXY zs off i ≤ 1280000) := by
  have hm := h.few
  have up : ∀ {s B : Int}, 0 ≤ B → 0 ≤ s ∧ s ≤ B * i → 0 ≤ s ∧ s ≤ B * 8 := fun {s B} hB ⟨a, b⟩ => ⟨a, Int.le_trans b (Int.mul_le_mul_of_nonneg_left (by omega) hB)⟩
  refine ⟨up (B := 400) (by omega) (sumP_le h.len (fun j hj => h.day j hj) i hi), up (B := 400) (by omega) (sumP_le h.len (fun j hj => h.idx j hj) i hi), up (B := 160000) (by omega) (sumP_le h.len (fun j hj => ?_) i hi), up (B := 160000) (by omega) (sumP_le h.len (fun j hj => ?_) i hi)⟩
  · obtain ⟨q1, q2⟩ := h.day j hj
    have := mul_in q1 q2 q1 q2
    exact ⟨this.1, by omega⟩
  · obtain ⟨q1, q2⟩ := h.day j hj
    obtain ⟨q3, q4⟩ := h.idx j hj
    have := mul_in q1 q2 q3 q4
    exact ⟨this.1, by omega⟩
theorem Near.line {zs : List Int} {off m : Nat} (h : Near zs off m) : (-4096000000 ≤ lvl zs off m ∧ lvl zs off m ≤ 4096000000) ∧ (-10240000 ≤ slp zs off m ∧ slp zs off m ≤ 10240000) ∧ dn zs off m ≤ 10240000 := by
  obtain ⟨⟨x0, x1⟩, ⟨y0, y1⟩, ⟨p0, p1⟩, ⟨q0, q1⟩⟩ := h.sums (Nat.le_refl m)
  have hm := h.few
  have a1 := mul_in y0 y1 p0 p1
  have a2 := mul_in x0 x1 q0 q1
  have a3 := mul_in (show (0 : Int) ≤ m by omega) (show (m : Int) ≤ 8 by omega) q0 q1
  have a4 := mul_in x0 x1 y0 y1
  have a5 := mul_in (show (0 : Int) ≤ m by omega) (show (m : Int) ≤ 8 by omega) p0 p1
  have a6 := mul_in x0 x1 x0 x1
  simp only [lvl, slp, dn]
  omega
end
end Qq
end
section
/- Lines that fit: the loops. -/
open Go Go.Vm Go.Proofs Sp
namespace Qq
noncomputable section
/-- A line and measurements whose numbers do not leave the machine's integers. -/
structure FitIn (zs : List Int) (off m : Nat) (w a b s d : Int) : Prop where
  len : off + m * 2 ≤ zs.length
  few : m ≤ 1000
  w0 : 0 ≤ w
  w1 : w ≤ 100000
  a0 : 0 ≤ a
  a1 : a ≤ 100000
  b0 : -1000000000000 ≤ b
  b1 : b ≤ 1000000000000
  s0 : -1000000000000 ≤ s
  s1 : s ≤ 1000000000000
  d0 : 0 < d
  d1 : d ≤ 1000000000000
  day : ∀ i, i < m → 0 ≤ zs.getD (off + i * 2) 0 ∧ zs.getD (off + i * 2) 0 ≤ 100000
  idx : ∀ i, i < m → 0 ≤ zs.getD (off + i * 2 + 1) 0 ∧ zs.getD (off + i * 2 + 1) 0 ≤ 100000
/-- A line through two points, near measurements. -/
structure CoIn (zs : List Int) (off m : Nat) (w x y u v : Int) : Prop where
  len : off + m * 2 ≤ zs.length
  few : m ≤ 1000
  w0 : 0 ≤ w
  w1 : w ≤ 100000
  x0 : 0 ≤ x
  xu : x < u
  u1 : u ≤ 100000
  y0 : -200000 ≤ y
  y1 : y ≤ 200000
  v0 : -200000 ≤ v
  v1 : v ≤ 200000
  day : ∀ i, i < m → 0 ≤ zs.getD (off + i * 2) 0 ∧ zs.getD (off + i * 2) 0 ≤ 100000
  idx : ∀ i, i < m → 0 ≤ zs.getD (off + i * 2 + 1) 0 ∧ zs.getD (off + i * 2 + 1) 0 ≤ 100000
end
end Qq
end
section
/- Lines that are given, checked; Fits. -/
open Go Go.Vm Go.Proofs Sp
namespace Sp
noncomputable section
noncomputable def rtE (n d : Int) : Int := sel (fi [wi n (-999999999) 999999999, wi d 1 999999999]) (wh (decide ((1 : Int) < (Nat.gcd n.natAbs d.natAbs : Nat))) 1)
noncomputable def mxG (m : Int) : List Int → Int
  | [] => m
  | x :: r => mxG (if x > m then x else m) r
noncomputable def mxL (l : List Int) : Int := mxG (l.getD 0 0) (l.drop 1)
end
end Sp
namespace Qq
noncomputable section
noncomputable def s1 : List (Nat × Orc) := [(96, orcWhen), (95, orcFirst)]
noncomputable def s2 : List (Nat × Orc) := (97, orcWithin) :: s1
/- The greatest common divisor. -/
noncomputable def orcRt : Orc
  | [.agg ⟨[.int .i64 n, .int .i64 d]⟩], [] => some (.int .i64 (rtE n d), [])
  | _, _ => none
/- The greatest of a list. -/
noncomputable def orcMax : Orc
  | [.slice (some ⟨0, 0, none⟩) n _c], [some (.row cells es more rw true)] =>
    match intsOf cells with
    | some l => if n = l.length ∧ 0 < n ∧ n < 1000 then some (.int .i64 (mxL l), [some (.row cells es more rw true)]) else none
    | none => none
  | _, _ => none
/- Lines, checked. -/
noncomputable def t20 : List (Nat × Orc) := (63, orcDay) :: (108, orcRt) :: (57, orcMax) :: t2
end
end Qq
end
section
/- Samples, checked. -/
open Go Go.Vm Go.Proofs Sp
namespace Sp
noncomputable section
/-- The integer of a sample. -/
noncomputable def lev (x : Nat) : Int := fInt (fMul x 1098907648)
noncomputable def sE (x : Nat) : Int := sel (wh (!Fl.finB x) 1) (wh (fLt x 3296722944 || (fGt x 1149239296 || fNe (fMul x 1098907648) (fOf (lev x)))) 3)
end
end Sp
namespace Qq
noncomputable section
noncomputable def orcSmp : Orc
  | [.float .f32 x, .int .i64 1024], [] => some (.int .i64 (sE x), [])
  | _, _ => none
end
end Qq
namespace Fl
open Ieee Sp
/-- What a sample is. -/
structure Smp (x : Nat) : Prop where
  fin : IsF x
  v : val x * 16 = lev x * (one : Int)
  few : (lev x).natAbs ≤ 16384
  m1 : fMulOk x 1098907648
  m2 : fMulOk 1098907648 x
  i1 : fIntOk (fMul x 1098907648)
end Fl
namespace Qq
noncomputable section
noncomputable def s3 : List (Nat × Orc) := (135, orcSmp) :: s2
/- The integer of a sample. -/
end
end Qq
end
section
/- Runs, checked: the program. -/
open Go Go.Vm Go.Proofs Sp
namespace Sp
noncomputable section
end
end Sp
namespace Qq
noncomputable section
/- The errors of samples. -/
noncomputable def oneR (l : List Int) : Option AObj := some (.row (ints l) 1 true true true)
/- Holes. -/
noncomputable def s4 : List (Nat × Orc) := (82, orcName) :: s2
end
end Qq
end
section
/- Moments of a run. -/
open Go Go.Vm Go.Proofs Sp
namespace Sp
noncomputable section
end
end Sp
namespace Qq
noncomputable section
/- The reference. -/
/- Copies; short runs. -/
/-- Moments are bounded. -/
structure MoB (m : Int × Int × Int) (i : Nat) : Prop where
  c0 : 0 ≤ m.1
  c1 : m.1 ≤ i
  s0 : -(16384 * (i : Int)) ≤ m.2.1
  s1 : m.2.1 ≤ 16384 * i
  q0 : 0 ≤ m.2.2
  q1 : m.2.2 ≤ 268435456 * i
theorem MoB.zero : MoB (0, 0, 0) 0 := ⟨by simp, by simp, by simp, by simp, by simp, by simp⟩
theorem MoB.more {m : Int × Int × Int} {i : Nat} (h : MoB m i) : MoB m (i + 1) := by
  obtain ⟨a, b, c, d, e, f⟩ := h
  exact ⟨a, by omega, by omega, by omega, e, by omega⟩
end
end Qq
end
section
/- The law about moments of parts. -/
open Go Go.Vm Go.Proofs Sp
namespace Sp
noncomputable section
end
end Sp
namespace Qq
noncomputable section
noncomputable def l3 : List (Nat × Orc) := [(4, orcTrue)]
end
end Qq
end
section
/- Spans above a limit: the reference; numbers held against each other; the law about windows. -/
open Go Go.Vm Go.Proofs Sp
namespace Qq
noncomputable section
/- Lists of integers that are the same. -/
noncomputable def lpSm (l : List Int) (n c d : Nat) : Lp where
  σ := Nat
  E s := slots 26 [(0, .slice (some ⟨0, 0, none⟩) n c), (1, .slice (some ⟨1, 0, none⟩) n d), (5, .int .i64 (Int.ofNat s))]
  Hp _ := [oneR l, oneR l]
  I s := s ≤ n
  m s := n - s
noncomputable def hsSm (l : List Int) (n c d : Nat) : Hs Tryz.prog where
  op y := if [602, 606].contains y then some (hIa Tryz.prog) else if [603, 607].contains y then some (hLd Tryz.prog (zI l)) else none
  lp _ := some (lpSm l n c d)
  cl _ := keep 26 [0, 1, 5]
  au := au0 Tryz.prog
theorem sm_t (l : List Int) (n : Nat) (c : Nat) (d : Nat) (K : Value → Heap → Prop) :
    (fnP Tryz.prog c0 (hsSm l n c d) (26 : FuncId) [Value.slice (some { block := (0 : Nat), off := (0 : Nat) }) n c, Value.slice (some { block := (1 : Nat), off := (0 : Nat) }) n d] [oneR l, oneR l] K) =
    (br ((↑n : Int) != (↑n : Int)) (K (Value.bool false) (some (AObj.row (ints l) (1 : Nat) true true true) :: some (AObj.row (ints l) (1 : Nat) true true true) :: noH)) ((∃ (s : Nat), Is (s ≤ n) ∧ [Value.slice (some { block := (0 : Nat), off := (0 : Nat) }) n c, Value.slice (some { block := (1 : Nat), off := (0 : Nat) }) n d, poi, poi, poi, Value.int IntKind.i64 (0 : Int), poi, poi, poi, poi, poi, poi, poi, poi, poi, poi, poi, poi, poi, poi, poi, poi, poi, poi, poi, poi] = [Value.slice (some { block := (0 : Nat), off := (0 : Nat) }) n c, Value.slice (some { block := (1 : Nat), off := (0 : Nat) }) n d, poi, poi, poi, Value.int IntKind.i64 (↑s : Int), poi, poi, poi, poi, poi, poi, poi, poi, poi, poi, poi, poi, poi, poi, poi, poi, poi, poi, poi, poi] ∧ some (AObj.row (ints l) (1 : Nat) true true true) :: some (AObj.row (ints l) (1 : Nat) true true true) :: noH = some (AObj.row (ints l) (1 : Nat) true true true) :: some (AObj.row (ints l) (1 : Nat) true true true) :: noH) ∧ ∀ (s : Nat), Is (s ≤ n) → br (decide ((↑s : Int) < (↑n : Int))) (Is ((0 : Int) ≤ (↑s : Int) ∧ (↑s : Int) < (↑n : Int)) ∧ Is ((ints l)[(0 : Nat) + Int.toNat (↑s : Int) * (1 : Nat)]? = some (Value.int IntKind.i64 (List.getD l ((0 : Nat) + Int.toNat (↑s : Int) * (1 : Nat)) (0 : Int)))) ∧ Is ((0 : Int) ≤ (↑s : Int) ∧ (↑s : Int) < (↑n : Int)) ∧ Is ((ints l)[(0 : Nat) + Int.toNat (↑s : Int) * (1 : Nat)]? = some (Value.int IntKind.i64 (List.getD l ((0 : Nat) + Int.toNat (↑s : Int) * (1 : Nat)) (0 : Int)))) ∧ br (List.getD l ((0 : Nat) + Int.toNat (↑s : Int) * (1 : Nat)) (0 : Int) != List.getD l ((0 : Nat) + Int.toNat (↑s : Int) * (1 : Nat)) (0 : Int)) (K (Value.bool false) (some (AObj.row (ints l) (1 : Nat) true true true) :: some (AObj.row (ints l) (1 : Nat) true true true) :: noH)) (∃ (s' : Nat), Is (s' ≤ n) ∧ Is (n - s' < n - s) ∧ [Value.slice (some { block := (0 : Nat), off := (0 : Nat) }) n c, Value.slice (some { block := (1 : Nat), off := (0 : Nat) }) n d, poi, poi, poi, Value.int IntKind.i64 (IntKind.wrap IntKind.i64 ((↑s : Int) + (1 : Int))), poi, poi, poi, poi, poi, poi, poi, poi, poi, poi, poi, poi, poi, poi, poi, poi, poi, poi, poi, poi] = [Value.slice (some { block := (0 : Nat), off := (0 : Nat) }) n c, Value.slice (some { block := (1 : Nat), off := (0 : Nat) }) n d, poi, poi, poi, Value.int IntKind.i64 (↑s' : Int), poi, poi, poi, poi, poi, poi, poi, poi, poi, poi, poi, poi, poi, poi, poi, poi, poi, poi, poi, poi] ∧ some (AObj.row (ints l) (1 : Nat) true true true) :: some (AObj.row (ints l) (1 : Nat) true true true) :: noH = some (AObj.row (ints l) (1 : Nat) true true true) :: some (AObj.row (ints l) (1 : Nat) true true true) :: noH)) (K (Value.bool true) (some (AObj.row (ints l) (1 : Nat) true true true) :: some (AObj.row (ints l) (1 : Nat) true true true) :: noH)))) := by kernel_rfl
noncomputable def isSmI (l : List Int) (n m : Nat) (e1 e2 : List Value) : Prop := e1 = ints l ∧ e2 = ints l ∧ n = m ∧ l.length = n ∧ n ≤ 100000
noncomputable def orcSmI (l : List Int) : OrcV
  | [.slice (some ⟨0, 0, none⟩) n _, .slice (some ⟨1, 0, none⟩) m _], [some (.row e1 1 true true true), some (.row e2 1 true true true)] => some (.bool true, [some (.row e1 1 true true true), some (.row e2 1 true true true)], isSmI l n m e1 e2)
  | _, _ => none
set_option maxRecDepth 100000 in
theorem okSmI (l : List Int) : OkV Tryz.prog 26 (orcSmI l) := by
  intro args H ret H' vc h hv
  unfold orcSmI at h
  split at h
  · rename_i n c m d e1 e2
    cases h
    obtain ⟨rfl, rfl, rfl, hn, h9⟩ := hv
    refine fnP_res hm c0_ok (hs := hsSm l n c d) ?_
    show fnP Tryz.prog c0 (hsSm l n c d) 26 _ [oneR l, oneR l] _
    rw [sm_t]
    refine br_of (fun h => by simp at h) (fun _ => ⟨⟨(0 : Nat), ⟨Nat.zero_le _⟩, by first | trivial | rfl, by first | trivial | rfl⟩, fun s hs => br_of (fun hc => ?_) (fun hc => ⟨by first | trivial | rfl, by first | trivial | rfl⟩)⟩)
    have hc := lt_of_dec hc
    simp only [Nat.zero_add, Nat.mul_one, Int.toNat_natCast]
    refine ⟨⟨by omega, by omega⟩, ⟨zint_at (by omega)⟩, ⟨by omega, by omega⟩, ⟨zint_at (by omega)⟩, br_of (fun h => by simp at h) (fun _ => ⟨s + 1, ⟨hc⟩, ⟨by omega⟩, by rw [up1 hc (by omega)], by first | trivial | rfl⟩)⟩
  · cases h
noncomputable def hsNu (l : List Int) : Hs Tryz.prog where
  au := auCalls [(26, hCa Tryz.prog 26 (orcSmI l) (okSmI l))]
theorem nu_t (l : List Int) (n : Nat) (c : Nat) (m : Nat) (d : Nat) (e : Int) (b : Int) (l2 : List Int) (K : Value → Heap → Prop) :
    (fnP Tryz.prog c0 (hsNu l) (12 : FuncId) [Value.slice (some { block := (0 : Nat), off := (0 : Nat) }) n c, Value.int IntKind.i64 e, Value.int IntKind.i64 b, Value.slice (some { block := (1 : Nat), off := (0 : Nat) }) m d] [oneR l, oneR l2] K) =
    (br (e == b) (br (b != (0 : Int)) (br ((↑n : Int) == (0 : Int)) (K (Value.bool true) (some (AObj.row (ints l) (1 : Nat) true true true) :: some (AObj.row (ints l2) (1 : Nat) true true true) :: noH)) (br (b == (0 : Int)) (Is (isSmI l n m (ints l) (ints l2)) ∧ K (Value.bool true) (some (AObj.row (ints l) (1 : Nat) true true true) :: some (AObj.row (ints l2) (1 : Nat) true true true) :: noH)) (K (Value.bool false) (some (AObj.row (ints l) (1 : Nat) true true true) :: some (AObj.row (ints l2) (1 : Nat) true true true) :: noH)))) (br (b == (0 : Int)) (Is (isSmI l n m (ints l) (ints l2)) ∧ K (Value.bool true) (some (AObj.row (ints l) (1 : Nat) true true true) :: some (AObj.row (ints l2) (1 : Nat) true true true) :: noH)) (K (Value.bool false) (some (AObj.row (ints l) (1 : Nat) true true true) :: some (AObj.row (ints l2) (1 : Nat) true true true) :: noH)))) (K (Value.bool false) (some (AObj.row (ints l) (1 : Nat) true true true) :: some (AObj.row (ints l2) (1 : Nat) true true true) :: noH))) := by kernel_rfl
end
end Qq
end
section
/- The law about windows. -/
open Go Go.Vm Go.Proofs Sp
namespace Qq
noncomputable section
noncomputable def isNu (l : List Int) (e b : Int) (n m : Nat) (e1 e2 : List Value) : Prop := e = b ∧ (b ≠ 0 → n = 0) ∧ isSmI l n m e1 e2
noncomputable def orcNu (l : List Int) : OrcV
  | [.slice (some ⟨0, 0, none⟩) n _, .int .i64 e, .int .i64 b, .slice (some ⟨1, 0, none⟩) m _], [some (.row e1 1 true true true), some (.row e2 1 true true true)] => some (.bool true, [some (.row e1 1 true true true), some (.row e2 1 true true true)], isNu l e b n m e1 e2)
  | _, _ => none
theorem okNu (l : List Int) : OkV Tryz.prog 12 (orcNu l) := by
  intro args H ret H' vc h hv
  unfold orcNu at h
  split at h
  · rename_i n c e b m d e1 e2
    cases h
    obtain ⟨rfl, hb, rfl, rfl, rfl, hn, h9⟩ := hv
    refine fnP_res hm c0_ok (hs := hsNu l) ?_
    show fnP Tryz.prog c0 (hsNu l) 12 _ [oneR l, oneR l] _
    rw [nu_t]
    refine br_of (fun _ => br_of (fun h => br_of (fun _ => ⟨by first | trivial | rfl, by first | trivial | rfl⟩) (fun h2 => ?_)) (fun h => br_of (fun _ => ⟨⟨rfl, rfl, rfl, hn, h9⟩, by first | trivial | rfl, by first | trivial | rfl⟩) (fun h2 => ?_))) (fun h => by simp at h)
    · have := hb (by simpa using h)
      rw [this] at h2
      simp at h2
    · have h : e = 0 := by simpa using h
      rw [h] at h2
      simp at h2
  · cases h
end
end Qq
end
section
/- What the law calls, as contracts, few sections. -/
open Go Go.Vm Go.Proofs Sp
namespace Qq
noncomputable section
theorem in_of {l : Ls} {n : Nat} (i : Nat) (hl : okLt l n) (h : i < n) : secIs (l.N i) (l.K i) (ints (l.zs i)) (acs (l.ks i)) := by
  obtain ⟨h1, h2, h3, h4⟩ := hl i h
  exact ⟨_, _, rfl, rfl, h1, h2, h3, h4⟩
theorem lsIn_nil (l : Ls) (n : Nat) : lsIn l n (lsT l n) := by
  have := lsIn_app l n []
  rw [List.append_nil] at this; exact this
def liG (l : Ls) (n : Nat) : Heap := lsG l n ++ owR l (2 * n + 2) n :: owT l n
theorem li0_ok {l : Ls} {c : Nat} (hl : okLt l 0) : SmallRes Tryz.prog 7 [.slice (some ⟨0, 0, none⟩) 0 c] (lsG l 0) (.slice (some ⟨1, 0, none⟩) 0 0) (liG l 0) := by
  refine fnP_res hm c0_ok (hs := hsLi) ?_
  show fnP Tryz.prog c0 hsLi 7 _ _ _
  rw [li0_t]
  exact ⟨rfl, rfl⟩
theorem li1_ok {l : Ls} {c : Nat} (hl : okLt l 1) : SmallRes Tryz.prog 7 [.slice (some ⟨0, 0, none⟩) 1 c] (lsG l 1) (.slice (some ⟨3, 0, none⟩) 1 0) (liG l 1) := by
  refine fnP_res hm c0_ok (hs := hsLi) ?_
  show fnP Tryz.prog c0 hsLi 7 _ _ _
  rw [li1_t]
  exact ⟨⟨in_of 0 hl (by decide)⟩, rfl, rfl⟩
theorem li2_ok {l : Ls} {c : Nat} (hl : okLt l 2) : SmallRes Tryz.prog 7 [.slice (some ⟨0, 0, none⟩) 2 c] (lsG l 2) (.slice (some ⟨5, 0, none⟩) 2 0) (liG l 2) := by
  refine fnP_res hm c0_ok (hs := hsLi) ?_
  show fnP Tryz.prog c0 hsLi 7 _ _ _
  rw [li2_t]
  exact ⟨⟨in_of 0 hl (by decide)⟩, ⟨in_of 1 hl (by decide)⟩, rfl, rfl⟩
theorem li3_ok {l : Ls} {c : Nat} (hl : okLt l 3) : SmallRes Tryz.prog 7 [.slice (some ⟨0, 0, none⟩) 3 c] (lsG l 3) (.slice (some ⟨7, 0, none⟩) 3 0) (liG l 3) := by
  refine fnP_res hm c0_ok (hs := hsLi) ?_
  show fnP Tryz.prog c0 hsLi 7 _ _ _
  rw [li3_t]
  exact ⟨⟨in_of 0 hl (by decide)⟩, ⟨in_of 1 hl (by decide)⟩, ⟨in_of 2 hl (by decide)⟩, rfl, rfl⟩
theorem li4_ok {l : Ls} {c : Nat} (hl : okLt l 4) : SmallRes Tryz.prog 7 [.slice (some ⟨0, 0, none⟩) 4 c] (lsG l 4) (.slice (some ⟨9, 0, none⟩) 4 0) (liG l 4) := by
  refine fnP_res hm c0_ok (hs := hsLi) ?_
  show fnP Tryz.prog c0 hsLi 7 _ _ _
  rw [li4_t]
  exact ⟨⟨in_of 0 hl (by decide)⟩, ⟨in_of 1 hl (by decide)⟩, ⟨in_of 2 hl (by decide)⟩, ⟨in_of 3 hl (by decide)⟩, rfl, rfl⟩
theorem li5_ok {l : Ls} {c : Nat} (hl : okLt l 5) : SmallRes Tryz.prog 7 [.slice (some ⟨0, 0, none⟩) 5 c] (lsG l 5) (.slice (some ⟨11, 0, none⟩) 5 0) (liG l 5) := by
  refine fnP_res hm c0_ok (hs := hsLi) ?_
  show fnP Tryz.prog c0 hsLi 7 _ _ _
  rw [li5_t]
  exact ⟨⟨in_of 0 hl (by decide)⟩, ⟨in_of 1 hl (by decide)⟩, ⟨in_of 2 hl (by decide)⟩, ⟨in_of 3 hl (by decide)⟩, ⟨in_of 4 hl (by decide)⟩, rfl, rfl⟩
theorem li6_ok {l : Ls} {c : Nat} (hl : okLt l 6) : SmallRes Tryz.prog 7 [.slice (some ⟨0, 0, none⟩) 6 c] (lsG l 6) (.slice (some ⟨13, 0, none⟩) 6 0) (liG l 6) := by
  refine fnP_res hm c0_ok (hs := hsLi) ?_
  show fnP Tryz.prog c0 hsLi 7 _ _ _
  rw [li6_t]
  exact ⟨⟨in_of 0 hl (by decide)⟩, ⟨in_of 1 hl (by decide)⟩, ⟨in_of 2 hl (by decide)⟩, ⟨in_of 3 hl (by decide)⟩, ⟨in_of 4 hl (by decide)⟩, ⟨in_of 5 hl (by decide)⟩, rfl, rfl⟩
theorem li_ok {l : Ls} {n c : Nat} (h6 : n ≤ 6) (hl : okLt l n) : SmallRes Tryz.prog 7 [.slice (some ⟨0, 0, none⟩) n c] (lsG l n) (.slice (some ⟨2 * n + 1, 0, none⟩) n 0) (liG l n) := by
  match n, h6, hl with
  | 0, _, hl => exact li0_ok hl
  | 1, _, hl => exact li1_ok hl
  | 2, _, hl => exact li2_ok hl
  | 3, _, hl => exact li3_ok hl
  | 4, _, hl => exact li4_ok hl
  | 5, _, hl => exact li5_ok hl
  | 6, _, hl => exact li6_ok hl
  | n + 7, h6, _ => omega
theorem rk_ok {l : Ls} {n : Nat} {x : Int} (h6 : n ≤ 6) (hl : okLt l n) : SmallRes Tryz.prog 6 [.slice (some ⟨0, 0, none⟩) n 0, .int .i64 x] (owG l n) (.tuple #[.slice (some ⟨2 * n + 1, 0, none⟩) (rkM l n x) 0, .int .i64 (rkE l n x)]) (owG l n ++ [some (.row (ints (rkI l n x)) 1 true true true)]) := by
  match n, h6, hl with
  | 0, _, hl => exact rk0_ok hl
  | 1, _, hl => exact rk1_ok hl
  | 2, _, hl => exact rk2_ok hl
  | 3, _, hl => exact rk3_ok hl
  | 4, _, hl => exact rk4_ok hl
  | 5, _, hl => exact rk5_ok hl
  | 6, _, hl => exact rk6_ok hl
  | n + 7, h6, _ => omega
theorem rr0_ok {l : Ls} {c : Nat} {x : Int} (hp : ∀ i, i < 0 → okP l i) (hx : 0 ≤ x ∧ x ≤ 100000) : SmallRes Tryz.prog 11 [.slice (some ⟨0, 0, none⟩) 0 c, .int .i64 x] (lsG l 0) (.slice (some ⟨2 * 0 + 1, 0, none⟩) 0 0) (lsG l 0 ++ [some (.row (ints (rkZ (dI l x) 0)) 1 true true true)]) := by
  refine fnP_res hm c0_ok (hs := hsRr l x 0 c) ?_
  show fnP Tryz.prog c0 (hsRr l x 0 c) 11 _ _ _
  rw [rr0_t]
  exact rr_in (by decide) hp hx
theorem rr1_ok {l : Ls} {c : Nat} {x : Int} (hp : ∀ i, i < 1 → okP l i) (hx : 0 ≤ x ∧ x ≤ 100000) : SmallRes Tryz.prog 11 [.slice (some ⟨0, 0, none⟩) 1 c, .int .i64 x] (lsG l 1) (.slice (some ⟨2 * 1 + 1, 0, none⟩) 1 0) (lsG l 1 ++ [some (.row (ints (rkZ (dI l x) 1)) 1 true true true)]) := by
  refine fnP_res hm c0_ok (hs := hsRr l x 1 c) ?_
  show fnP Tryz.prog c0 (hsRr l x 1 c) 11 _ _ _
  rw [rr1_t]
  exact rr_in (by decide) hp hx
theorem rr2_ok {l : Ls} {c : Nat} {x : Int} (hp : ∀ i, i < 2 → okP l i) (hx : 0 ≤ x ∧ x ≤ 100000) : SmallRes Tryz.prog 11 [.slice (some ⟨0, 0, none⟩) 2 c, .int .i64 x] (lsG l 2) (.slice (some ⟨2 * 2 + 1, 0, none⟩) 2 0) (lsG l 2 ++ [some (.row (ints (rkZ (dI l x) 2)) 1 true true true)]) := by
  refine fnP_res hm c0_ok (hs := hsRr l x 2 c) ?_
  show fnP Tryz.prog c0 (hsRr l x 2 c) 11 _ _ _
  rw [rr2_t]
  exact rr_in (by decide) hp hx
theorem rr3_ok {l : Ls} {c : Nat} {x : Int} (hp : ∀ i, i < 3 → okP l i) (hx : 0 ≤ x ∧ x ≤ 100000) : SmallRes Tryz.prog 11 [.slice (some ⟨0, 0, none⟩) 3 c, .int .i64 x] (lsG l 3) (.slice (some ⟨2 * 3 + 1, 0, none⟩) 3 0) (lsG l 3 ++ [some (.row (ints (rkZ (dI l x) 3)) 1 true true true)]) := by
  refine fnP_res hm c0_ok (hs := hsRr l x 3 c) ?_
  show fnP Tryz.prog c0 (hsRr l x 3 c) 11 _ _ _
  rw [rr3_t]
  exact rr_in (by decide) hp hx
theorem rr4_ok {l : Ls} {c : Nat} {x : Int} (hp : ∀ i, i < 4 → okP l i) (hx : 0 ≤ x ∧ x ≤ 100000) : SmallRes Tryz.prog 11 [.slice (some ⟨0, 0, none⟩) 4 c, .int .i64 x] (lsG l 4) (.slice (some ⟨2 * 4 + 1, 0, none⟩) 4 0) (lsG l 4 ++ [some (.row (ints (rkZ (dI l x) 4)) 1 true true true)]) := by
  refine fnP_res hm c0_ok (hs := hsRr l x 4 c) ?_
  show fnP Tryz.prog c0 (hsRr l x 4 c) 11 _ _ _
  rw [rr4_t]
  exact rr_in (by decide) hp hx
theorem rr5_ok {l : Ls} {c : Nat} {x : Int} (hp : ∀ i, i < 5 → okP l i) (hx : 0 ≤ x ∧ x ≤ 100000) : SmallRes Tryz.prog 11 [.slice (some ⟨0, 0, none⟩) 5 c, .int .i64 x] (lsG l 5) (.slice (some ⟨2 * 5 + 1, 0, none⟩) 5 0) (lsG l 5 ++ [some (.row (ints (rkZ (dI l x) 5)) 1 true true true)]) := by
  refine fnP_res hm c0_ok (hs := hsRr l x 5 c) ?_
  show fnP Tryz.prog c0 (hsRr l x 5 c) 11 _ _ _
  rw [rr5_t]
  exact rr_in (by decide) hp hx
theorem rr6_ok {l : Ls} {c : Nat} {x : Int} (hp : ∀ i, i < 6 → okP l i) (hx : 0 ≤ x ∧ x ≤ 100000) : SmallRes Tryz.prog 11 [.slice (some ⟨0, 0, none⟩) 6 c, .int .i64 x] (lsG l 6) (.slice (some ⟨2 * 6 + 1, 0, none⟩) 6 0) (lsG l 6 ++ [some (.row (ints (rkZ (dI l x) 6)) 1 true true true)]) := by
  refine fnP_res hm c0_ok (hs := hsRr l x 6 c) ?_
  show fnP Tryz.prog c0 (hsRr l x 6 c) 11 _ _ _
  rw [rr6_t]
  exact rr_in (by decide) hp hx
theorem rr_ok {l : Ls} {n c : Nat} {x : Int} (h6 : n ≤ 6) (hp : ∀ i, i < n → okP l i) (hx : 0 ≤ x ∧ x ≤ 100000) : SmallRes Tryz.prog 11 [.slice (some ⟨0, 0, none⟩) n c, .int .i64 x] (lsG l n) (.slice (some ⟨2 * n + 1, 0, none⟩) n 0) (lsG l n ++ [some (.row (ints (rkZ (dI l x) n)) 1 true true true)]) := by
  match n, h6, hp with
  | 0, _, hp => exact rr0_ok hp hx
  | 1, _, hp => exact rr1_ok hp hx
  | 2, _, hp => exact rr2_ok hp hx
  | 3, _, hp => exact rr3_ok hp hx
  | 4, _, hp => exact rr4_ok hp hx
  | 5, _, hp => exact rr5_ok hp hx
  | 6, _, hp => exact rr6_ok hp hx
  | n + 7, h6, _ => omega
noncomputable def shIs (l : Ls) (n m : Nat) (H : Heap) : Prop := m = n ∧ H = lsG l n ∧ okLs l n ∧ n ≤ 1000 ∧ shL l n = true
noncomputable def ltIs (l : Ls) (n m : Nat) (H : Heap) : Prop := m = n ∧ H = lsG l n ∧ okLt l n ∧ n ≤ 6
noncomputable def owIs (l : Ls) (n : Nat) (x : Int) (m c : Nat) (y : Int) (H : Heap) : Prop := m = n ∧ c = 0 ∧ y = x ∧ H = owG l n ∧ okLt l n ∧ n ≤ 6
noncomputable def rrIs (l : Ls) (n : Nat) (x : Int) (m : Nat) (y : Int) (H : Heap) : Prop := m = n ∧ y = x ∧ H = lsG l n ∧ (∀ i, i < n → okP l i) ∧ (0 ≤ x ∧ x ≤ 100000) ∧ n ≤ 6
noncomputable def orcSh (l : Ls) (n : Nat) : OrcV
  | [.slice (some ⟨0, 0, none⟩) m _], H => some (.bool true, lsG l n, shIs l n m H)
  | _, _ => none
theorem okSh (l : Ls) (n : Nat) : OkV Tryz.prog 5 (orcSh l n) := by
  intro args H ret H' vc h hv
  unfold orcSh at h
  split at h
  · cases h
    obtain ⟨rfl, rfl, h1, h2, h3⟩ := hv
    have := shL_ok (c := ‹Nat›) (lsIn_nil l _) h1 (by omega)
    rw [h3] at this
    exact this
  · cases h
noncomputable def orcLi (l : Ls) (n : Nat) : OrcV
  | [.slice (some ⟨0, 0, none⟩) m _], H => some (.slice (some ⟨2 * n + 1, 0, none⟩) n 0, liG l n, ltIs l n m H)
  | _, _ => none
theorem okLi (l : Ls) (n : Nat) : OkV Tryz.prog 7 (orcLi l n) := by
  intro args H ret H' vc h hv
  unfold orcLi at h
  split at h
  · cases h
    obtain ⟨rfl, rfl, h1, h2⟩ := hv
    exact li_ok h2 h1
  · cases h
noncomputable def orcRk (l : Ls) (n : Nat) (x : Int) : OrcV
  | [.slice (some ⟨0, 0, none⟩) m c, .int .i64 y], H => some (.tuple #[.slice (some ⟨2 * n + 1, 0, none⟩) (rkM l n x) 0, .int .i64 (rkE l n x)], owG l n ++ [some (.row (ints (rkI l n x)) 1 true true true)], owIs l n x m c y H)
  | _, _ => none
theorem okRk (l : Ls) (n : Nat) (x : Int) : OkV Tryz.prog 6 (orcRk l n x) := by
  intro args H ret H' vc h hv
  unfold orcRk at h
  split at h
  · cases h
    obtain ⟨rfl, rfl, rfl, rfl, h1, h2⟩ := hv
    exact rk_ok h2 h1
  · cases h
noncomputable def orcCs (l : Ls) (n : Nat) : OrcV
  | [.slice (some ⟨0, 0, none⟩) m _], H => some (.int .i64 (csE l n), lsG l n, ltIs l n m H)
  | _, _ => none
theorem okCs (l : Ls) (n : Nat) : OkV Tryz.prog 9 (orcCs l n) := by
  intro args H ret H' vc h hv
  unfold orcCs at h
  split at h
  · cases h
    obtain ⟨rfl, rfl, h1, h2⟩ := hv
    exact cs_ok (lsIn_nil l _) h1
  · cases h
noncomputable def orcRr (l : Ls) (n : Nat) (x : Int) : OrcV
  | [.slice (some ⟨0, 0, none⟩) m _, .int .i64 y], H => some (.slice (some ⟨2 * n + 1, 0, none⟩) n 0, lsG l n ++ [some (.row (ints (rkZ (dI l x) n)) 1 true true true)], rrIs l n x m y H)
  | _, _ => none
theorem okRr (l : Ls) (n : Nat) (x : Int) : OkV Tryz.prog 11 (orcRr l n x) := by
  intro args H ret H' vc h hv
  unfold orcRr at h
  split at h
  · cases h
    obtain ⟨rfl, rfl, rfl, h1, h2, h3⟩ := hv
    exact rr_ok h3 h1 h2
  · cases h
end
end Qq
end
section
/- The law, few sections: the trees. -/
open Go Go.Vm Go.Proofs Sp
namespace Qq
noncomputable section
noncomputable def lpLw (l : Ls) (x : Int) (n : Nat) : Lp where
  σ := Unit
  E _ := slots 40 [(5, .slice (some ⟨2 * n + 1, 0, none⟩) (rkM l n x) 0), (6, .int .i64 (rkE l n x)), (7, .int .i64 (rkE l n x)), (8, .slice (some ⟨2 * n + 2, 0, none⟩) (rkM l n x) 0)]
  Hp _ := lsG l n ++ [some (.row (ints (rkI l n x)) 1 true true true), some (.row (ints (rkI l n x)) 1 true true true)]
  I _ := True
  m _ := 0
noncomputable def tLw : List (Nat × Orc) := [(4, orcTrue), (10, orcDay), (8, orcFirst)]
noncomputable def cLw : CallF := ctx Tryz.prog tLw
theorem cLw_ok : CallOK Tryz.prog cLw := ctx_ok hm (all_cons okTrue (all_cons okIdxR (all_cons okFirstR all_nil)))
noncomputable def hsLw (l : Ls) (x : Int) (n : Nat) : Hs Tryz.prog where
  cut y := if y = 8 then some (lpLw l x n) else none
  cl _ := keep 40 [5, 6, 7, 8]
  nl _ := [.only (.slot 8 1)]
  sm := true
  au := auCalls [(5, hCa Tryz.prog 5 (orcSh l n) (okSh l n)), (7, hCa Tryz.prog 7 (orcLi l n) (okLi l n)), (6, hCa Tryz.prog 6 (orcRk l n x) (okRk l n x)), (9, hCa Tryz.prog 9 (orcCs l n) (okCs l n)), (11, hCa Tryz.prog 11 (orcRr l n x) (okRr l n x)), (12, hCa Tryz.prog 12 (orcNu (rkI l n x)) (okNu (rkI l n x)))]
def lwT (l : Ls) (x : Int) (n c : Nat) (K : Value → Heap → Prop) : Prop :=
  (Is (shIs l n n (lsG l n)) ∧ Is (ltIs l n n (lsG l n)) ∧ Is (owIs l n x n (0 : Nat) x (owG l n)) ∧ Is (ltIs l n n (lsG l n)) ∧ br (fi [csE l n, wi x (0 : Int) (100000 : Int)] == (0 : Int)) (Is (rrIs l n x n x (lsG l n)) ∧ ∃ (s : Unit), Is True ∧ (Value.slice (some { block := (2 * n + 1), off := (0 : Nat) }) (rkM l n x) (0 : Nat) = Value.slice (some { block := (2 * n + 1), off := (0 : Nat) }) (rkM l n x) (0 : Nat) ∧ Value.int IntKind.i64 (rkE l n x) = Value.int IntKind.i64 (rkE l n x) ∧ Value.int IntKind.i64 (fi [csE l n, wi x (0 : Int) (100000 : Int)]) = Value.int IntKind.i64 (rkE l n x) ∧ Value.slice (some { block := (2 * n + 2), off := (0 : Nat) }) n (0 : Nat) = Value.slice (some { block := (2 * n + 2), off := (0 : Nat) }) (rkM l n x) (0 : Nat) ∧ True) ∧ lsG l n ++ some (AObj.row (ints (rkI l n x)) (1 : Nat) true true true) :: some (AObj.row (ints (rkZ (dI l x) n)) (1 : Nat) true true true) :: noH = lsG l n ++ some (AObj.row (ints (rkI l n x)) (1 : Nat) true true true) :: some (AObj.row (ints (rkI l n x)) (1 : Nat) true true true) :: noH) (∃ (s : Unit), Is True ∧ (Value.slice (some { block := (2 * n + 1), off := (0 : Nat) }) (rkM l n x) (0 : Nat) = Value.slice (some { block := (2 * n + 1), off := (0 : Nat) }) (rkM l n x) (0 : Nat) ∧ Value.int IntKind.i64 (rkE l n x) = Value.int IntKind.i64 (rkE l n x) ∧ Value.int IntKind.i64 (fi [csE l n, wi x (0 : Int) (100000 : Int)]) = Value.int IntKind.i64 (rkE l n x) ∧ Value.slice (some { block := (2 * n + 2), off := (0 : Nat) }) (0 : Nat) (0 : Nat) = Value.slice (some { block := (2 * n + 2), off := (0 : Nat) }) (rkM l n x) (0 : Nat) ∧ True) ∧ lsG l n ++ some (AObj.row (ints (rkI l n x)) (1 : Nat) true true true) :: some (AObj.row [] (1 : Nat) true true true) :: noH = lsG l n ++ some (AObj.row (ints (rkI l n x)) (1 : Nat) true true true) :: some (AObj.row (ints (rkI l n x)) (1 : Nat) true true true) :: noH) ∧ ∀ (s : Unit), Is True → Is (isNu (rkI l n x) (rkE l n x) (rkE l n x) (rkM l n x) (rkM l n x) (ints (rkI l n x)) (ints (rkI l n x))) ∧ K (Value.bool true) (lsG l n))
theorem lw0_t (l : Ls) (x : Int) (c : Nat) (K : Value → Heap → Prop) : fnP Tryz.prog cLw (hsLw l x 0) 3 [.slice (some ⟨0, 0, none⟩) 0 c, .int .i64 x] (lsG l 0) K = lwT l x 0 c K := by kernel_rfl
theorem lw1_t (l : Ls) (x : Int) (c : Nat) (K : Value → Heap → Prop) : fnP Tryz.prog cLw (hsLw l x 1) 3 [.slice (some ⟨0, 0, none⟩) 1 c, .int .i64 x] (lsG l 1) K = lwT l x 1 c K := by kernel_rfl
theorem lw2_t (l : Ls) (x : Int) (c : Nat) (K : Value → Heap → Prop) : fnP Tryz.prog cLw (hsLw l x 2) 3 [.slice (some ⟨0, 0, none⟩) 2 c, .int .i64 x] (lsG l 2) K = lwT l x 2 c K := by kernel_rfl
theorem lw3_t (l : Ls) (x : Int) (c : Nat) (K : Value → Heap → Prop) : fnP Tryz.prog cLw (hsLw l x 3) 3 [.slice (some ⟨0, 0, none⟩) 3 c, .int .i64 x] (lsG l 3) K = lwT l x 3 c K := by kernel_rfl
theorem lw4_t (l : Ls) (x : Int) (c : Nat) (K : Value → Heap → Prop) : fnP Tryz.prog cLw (hsLw l x 4) 3 [.slice (some ⟨0, 0, none⟩) 4 c, .int .i64 x] (lsG l 4) K = lwT l x 4 c K := by kernel_rfl
theorem lw5_t (l : Ls) (x : Int) (c : Nat) (K : Value → Heap → Prop) : fnP Tryz.prog cLw (hsLw l x 5) 3 [.slice (some ⟨0, 0, none⟩) 5 c, .int .i64 x] (lsG l 5) K = lwT l x 5 c K := by kernel_rfl
theorem lw6_t (l : Ls) (x : Int) (c : Nat) (K : Value → Heap → Prop) : fnP Tryz.prog cLw (hsLw l x 6) 3 [.slice (some ⟨0, 0, none⟩) 6 c, .int .i64 x] (lsG l 6) K = lwT l x 6 c K := by kernel_rfl
end
end Qq
end
section
/- Ranked: both ways of sorting answer alike. -/
open Go Go.Vm Go.Proofs Sp
namespace Qq
noncomputable section
theorem ipos_congr {d e : Nat → Int} {r : List Nat} {i n : Nat} (h : ∀ m, m < n → d m = e m) (hi : i < n) (hr : ∀ m ∈ r, m < n) (h0 : 0 < n) : ∀ k, ipos d r i k = ipos e r i k
  | 0 => rfl
  | k + 1 => by
    have hm : r.getD k 0 < n := by
      rw [List.getD_eq_getElem?_getD]
      cases hg : r[k]? with
      | none => exact h0
      | some v => exact hr v (List.mem_of_getElem? hg)
    rw [ipos, ipos, h i hi, h _ hm, ipos_congr h hi hr h0 k]
theorem rk_congr {d e : Nat → Int} : ∀ {n : Nat}, (∀ m, m < n → d m = e m) → rk d n = rk e n
  | 0, _ => rfl
  | n + 1, h => by
    have ih := rk_congr (d := d) (e := e) (n := n) fun m hm => h m (by omega)
    rw [rk, rk, ih, ipos_congr (d := d) (e := e) h (by omega) (fun m hm => by have := rk_lt e n m hm; omega) (by omega)]
theorem res_eq (l : Ls) (x : Int) (n : Nat) : resI l x n = rkZ (dI l x) n := by
  have e : rkL ((List.range n).map (dI l x)) n = rk (dI l x) n := by
    refine rk_congr fun m hm => ?_
    rw [List.getD_eq_getElem?_getD, List.getElem?_map, List.getElem?_range hm]; rfl
  rw [resI, rkZ, nats]
  apply List.ext_getElem
  · rw [List.length_map, List.length_range, List.length_map, rk_len]
  · intro j h1 h2
    have h3 : j < (rk (dI l x) n).length := by rw [List.length_map] at h2; exact h2
    rw [List.getElem_map, List.getElem_map, List.getElem_range, sN, e, List.getD_eq_getElem?_getD, List.getElem?_eq_getElem h3]; rfl
theorem csA_all {l : Ls} : ∀ {n : Nat}, csA l n = 0 → ∀ i, i < n → csI l i = 0
  | 0, _, i, hi => by omega
  | n + 1, h, i, hi => by
    rw [csA] at h
    by_cases e : csA l n = 0
    · rw [if_pos e] at h
      by_cases e2 : i = n
      · subst e2; exact h
      · exact csA_all e i (by omega)
    · rw [if_neg e] at h; exact absurd h e
theorem sE_of {l : Ls} {i : Nat} (h : csI l i = 0) : scE l i = 0 := by
  rw [csI] at h
  by_cases e : scE l i = 0
  · exact e
  · rw [if_neg e] at h; exact absurd h e
theorem rkE_fi {l : Ls} {n : Nat} {x : Int} (h : n ≤ 32) : fi [csE l n, wi x 0 100000] = rkE l n x := by
  have e0 : csE l n = csA l n := by
    rw [csE]
    exact if_neg (by omega)
  rw [e0, fi, fi, fi, rkE]
  by_cases e : csA l n = 0
  · rw [if_pos e, if_pos e]
    by_cases e2 : wi x 0 100000 = 0
    · rw [if_pos e2, e2]
    · rw [if_neg e2]
  · rw [if_neg e, if_neg e]
theorem rk_good {l : Ls} {n : Nat} {x : Int} (hl : okLt l n) (h : rkE l n x = 0) : (∀ i, i < n → okP l i) ∧ (0 ≤ x ∧ x ≤ 100000) ∧ rkM l n x = n ∧ rkI l n x = rkZ (dI l x) n := by
  have h0 : csA l n = 0 := by
    rw [rkE] at h
    by_cases e : csA l n = 0
    · exact e
    · rw [if_neg e] at h; exact absurd h e
  have hw : wi x 0 100000 = 0 := by rw [rkE, if_pos h0] at h; exact h
  refine ⟨fun i hi => okP_of i hl hi (sE_of (csA_all h0 i hi)), lim_in (by rw [hw]; rfl), ?_, ?_⟩
  · rw [rkM, if_pos h]
  · rw [rkI, if_pos h, res_eq]
theorem rk_none {l : Ls} {n : Nat} {x : Int} (h : rkE l n x ≠ 0) : rkM l n x = 0 ∧ rkI l n x = [] := by
  rw [rkM, rkI, if_neg h, if_neg h]; exact ⟨rfl, rfl⟩
theorem rkI_len {l : Ls} {n : Nat} {x : Int} : (rkI l n x).length = rkM l n x := by
  rw [rkI, rkM]
  by_cases h : rkE l n x = 0
  · rw [if_pos h, if_pos h, resI, List.length_map, List.length_range]
  · rw [if_neg h, if_neg h]; rfl
/-- A list of which each section is short has few of each. -/
theorem sh_lt {l : Ls} {n : Nat} (hl : okLs l n) (h : shL l n = true) : okLt l n ∧ (n ≤ 6 ∨ n = 33) := by
  rw [shL, Bool.and_eq_true] at h
  refine ⟨fun i hi => ?_, ?_⟩
  · have ha : ∀ m, shA l m = true → ∀ i, i < m → shI l i = true := fun m => by
      induction m with
      | zero => intro _ i hi; omega
      | succ m ih =>
        intro h i hi
        rw [shA, Bool.and_eq_true] at h
        by_cases e : i = m
        · subst e; exact h.2
        · exact ih h.1 i (by omega)
    have hs := ha n h.1 i hi
    obtain ⟨h1, h2, h3, h4⟩ := hl i hi
    rw [shI] at hs
    refine ⟨h1, h2, ?_⟩
    rw [shortS] at hs
    simp only [Bool.and_eq_true, Bool.or_eq_true, decide_eq_true_eq, beq_iff_eq] at hs
    obtain ⟨_, _, q1, q2⟩ := hs
    omega
  · have := h.2
    simp only [Bool.or_eq_true, decide_eq_true_eq, beq_iff_eq] at this
    omega
end
end Qq
end
section
/- The law, few sections. -/
open Go Go.Vm Go.Proofs Sp
namespace Qq
noncomputable section
theorem lw_in {l : Ls} {x : Int} {n c : Nat} (h6 : n ≤ 6) (hs : okLs l n) (hsh : shL l n = true) : lwT l x n c (fun v h => v = .bool true ∧ h = lsG l n) := by
  obtain ⟨hl, _⟩ := sh_lt hs hsh
  have e := rkE_fi (l := l) (n := n) (x := x) (by omega)
  unfold lwT
  rw [e]
  have hq : rkM l n x ≤ 100000 := by
    rw [rkM]
    split <;> omega
  refine ⟨⟨rfl, rfl, hs, by omega, hsh⟩, ⟨rfl, rfl, hl, h6⟩, ⟨rfl, rfl, rfl, rfl, hl, h6⟩, ⟨rfl, rfl, hl, h6⟩, br_of (fun h => ?_) (fun h => ?_), fun _ _ => ⟨⟨rfl, fun h => (rk_none h).1, rfl, rfl, rfl, rkI_len, hq⟩, rfl, rfl⟩⟩
  · have h : rkE l n x = 0 := by simpa using h
    obtain ⟨h1, h2, h3, h4⟩ := rk_good hl h
    rw [h3, h4]
    exact ⟨⟨rfl, rfl, rfl, h1, h2, h6⟩, ⟨⟩, ⟨trivial⟩, ⟨rfl, rfl, rfl, rfl, trivial⟩, rfl⟩
  · have h : rkE l n x ≠ 0 := by simpa using h
    obtain ⟨h3, h4⟩ := rk_none h
    rw [h3, h4]
    exact ⟨⟨⟩, ⟨trivial⟩, ⟨rfl, rfl, rfl, rfl, trivial⟩, rfl⟩
theorem lw0_ok {l : Ls} {c : Nat} {x : Int} (hs : okLs l 0) (hsh : shL l 0 = true) : SmallRes Tryz.prog 3 [.slice (some ⟨0, 0, none⟩) 0 c, .int .i64 x] (lsG l 0) (.bool true) (lsG l 0) := by
  refine fnP_res hm cLw_ok (hs := hsLw l x 0) ?_
  show fnP Tryz.prog cLw (hsLw l x 0) 3 _ _ _
  rw [lw0_t]
  exact lw_in (by decide) hs hsh
theorem lw1_ok {l : Ls} {c : Nat} {x : Int} (hs : okLs l 1) (hsh : shL l 1 = true) : SmallRes Tryz.prog 3 [.slice (some ⟨0, 0, none⟩) 1 c, .int .i64 x] (lsG l 1) (.bool true) (lsG l 1) := by
  refine fnP_res hm cLw_ok (hs := hsLw l x 1) ?_
  show fnP Tryz.prog cLw (hsLw l x 1) 3 _ _ _
  rw [lw1_t]
  exact lw_in (by decide) hs hsh
theorem lw2_ok {l : Ls} {c : Nat} {x : Int} (hs : okLs l 2) (hsh : shL l 2 = true) : SmallRes Tryz.prog 3 [.slice (some ⟨0, 0, none⟩) 2 c, .int .i64 x] (lsG l 2) (.bool true) (lsG l 2) := by
  refine fnP_res hm cLw_ok (hs := hsLw l x 2) ?_
  show fnP Tryz.prog cLw (hsLw l x 2) 3 _ _ _
  rw [lw2_t]
  exact lw_in (by decide) hs hsh
theorem lw3_ok {l : Ls} {c : Nat} {x : Int} (hs : okLs l 3) (hsh : shL l 3 = true) : SmallRes Tryz.prog 3 [.slice (some ⟨0, 0, none⟩) 3 c, .int .i64 x] (lsG l 3) (.bool true) (lsG l 3) := by
  refine fnP_res hm cLw_ok (hs := hsLw l x 3) ?_
  show fnP Tryz.prog cLw (hsLw l x 3) 3 _ _ _
  rw [lw3_t]
  exact lw_in (by decide) hs hsh
theorem lw4_ok {l : Ls} {c : Nat} {x : Int} (hs : okLs l 4) (hsh : shL l 4 = true) : SmallRes Tryz.prog 3 [.slice (some ⟨0, 0, none⟩) 4 c, .int .i64 x] (lsG l 4) (.bool true) (lsG l 4) := by
  refine fnP_res hm cLw_ok (hs := hsLw l x 4) ?_
  show fnP Tryz.prog cLw (hsLw l x 4) 3 _ _ _
  rw [lw4_t]
  exact lw_in (by decide) hs hsh
theorem lw5_ok {l : Ls} {c : Nat} {x : Int} (hs : okLs l 5) (hsh : shL l 5 = true) : SmallRes Tryz.prog 3 [.slice (some ⟨0, 0, none⟩) 5 c, .int .i64 x] (lsG l 5) (.bool true) (lsG l 5) := by
  refine fnP_res hm cLw_ok (hs := hsLw l x 5) ?_
  show fnP Tryz.prog cLw (hsLw l x 5) 3 _ _ _
  rw [lw5_t]
  exact lw_in (by decide) hs hsh
theorem lw6_ok {l : Ls} {c : Nat} {x : Int} (hs : okLs l 6) (hsh : shL l 6 = true) : SmallRes Tryz.prog 3 [.slice (some ⟨0, 0, none⟩) 6 c, .int .i64 x] (lsG l 6) (.bool true) (lsG l 6) := by
  refine fnP_res hm cLw_ok (hs := hsLw l x 6) ?_
  show fnP Tryz.prog cLw (hsLw l x 6) 3 _ _ _
  rw [lw6_t]
  exact lw_in (by decide) hs hsh
theorem lw_few {l : Ls} {n c : Nat} {x : Int} (h6 : n ≤ 6) (hs : okLs l n) (hsh : shL l n = true) : SmallRes Tryz.prog 3 [.slice (some ⟨0, 0, none⟩) n c, .int .i64 x] (lsG l n) (.bool true) (lsG l n) := by
  match n, h6, hs, hsh with
  | 0, _, hs, hsh => exact lw0_ok hs hsh
  | 1, _, hs, hsh => exact lw1_ok hs hsh
  | 2, _, hs, hsh => exact lw2_ok hs hsh
  | 3, _, hs, hsh => exact lw3_ok hs hsh
  | 4, _, hs, hsh => exact lw4_ok hs hsh
  | 5, _, hs, hsh => exact lw5_ok hs hsh
  | 6, _, hs, hsh => exact lw6_ok hs hsh
  | n + 7, h6, _, _ => omega
end
end Qq
end
