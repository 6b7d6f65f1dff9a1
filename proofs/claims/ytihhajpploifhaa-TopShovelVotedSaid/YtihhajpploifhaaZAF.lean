/- Parts of the proof: RW, RG, RY, WA, FlE, GI, GJ, WB, WE. -/
import Derived.Test.YtihhajpploifhaaZAE
import Derived.Test.YtihhajpploifhaaZAD
import Derived.Test.YtihhajpploifhaaZAC
section
/- Sums of runs. -/
open Go Go.Vm Go.Proofs Sp
namespace Sp
noncomputable section
noncomputable def adI (R : Nat → Int × Bool) (i : Nat) (v : Int) : Int := v + (R i).1
noncomputable def zRV (R : Nat → Int × Bool) (off : Nat) : Value := .int .i64 (rdV R off)
/-- Readings, of which the first s are left out where others are not known. -/
noncomputable def mzR (R Q : Nat → Int × Bool) (s : Nat) (k : Nat) : Int × Bool := if (decide (k < s) && !(Q k).2) = true then (0, false) else R k
end
end Sp
namespace Qq
noncomputable section
theorem ak_t (nm : ByteArray) (nm2 : ByteArray) (f : Int) (f2 : Int) (n : Nat) (c : Nat) (k : Nat) (d : Nat) (n2 : Nat) (c2 : Nat) (k2 : Nat) (d2 : Nat) (xs : List Nat) (xs2 : List Nat) (hs : List Int) (hs2 : List Int) (K : Value → Heap → Prop) :
    (fnP Try.prog c0 h0 (35 : FuncId) [Value.agg (List.toArray (runA nm f (0 : Nat) n c (1 : Nat) k d)), Value.agg (List.toArray (runA nm2 f2 (2 : Nat) n2 c2 (3 : Nat) k2 d2))] (hp2r xs hs true true true true (hp2r xs2 hs2 true true true true [])) K) =
    (br (f == f2) (K (Value.bool ((↑n : Int) == (↑n2 : Int))) (some (AObj.row (flts xs) (1 : Nat) true true true) :: some (AObj.row (ints hs) (2 : Nat) true true true) :: some (AObj.row (flts xs2) (1 : Nat) true true true) :: some (AObj.row (ints hs2) (2 : Nat) true true true) :: noH)) (K (Value.bool false) (some (AObj.row (flts xs) (1 : Nat) true true true) :: some (AObj.row (ints hs) (2 : Nat) true true true) :: some (AObj.row (flts xs2) (1 : Nat) true true true) :: some (AObj.row (ints hs2) (2 : Nat) true true true) :: noH))) := by kernel_rfl
noncomputable def orcAk (xs xs2 : List Nat) (hs hs2 : List Int) : OrcV
  | [.agg ⟨[.string _, .int .i64 f, .slice (some ⟨0, 0, none⟩) n _, .slice (some ⟨1, 0, none⟩) _ _]⟩, .agg ⟨[.string _, .int .i64 f2, .slice (some ⟨2, 0, none⟩) n2 _, .slice (some ⟨3, 0, none⟩) _ _]⟩], [some (.row e1 1 true true true), some (.row e2 2 true true true), some (.row e3 1 true true true), some (.row e4 2 true true true)] =>
    some (.bool true, [some (.row e1 1 true true true), some (.row e2 2 true true true), some (.row e3 1 true true true), some (.row e4 2 true true true)], e1 = flts xs ∧ e2 = ints hs ∧ e3 = flts xs2 ∧ e4 = ints hs2 ∧ f2 = f ∧ n2 = n)
  | _, _ => none
theorem okAk (xs xs2 : List Nat) (hs hs2 : List Int) : OkV Try.prog 35 (orcAk xs xs2 hs hs2) := by
  intro args H ret H' vc h hv
  unfold orcAk at h
  split at h
  · rename_i nm f n c k d nm2 f2 n2 c2 k2 d2 e1 e2 e3 e4
    cases h
    obtain ⟨rfl, rfl, rfl, rfl, rfl, rfl⟩ := hv
    refine fnP_res hm c0_ok (hs := h0) ?_
    show fnP Try.prog c0 h0 35 [.agg (runA nm _ 0 _ c 1 k d).toArray, .agg (runA nm2 _ 2 _ c2 3 k2 d2).toArray] (hp2r xs hs true true true true (hp2r xs2 hs2 true true true true [])) _
    rw [ak_t]
    refine br_of (fun h => ?_) (fun h => ?_)
    · rw [beq_self_eq_true]; exact ⟨by first | trivial | rfl, by first | trivial | rfl⟩
    · rw [beq_self_eq_true] at h; cases h
  · cases h
noncomputable def hsAd1 (R : Nat → Int × Bool) : Hs Try.prog where
  op y := if y = 103 then some (hIa Try.prog) else if y = 105 then some (hLd Try.prog (zRV R)) else none
noncomputable def lsS (m e : Nat) : Option AObj := some (.row [.slice (some ⟨1, 0, none⟩) m e] 0 false true false)
theorem ad1_t (i : Int) (v : Int) (R : Nat → Int × Bool) (m : Nat) (e : Nat) (K : Value → Heap → Prop) :
    (fnP Try.prog c0 (hsAd1 R) (53 : FuncId) [Value.int IntKind.i64 i, Value.int IntKind.i64 v, Value.pointer (some { block := (0 : Nat), off := (0 : Nat) })] [lsS m e, rdR m R] K) =
    (Is ((0 : Int) ≤ i ∧ i < (↑m : Int)) ∧ Is ((rdc m R)[(0 : Nat) + Int.toNat i * (2 : Nat) + (0 : Nat)]? = some (Value.int IntKind.i64 (rdV R ((0 : Nat) + Int.toNat i * (2 : Nat) + (0 : Nat))))) ∧ K (Value.int IntKind.i64 (IntKind.wrap IntKind.i64 (v + rdV R ((0 : Nat) + Int.toNat i * (2 : Nat) + (0 : Nat))))) (some (AObj.row [Value.slice (some { block := (1 : Nat), off := (0 : Nat) }) m e] (0 : Nat) false true false) :: some (AObj.row (rdc m R) (2 : Nat) true true true) :: noH)) := by kernel_rfl
noncomputable def orcAd1 (R : Nat → Int × Bool) : OrcV
  | [.int .i64 i, .int .i64 v, .pointer (some ⟨0, 0, none⟩)], [some (.row [.slice (some ⟨1, 0, none⟩) m e] 0 false true false), some (.row e1 2 true true true)] =>
    some (.int .i64 (v + rdV R (i.toNat * 2)), [lsS m e, some (.row e1 2 true true true)], e1 = rdc m R ∧ (0 ≤ i ∧ i < m) ∧ v.natAbs ≤ 100000 ∧ (rdV R (i.toNat * 2)).natAbs ≤ 100000)
  | _, _ => none
theorem okAd1 (R : Nat → Int × Bool) : OkV Try.prog 53 (orcAd1 R) := by
  intro args H ret H' vc h hv
  unfold orcAd1 at h
  split at h
  · rename_i i v m e e1
    cases h
    obtain ⟨rfl, hi, h1, h2⟩ := hv
    refine fnP_res hm c0_ok (hs := hsAd1 R) ?_
    show fnP Try.prog c0 (hsAd1 R) 53 _ [lsS m e, rdR m R] _
    rw [ad1_t]
    simp only [Nat.zero_add, Nat.add_zero]
    have e2 : IntKind.wrap .i64 (v + rdV R (i.toNat * 2)) = v + rdV R (i.toNat * 2) := wrap_eq (by omega) (by omega)
    refine ⟨⟨hi⟩, ⟨?_⟩, by rw [e2], by first | trivial | rfl⟩
    rw [rdV_at]
    exact rdc_int (by omega)
  · cases h
noncomputable def cloS : Value := .func (.func 53) #[] #[.pointer (some ⟨2, 0, none⟩)]
noncomputable def exS (R2 : Nat → Int × Bool) (m e : Nat) : Heap := [some (.row [.slice (some ⟨3, 0, none⟩) m e] 0 false true false), rdR m R2]
noncomputable def lpCS (nm : ByteArray) (f : Int) (n c k d : Nat) (xs : List Nat) (hs : List Int) (R2 : Nat → Int × Bool) (m e : Nat) : Lp where
  σ := Nat
  E s := slots 41 [(1, cloS), (2, .pointer (some ⟨4, 0, none⟩)), (4, .pointer (some ⟨5, 0, none⟩)), (6, .slice (some ⟨6, 0, none⟩) n 0), (11, .slice (some ⟨6, 0, none⟩) n 0), (12, .int .i64 (Int.ofNat n)), (13, .int .i64 (Int.ofNat s))]
  Hp s := hp2r xs hs true true true true (exS R2 m e ++ [runO nm f n c k d, some (.row zrun 0 false true true), rdR n (chR (rdF xs (knB hs)) (adI R2) s)])
  I s := s ≤ n
  m s := n - s
noncomputable def hsCS (nm : ByteArray) (f : Int) (n c k d : Nat) (xs : List Nat) (hs : List Int) (R2 : Nat → Int × Bool) (m e : Nat) : Hs Try.prog where
  op y := if [401, 607, 702].contains y then some (hIa Try.prog) else if y = 402 then some (hLd Try.prog (zR (rdF xs (knB hs)))) else if y = 606 then some (hCa Try.prog 53 (orcAd1 R2) (okAd1 R2)) else if y = 609 then some (hSp Try.prog) else if y = 704 then some (hLc Try.prog gI) else none
  lp _ := some (lpCS nm f n c k d xs hs R2 m e)
  cl _ := keep 41 [1, 2, 4, 6, 11, 12, 13]
  au := auCalls [(38, hCa Try.prog 38 (orcRr xs hs) (okRr xs hs)), (41, hCa Try.prog 41 (orcWi xs hs (chR (rdF xs (knB hs)) (adI R2) n)) (okWi xs hs (chR (rdF xs (knB hs)) (adI R2) n)))]
theorem chS_t (nm : ByteArray) (f : Int) (n : Nat) (c : Nat) (k : Nat) (d : Nat) (xs : List Nat) (hs : List Int) (R2 : Nat → Int × Bool) (m : Nat) (e : Nat) (K : Value → Heap → Prop) :
    (fnP Try.prog cLg (hsCS nm f n c k d xs hs R2 m e) (50 : FuncId) [Value.agg (List.toArray (runA nm f (0 : Nat) n c (1 : Nat) k d)), cloS] (hp2r xs hs true true true true (exS R2 m e)) K) =
    (Is (isRun xs hs n k (flts xs) (ints hs) ∧ fi (List.map sE xs) = (0 : Int) ∧ hchk (↑n : Int) hs (-1 : Int) = (0 : Int)) ∧ (∃ (s : Nat), Is (s ≤ n) ∧ [poi, Value.func (Fn.func (53 : Nat)) #[] #[Value.pointer (some { block := (2 : Nat), off := (0 : Nat) })], Value.pointer (some { block := (4 : Nat), off := (0 : Nat) }), poi, Value.pointer (some { block := (5 : Nat), off := (0 : Nat) }), poi, Value.slice (some { block := (6 : Nat), off := (0 : Nat) }) n (0 : Nat), poi, poi, poi, poi, Value.slice (some { block := (6 : Nat), off := (0 : Nat) }) n (0 : Nat), Value.int IntKind.i64 (↑n : Int), Value.int IntKind.i64 (0 : Int), poi, poi, poi, poi, poi, poi, poi, poi, poi, poi, poi, poi, poi, poi, poi, poi, poi, poi, poi, poi, poi, poi, poi, poi, poi, poi, poi] = [poi, Value.func (Fn.func (53 : Nat)) #[] #[Value.pointer (some { block := (2 : Nat), off := (0 : Nat) })], Value.pointer (some { block := (4 : Nat), off := (0 : Nat) }), poi, Value.pointer (some { block := (5 : Nat), off := (0 : Nat) }), poi, Value.slice (some { block := (6 : Nat), off := (0 : Nat) }) n (0 : Nat), poi, poi, poi, poi, Value.slice (some { block := (6 : Nat), off := (0 : Nat) }) n (0 : Nat), Value.int IntKind.i64 (↑n : Int), Value.int IntKind.i64 (↑s : Int), poi, poi, poi, poi, poi, poi, poi, poi, poi, poi, poi, poi, poi, poi, poi, poi, poi, poi, poi, poi, poi, poi, poi, poi, poi, poi, poi] ∧ some (AObj.row (flts xs) (1 : Nat) true true true) :: some (AObj.row (ints hs) (2 : Nat) true true true) :: some (AObj.row [Value.slice (some { block := (3 : Nat), off := (0 : Nat) }) m e] (0 : Nat) false true false) :: some (AObj.row (rdc m R2) (2 : Nat) true true true) :: some (AObj.row [Value.string nm, Value.int IntKind.i64 f, Value.slice (some { block := (0 : Nat), off := (0 : Nat) }) n c, Value.slice (some { block := (1 : Nat), off := (0 : Nat) }) k d] (0 : Nat) false true (List.all [Value.string nm, Value.int IntKind.i64 f, Value.slice (some { block := (0 : Nat), off := (0 : Nat) }) n c, Value.slice (some { block := (1 : Nat), off := (0 : Nat) }) k d] atom)) :: some (AObj.row [Value.string { data := #[] }, Value.int IntKind.i64 (0 : Int), Value.slice none (0 : Nat) (0 : Nat), Value.slice none (0 : Nat) (0 : Nat)] (0 : Nat) false true true) :: some (AObj.row (rdc n (rdF xs (knB hs))) (2 : Nat) true true true) :: noH = some (AObj.row (flts xs) (1 : Nat) true true true) :: some (AObj.row (ints hs) (2 : Nat) true true true) :: some (AObj.row [Value.slice (some { block := (3 : Nat), off := (0 : Nat) }) m e] (0 : Nat) false true false) :: some (AObj.row (rdc m R2) (2 : Nat) true true true) :: some (AObj.row [Value.string nm, Value.int IntKind.i64 f, Value.slice (some { block := (0 : Nat), off := (0 : Nat) }) n c, Value.slice (some { block := (1 : Nat), off := (0 : Nat) }) k d] (0 : Nat) false true false) :: some (AObj.row [Value.string { data := #[] }, Value.int IntKind.i64 (0 : Int), Value.slice none (0 : Nat) (0 : Nat), Value.slice none (0 : Nat) (0 : Nat)] (0 : Nat) false true true) :: some (AObj.row (rdc n (chR (rdF xs (knB hs)) (adI R2) s)) (2 : Nat) true true true) :: noH) ∧ ∀ (s : Nat), Is (s ≤ n) → br (decide ((↑s : Int) < (↑n : Int))) (Is ((0 : Int) ≤ (↑s : Int) ∧ (↑s : Int) < (↑n : Int)) ∧ Is ((if (0 : Nat) + Int.toNat (↑s : Int) * (2 : Nat) + (2 : Nat) ≤ List.length (rdc n (chR (rdF xs (knB hs)) (adI R2) s)) then some (Value.agg (List.toArray (List.take (2 : Nat) (List.drop ((0 : Nat) + Int.toNat (↑s : Int) * (2 : Nat)) (rdc n (chR (rdF xs (knB hs)) (adI R2) s)))))) else none) = some (Value.agg #[Value.int IntKind.i64 (rdV (rdF xs (knB hs)) ((0 : Nat) + Int.toNat (↑s : Int) * (2 : Nat))), Value.bool (rdW (rdF xs (knB hs)) ((0 : Nat) + Int.toNat (↑s : Int) * (2 : Nat)))])) ∧ br (!rdW (rdF xs (knB hs)) ((0 : Nat) + Int.toNat (↑s : Int) * (2 : Nat))) (∃ (s' : Nat), Is (s' ≤ n) ∧ Is (n - s' < n - s) ∧ [poi, Value.func (Fn.func (53 : Nat)) #[] #[Value.pointer (some { block := (2 : Nat), off := (0 : Nat) })], Value.pointer (some { block := (4 : Nat), off := (0 : Nat) }), poi, Value.pointer (some { block := (5 : Nat), off := (0 : Nat) }), poi, Value.slice (some { block := (6 : Nat), off := (0 : Nat) }) n (0 : Nat), poi, poi, poi, poi, Value.slice (some { block := (6 : Nat), off := (0 : Nat) }) n (0 : Nat), Value.int IntKind.i64 (↑n : Int), Value.int IntKind.i64 (IntKind.wrap IntKind.i64 ((↑s : Int) + (1 : Int))), poi, poi, poi, poi, poi, poi, poi, poi, poi, poi, poi, poi, poi, poi, poi, poi, poi, poi, poi, poi, poi, poi, poi, poi, poi, poi, poi] = [poi, Value.func (Fn.func (53 : Nat)) #[] #[Value.pointer (some { block := (2 : Nat), off := (0 : Nat) })], Value.pointer (some { block := (4 : Nat), off := (0 : Nat) }), poi, Value.pointer (some { block := (5 : Nat), off := (0 : Nat) }), poi, Value.slice (some { block := (6 : Nat), off := (0 : Nat) }) n (0 : Nat), poi, poi, poi, poi, Value.slice (some { block := (6 : Nat), off := (0 : Nat) }) n (0 : Nat), Value.int IntKind.i64 (↑n : Int), Value.int IntKind.i64 (↑s' : Int), poi, poi, poi, poi, poi, poi, poi, poi, poi, poi, poi, poi, poi, poi, poi, poi, poi, poi, poi, poi, poi, poi, poi, poi, poi, poi, poi] ∧ some (AObj.row (flts xs) (1 : Nat) true true true) :: some (AObj.row (ints hs) (2 : Nat) true true true) :: some (AObj.row [Value.slice (some { block := (3 : Nat), off := (0 : Nat) }) m e] (0 : Nat) false true false) :: some (AObj.row (rdc m R2) (2 : Nat) true true true) :: some (AObj.row [Value.string nm, Value.int IntKind.i64 f, Value.slice (some { block := (0 : Nat), off := (0 : Nat) }) n c, Value.slice (some { block := (1 : Nat), off := (0 : Nat) }) k d] (0 : Nat) false true false) :: some (AObj.row [Value.string { data := #[] }, Value.int IntKind.i64 (0 : Int), Value.slice none (0 : Nat) (0 : Nat), Value.slice none (0 : Nat) (0 : Nat)] (0 : Nat) false true true) :: some (AObj.row (rdc n (chR (rdF xs (knB hs)) (adI R2) s)) (2 : Nat) true true true) :: noH = some (AObj.row (flts xs) (1 : Nat) true true true) :: some (AObj.row (ints hs) (2 : Nat) true true true) :: some (AObj.row [Value.slice (some { block := (3 : Nat), off := (0 : Nat) }) m e] (0 : Nat) false true false) :: some (AObj.row (rdc m R2) (2 : Nat) true true true) :: some (AObj.row [Value.string nm, Value.int IntKind.i64 f, Value.slice (some { block := (0 : Nat), off := (0 : Nat) }) n c, Value.slice (some { block := (1 : Nat), off := (0 : Nat) }) k d] (0 : Nat) false true false) :: some (AObj.row [Value.string { data := #[] }, Value.int IntKind.i64 (0 : Int), Value.slice none (0 : Nat) (0 : Nat), Value.slice none (0 : Nat) (0 : Nat)] (0 : Nat) false true true) :: some (AObj.row (rdc n (chR (rdF xs (knB hs)) (adI R2) s')) (2 : Nat) true true true) :: noH) (Is (rdc m R2 = rdc m R2 ∧ ((0 : Int) ≤ (↑s : Int) ∧ (↑s : Int) < (↑m : Int)) ∧ Int.natAbs (rdV (rdF xs (knB hs)) ((0 : Nat) + Int.toNat (↑s : Int) * (2 : Nat))) ≤ (100000 : Nat) ∧ Int.natAbs (rdV R2 (Int.toNat (↑s : Int) * (2 : Nat))) ≤ (100000 : Nat)) ∧ Is ((0 : Int) ≤ (↑s : Int) ∧ (↑s : Int) < (↑n : Int)) ∧ Is ((0 : Nat) + Int.toNat (↑s : Int) * (2 : Nat) + (0 : Nat) + List.length [Value.int IntKind.i64 (rdV (rdF xs (knB hs)) ((0 : Nat) + Int.toNat (↑s : Int) * (2 : Nat)) + rdV R2 (Int.toNat (↑s : Int) * (2 : Nat)))] ≤ List.length (rdc n (chR (rdF xs (knB hs)) (adI R2) s))) ∧ Is ((0 : Int) ≤ (↑s : Int) ∧ (↑s : Int) < (↑n : Int)) ∧ Is ((putL (rdc n (chR (rdF xs (knB hs)) (adI R2) s)) ((0 : Nat) + Int.toNat (↑s : Int) * (2 : Nat) + (0 : Nat)) [Value.int IntKind.i64 (rdV (rdF xs (knB hs)) ((0 : Nat) + Int.toNat (↑s : Int) * (2 : Nat)) + rdV R2 (Int.toNat (↑s : Int) * (2 : Nat)))])[(0 : Nat) + Int.toNat (↑s : Int) * (2 : Nat) + (0 : Nat)]? = some (Value.int IntKind.i64 (iAt (putL (rdc n (chR (rdF xs (knB hs)) (adI R2) s)) ((0 : Nat) + Int.toNat (↑s : Int) * (2 : Nat) + (0 : Nat)) [Value.int IntKind.i64 (rdV (rdF xs (knB hs)) ((0 : Nat) + Int.toNat (↑s : Int) * (2 : Nat)) + rdV R2 (Int.toNat (↑s : Int) * (2 : Nat)))]) ((0 : Nat) + Int.toNat (↑s : Int) * (2 : Nat) + (0 : Nat))))) ∧ br (decide (iAt (putL (rdc n (chR (rdF xs (knB hs)) (adI R2) s)) ((0 : Nat) + Int.toNat (↑s : Int) * (2 : Nat) + (0 : Nat)) [Value.int IntKind.i64 (rdV (rdF xs (knB hs)) ((0 : Nat) + Int.toNat (↑s : Int) * (2 : Nat)) + rdV R2 (Int.toNat (↑s : Int) * (2 : Nat)))]) ((0 : Nat) + Int.toNat (↑s : Int) * (2 : Nat) + (0 : Nat)) < (-16384 : Int)) || decide ((16384 : Int) < iAt (putL (rdc n (chR (rdF xs (knB hs)) (adI R2) s)) ((0 : Nat) + Int.toNat (↑s : Int) * (2 : Nat) + (0 : Nat)) [Value.int IntKind.i64 (rdV (rdF xs (knB hs)) ((0 : Nat) + Int.toNat (↑s : Int) * (2 : Nat)) + rdV R2 (Int.toNat (↑s : Int) * (2 : Nat)))]) ((0 : Nat) + Int.toNat (↑s : Int) * (2 : Nat) + (0 : Nat)))) (K (Value.tuple #[Value.agg #[Value.string { data := #[] }, Value.int IntKind.i64 (0 : Int), Value.slice none (0 : Nat) (0 : Nat), Value.slice none (0 : Nat) (0 : Nat)], Value.int IntKind.i64 (4 : Int)]) (some (AObj.row (flts xs) (1 : Nat) true true true) :: some (AObj.row (ints hs) (2 : Nat) true true true) :: some (AObj.row [Value.slice (some { block := (3 : Nat), off := (0 : Nat) }) m e] (0 : Nat) false true false) :: some (AObj.row (rdc m R2) (2 : Nat) true true true) :: noH)) (∃ (s' : Nat), Is (s' ≤ n) ∧ Is (n - s' < n - s) ∧ [poi, Value.func (Fn.func (53 : Nat)) #[] #[Value.pointer (some { block := (2 : Nat), off := (0 : Nat) })], Value.pointer (some { block := (4 : Nat), off := (0 : Nat) }), poi, Value.pointer (some { block := (5 : Nat), off := (0 : Nat) }), poi, Value.slice (some { block := (6 : Nat), off := (0 : Nat) }) n (0 : Nat), poi, poi, poi, poi, Value.slice (some { block := (6 : Nat), off := (0 : Nat) }) n (0 : Nat), Value.int IntKind.i64 (↑n : Int), Value.int IntKind.i64 (IntKind.wrap IntKind.i64 ((↑s : Int) + (1 : Int))), poi, poi, poi, poi, poi, poi, poi, poi, poi, poi, poi, poi, poi, poi, poi, poi, poi, poi, poi, poi, poi, poi, poi, poi, poi, poi, poi] = [poi, Value.func (Fn.func (53 : Nat)) #[] #[Value.pointer (some { block := (2 : Nat), off := (0 : Nat) })], Value.pointer (some { block := (4 : Nat), off := (0 : Nat) }), poi, Value.pointer (some { block := (5 : Nat), off := (0 : Nat) }), poi, Value.slice (some { block := (6 : Nat), off := (0 : Nat) }) n (0 : Nat), poi, poi, poi, poi, Value.slice (some { block := (6 : Nat), off := (0 : Nat) }) n (0 : Nat), Value.int IntKind.i64 (↑n : Int), Value.int IntKind.i64 (↑s' : Int), poi, poi, poi, poi, poi, poi, poi, poi, poi, poi, poi, poi, poi, poi, poi, poi, poi, poi, poi, poi, poi, poi, poi, poi, poi, poi, poi] ∧ some (AObj.row (flts xs) (1 : Nat) true true true) :: some (AObj.row (ints hs) (2 : Nat) true true true) :: some (AObj.row [Value.slice (some { block := (3 : Nat), off := (0 : Nat) }) m e] (0 : Nat) false true false) :: some (AObj.row (rdc m R2) (2 : Nat) true true true) :: some (AObj.row [Value.string nm, Value.int IntKind.i64 f, Value.slice (some { block := (0 : Nat), off := (0 : Nat) }) n c, Value.slice (some { block := (1 : Nat), off := (0 : Nat) }) k d] (0 : Nat) false true false) :: some (AObj.row [Value.string { data := #[] }, Value.int IntKind.i64 (0 : Int), Value.slice none (0 : Nat) (0 : Nat), Value.slice none (0 : Nat) (0 : Nat)] (0 : Nat) false true true) :: some (AObj.row (putL (rdc n (chR (rdF xs (knB hs)) (adI R2) s)) ((0 : Nat) + Int.toNat (↑s : Int) * (2 : Nat) + (0 : Nat)) [Value.int IntKind.i64 (rdV (rdF xs (knB hs)) ((0 : Nat) + Int.toNat (↑s : Int) * (2 : Nat)) + rdV R2 (Int.toNat (↑s : Int) * (2 : Nat)))]) (2 : Nat) true true (true && List.all [Value.int IntKind.i64 (rdV (rdF xs (knB hs)) ((0 : Nat) + Int.toNat (↑s : Int) * (2 : Nat)) + rdV R2 (Int.toNat (↑s : Int) * (2 : Nat)))] atom)) :: noH = some (AObj.row (flts xs) (1 : Nat) true true true) :: some (AObj.row (ints hs) (2 : Nat) true true true) :: some (AObj.row [Value.slice (some { block := (3 : Nat), off := (0 : Nat) }) m e] (0 : Nat) false true false) :: some (AObj.row (rdc m R2) (2 : Nat) true true true) :: some (AObj.row [Value.string nm, Value.int IntKind.i64 f, Value.slice (some { block := (0 : Nat), off := (0 : Nat) }) n c, Value.slice (some { block := (1 : Nat), off := (0 : Nat) }) k d] (0 : Nat) false true false) :: some (AObj.row [Value.string { data := #[] }, Value.int IntKind.i64 (0 : Int), Value.slice none (0 : Nat) (0 : Nat), Value.slice none (0 : Nat) (0 : Nat)] (0 : Nat) false true true) :: some (AObj.row (rdc n (chR (rdF xs (knB hs)) (adI R2) s')) (2 : Nat) true true true) :: noH))) (Is (isRun xs hs n k (flts xs) (ints hs) ∧ rdc n (chR (rdF xs (knB hs)) (adI R2) s) = rdc n (chR (rdF xs (knB hs)) (adI R2) n) ∧ n ≤ (100000 : Nat) ∧ ∀ (i : Nat), i < n → Int.natAbs (Prod.fst (chR (rdF xs (knB hs)) (adI R2) n i)) < (2 : Nat) ^ (24 : Nat)) ∧ K (Value.tuple #[Value.agg #[Value.string nm, Value.int IntKind.i64 f, Value.slice (some { block := (4 : Nat), off := (0 : Nat) }) n (0 : Nat), Value.slice (some { block := (5 : Nat), off := (0 : Nat) }) (mkK (mkB (chR (rdF xs (knB hs)) (adI R2) n)) n) (0 : Nat)], Value.int IntKind.i64 (0 : Int)]) (some (AObj.row (flts xs) (1 : Nat) true true true) :: some (AObj.row (ints hs) (2 : Nat) true true true) :: some (AObj.row [Value.slice (some { block := (3 : Nat), off := (0 : Nat) }) m e] (0 : Nat) false true false) :: some (AObj.row (rdc m R2) (2 : Nat) true true true) :: some (AObj.row (flts (mkX (chR (rdF xs (knB hs)) (adI R2) n) n)) (1 : Nat) true true true) :: some (AObj.row (ints (mkS (mkB (chR (rdF xs (knB hs)) (adI R2) n)) n)) (2 : Nat) true true true) :: noH))) := by kernel_rfl
set_option maxRecDepth 100000 in
theorem chS_ok {nm : ByteArray} {f : Int} {n c k d : Nat} {xs : List Nat} {hs : List Int} {R2 : Nat → Int × Bool} {m e : Nat} (hi : isRun xs hs n k (flts xs) (ints hs)) (hx : fi (xs.map sE) = 0) (hh : hchk n hs (-1) = 0) (hg : ∀ i, i < n → (rdF xs (knB hs) i).2 = true → ((adI R2) i (rdF xs (knB hs) i).1).natAbs ≤ 16384) (hm2 : n ≤ m) (h2 : ∀ i, i < m → (R2 i).1.natAbs ≤ 16384) :
    SmallRes Try.prog 50 [.agg (runA nm f 0 n c 1 k d).toArray, cloS] (hp2r xs hs true true true true (exS R2 m e)) (.tuple #[.agg (runA nm f 4 n 0 5 (mkK (mkB (chR (rdF xs (knB hs)) (adI R2) n)) n) 0).toArray, .int .i64 0]) (hp2r xs hs true true true true (exS R2 m e ++ wiR (chR (rdF xs (knB hs)) (adI R2) n) n)) := by
  refine fnP_res hm cLg_ok (hs := hsCS nm f n c k d xs hs R2 m e) ?_
  rw [chS_t]
  have hi' := hi
  obtain ⟨_, _, hn, h9, _, _⟩ := hi'
  have few : ∀ i, i < n → (rdF xs (knB hs) i).1.natAbs ≤ 16384 := fun i h => rdF_few hx (by omega)
  have e0 : rdc n (chR (rdF xs (knB hs)) (adI R2) 0) = rdc n (rdF xs (knB hs)) := rdc_congr fun i _ => by rw [chR, decide_eq_false (Nat.not_lt_zero i)]; rfl
  refine ⟨⟨hi, hx, hh⟩, ⟨(0 : Nat), ⟨Nat.zero_le _⟩, by first | trivial | rfl, by rw [e0]; first | done | trivial | rfl⟩, fun s hs' => br_of (fun hc => ?_) (fun hc => ?_)⟩
  · have hc := lt_of_dec hc
    simp only [Nat.zero_add, Nat.add_zero, Int.toNat_natCast, rdV_at, rdW_at]
    have t1 := rdc_take (R := chR (rdF xs (knB hs)) (adI R2) s) hc
    rw [chR_at] at t1
    have fs := few s hc
    have gs := hg s hc
    refine ⟨⟨by omega, by omega⟩, ⟨t1⟩, br_of (fun hk => ?_) (fun hk => ?_)⟩
    · have hk : (rdF xs (knB hs) s).2 = false := by simpa using hk
      refine ⟨s + 1, ⟨hc⟩, ⟨by omega⟩, by rw [up1 hc (by omega)], by rw [chR_skip hk]⟩
    · have hk : (rdF xs (knB hs) s).2 = true := by simpa using hk
      have gs := gs hk
      have p1 : putL (rdc n (chR (rdF xs (knB hs)) (adI R2) s)) (s * 2) [.int .i64 ((rdF xs (knB hs) s).1 + (R2 s).1)] = rdc n (chR (rdF xs (knB hs)) (adI R2) (s + 1)) := by
        rw [rdc_put1 hc, chR_at, hk]
        exact chR_step hk
      have i1 := rdc_int (R := chR (rdF xs (knB hs)) (adI R2) (s + 1)) hc
      have i2 : (chR (rdF xs (knB hs)) (adI R2) (s + 1) s).1 = (rdF xs (knB hs) s).1 + (R2 s).1 := by rw [chR, hk, decide_eq_true (Nat.lt_succ_self s)]; rfl
      have i3 : iAt (rdc n (chR (rdF xs (knB hs)) (adI R2) (s + 1))) (s * 2) = (rdF xs (knB hs) s).1 + (R2 s).1 := by rw [iAt, i1, i2]
      have gs : ((rdF xs (knB hs) s).1 + (R2 s).1).natAbs ≤ 16384 := gs
      rw [p1, i3]
      refine ⟨⟨⟨trivial, ⟨by omega, by omega⟩, by omega, by have := h2 s (by omega); omega⟩⟩, ⟨by omega, by omega⟩, ⟨by rw [rdc_len]; simp only [List.length_cons, List.length_nil]; omega⟩, ⟨by omega, by omega⟩, ⟨by rw [i1, i2]⟩, br_of (fun h => ?_) (fun _ => ⟨s + 1, ⟨hc⟩, ⟨by omega⟩, by rw [up1 hc (by omega)], by first | trivial | rfl⟩)⟩
      rw [decide_eq_false (by omega), decide_eq_false (by omega)] at h
      cases h
  · have hc := ge_of_dec hc
    have : s = n := by have := hs'.out; omega
    subst this
    exact ⟨⟨hi, rfl, h9, fun i hlt => Nat.lt_of_le_of_lt (chR_few (few i hlt) (hg i hlt)) (by decide)⟩, by first | trivial | rfl, by first | trivial | rfl⟩
noncomputable def orcChS (xs : List Nat) (hs : List Int) (R2 : Nat → Int × Bool) : OrcV
  | [.agg ⟨[.string nm, .int .i64 f, .slice (some ⟨0, 0, none⟩) n _, .slice (some ⟨1, 0, none⟩) k _]⟩, .func (.func 53) ⟨[]⟩ ⟨[.pointer (some ⟨2, 0, none⟩)]⟩], [some (.row e1 1 true true true), some (.row e2 2 true true true), some (.row [.slice (some ⟨3, 0, none⟩) m e] 0 false true false), some (.row e3 2 true true true)] =>
    some (.tuple #[.agg (runA nm f 4 n 0 5 (mkK (mkB (chR (rdF xs (knB hs)) (adI R2) n)) n) 0).toArray, .int .i64 0], some (.row e1 1 true true true) :: some (.row e2 2 true true true) :: some (.row [.slice (some ⟨3, 0, none⟩) m e] 0 false true false) :: some (.row e3 2 true true true) :: wiR (chR (rdF xs (knB hs)) (adI R2) n) n,
      isRun xs hs n k e1 e2 ∧ e3 = rdc m R2 ∧ fi (xs.map sE) = 0 ∧ hchk n hs (-1) = 0 ∧ (∀ i, i < n → (rdF xs (knB hs) i).2 = true → (adI R2 i (rdF xs (knB hs) i).1).natAbs ≤ 16384) ∧ n ≤ m ∧ ∀ i, i < m → (R2 i).1.natAbs ≤ 16384)
  | _, _ => none
theorem okChS (xs : List Nat) (hs : List Int) (R2 : Nat → Int × Bool) : OkV Try.prog 50 (orcChS xs hs R2) := by
  intro args H ret H' vc h hv
  unfold orcChS at h
  split at h
  · cases h
    obtain ⟨⟨rfl, rfl, h1, h2, h3, h4⟩, rfl, h5, h6, h7, h8, h9⟩ := hv
    exact chS_ok ⟨rfl, rfl, h1, h2, h3, h4⟩ h5 h6 h7 h8 h9
  · cases h
/- The sum. -/
noncomputable def lpSm (nm nm2 : ByteArray) (f f2 : Int) (n c k d n2 c2 k2 d2 : Nat) (xs xs2 : List Nat) (hs hs2 : List Int) : Lp where
  σ := Nat
  E s := slots 52 [(2, .pointer (some ⟨4, 0, none⟩)), (3, .pointer (some ⟨5, 0, none⟩)), (4, .pointer (some ⟨6, 0, none⟩)), (7, .pointer (some ⟨7, 0, none⟩)), (8, .slice (some ⟨9, 0, none⟩) n 0), (30, .slice (some ⟨8, 0, none⟩) n2 0), (31, .int .i64 (Int.ofNat n2)), (32, .int .i64 (Int.ofNat s))]
  Hp s := hp2r xs hs true true true true (hp2r xs2 hs2 true true true true [runO nm f n c k d, some (.row (runA nm2 f2 2 n2 c2 3 k2 d2) 0 false true false), some (.row zrun 0 false true true), some (.row [.slice (some ⟨8, 0, none⟩) n2 0] 0 false true false), rdR n2 (rdF xs2 (knB hs2)), rdR n (mzR (rdF xs (knB hs)) (rdF xs2 (knB hs2)) s)])
  I s := s ≤ n2
  m s := n2 - s
noncomputable def hsSmm (nm nm2 : ByteArray) (f f2 : Int) (n c k d n2 c2 k2 d2 : Nat) (xs xs2 : List Nat) (hs hs2 : List Int) : Hs Try.prog where
  op y := if y = 101 then some (hCa Try.prog 33 (orcCrP xs hs) (okCrP xs hs)) else if y = 103 then some (hCa Try.prog 33 (orcCrP xs2 hs2) (okCrP xs2 hs2)) else if y = 105 then some (hCa Try.prog 31 (orcFiV [0, 0]) (okFiV _))
    else if y = 601 then some (hCa Try.prog 38 (orcRr xs2 hs2) (okRr xs2 hs2)) else if y = 701 then some (hCa Try.prog 38 (orcRr xs hs) (okRr xs hs)) else if [1001, 1203].contains y then some (hIa Try.prog) else if y = 1002 then some (hLd Try.prog (zR (rdF xs2 (knB hs2)))) else if y = 1204 then some (hSp Try.prog) else none
  lp _ := some (lpSm nm nm2 f f2 n c k d n2 c2 k2 d2 xs xs2 hs hs2)
  cl _ := keep 52 [2, 3, 4, 7, 8, 30, 31, 32]
  au := auCalls [(35, hCa Try.prog 35 (orcAk xs xs2 hs hs2) (okAk xs xs2 hs hs2)), (41, hCa Try.prog 41 (orcWi xs hs (mzR (rdF xs (knB hs)) (rdF xs2 (knB hs2)) n)) (okWi xs hs (mzR (rdF xs (knB hs)) (rdF xs2 (knB hs2)) n))),
    (50, hCa Try.prog 50 (orcChS (mkX (mzR (rdF xs (knB hs)) (rdF xs2 (knB hs2)) n) n) (mkS (mkB (mzR (rdF xs (knB hs)) (rdF xs2 (knB hs2)) n)) n) (rdF xs2 (knB hs2))) (okChS (mkX (mzR (rdF xs (knB hs)) (rdF xs2 (knB hs2)) n) n) (mkS (mkB (mzR (rdF xs (knB hs)) (rdF xs2 (knB hs2)) n)) n) (rdF xs2 (knB hs2))))]
theorem smm_t (nm : ByteArray) (nm2 : ByteArray) (f : Int) (f2 : Int) (n : Nat) (c : Nat) (k : Nat) (d : Nat) (n2 : Nat) (c2 : Nat) (k2 : Nat) (d2 : Nat) (xs : List Nat) (xs2 : List Nat) (hs : List Int) (hs2 : List Int) (K : Value → Heap → Prop) :
    (fnP Try.prog cs2 (hsSmm nm nm2 f f2 n c k d n2 c2 k2 d2 xs xs2 hs hs2) (20 : FuncId) [Value.agg (List.toArray (runA nm f (0 : Nat) n c (1 : Nat) k d)), Value.agg (List.toArray (runA nm2 f2 (2 : Nat) n2 c2 (3 : Nat) k2 d2))] (hp2r xs hs true true true true (hp2r xs2 hs2 true true true true [])) K) =
    (Is (isRun xs hs n k (flts xs) (ints hs)) ∧ Is (isRun xs2 hs2 n2 k2 (flts xs2) (ints hs2)) ∧ Is ([Value.int IntKind.i64 (runE nm f xs n hs), Value.int IntKind.i64 (runE nm2 f2 xs2 n2 hs2)] = [Value.int IntKind.i64 (0 : Int), Value.int IntKind.i64 (0 : Int)] ∧ (2 : Nat) = (2 : Nat) ∧ (2 : Nat) ≤ (100000 : Nat)) ∧ Is (flts xs = flts xs ∧ ints hs = ints hs ∧ flts xs2 = flts xs2 ∧ ints hs2 = ints hs2 ∧ f2 = f ∧ n2 = n) ∧ Is (isRun xs2 hs2 n2 k2 (flts xs2) (ints hs2) ∧ fi (List.map sE xs2) = (0 : Int) ∧ hchk (↑n2 : Int) hs2 (-1 : Int) = (0 : Int)) ∧ Is (isRun xs hs n k (flts xs) (ints hs) ∧ fi (List.map sE xs) = (0 : Int) ∧ hchk (↑n : Int) hs (-1 : Int) = (0 : Int)) ∧ (∃ (s : Nat), Is (s ≤ n2) ∧ [poi, poi, Value.pointer (some { block := (4 : Nat), off := (0 : Nat) }), Value.pointer (some { block := (5 : Nat), off := (0 : Nat) }), Value.pointer (some { block := (6 : Nat), off := (0 : Nat) }), poi, poi, Value.pointer (some { block := (7 : Nat), off := (0 : Nat) }), Value.slice (some { block := (9 : Nat), off := (0 : Nat) }) n (0 : Nat), poi, poi, poi, poi, poi, poi, poi, poi, poi, poi, poi, poi, poi, poi, poi, poi, poi, poi, poi, poi, poi, Value.slice (some { block := (8 : Nat), off := (0 : Nat) }) n2 (0 : Nat), Value.int IntKind.i64 (↑n2 : Int), Value.int IntKind.i64 (0 : Int), poi, poi, poi, poi, poi, poi, poi, poi, poi, poi, poi, poi, poi, poi, poi, poi, poi, poi, poi] = [poi, poi, Value.pointer (some { block := (4 : Nat), off := (0 : Nat) }), Value.pointer (some { block := (5 : Nat), off := (0 : Nat) }), Value.pointer (some { block := (6 : Nat), off := (0 : Nat) }), poi, poi, Value.pointer (some { block := (7 : Nat), off := (0 : Nat) }), Value.slice (some { block := (9 : Nat), off := (0 : Nat) }) n (0 : Nat), poi, poi, poi, poi, poi, poi, poi, poi, poi, poi, poi, poi, poi, poi, poi, poi, poi, poi, poi, poi, poi, Value.slice (some { block := (8 : Nat), off := (0 : Nat) }) n2 (0 : Nat), Value.int IntKind.i64 (↑n2 : Int), Value.int IntKind.i64 (↑s : Int), poi, poi, poi, poi, poi, poi, poi, poi, poi, poi, poi, poi, poi, poi, poi, poi, poi, poi, poi] ∧ some (AObj.row (flts xs) (1 : Nat) true true true) :: some (AObj.row (ints hs) (2 : Nat) true true true) :: some (AObj.row (flts xs2) (1 : Nat) true true true) :: some (AObj.row (ints hs2) (2 : Nat) true true true) :: some (AObj.row [Value.string nm, Value.int IntKind.i64 f, Value.slice (some { block := (0 : Nat), off := (0 : Nat) }) n c, Value.slice (some { block := (1 : Nat), off := (0 : Nat) }) k d] (0 : Nat) false true (List.all [Value.string nm, Value.int IntKind.i64 f, Value.slice (some { block := (0 : Nat), off := (0 : Nat) }) n c, Value.slice (some { block := (1 : Nat), off := (0 : Nat) }) k d] atom)) :: some (AObj.row [Value.string nm2, Value.int IntKind.i64 f2, Value.slice (some { block := (2 : Nat), off := (0 : Nat) }) n2 c2, Value.slice (some { block := (3 : Nat), off := (0 : Nat) }) k2 d2] (0 : Nat) false true (List.all [Value.string nm2, Value.int IntKind.i64 f2, Value.slice (some { block := (2 : Nat), off := (0 : Nat) }) n2 c2, Value.slice (some { block := (3 : Nat), off := (0 : Nat) }) k2 d2] atom)) :: some (AObj.row [Value.string { data := #[] }, Value.int IntKind.i64 (0 : Int), Value.slice none (0 : Nat) (0 : Nat), Value.slice none (0 : Nat) (0 : Nat)] (0 : Nat) false true true) :: some (AObj.row [Value.slice (some { block := (8 : Nat), off := (0 : Nat) }) n2 (0 : Nat)] (0 : Nat) false true (true && List.all [Value.slice (some { block := List.length (some (AObj.row (flts xs) (1 : Nat) true true true) :: some (AObj.row (ints hs) (2 : Nat) true true true) :: some (AObj.row (flts xs2) (1 : Nat) true true true) :: some (AObj.row (ints hs2) (2 : Nat) true true true) :: some (AObj.row [Value.string nm, Value.int IntKind.i64 f, Value.slice (some { block := (0 : Nat), off := (0 : Nat) }) n c, Value.slice (some { block := (1 : Nat), off := (0 : Nat) }) k d] (0 : Nat) false true (List.all [Value.string nm, Value.int IntKind.i64 f, Value.slice (some { block := (0 : Nat), off := (0 : Nat) }) n c, Value.slice (some { block := (1 : Nat), off := (0 : Nat) }) k d] atom)) :: some (AObj.row [Value.string nm2, Value.int IntKind.i64 f2, Value.slice (some { block := (2 : Nat), off := (0 : Nat) }) n2 c2, Value.slice (some { block := (3 : Nat), off := (0 : Nat) }) k2 d2] (0 : Nat) false true (List.all [Value.string nm2, Value.int IntKind.i64 f2, Value.slice (some { block := (2 : Nat), off := (0 : Nat) }) n2 c2, Value.slice (some { block := (3 : Nat), off := (0 : Nat) }) k2 d2] atom)) :: some (AObj.row [Value.string { data := #[] }, Value.int IntKind.i64 (0 : Int), Value.slice none (0 : Nat) (0 : Nat), Value.slice none (0 : Nat) (0 : Nat)] (0 : Nat) false true true) :: some (AObj.row [Value.int IntKind.i64 (runE nm f xs n hs), Value.int IntKind.i64 (runE nm2 f2 xs2 n2 hs2)] (1 : Nat) false true true) :: noH) + (0 : Nat), off := (0 : Nat) }) n2 (0 : Nat)] atom)) :: some (AObj.row (rdc n2 (rdF xs2 (knB hs2))) (2 : Nat) true true true) :: some (AObj.row (rdc n (rdF xs (knB hs))) (2 : Nat) true true true) :: noH = some (AObj.row (flts xs) (1 : Nat) true true true) :: some (AObj.row (ints hs) (2 : Nat) true true true) :: some (AObj.row (flts xs2) (1 : Nat) true true true) :: some (AObj.row (ints hs2) (2 : Nat) true true true) :: some (AObj.row [Value.string nm, Value.int IntKind.i64 f, Value.slice (some { block := (0 : Nat), off := (0 : Nat) }) n c, Value.slice (some { block := (1 : Nat), off := (0 : Nat) }) k d] (0 : Nat) false true false) :: some (AObj.row [Value.string nm2, Value.int IntKind.i64 f2, Value.slice (some { block := (2 : Nat), off := (0 : Nat) }) n2 c2, Value.slice (some { block := (3 : Nat), off := (0 : Nat) }) k2 d2] (0 : Nat) false true false) :: some (AObj.row [Value.string { data := #[] }, Value.int IntKind.i64 (0 : Int), Value.slice none (0 : Nat) (0 : Nat), Value.slice none (0 : Nat) (0 : Nat)] (0 : Nat) false true true) :: some (AObj.row [Value.slice (some { block := (8 : Nat), off := (0 : Nat) }) n2 (0 : Nat)] (0 : Nat) false true false) :: some (AObj.row (rdc n2 (rdF xs2 (knB hs2))) (2 : Nat) true true true) :: some (AObj.row (rdc n (mzR (rdF xs (knB hs)) (rdF xs2 (knB hs2)) s)) (2 : Nat) true true true) :: noH) ∧ ∀ (s : Nat), Is (s ≤ n2) → br (decide ((↑s : Int) < (↑n2 : Int))) (Is ((0 : Int) ≤ (↑s : Int) ∧ (↑s : Int) < (↑n2 : Int)) ∧ Is ((if (0 : Nat) + Int.toNat (↑s : Int) * (2 : Nat) + (2 : Nat) ≤ List.length (rdc n2 (rdF xs2 (knB hs2))) then some (Value.agg (List.toArray (List.take (2 : Nat) (List.drop ((0 : Nat) + Int.toNat (↑s : Int) * (2 : Nat)) (rdc n2 (rdF xs2 (knB hs2))))))) else none) = some (Value.agg #[Value.int IntKind.i64 (rdV (rdF xs2 (knB hs2)) ((0 : Nat) + Int.toNat (↑s : Int) * (2 : Nat))), Value.bool (rdW (rdF xs2 (knB hs2)) ((0 : Nat) + Int.toNat (↑s : Int) * (2 : Nat)))])) ∧ br (!rdW (rdF xs2 (knB hs2)) ((0 : Nat) + Int.toNat (↑s : Int) * (2 : Nat))) (Is ((0 : Int) ≤ (↑s : Int) ∧ (↑s : Int) < (↑n : Int)) ∧ Is ((0 : Nat) + Int.toNat (↑s : Int) * (2 : Nat) + List.length [Value.int IntKind.i64 (0 : Int), Value.bool false] ≤ List.length (rdc n (mzR (rdF xs (knB hs)) (rdF xs2 (knB hs2)) s))) ∧ ∃ (s' : Nat), Is (s' ≤ n2) ∧ Is (n2 - s' < n2 - s) ∧ [poi, poi, Value.pointer (some { block := (4 : Nat), off := (0 : Nat) }), Value.pointer (some { block := (5 : Nat), off := (0 : Nat) }), Value.pointer (some { block := (6 : Nat), off := (0 : Nat) }), poi, poi, Value.pointer (some { block := (7 : Nat), off := (0 : Nat) }), Value.slice (some { block := (9 : Nat), off := (0 : Nat) }) n (0 : Nat), poi, poi, poi, poi, poi, poi, poi, poi, poi, poi, poi, poi, poi, poi, poi, poi, poi, poi, poi, poi, poi, Value.slice (some { block := (8 : Nat), off := (0 : Nat) }) n2 (0 : Nat), Value.int IntKind.i64 (↑n2 : Int), Value.int IntKind.i64 (IntKind.wrap IntKind.i64 ((↑s : Int) + (1 : Int))), poi, poi, poi, poi, poi, poi, poi, poi, poi, poi, poi, poi, poi, poi, poi, poi, poi, poi, poi] = [poi, poi, Value.pointer (some { block := (4 : Nat), off := (0 : Nat) }), Value.pointer (some { block := (5 : Nat), off := (0 : Nat) }), Value.pointer (some { block := (6 : Nat), off := (0 : Nat) }), poi, poi, Value.pointer (some { block := (7 : Nat), off := (0 : Nat) }), Value.slice (some { block := (9 : Nat), off := (0 : Nat) }) n (0 : Nat), poi, poi, poi, poi, poi, poi, poi, poi, poi, poi, poi, poi, poi, poi, poi, poi, poi, poi, poi, poi, poi, Value.slice (some { block := (8 : Nat), off := (0 : Nat) }) n2 (0 : Nat), Value.int IntKind.i64 (↑n2 : Int), Value.int IntKind.i64 (↑s' : Int), poi, poi, poi, poi, poi, poi, poi, poi, poi, poi, poi, poi, poi, poi, poi, poi, poi, poi, poi] ∧ some (AObj.row (flts xs) (1 : Nat) true true true) :: some (AObj.row (ints hs) (2 : Nat) true true true) :: some (AObj.row (flts xs2) (1 : Nat) true true true) :: some (AObj.row (ints hs2) (2 : Nat) true true true) :: some (AObj.row [Value.string nm, Value.int IntKind.i64 f, Value.slice (some { block := (0 : Nat), off := (0 : Nat) }) n c, Value.slice (some { block := (1 : Nat), off := (0 : Nat) }) k d] (0 : Nat) false true false) :: some (AObj.row [Value.string nm2, Value.int IntKind.i64 f2, Value.slice (some { block := (2 : Nat), off := (0 : Nat) }) n2 c2, Value.slice (some { block := (3 : Nat), off := (0 : Nat) }) k2 d2] (0 : Nat) false true false) :: some (AObj.row [Value.string { data := #[] }, Value.int IntKind.i64 (0 : Int), Value.slice none (0 : Nat) (0 : Nat), Value.slice none (0 : Nat) (0 : Nat)] (0 : Nat) false true true) :: some (AObj.row [Value.slice (some { block := (8 : Nat), off := (0 : Nat) }) n2 (0 : Nat)] (0 : Nat) false true false) :: some (AObj.row (rdc n2 (rdF xs2 (knB hs2))) (2 : Nat) true true true) :: some (AObj.row (putL (rdc n (mzR (rdF xs (knB hs)) (rdF xs2 (knB hs2)) s)) ((0 : Nat) + Int.toNat (↑s : Int) * (2 : Nat)) [Value.int IntKind.i64 (0 : Int), Value.bool false]) (2 : Nat) true true (true && List.all [Value.int IntKind.i64 (0 : Int), Value.bool false] atom)) :: noH = some (AObj.row (flts xs) (1 : Nat) true true true) :: some (AObj.row (ints hs) (2 : Nat) true true true) :: some (AObj.row (flts xs2) (1 : Nat) true true true) :: some (AObj.row (ints hs2) (2 : Nat) true true true) :: some (AObj.row [Value.string nm, Value.int IntKind.i64 f, Value.slice (some { block := (0 : Nat), off := (0 : Nat) }) n c, Value.slice (some { block := (1 : Nat), off := (0 : Nat) }) k d] (0 : Nat) false true false) :: some (AObj.row [Value.string nm2, Value.int IntKind.i64 f2, Value.slice (some { block := (2 : Nat), off := (0 : Nat) }) n2 c2, Value.slice (some { block := (3 : Nat), off := (0 : Nat) }) k2 d2] (0 : Nat) false true false) :: some (AObj.row [Value.string { data := #[] }, Value.int IntKind.i64 (0 : Int), Value.slice none (0 : Nat) (0 : Nat), Value.slice none (0 : Nat) (0 : Nat)] (0 : Nat) false true true) :: some (AObj.row [Value.slice (some { block := (8 : Nat), off := (0 : Nat) }) n2 (0 : Nat)] (0 : Nat) false true false) :: some (AObj.row (rdc n2 (rdF xs2 (knB hs2))) (2 : Nat) true true true) :: some (AObj.row (rdc n (mzR (rdF xs (knB hs)) (rdF xs2 (knB hs2)) s')) (2 : Nat) true true true) :: noH) (∃ (s' : Nat), Is (s' ≤ n2) ∧ Is (n2 - s' < n2 - s) ∧ [poi, poi, Value.pointer (some { block := (4 : Nat), off := (0 : Nat) }), Value.pointer (some { block := (5 : Nat), off := (0 : Nat) }), Value.pointer (some { block := (6 : Nat), off := (0 : Nat) }), poi, poi, Value.pointer (some { block := (7 : Nat), off := (0 : Nat) }), Value.slice (some { block := (9 : Nat), off := (0 : Nat) }) n (0 : Nat), poi, poi, poi, poi, poi, poi, poi, poi, poi, poi, poi, poi, poi, poi, poi, poi, poi, poi, poi, poi, poi, Value.slice (some { block := (8 : Nat), off := (0 : Nat) }) n2 (0 : Nat), Value.int IntKind.i64 (↑n2 : Int), Value.int IntKind.i64 (IntKind.wrap IntKind.i64 ((↑s : Int) + (1 : Int))), poi, poi, poi, poi, poi, poi, poi, poi, poi, poi, poi, poi, poi, poi, poi, poi, poi, poi, poi] = [poi, poi, Value.pointer (some { block := (4 : Nat), off := (0 : Nat) }), Value.pointer (some { block := (5 : Nat), off := (0 : Nat) }), Value.pointer (some { block := (6 : Nat), off := (0 : Nat) }), poi, poi, Value.pointer (some { block := (7 : Nat), off := (0 : Nat) }), Value.slice (some { block := (9 : Nat), off := (0 : Nat) }) n (0 : Nat), poi, poi, poi, poi, poi, poi, poi, poi, poi, poi, poi, poi, poi, poi, poi, poi, poi, poi, poi, poi, poi, Value.slice (some { block := (8 : Nat), off := (0 : Nat) }) n2 (0 : Nat), Value.int IntKind.i64 (↑n2 : Int), Value.int IntKind.i64 (↑s' : Int), poi, poi, poi, poi, poi, poi, poi, poi, poi, poi, poi, poi, poi, poi, poi, poi, poi, poi, poi] ∧ some (AObj.row (flts xs) (1 : Nat) true true true) :: some (AObj.row (ints hs) (2 : Nat) true true true) :: some (AObj.row (flts xs2) (1 : Nat) true true true) :: some (AObj.row (ints hs2) (2 : Nat) true true true) :: some (AObj.row [Value.string nm, Value.int IntKind.i64 f, Value.slice (some { block := (0 : Nat), off := (0 : Nat) }) n c, Value.slice (some { block := (1 : Nat), off := (0 : Nat) }) k d] (0 : Nat) false true false) :: some (AObj.row [Value.string nm2, Value.int IntKind.i64 f2, Value.slice (some { block := (2 : Nat), off := (0 : Nat) }) n2 c2, Value.slice (some { block := (3 : Nat), off := (0 : Nat) }) k2 d2] (0 : Nat) false true false) :: some (AObj.row [Value.string { data := #[] }, Value.int IntKind.i64 (0 : Int), Value.slice none (0 : Nat) (0 : Nat), Value.slice none (0 : Nat) (0 : Nat)] (0 : Nat) false true true) :: some (AObj.row [Value.slice (some { block := (8 : Nat), off := (0 : Nat) }) n2 (0 : Nat)] (0 : Nat) false true false) :: some (AObj.row (rdc n2 (rdF xs2 (knB hs2))) (2 : Nat) true true true) :: some (AObj.row (rdc n (mzR (rdF xs (knB hs)) (rdF xs2 (knB hs2)) s)) (2 : Nat) true true true) :: noH = some (AObj.row (flts xs) (1 : Nat) true true true) :: some (AObj.row (ints hs) (2 : Nat) true true true) :: some (AObj.row (flts xs2) (1 : Nat) true true true) :: some (AObj.row (ints hs2) (2 : Nat) true true true) :: some (AObj.row [Value.string nm, Value.int IntKind.i64 f, Value.slice (some { block := (0 : Nat), off := (0 : Nat) }) n c, Value.slice (some { block := (1 : Nat), off := (0 : Nat) }) k d] (0 : Nat) false true false) :: some (AObj.row [Value.string nm2, Value.int IntKind.i64 f2, Value.slice (some { block := (2 : Nat), off := (0 : Nat) }) n2 c2, Value.slice (some { block := (3 : Nat), off := (0 : Nat) }) k2 d2] (0 : Nat) false true false) :: some (AObj.row [Value.string { data := #[] }, Value.int IntKind.i64 (0 : Int), Value.slice none (0 : Nat) (0 : Nat), Value.slice none (0 : Nat) (0 : Nat)] (0 : Nat) false true true) :: some (AObj.row [Value.slice (some { block := (8 : Nat), off := (0 : Nat) }) n2 (0 : Nat)] (0 : Nat) false true false) :: some (AObj.row (rdc n2 (rdF xs2 (knB hs2))) (2 : Nat) true true true) :: some (AObj.row (rdc n (mzR (rdF xs (knB hs)) (rdF xs2 (knB hs2)) s')) (2 : Nat) true true true) :: noH)) (Is (isRun xs hs n k (flts xs) (ints hs) ∧ rdc n (mzR (rdF xs (knB hs)) (rdF xs2 (knB hs2)) s) = rdc n (mzR (rdF xs (knB hs)) (rdF xs2 (knB hs2)) n) ∧ n ≤ (100000 : Nat) ∧ ∀ (i : Nat), i < n → Int.natAbs (Prod.fst (mzR (rdF xs (knB hs)) (rdF xs2 (knB hs2)) n i)) < (2 : Nat) ^ (24 : Nat)) ∧ Is (isRun (mkX (mzR (rdF xs (knB hs)) (rdF xs2 (knB hs2)) n) n) (mkS (mkB (mzR (rdF xs (knB hs)) (rdF xs2 (knB hs2)) n)) n) n (mkK (mkB (mzR (rdF xs (knB hs)) (rdF xs2 (knB hs2)) n)) n) (flts (mkX (mzR (rdF xs (knB hs)) (rdF xs2 (knB hs2)) n) n)) (ints (mkS (mkB (mzR (rdF xs (knB hs)) (rdF xs2 (knB hs2)) n)) n)) ∧ rdc n2 (rdF xs2 (knB hs2)) = rdc n2 (rdF xs2 (knB hs2)) ∧ fi (List.map sE (mkX (mzR (rdF xs (knB hs)) (rdF xs2 (knB hs2)) n) n)) = (0 : Int) ∧ hchk (↑n : Int) (mkS (mkB (mzR (rdF xs (knB hs)) (rdF xs2 (knB hs2)) n)) n) (-1 : Int) = (0 : Int) ∧ (∀ (i : Nat), i < n → Prod.snd (rdF (mkX (mzR (rdF xs (knB hs)) (rdF xs2 (knB hs2)) n) n) (knB (mkS (mkB (mzR (rdF xs (knB hs)) (rdF xs2 (knB hs2)) n)) n)) i) = true → Int.natAbs (adI (rdF xs2 (knB hs2)) i (Prod.fst (rdF (mkX (mzR (rdF xs (knB hs)) (rdF xs2 (knB hs2)) n) n) (knB (mkS (mkB (mzR (rdF xs (knB hs)) (rdF xs2 (knB hs2)) n)) n)) i))) ≤ (16384 : Nat)) ∧ n ≤ n2 ∧ ∀ (i : Nat), i < n2 → Int.natAbs (Prod.fst (rdF xs2 (knB hs2) i)) ≤ (16384 : Nat)) ∧ K (Value.tuple #[Value.agg #[Value.string nm, Value.int IntKind.i64 f, Value.slice (some { block := (4 : Nat), off := (0 : Nat) }) n (0 : Nat), Value.slice (some { block := (5 : Nat), off := (0 : Nat) }) (mkK (mkB (chR (rdF (mkX (mzR (rdF xs (knB hs)) (rdF xs2 (knB hs2)) n) n) (knB (mkS (mkB (mzR (rdF xs (knB hs)) (rdF xs2 (knB hs2)) n)) n))) (adI (rdF xs2 (knB hs2))) n)) n) (0 : Nat)], Value.int IntKind.i64 (0 : Int)]) (some (AObj.row (flts xs) (1 : Nat) true true true) :: some (AObj.row (ints hs) (2 : Nat) true true true) :: some (AObj.row (flts xs2) (1 : Nat) true true true) :: some (AObj.row (ints hs2) (2 : Nat) true true true) :: some (AObj.row (flts (mkX (chR (rdF (mkX (mzR (rdF xs (knB hs)) (rdF xs2 (knB hs2)) n) n) (knB (mkS (mkB (mzR (rdF xs (knB hs)) (rdF xs2 (knB hs2)) n)) n))) (adI (rdF xs2 (knB hs2))) n) n)) (1 : Nat) true true true) :: some (AObj.row (ints (mkS (mkB (chR (rdF (mkX (mzR (rdF xs (knB hs)) (rdF xs2 (knB hs2)) n) n) (knB (mkS (mkB (mzR (rdF xs (knB hs)) (rdF xs2 (knB hs2)) n)) n))) (adI (rdF xs2 (knB hs2))) n)) n)) (2 : Nat) true true true) :: noH))) := by kernel_rfl
theorem mzR_few {R Q : Nat → Int × Bool} {s i : Nat} (h : (R i).1.natAbs ≤ 16384) : (mzR R Q s i).1.natAbs ≤ 16384 := by
  rw [mzR]
  split
  · exact Nat.zero_le _
  · exact h
theorem mzR_ok {R Q : Nat → Int × Bool} {n s : Nat} (h : RdOk R n) : RdOk (mzR R Q s) n := ⟨fun i hi => mzR_few (h.few i hi), fun i hi hb => by
  rw [mzR] at hb ⊢
  split
  · rfl
  · rename_i e; rw [if_neg e] at hb; exact h.zero i hi hb⟩
theorem mzR_skip {R Q : Nat → Int × Bool} {n s : Nat} (h : (Q s).2 = true) : rdc n (mzR R Q s) = rdc n (mzR R Q (s + 1)) := rdc_congr fun i _ => by
  rw [mzR, mzR]
  by_cases e : i = s
  · subst e; rw [h, Bool.not_true, Bool.and_false, Bool.and_false]
  · rw [show decide (i < s) = decide (i < s + 1) from decide_eq_decide.2 (by omega)]
theorem mzR_put {R Q : Nat → Int × Bool} {n s : Nat} (h : (Q s).2 = false) : rdc n (upR (mzR R Q s) s (0, false)) = rdc n (mzR R Q (s + 1)) := rdc_congr fun i _ => by
  rw [upR, mzR, mzR]
  by_cases e : i = s
  · subst e; rw [if_pos rfl, h, decide_eq_true (Nat.lt_succ_self i)]; rfl
  · rw [if_neg e, show decide (i < s) = decide (i < s + 1) from decide_eq_decide.2 (by omega)]
theorem rdF_ok {xs : List Nat} {P : Int → Bool} {n : Nat} (hx : fi (xs.map sE) = 0) (hn : xs.length = n) : RdOk (rdF xs P) n := ⟨fun i hi => rdF_few hx (by omega), fun i hi hb => by
  rw [rdF] at hb ⊢
  split
  · rename_i e; rw [if_pos e] at hb; cases hb
  · rfl⟩
/-- The sum of readings. -/
noncomputable def suR (R Q : Nat → Int × Bool) (n : Nat) : Nat → Int × Bool := chR (rdF (mkX (mzR R Q n) n) (knB (mkS (mkB (mzR R Q n)) n))) (adI Q) n
set_option maxRecDepth 100000 in
theorem smm_ok {nm nm2 : ByteArray} {f : Int} {n c k d c2 k2 d2 : Nat} {xs xs2 : List Nat} {hs hs2 : List Int} (hi : isRun xs hs n k (flts xs) (ints hs)) (hi2 : isRun xs2 hs2 n k2 (flts xs2) (ints hs2)) (hr : runE nm f xs n hs = 0) (hr2 : runE nm2 f xs2 n hs2 = 0)
    (hg : ∀ i, i < n → (rdF xs (knB hs) i).2 = true → (rdF xs2 (knB hs2) i).2 = true → ((rdF xs (knB hs) i).1 + (rdF xs2 (knB hs2) i).1).natAbs ≤ 16384) :
    SmallRes Try.prog 20 [.agg (runA nm f 0 n c 1 k d).toArray, .agg (runA nm2 f 2 n c2 3 k2 d2).toArray] (hp2r xs hs true true true true (hp2r xs2 hs2 true true true true [])) (.tuple #[.agg (runA nm f 4 n 0 5 (mkK (mkB (suR (rdF xs (knB hs)) (rdF xs2 (knB hs2)) n)) n) 0).toArray, .int .i64 0]) (hp2r xs hs true true true true (hp2r xs2 hs2 true true true true (wiR (suR (rdF xs (knB hs)) (rdF xs2 (knB hs2)) n) n))) := by
  refine fnP_res hm cs2_ok (hs := hsSmm nm nm2 f f n c k d n c2 k2 d2 xs xs2 hs hs2) ?_
  rw [smm_t, hr, hr2]
  obtain ⟨_, _, hn4, _, hx, hh, _⟩ := run_zero hr
  obtain ⟨_, _, _, _, hx2, hh2, _⟩ := run_zero hr2
  have h9 : n ≤ 100000 := hi.2.2.2.1
  have ok1 := rdF_ok (P := knB hs) hx hi.2.2.1
  have ok2 := rdF_ok (P := knB hs2) hx2 hi2.2.2.1
  generalize hR : rdF xs (knB hs) = R at *
  generalize hQ : rdF xs2 (knB hs2) = Q at *
  have e0 : rdc n (mzR R Q 0) = rdc n R := rdc_congr fun i _ => by rw [mzR, decide_eq_false (Nat.not_lt_zero i)]; rfl
  refine ⟨⟨hi⟩, ⟨hi2⟩, ⟨rfl, rfl, by decide⟩, ⟨rfl, rfl, rfl, rfl, rfl, rfl⟩, ⟨hi2, hx2, hh2⟩, ⟨hi, hx, hh⟩, ⟨(0 : Nat), ⟨Nat.zero_le _⟩, by first | trivial | rfl, by rw [e0]; first | done | trivial | rfl⟩, fun s hs' => br_of (fun hc => ?_) (fun hc => ?_)⟩
  · have hc := lt_of_dec hc
    simp only [Nat.zero_add, Int.toNat_natCast, rdV_at, rdW_at]
    have t1 := rdc_take (R := Q) hc
    refine ⟨⟨by omega, by omega⟩, ⟨t1⟩, br_of (fun hk => ?_) (fun hk => ?_)⟩
    · have hk : (Q s).2 = false := by simpa using hk
      have p1 : putL (rdc n (mzR R Q s)) (s * 2) [.int .i64 0, .bool false] = rdc n (mzR R Q (s + 1)) := (rdc_put (v := (0, false)) hc).trans (mzR_put hk)
      rw [p1]
      refine ⟨⟨by omega, by omega⟩, ⟨by rw [rdc_len]; simp only [List.length_cons, List.length_nil]; omega⟩, s + 1, ⟨hc⟩, ⟨by omega⟩, by rw [up1 hc (by omega)], by first | trivial | rfl⟩
    · have hk : (Q s).2 = true := by simpa using hk
      refine ⟨s + 1, ⟨hc⟩, ⟨by omega⟩, by rw [up1 hc (by omega)], by rw [mzR_skip hk]⟩
  · have hc := ge_of_dec hc
    have : s = n := by have := hs'.out; omega
    subst this
    have ok3 := mzR_ok (Q := Q) (s := s) ok1
    refine ⟨⟨hi, rfl, h9, fun i hlt => Nat.lt_of_le_of_lt (ok3.few i hlt) (by decide)⟩, ⟨mk_isRun h9, rfl, mkX_fi ok3.few, mkS_hchk _ _, fun i hlt hb => ?_, Nat.le_refl _, ok2.few⟩, by first | trivial | rfl, by first | trivial | rfl⟩
    rw [mk_back ok3 hlt] at hb ⊢
    rw [mzR, decide_eq_true hlt, Bool.true_and] at hb ⊢
    cases hq : (Q i).2 with
    | false => rw [hq] at hb; cases hb
    | true =>
      rw [hq] at hb
      exact hg i hlt hb hq
end
end Qq
end
section
/- The law about moments of parts. -/
open Go Go.Vm Go.Proofs Sp
namespace Sp
noncomputable section
noncomputable def shB (nm : ByteArray) (n k : Nat) : Bool := decide (nm.size ≤ 40) && ((decide (n ≤ 40) || n == 4097) && decide (k ≤ 12))
end
end Sp
namespace Qq
noncomputable section
noncomputable def orcOwR (xs : List Nat) (hs : List Int) : OrcV
  | [.agg ⟨[.string nm, .int .i64 f, .slice (some ⟨0, 0, none⟩) n _, .slice (some ⟨1, 0, none⟩) k _]⟩], [some (.row e1 1 false false true), some (.row e2 2 false false true)] =>
    some (.agg #[.string nm, .int .i64 f, .slice (some ⟨2, 0, none⟩) n 0, .slice (some ⟨3, 0, none⟩) k 0], [some (.row e1 1 false false true), some (.row e2 2 false false true), fR xs, some (.row (ints hs) 2 true true true)], isRun xs hs n k e1 e2)
  | _, _ => none
theorem okOwR (xs : List Nat) (hs : List Int) : OkV Try.prog 9 (orcOwR xs hs) := by
  intro args H ret H' vc h hv
  unfold orcOwR at h
  split at h
  · rename_i nm f n c k d e1 e2
    cases h
    obtain ⟨rfl, rfl, h1, h2, h3, h4⟩ := hv
    refine fnP_res hm c0_ok (hs := hsOw) ?_
    show fnP Try.prog c0 hsOw 9 [.agg (runA nm f 0 n c 1 k d).toArray] (hp2r xs hs false false false false []) _
    rw [owR_t]
    exact ⟨⟨by rw [flts_len]; omega, flts_atom xs, by omega, by omega⟩, ⟨by rw [ints_len]; omega, fun v hv => by obtain ⟨x, _, rfl⟩ := List.mem_map.1 hv; rfl, by omega, by omega⟩, by first | trivial | rfl, by first | trivial | rfl⟩
  · cases h
noncomputable def isRn1 (xs : List Nat) (hs : List Int) (e1 e2 : List Value) : Prop := e1 = flts xs ∧ e2 = ints hs
noncomputable def orcShR (xs : List Nat) (hs : List Int) : OrcV
  | [.agg ⟨[.string nm, .int .i64 _, .slice (some ⟨0, 0, none⟩) n _, .slice (some ⟨1, 0, none⟩) k _]⟩], [some (.row e1 1 false false true), some (.row e2 2 false false true)] =>
    some (.bool (shB nm n k), [some (.row e1 1 false false true), some (.row e2 2 false false true)], isRn1 xs hs e1 e2)
  | _, _ => none
theorem okShR (xs : List Nat) (hs : List Int) : OkV Try.prog 4 (orcShR xs hs) := by
  intro args H ret H' vc h hv
  unfold orcShR at h
  split at h
  · rename_i nm f n c k d e1 e2
    cases h
    obtain ⟨rfl, rfl⟩ := hv
    refine fnP_res hm c0_ok (hs := hsShR) ?_
    show fnP Try.prog c0 hsShR 4 [.agg (runA nm f 0 n c 1 k d).toArray] (hp2r xs hs false false false false []) _
    rw [srn_t]
    have e40 : decide ((nm.size : Int) ≤ 40) = decide (nm.size ≤ 40) := decide_eq_decide.2 (by omega)
    have e12 : decide ((k : Int) ≤ 12) = decide (k ≤ 12) := decide_eq_decide.2 (by omega)
    refine br_of (fun h => ⟨⟨xs, rfl⟩, br_of (fun h2 => ?_) (fun h2 => ?_)⟩) (fun h => ?_)
    · rw [shB, ← e40, h, h2, e12]; exact ⟨by first | trivial | rfl, by first | trivial | rfl⟩
    · rw [shB, ← e40, h, h2]; exact ⟨by first | trivial | rfl, by first | trivial | rfl⟩
    · rw [shB, ← e40, h]; exact ⟨by first | trivial | rfl, by first | trivial | rfl⟩
  · cases h
end
end Qq
end
section
/- The law about spread: the small parts. -/
open Go Go.Vm Go.Proofs Sp
namespace Sp
noncomputable section
end
end Sp
namespace Qq
noncomputable section
noncomputable def orcSu (xs xs2 : List Nat) (hs hs2 : List Int) : OrcV
  | [.agg ⟨[.string nm, .int .i64 f, .slice (some ⟨0, 0, none⟩) n _, .slice (some ⟨1, 0, none⟩) k _]⟩, .agg ⟨[.string nm2, .int .i64 f2, .slice (some ⟨2, 0, none⟩) n2 _, .slice (some ⟨3, 0, none⟩) k2 _]⟩], [some (.row e1 1 true true true), some (.row e2 2 true true true), some (.row e3 1 true true true), some (.row e4 2 true true true)] =>
    some (.tuple #[.agg (runA nm f 4 n 0 5 (mkK (mkB (suR (rdF xs (knB hs)) (rdF xs2 (knB hs2)) n)) n) 0).toArray, .int .i64 0], some (.row e1 1 true true true) :: some (.row e2 2 true true true) :: some (.row e3 1 true true true) :: some (.row e4 2 true true true) :: wiR (suR (rdF xs (knB hs)) (rdF xs2 (knB hs2)) n) n,
      isRun xs hs n k e1 e2 ∧ isRun xs2 hs2 n2 k2 e3 e4 ∧ f2 = f ∧ n2 = n ∧ runE nm f xs n hs = 0 ∧ runE nm2 f xs2 n hs2 = 0 ∧ ∀ i, i < n → (rdF xs (knB hs) i).2 = true → (rdF xs2 (knB hs2) i).2 = true → ((rdF xs (knB hs) i).1 + (rdF xs2 (knB hs2) i).1).natAbs ≤ 16384)
  | _, _ => none
theorem okSu (xs xs2 : List Nat) (hs hs2 : List Int) : OkV Try.prog 20 (orcSu xs xs2 hs hs2) := by
  intro args H ret H' vc h hv
  unfold orcSu at h
  split at h
  · cases h
    obtain ⟨⟨rfl, rfl, h1, h2, h3, h4⟩, ⟨rfl, rfl, h5, h6, h7, h8⟩, rfl, rfl, h9, h10, h11⟩ := hv
    exact smm_ok ⟨rfl, rfl, h1, h2, h3, h4⟩ ⟨rfl, rfl, h5, h6, h7, h8⟩ h9 h10 h11
  · cases h
/- The end of a run. -/
/- How many samples are known. -/
end
end Qq
end
section
/- The vote of three readings: the program. -/
open Go Go.Vm Go.Proofs Sp
namespace Sp
noncomputable section
/-- The vote of three numbers, of two, of three readings. -/
def lo3 (a b c : Int) : Int := min a (min b c)
def hi3 (a b c : Int) : Int := max a (max b c)
def md3 (a b c : Int) : Int := a + b + c - lo3 a b c - hi3 a b c
def vt3 (a b c l : Int) : Int × Bool := if min (md3 a b c - lo3 a b c) (hi3 a b c - md3 a b c) ≤ l then (md3 a b c, true) else (0, false)
def vt2 (a b l : Int) : Int × Bool := if max a b - min a b ≤ l then (rnd (a + b) 2, true) else (0, false)
def vtR (a b c : Int × Bool) (l : Int) : Int × Bool :=
  match a.2, b.2, c.2 with
  | true, true, true => vt3 a.1 b.1 c.1 l
  | true, true, false => vt2 a.1 b.1 l
  | true, false, true => vt2 a.1 c.1 l
  | false, true, true => vt2 b.1 c.1 l
  | _, _, _ => (0, false)
end
end Sp
namespace Qq
noncomputable section
theorem rnS_t (a : Int) (b : Int) (K : Value → Heap → Prop) :
    (fnP Try.prog c0 h0 (52 : FuncId) [Value.int IntKind.i64 a, Value.int IntKind.i64 b] [] K) =
    (Is (IntKind.wrap IntKind.i64 ((2 : Int) * b) ≠ (0 : Int)) ∧ br (decide (IntKind.wrap IntKind.i64 (IntKind.wrap IntKind.i64 ((2 : Int) * a) + b) < IntKind.wrap IntKind.i64 (IntKind.wrap IntKind.i64 (Int.tdiv (IntKind.wrap IntKind.i64 (IntKind.wrap IntKind.i64 ((2 : Int) * a) + b)) (IntKind.wrap IntKind.i64 ((2 : Int) * b))) * IntKind.wrap IntKind.i64 ((2 : Int) * b)))) (K (Value.int IntKind.i64 (IntKind.wrap IntKind.i64 (IntKind.wrap IntKind.i64 (Int.tdiv (IntKind.wrap IntKind.i64 (IntKind.wrap IntKind.i64 ((2 : Int) * a) + b)) (IntKind.wrap IntKind.i64 ((2 : Int) * b))) - (1 : Int)))) noH) (K (Value.int IntKind.i64 (IntKind.wrap IntKind.i64 (Int.tdiv (IntKind.wrap IntKind.i64 (IntKind.wrap IntKind.i64 ((2 : Int) * a) + b)) (IntKind.wrap IntKind.i64 ((2 : Int) * b))))) noH)) := by kernel_rfl
theorem lss_t (a : Int) (b : Int) (K : Value → Heap → Prop) :
    (fnP Try.prog c0 h0 (84 : FuncId) [Value.int IntKind.i64 a, Value.int IntKind.i64 b] [] K) =
    (br (a != a) (br (!b != b) (K (Value.bool true) noH) (K (Value.bool (decide (a < b))) noH)) (K (Value.bool (decide (a < b))) noH)) := by kernel_rfl
noncomputable def orcRnT : OrcV
  | [.int .i64 a, .int .i64 b], [] => some (.int .i64 (rnd a b), [], 0 < b ∧ b ≤ 100000 ∧ a.natAbs ≤ 1000000000000)
  | _, _ => none
theorem okRnT : OkV Try.prog 52 orcRnT := by
  intro args H ret H' vc h hv
  unfold orcRnT at h
  split at h
  · rename_i a b
    cases h
    obtain ⟨b0, b1, a0⟩ := hv
    refine fnP_res hm c0_ok (hs := h0) ?_
    obtain ⟨f1, f2, f3, f4, f5⟩ := floor_law (a := 2 * a + b) (b := 2 * b) (by omega) (by omega) (by omega) (by omega)
    rw [W] at f1 f2 f3
    rw [rnS_t, wrap_eq (x := 2 * a) (by omega) (by omega), wrap_eq (x := 2 * b) (by omega) (by omega), wrap_eq (x := 2 * a + b) (by omega) (by omega), f1, f2, f3]
    refine ⟨⟨by omega⟩, br_of (fun h => ?_) (fun h => ?_)⟩
    · have h := of_decide_eq_true h
      rw [f4 h]; exact ⟨by first | trivial | rfl, by first | trivial | rfl⟩
    · have h := of_decide_eq_false h
      rw [f5 h]; exact ⟨by first | trivial | rfl, by first | trivial | rfl⟩
  · cases h
noncomputable def orcLss : Orc
  | [.int .i64 a, .int .i64 b], [] => some (.bool (decide (a < b)), [])
  | _, _ => none
theorem okLss : Ok Try.prog 84 orcLss := by
  intro args H ret H' h
  unfold orcLss at h
  split at h
  · cases h
    refine fnP_res hm c0_ok (hs := h0) ?_
    rw [lss_t]
    refine br_of (fun h => by simp at h) (fun _ => ⟨by first | trivial | rfl, by first | trivial | rfl⟩)
  · cases h
noncomputable def cLss : CallF := ctx Try.prog [(84, orcLss)]
theorem cLss_ok : CallOK Try.prog cLss := ctx_ok hm (all_cons okLss all_nil)
/- Insertion sort of two and of three. -/
theorem is2_t (d : Nat) (a : Int) (b : Int) (K : Value → Heap → Prop) :
    (fnP Try.prog cLss h0 (78 : FuncId) [Value.slice (some { block := (0 : Nat), off := (0 : Nat) }) (2 : Nat) d, Value.int IntKind.i64 (0 : Int), Value.int IntKind.i64 (2 : Int)] [some (AObj.row [Value.int IntKind.i64 a, Value.int IntKind.i64 b] (1 : Nat) true true true)] K) =
    (br (decide (b < a)) (K undef (some (AObj.row [Value.int IntKind.i64 b, Value.int IntKind.i64 a] (1 : Nat) true true (true && List.all [Value.int IntKind.i64 a] atom && List.all [Value.int IntKind.i64 b] atom)) :: noH)) (K undef (some (AObj.row [Value.int IntKind.i64 a, Value.int IntKind.i64 b] (1 : Nat) true true true) :: noH))) := by kernel_rfl
theorem is3_t (d : Nat) (a : Int) (b : Int) (c : Int) (K : Value → Heap → Prop) :
    (fnP Try.prog cLss h0 (78 : FuncId) [Value.slice (some { block := (0 : Nat), off := (0 : Nat) }) (3 : Nat) d, Value.int IntKind.i64 (0 : Int), Value.int IntKind.i64 (3 : Int)] [some (AObj.row [Value.int IntKind.i64 a, Value.int IntKind.i64 b, Value.int IntKind.i64 c] (1 : Nat) true true true)] K) =
    (br (decide (b < a)) (br (decide (c < a)) (br (decide (c < b)) (K undef (some (AObj.row [Value.int IntKind.i64 c, Value.int IntKind.i64 b, Value.int IntKind.i64 a] (1 : Nat) true true (true && List.all [Value.int IntKind.i64 a] atom && List.all [Value.int IntKind.i64 b] atom && List.all [Value.int IntKind.i64 a] atom && List.all [Value.int IntKind.i64 c] atom && List.all [Value.int IntKind.i64 b] atom && List.all [Value.int IntKind.i64 c] atom)) :: noH)) (K undef (some (AObj.row [Value.int IntKind.i64 b, Value.int IntKind.i64 c, Value.int IntKind.i64 a] (1 : Nat) true true (true && List.all [Value.int IntKind.i64 a] atom && List.all [Value.int IntKind.i64 b] atom && List.all [Value.int IntKind.i64 a] atom && List.all [Value.int IntKind.i64 c] atom)) :: noH))) (K undef (some (AObj.row [Value.int IntKind.i64 b, Value.int IntKind.i64 a, Value.int IntKind.i64 c] (1 : Nat) true true (true && List.all [Value.int IntKind.i64 a] atom && List.all [Value.int IntKind.i64 b] atom)) :: noH))) (br (decide (c < b)) (br (decide (c < a)) (K undef (some (AObj.row [Value.int IntKind.i64 c, Value.int IntKind.i64 a, Value.int IntKind.i64 b] (1 : Nat) true true (true && List.all [Value.int IntKind.i64 b] atom && List.all [Value.int IntKind.i64 c] atom && List.all [Value.int IntKind.i64 a] atom && List.all [Value.int IntKind.i64 c] atom)) :: noH)) (K undef (some (AObj.row [Value.int IntKind.i64 a, Value.int IntKind.i64 c, Value.int IntKind.i64 b] (1 : Nat) true true (true && List.all [Value.int IntKind.i64 b] atom && List.all [Value.int IntKind.i64 c] atom)) :: noH))) (K undef (some (AObj.row [Value.int IntKind.i64 a, Value.int IntKind.i64 b, Value.int IntKind.i64 c] (1 : Nat) true true true) :: noH)))) := by kernel_rfl
noncomputable def orcIs : OrcV
  | [.slice (some ⟨0, 0, none⟩) 2 _, .int .i64 0, .int .i64 2], [some (.row [.int .i64 a, .int .i64 b] 1 true true true)] => some (undef, [some (.row [.int .i64 (min a b), .int .i64 (max a b)] 1 true true true)], True)
  | [.slice (some ⟨0, 0, none⟩) 3 _, .int .i64 0, .int .i64 3], [some (.row [.int .i64 a, .int .i64 b, .int .i64 c] 1 true true true)] => some (undef, [some (.row [.int .i64 (lo3 a b c), .int .i64 (md3 a b c), .int .i64 (hi3 a b c)] 1 true true true)], True)
  | _, _ => none
theorem mm_lt {a b : Int} (h : b < a) : min a b = b ∧ max a b = a := by omega
theorem mm_ge {a b : Int} (h : ¬ b < a) : min a b = a ∧ max a b = b := by omega
theorem three {a b c x y z : Int} (h1 : x ≤ y) (h2 : y ≤ z) (h3 : (x = min a (min b c))) (h4 : z = max a (max b c)) (h5 : x + y + z = a + b + c) : lo3 a b c = x ∧ md3 a b c = y ∧ hi3 a b c = z := by
  unfold md3 lo3 hi3; omega
set_option maxRecDepth 100000 in
theorem okIs : OkV Try.prog 78 orcIs := by
  intro args H ret H' vc h hv
  unfold orcIs at h
  split at h
  · rename_i d a b
    cases h
    refine fnP_res hm cLss_ok (hs := h0) ?_
    rw [is2_t]
    refine br_of (fun h => ?_) (fun h => ?_)
    · obtain ⟨e1, e2⟩ := mm_lt (of_decide_eq_true h)
      rw [e1, e2]; exact ⟨by first | trivial | rfl, by first | trivial | rfl⟩
    · obtain ⟨e1, e2⟩ := mm_ge (of_decide_eq_false h)
      rw [e1, e2]; exact ⟨by first | trivial | rfl, by first | trivial | rfl⟩
  · rename_i d a b c
    cases h
    refine fnP_res hm cLss_ok (hs := h0) ?_
    rw [is3_t]
    refine br_of (fun h1 => br_of (fun h2 => br_of (fun h3 => ?_) (fun h3 => ?_)) (fun h2 => ?_)) (fun h1 => br_of (fun h2 => br_of (fun h3 => ?_) (fun h3 => ?_)) (fun h2 => ?_))
    · have h1 := of_decide_eq_true h1; have h2 := of_decide_eq_true h2; have h3 := of_decide_eq_true h3
      obtain ⟨e1, e2, e3⟩ := three (a := a) (b := b) (c := c) (x := c) (y := b) (z := a) (by omega) (by omega) (by omega) (by omega) (by omega)
      rw [e1, e2, e3]; exact ⟨by first | trivial | rfl, by first | trivial | rfl⟩
    · have h1 := of_decide_eq_true h1; have h2 := of_decide_eq_true h2; have h3 := of_decide_eq_false h3
      obtain ⟨e1, e2, e3⟩ := three (a := a) (b := b) (c := c) (x := b) (y := c) (z := a) (by omega) (by omega) (by omega) (by omega) (by omega)
      rw [e1, e2, e3]; exact ⟨by first | trivial | rfl, by first | trivial | rfl⟩
    · have h1 := of_decide_eq_true h1; have h2 := of_decide_eq_false h2
      obtain ⟨e1, e2, e3⟩ := three (a := a) (b := b) (c := c) (x := b) (y := a) (z := c) (by omega) (by omega) (by omega) (by omega) (by omega)
      rw [e1, e2, e3]; exact ⟨by first | trivial | rfl, by first | trivial | rfl⟩
    · have h1 := of_decide_eq_false h1; have h2 := of_decide_eq_true h2; have h3 := of_decide_eq_true h3
      obtain ⟨e1, e2, e3⟩ := three (a := a) (b := b) (c := c) (x := c) (y := a) (z := b) (by omega) (by omega) (by omega) (by omega) (by omega)
      rw [e1, e2, e3]; exact ⟨by first | trivial | rfl, by first | trivial | rfl⟩
    · have h1 := of_decide_eq_false h1; have h2 := of_decide_eq_true h2; have h3 := of_decide_eq_false h3
      obtain ⟨e1, e2, e3⟩ := three (a := a) (b := b) (c := c) (x := a) (y := c) (z := b) (by omega) (by omega) (by omega) (by omega) (by omega)
      rw [e1, e2, e3]; exact ⟨by first | trivial | rfl, by first | trivial | rfl⟩
    · have h1 := of_decide_eq_false h1; have h2 := of_decide_eq_false h2
      obtain ⟨e1, e2, e3⟩ := three (a := a) (b := b) (c := c) (x := a) (y := b) (z := c) (by omega) (by omega) (by omega) (by omega) (by omega)
      rw [e1, e2, e3]; exact ⟨by first | trivial | rfl, by first | trivial | rfl⟩
  · cases h
noncomputable def hsPd : Hs Try.prog where
  au := auCalls [(78, hCa Try.prog 78 orcIs okIs)]
theorem pd2_t (d : Nat) (a : Int) (b : Int) (l : Int) (K : Value → Heap → Prop) :
    (fnP Try.prog c0 hsPd (72 : FuncId) [Value.slice (some { block := (0 : Nat), off := (0 : Nat) }) (2 : Nat) d, Value.int IntKind.i64 (0 : Int), Value.int IntKind.i64 (2 : Int), Value.int IntKind.i64 l] [some (AObj.row [Value.int IntKind.i64 a, Value.int IntKind.i64 b] (1 : Nat) true true true)] K) =
    (Is True ∧ K undef (some (AObj.row [Value.int IntKind.i64 (min a b), Value.int IntKind.i64 (max a b)] (1 : Nat) true true true) :: noH)) := by kernel_rfl
theorem pd3_t (d : Nat) (a : Int) (b : Int) (c : Int) (l : Int) (K : Value → Heap → Prop) :
    (fnP Try.prog c0 hsPd (72 : FuncId) [Value.slice (some { block := (0 : Nat), off := (0 : Nat) }) (3 : Nat) d, Value.int IntKind.i64 (0 : Int), Value.int IntKind.i64 (3 : Int), Value.int IntKind.i64 l] [some (AObj.row [Value.int IntKind.i64 a, Value.int IntKind.i64 b, Value.int IntKind.i64 c] (1 : Nat) true true true)] K) =
    (Is True ∧ K undef (some (AObj.row [Value.int IntKind.i64 (lo3 a b c), Value.int IntKind.i64 (md3 a b c), Value.int IntKind.i64 (hi3 a b c)] (1 : Nat) true true true) :: noH)) := by kernel_rfl
noncomputable def orcPd : OrcV
  | [.slice (some ⟨0, 0, none⟩) 2 _, .int .i64 0, .int .i64 2, .int .i64 _], [some (.row [.int .i64 a, .int .i64 b] 1 true true true)] => some (undef, [some (.row [.int .i64 (min a b), .int .i64 (max a b)] 1 true true true)], True)
  | [.slice (some ⟨0, 0, none⟩) 3 _, .int .i64 0, .int .i64 3, .int .i64 _], [some (.row [.int .i64 a, .int .i64 b, .int .i64 c] 1 true true true)] => some (undef, [some (.row [.int .i64 (lo3 a b c), .int .i64 (md3 a b c), .int .i64 (hi3 a b c)] 1 true true true)], True)
  | _, _ => none
theorem okPd : OkV Try.prog 72 orcPd := by
  intro args H ret H' vc h hv
  unfold orcPd at h
  split at h
  · cases h
    refine fnP_res hm c0_ok (hs := hsPd) ?_
    rw [pd2_t]
    exact ⟨⟨trivial⟩, by first | trivial | rfl, by first | trivial | rfl⟩
  · cases h
    refine fnP_res hm c0_ok (hs := hsPd) ?_
    rw [pd3_t]
    exact ⟨⟨trivial⟩, by first | trivial | rfl, by first | trivial | rfl⟩
  · cases h
noncomputable def hsSt : Hs Try.prog where
  au := auCalls [(72, hCa Try.prog 72 orcPd okPd)]
theorem st2_t (d : Nat) (a : Int) (b : Int) (K : Value → Heap → Prop) :
    (fnP Try.prog c0 hsSt (62 : FuncId) [Value.slice (some { block := (0 : Nat), off := (0 : Nat) }) (2 : Nat) d] [some (AObj.row [Value.int IntKind.i64 a, Value.int IntKind.i64 b] (1 : Nat) true true true)] K) =
    (Is True ∧ K undef (some (AObj.row [Value.int IntKind.i64 (min a b), Value.int IntKind.i64 (max a b)] (1 : Nat) true true true) :: noH)) := by kernel_rfl
theorem st3_t (d : Nat) (a : Int) (b : Int) (c : Int) (K : Value → Heap → Prop) :
    (fnP Try.prog c0 hsSt (62 : FuncId) [Value.slice (some { block := (0 : Nat), off := (0 : Nat) }) (3 : Nat) d] [some (AObj.row [Value.int IntKind.i64 a, Value.int IntKind.i64 b, Value.int IntKind.i64 c] (1 : Nat) true true true)] K) =
    (Is True ∧ K undef (some (AObj.row [Value.int IntKind.i64 (lo3 a b c), Value.int IntKind.i64 (md3 a b c), Value.int IntKind.i64 (hi3 a b c)] (1 : Nat) true true true) :: noH)) := by kernel_rfl
noncomputable def orcSt : OrcV
  | [.slice (some ⟨0, 0, none⟩) 2 _], [some (.row [.int .i64 a, .int .i64 b] 1 true true true)] => some (undef, [some (.row [.int .i64 (min a b), .int .i64 (max a b)] 1 true true true)], True)
  | [.slice (some ⟨0, 0, none⟩) 3 _], [some (.row [.int .i64 a, .int .i64 b, .int .i64 c] 1 true true true)] => some (undef, [some (.row [.int .i64 (lo3 a b c), .int .i64 (md3 a b c), .int .i64 (hi3 a b c)] 1 true true true)], True)
  | _, _ => none
theorem okSt : OkV Try.prog 62 orcSt := by
  intro args H ret H' vc h hv
  unfold orcSt at h
  split at h
  · cases h
    refine fnP_res hm c0_ok (hs := hsSt) ?_
    rw [st2_t]
    exact ⟨⟨trivial⟩, by first | trivial | rfl, by first | trivial | rfl⟩
  · cases h
    refine fnP_res hm c0_ok (hs := hsSt) ?_
    rw [st3_t]
    exact ⟨⟨trivial⟩, by first | trivial | rfl, by first | trivial | rfl⟩
  · cases h
noncomputable def hsVt : Hs Try.prog where
  au := auCalls [(52, hCa Try.prog 52 orcRnT okRnT), (62, hCa Try.prog 62 orcSt okSt)]
set_option maxHeartbeats 0 in
theorem vt_t (a : Int) (b : Int) (c : Int) (p : Bool) (q : Bool) (r : Bool) (l : Int) (K : Value → Heap → Prop) :
    (fnP Try.prog c0 hsVt (39 : FuncId) [Value.agg #[Value.int IntKind.i64 a, Value.bool p, Value.int IntKind.i64 b, Value.bool q, Value.int IntKind.i64 c, Value.bool r], Value.int IntKind.i64 l] [] K) =
    (br p (br q (br r (Is True ∧ br (decide ((if IntKind.wrap IntKind.i64 (hi3 a b c - md3 a b c) < IntKind.wrap IntKind.i64 (md3 a b c - lo3 a b c) then IntKind.wrap IntKind.i64 (hi3 a b c - md3 a b c) else IntKind.wrap IntKind.i64 (md3 a b c - lo3 a b c)) ≤ l)) (K (Value.agg #[Value.int IntKind.i64 (md3 a b c), Value.bool true]) noH) (K (Value.agg #[Value.int IntKind.i64 (0 : Int), Value.bool false]) noH)) (Is True ∧ br (decide (IntKind.wrap IntKind.i64 (max a b - min a b) ≤ l)) (Is ((0 : Int) < (2 : Int) ∧ (2 : Int) ≤ (100000 : Int) ∧ Int.natAbs (IntKind.wrap IntKind.i64 (min a b + max a b)) ≤ (1000000000000 : Nat)) ∧ K (Value.agg #[Value.int IntKind.i64 (rnd (IntKind.wrap IntKind.i64 (min a b + max a b)) (2 : Int)), Value.bool true]) noH) (K (Value.agg #[Value.int IntKind.i64 (0 : Int), Value.bool false]) noH))) (br r (Is True ∧ br (decide (IntKind.wrap IntKind.i64 (max a c - min a c) ≤ l)) (Is ((0 : Int) < (2 : Int) ∧ (2 : Int) ≤ (100000 : Int) ∧ Int.natAbs (IntKind.wrap IntKind.i64 (min a c + max a c)) ≤ (1000000000000 : Nat)) ∧ K (Value.agg #[Value.int IntKind.i64 (rnd (IntKind.wrap IntKind.i64 (min a c + max a c)) (2 : Int)), Value.bool true]) noH) (K (Value.agg #[Value.int IntKind.i64 (0 : Int), Value.bool false]) noH)) (K (Value.agg #[Value.int IntKind.i64 (0 : Int), Value.bool false]) noH))) (br q (br r (Is True ∧ br (decide (IntKind.wrap IntKind.i64 (max b c - min b c) ≤ l)) (Is ((0 : Int) < (2 : Int) ∧ (2 : Int) ≤ (100000 : Int) ∧ Int.natAbs (IntKind.wrap IntKind.i64 (min b c + max b c)) ≤ (1000000000000 : Nat)) ∧ K (Value.agg #[Value.int IntKind.i64 (rnd (IntKind.wrap IntKind.i64 (min b c + max b c)) (2 : Int)), Value.bool true]) noH) (K (Value.agg #[Value.int IntKind.i64 (0 : Int), Value.bool false]) noH)) (K (Value.agg #[Value.int IntKind.i64 (0 : Int), Value.bool false]) noH)) (br r (K (Value.agg #[Value.int IntKind.i64 (0 : Int), Value.bool false]) noH) (K (Value.agg #[Value.int IntKind.i64 (0 : Int), Value.bool false]) noH)))) := by kernel_rfl
noncomputable def orcVt : OrcV
  | [.agg ⟨[.int .i64 a, .bool p, .int .i64 b, .bool q, .int .i64 c, .bool r]⟩, .int .i64 l], [] =>
    some (.agg #[.int .i64 (vtR (a, p) (b, q) (c, r) l).1, .bool (vtR (a, p) (b, q) (c, r) l).2], [], a.natAbs ≤ 16384 ∧ b.natAbs ≤ 16384 ∧ c.natAbs ≤ 16384)
  | _, _ => none
theorem vt2_tree {a b l : Int} (ha : a.natAbs ≤ 16384) (hb : b.natAbs ≤ 16384) {K : Value → Heap → Prop} (hK : K (.agg #[.int .i64 (vt2 a b l).1, .bool (vt2 a b l).2]) []) :
    Is True ∧ br (decide (IntKind.wrap .i64 (max a b - min a b) ≤ l)) (Is ((0 : Int) < 2 ∧ (2 : Int) ≤ 100000 ∧ Int.natAbs (IntKind.wrap .i64 (min a b + max a b)) ≤ 1000000000000) ∧ K (.agg #[.int .i64 (rnd (IntKind.wrap .i64 (min a b + max a b)) 2), .bool true]) []) (K (.agg #[.int .i64 0, .bool false]) []) := by
  have e1 : IntKind.wrap .i64 (max a b - min a b) = max a b - min a b := wrap_eq (by omega) (by omega)
  have e2 : IntKind.wrap .i64 (min a b + max a b) = a + b := by rw [wrap_eq (by omega) (by omega)]; omega
  rw [e1, e2]
  refine ⟨⟨trivial⟩, br_of (fun h => ⟨⟨by decide, by decide, by omega⟩, ?_⟩) (fun h => ?_)⟩
  · rw [vt2, if_pos (of_decide_eq_true h)] at hK; exact hK
  · rw [vt2, if_neg (of_decide_eq_false h)] at hK; exact hK
theorem md3_in (a b c : Int) : lo3 a b c ≤ md3 a b c ∧ md3 a b c ≤ hi3 a b c ∧ (md3 a b c = a ∨ md3 a b c = b ∨ md3 a b c = c) ∧ (lo3 a b c = a ∨ lo3 a b c = b ∨ lo3 a b c = c) ∧ (hi3 a b c = a ∨ hi3 a b c = b ∨ hi3 a b c = c) := by
  unfold md3 lo3 hi3; omega
theorem okVt : OkV Try.prog 39 orcVt := by
  intro args H ret H' vc h hv
  unfold orcVt at h
  split at h
  · rename_i a p b q c r l
    cases h
    obtain ⟨ha, hb, hc⟩ := hv
    refine fnP_res hm c0_ok (hs := hsVt) ?_
    rw [vt_t]
    have stop : ∀ {K : Value → Heap → Prop}, K (.agg #[.int .i64 0, .bool false]) [] → K (.agg #[.int .i64 0, .bool false]) [] := fun h => h
    obtain ⟨m1, m2, m3, m4, m5⟩ := md3_in a b c
    cases p <;> cases q <;> cases r <;> simp only [br_t, br_f]
    · exact ⟨by first | trivial | rfl, by first | trivial | rfl⟩
    · exact ⟨by first | trivial | rfl, by first | trivial | rfl⟩
    · exact ⟨by first | trivial | rfl, by first | trivial | rfl⟩
    · exact vt2_tree hb hc (K := fun v _ => v = .agg #[_, _] ∧ True) ⟨rfl, trivial⟩
    · exact ⟨by first | trivial | rfl, by first | trivial | rfl⟩
    · exact vt2_tree ha hc (K := fun v _ => v = .agg #[_, _] ∧ True) ⟨rfl, trivial⟩
    · exact vt2_tree ha hb (K := fun v _ => v = .agg #[_, _] ∧ True) ⟨rfl, trivial⟩
    · have e1 : IntKind.wrap .i64 (hi3 a b c - md3 a b c) = hi3 a b c - md3 a b c := wrap_eq (by omega) (by omega)
      have e2 : IntKind.wrap .i64 (md3 a b c - lo3 a b c) = md3 a b c - lo3 a b c := wrap_eq (by omega) (by omega)
      have e3 : (if hi3 a b c - md3 a b c < md3 a b c - lo3 a b c then hi3 a b c - md3 a b c else md3 a b c - lo3 a b c) = min (md3 a b c - lo3 a b c) (hi3 a b c - md3 a b c) := by split <;> omega
      rw [e1, e2, e3]
      refine ⟨⟨trivial⟩, br_of (fun h => ?_) (fun h => ?_)⟩
      · show _ = Value.agg #[.int .i64 (vt3 a b c l).1, .bool (vt3 a b c l).2] ∧ _
        rw [vt3, if_pos (of_decide_eq_true h)]; exact ⟨by first | trivial | rfl, by first | trivial | rfl⟩
      · show _ = Value.agg #[.int .i64 (vt3 a b c l).1, .bool (vt3 a b c l).2] ∧ _
        rw [vt3, if_neg (of_decide_eq_false h)]; exact ⟨by first | trivial | rfl, by first | trivial | rfl⟩
  · cases h
theorem rnd_half {a : Int} {B : Int} (h0 : -(2 * B) ≤ a) (h1 : a ≤ 2 * B) : -B ≤ rnd a 2 ∧ rnd a 2 ≤ B := by
  rw [rnd]; omega
theorem vtR_few {a b c : Int × Bool} {l : Int} (ha : a.1.natAbs ≤ 16384) (hb : b.1.natAbs ≤ 16384) (hc : c.1.natAbs ≤ 16384) : (vtR a b c l).1.natAbs ≤ 16384 := by
  obtain ⟨a, p⟩ := a; obtain ⟨b, q⟩ := b; obtain ⟨c, r⟩ := c
  have two : ∀ x y : Int, x.natAbs ≤ 16384 → y.natAbs ≤ 16384 → (vt2 x y l).1.natAbs ≤ 16384 := fun x y hx hy => by
    rw [vt2]
    split
    · have := rnd_half (a := x + y) (B := 16384) (by omega) (by omega)
      show (rnd (x + y) 2).natAbs ≤ 16384
      omega
    · decide
  simp only [] at ha hb hc
  cases p <;> cases q <;> cases r
  · exact Nat.zero_le _
  · exact Nat.zero_le _
  · exact Nat.zero_le _
  · exact two b c hb hc
  · exact Nat.zero_le _
  · exact two a c ha hc
  · exact two a b ha hb
  · show (vt3 a b c l).1.natAbs ≤ 16384
    obtain ⟨m1, m2, m3, m4, m5⟩ := md3_in a b c
    rw [vt3]
    split
    · show (md3 a b c).natAbs ≤ 16384
      omega
    · exact Nat.zero_le _
/-- What is not known is 0. -/
theorem vtR_none {a b c : Int × Bool} {l : Int} (h : (vtR a b c l).2 = false) : vtR a b c l = (0, false) := by
  obtain ⟨a, p⟩ := a; obtain ⟨b, q⟩ := b; obtain ⟨c, r⟩ := c
  have two : ∀ x y : Int, (vt2 x y l).2 = false → vt2 x y l = (0, false) := fun x y h => by
    rw [vt2] at h ⊢
    split at h
    · cases h
    · rename_i c; rw [if_neg c]
  cases p <;> cases q <;> cases r
  · rfl
  · rfl
  · rfl
  · exact two b c h
  · rfl
  · exact two a c h
  · exact two a b h
  · have h : (vt3 a b c l).2 = false := h
    show vt3 a b c l = _
    rw [vt3] at h ⊢
    split at h
    · cases h
    · rename_i c; rw [if_neg c]
end
end Qq
end
section
/- The sum of two samples. -/
open Go
namespace Fl
open Ieee Sp
/-- Two samples differ if their integers do. -/
theorem ne_lev {x y : Nat} (hx : Smp x) (hy : Smp y) : fNe x y = decide (lev x ≠ lev y) := by
  rw [ne_val hx.fin hy.fin]
  have hp := one_pos
  have h1 := hx.v
  have h2 := hy.v
  refine decide_eq_decide.2 (not_congr ⟨fun e => ?_, fun e => ?_⟩)
  · rw [e, h2] at h1
    exact (Int.eq_of_mul_eq_mul_right (by omega) h1).symm
  · rw [e, ← h2] at h1
    omega
end Fl
end
section
/- The reference's check of a run, at rows of one's own. -/
open Go Go.Vm Go.Proofs Sp
namespace Qq
noncomputable section
noncomputable def lpChT (hs : List Int) (k d : Nat) (n : Int) : Lp where
  σ := Nat × Int
  E s := slots 42 [(0, .slice (some ⟨0, 0, none⟩) k d), (1, .int .i64 n), (5, .int .i64 (Int.ofNat s.1))]
  Hp _ := [some (.row (ints hs) 2 true true true)]
  I s := s.1 ≤ k ∧ hchk n (hs.drop (s.1 * 2)) s.2 = hchk n hs (-1) ∧ s.2 = if s.1 = 0 then -1 else hs.getD ((s.1 - 1) * 2 + 1) 0
  m s := k - s.1
noncomputable def hsChT (hs : List Int) (k d : Nat) (n : Int) : Hs Try.prog where
  op y := if [402, 411, 418].contains y then some (hIa Try.prog) else if y = 403 then some (hLd Try.prog (z2 hs)) else if [413, 420].contains y then some (hLd Try.prog (zI hs)) else none
  lp _ := some (lpChT hs k d n)
  cl _ := keep 42 [0, 1, 5]
  au := au0 Try.prog
theorem chT_t (hs : List Int) (k : Nat) (d : Nat) (n : Int) (K : Value → Heap → Prop) :
    (fnP Try.prog cr14 (hsChT hs k d n) (45 : FuncId) [Value.slice (some { block := (0 : Nat), off := (0 : Nat) }) k d, Value.int IntKind.i64 n] [some (AObj.row (ints hs) (2 : Nat) true true true)] K) =
    ((∃ (s : Nat × Int), Is (Prod.fst s ≤ k ∧ hchk n (List.drop (Prod.fst s * (2 : Nat)) hs) (Prod.snd s) = hchk n hs (-1 : Int) ∧ Prod.snd s = if Prod.fst s = (0 : Nat) then (-1 : Int) else List.getD hs ((Prod.fst s - (1 : Nat)) * (2 : Nat) + (1 : Nat)) (0 : Int)) ∧ [Value.slice (some { block := (0 : Nat), off := (0 : Nat) }) k d, Value.int IntKind.i64 n, poi, poi, poi, Value.int IntKind.i64 (0 : Int), poi, poi, poi, poi, poi, poi, poi, poi, poi, poi, poi, poi, poi, poi, poi, poi, poi, poi, poi, poi, poi, poi, poi, poi, poi, poi, poi, poi, poi, poi, poi, poi, poi, poi, poi, poi] = [Value.slice (some { block := (0 : Nat), off := (0 : Nat) }) k d, Value.int IntKind.i64 n, poi, poi, poi, Value.int IntKind.i64 (↑(Prod.fst s) : Int), poi, poi, poi, poi, poi, poi, poi, poi, poi, poi, poi, poi, poi, poi, poi, poi, poi, poi, poi, poi, poi, poi, poi, poi, poi, poi, poi, poi, poi, poi, poi, poi, poi, poi, poi, poi] ∧ some (AObj.row (ints hs) (2 : Nat) true true true) :: noH = some (AObj.row (ints hs) (2 : Nat) true true true) :: noH) ∧ ∀ (s : Nat × Int), Is (Prod.fst s ≤ k ∧ hchk n (List.drop (Prod.fst s * (2 : Nat)) hs) (Prod.snd s) = hchk n hs (-1 : Int) ∧ Prod.snd s = if Prod.fst s = (0 : Nat) then (-1 : Int) else List.getD hs ((Prod.fst s - (1 : Nat)) * (2 : Nat) + (1 : Nat)) (0 : Int)) → br (decide ((↑(Prod.fst s) : Int) < (↑k : Int))) (Is ((0 : Int) ≤ (↑(Prod.fst s) : Int) ∧ (↑(Prod.fst s) : Int) < (↑k : Int)) ∧ Is ((if (0 : Nat) + Int.toNat (↑(Prod.fst s) : Int) * (2 : Nat) + (2 : Nat) ≤ List.length (ints hs) then some (Value.agg (List.toArray (List.take (2 : Nat) (List.drop ((0 : Nat) + Int.toNat (↑(Prod.fst s) : Int) * (2 : Nat)) (ints hs))))) else none) = some (Value.agg #[Value.int IntKind.i64 (List.getD hs ((0 : Nat) + Int.toNat (↑(Prod.fst s) : Int) * (2 : Nat)) (0 : Int)), Value.int IntKind.i64 (List.getD hs ((0 : Nat) + Int.toNat (↑(Prod.fst s) : Int) * (2 : Nat) + (1 : Nat)) (0 : Int))])) ∧ br (decide ((0 : Int) < (↑(Prod.fst s) : Int))) (Is ((0 : Int) ≤ (↑(Prod.fst s) : Int) ∧ (↑(Prod.fst s) : Int) < (↑k : Int)) ∧ Is ((ints hs)[(0 : Nat) + Int.toNat (↑(Prod.fst s) : Int) * (2 : Nat) + (0 : Nat)]? = some (Value.int IntKind.i64 (List.getD hs ((0 : Nat) + Int.toNat (↑(Prod.fst s) : Int) * (2 : Nat) + (0 : Nat)) (0 : Int)))) ∧ Is (((0 : Int) ≤ if IntKind.wrap IntKind.i64 ((↑(Prod.fst s) : Int) - (1 : Int)) > (0 : Int) then IntKind.wrap IntKind.i64 ((↑(Prod.fst s) : Int) - (1 : Int)) else (0 : Int)) ∧ (if IntKind.wrap IntKind.i64 ((↑(Prod.fst s) : Int) - (1 : Int)) > (0 : Int) then IntKind.wrap IntKind.i64 ((↑(Prod.fst s) : Int) - (1 : Int)) else (0 : Int)) < (↑k : Int)) ∧ Is ((ints hs)[(0 : Nat) + Int.toNat (if IntKind.wrap IntKind.i64 ((↑(Prod.fst s) : Int) - (1 : Int)) > (0 : Int) then IntKind.wrap IntKind.i64 ((↑(Prod.fst s) : Int) - (1 : Int)) else (0 : Int)) * (2 : Nat) + (1 : Nat)]? = some (Value.int IntKind.i64 (List.getD hs ((0 : Nat) + Int.toNat (if IntKind.wrap IntKind.i64 ((↑(Prod.fst s) : Int) - (1 : Int)) > (0 : Int) then IntKind.wrap IntKind.i64 ((↑(Prod.fst s) : Int) - (1 : Int)) else (0 : Int)) * (2 : Nat) + (1 : Nat)) (0 : Int)))) ∧ br (fi [wh (decide (List.getD hs ((0 : Nat) + Int.toNat (↑(Prod.fst s) : Int) * (2 : Nat)) (0 : Int) < (0 : Int)) || (decide (List.getD hs ((0 : Nat) + Int.toNat (↑(Prod.fst s) : Int) * (2 : Nat) + (1 : Nat)) (0 : Int) ≤ List.getD hs ((0 : Nat) + Int.toNat (↑(Prod.fst s) : Int) * (2 : Nat)) (0 : Int)) || decide (n < List.getD hs ((0 : Nat) + Int.toNat (↑(Prod.fst s) : Int) * (2 : Nat) + (1 : Nat)) (0 : Int)))) (14 : Int), wh (decide (List.getD hs ((0 : Nat) + Int.toNat (↑(Prod.fst s) : Int) * (2 : Nat) + (0 : Nat)) (0 : Int) ≤ List.getD hs ((0 : Nat) + Int.toNat (if IntKind.wrap IntKind.i64 ((↑(Prod.fst s) : Int) - (1 : Int)) > (0 : Int) then IntKind.wrap IntKind.i64 ((↑(Prod.fst s) : Int) - (1 : Int)) else (0 : Int)) * (2 : Nat) + (1 : Nat)) (0 : Int))) (11 : Int)] != (0 : Int)) (K (Value.int IntKind.i64 (fi [wh (decide (List.getD hs ((0 : Nat) + Int.toNat (↑(Prod.fst s) : Int) * (2 : Nat)) (0 : Int) < (0 : Int)) || (decide (List.getD hs ((0 : Nat) + Int.toNat (↑(Prod.fst s) : Int) * (2 : Nat) + (1 : Nat)) (0 : Int) ≤ List.getD hs ((0 : Nat) + Int.toNat (↑(Prod.fst s) : Int) * (2 : Nat)) (0 : Int)) || decide (n < List.getD hs ((0 : Nat) + Int.toNat (↑(Prod.fst s) : Int) * (2 : Nat) + (1 : Nat)) (0 : Int)))) (14 : Int), wh (decide (List.getD hs ((0 : Nat) + Int.toNat (↑(Prod.fst s) : Int) * (2 : Nat) + (0 : Nat)) (0 : Int) ≤ List.getD hs ((0 : Nat) + Int.toNat (if IntKind.wrap IntKind.i64 ((↑(Prod.fst s) : Int) - (1 : Int)) > (0 : Int) then IntKind.wrap IntKind.i64 ((↑(Prod.fst s) : Int) - (1 : Int)) else (0 : Int)) * (2 : Nat) + (1 : Nat)) (0 : Int))) (11 : Int)])) (some (AObj.row (ints hs) (2 : Nat) true true true) :: noH)) (∃ (s' : Nat × Int), Is (Prod.fst s' ≤ k ∧ hchk n (List.drop (Prod.fst s' * (2 : Nat)) hs) (Prod.snd s') = hchk n hs (-1 : Int) ∧ Prod.snd s' = if Prod.fst s' = (0 : Nat) then (-1 : Int) else List.getD hs ((Prod.fst s' - (1 : Nat)) * (2 : Nat) + (1 : Nat)) (0 : Int)) ∧ Is (k - Prod.fst s' < k - Prod.fst s) ∧ [Value.slice (some { block := (0 : Nat), off := (0 : Nat) }) k d, Value.int IntKind.i64 n, poi, poi, poi, Value.int IntKind.i64 (IntKind.wrap IntKind.i64 ((↑(Prod.fst s) : Int) + (1 : Int))), poi, poi, poi, poi, poi, poi, poi, poi, poi, poi, poi, poi, poi, poi, poi, poi, poi, poi, poi, poi, poi, poi, poi, poi, poi, poi, poi, poi, poi, poi, poi, poi, poi, poi, poi, poi] = [Value.slice (some { block := (0 : Nat), off := (0 : Nat) }) k d, Value.int IntKind.i64 n, poi, poi, poi, Value.int IntKind.i64 (↑(Prod.fst s') : Int), poi, poi, poi, poi, poi, poi, poi, poi, poi, poi, poi, poi, poi, poi, poi, poi, poi, poi, poi, poi, poi, poi, poi, poi, poi, poi, poi, poi, poi, poi, poi, poi, poi, poi, poi, poi] ∧ some (AObj.row (ints hs) (2 : Nat) true true true) :: noH = some (AObj.row (ints hs) (2 : Nat) true true true) :: noH)) (br (fi [wh (decide (List.getD hs ((0 : Nat) + Int.toNat (↑(Prod.fst s) : Int) * (2 : Nat)) (0 : Int) < (0 : Int)) || (decide (List.getD hs ((0 : Nat) + Int.toNat (↑(Prod.fst s) : Int) * (2 : Nat) + (1 : Nat)) (0 : Int) ≤ List.getD hs ((0 : Nat) + Int.toNat (↑(Prod.fst s) : Int) * (2 : Nat)) (0 : Int)) || decide (n < List.getD hs ((0 : Nat) + Int.toNat (↑(Prod.fst s) : Int) * (2 : Nat) + (1 : Nat)) (0 : Int)))) (14 : Int), (0 : Int)] != (0 : Int)) (K (Value.int IntKind.i64 (fi [wh (decide (List.getD hs ((0 : Nat) + Int.toNat (↑(Prod.fst s) : Int) * (2 : Nat)) (0 : Int) < (0 : Int)) || (decide (List.getD hs ((0 : Nat) + Int.toNat (↑(Prod.fst s) : Int) * (2 : Nat) + (1 : Nat)) (0 : Int) ≤ List.getD hs ((0 : Nat) + Int.toNat (↑(Prod.fst s) : Int) * (2 : Nat)) (0 : Int)) || decide (n < List.getD hs ((0 : Nat) + Int.toNat (↑(Prod.fst s) : Int) * (2 : Nat) + (1 : Nat)) (0 : Int)))) (14 : Int), (0 : Int)])) (some (AObj.row (ints hs) (2 : Nat) true true true) :: noH)) (∃ (s' : Nat × Int), Is (Prod.fst s' ≤ k ∧ hchk n (List.drop (Prod.fst s' * (2 : Nat)) hs) (Prod.snd s') = hchk n hs (-1 : Int) ∧ Prod.snd s' = if Prod.fst s' = (0 : Nat) then (-1 : Int) else List.getD hs ((Prod.fst s' - (1 : Nat)) * (2 : Nat) + (1 : Nat)) (0 : Int)) ∧ Is (k - Prod.fst s' < k - Prod.fst s) ∧ [Value.slice (some { block := (0 : Nat), off := (0 : Nat) }) k d, Value.int IntKind.i64 n, poi, poi, poi, Value.int IntKind.i64 (IntKind.wrap IntKind.i64 ((↑(Prod.fst s) : Int) + (1 : Int))), poi, poi, poi, poi, poi, poi, poi, poi, poi, poi, poi, poi, poi, poi, poi, poi, poi, poi, poi, poi, poi, poi, poi, poi, poi, poi, poi, poi, poi, poi, poi, poi, poi, poi, poi, poi] = [Value.slice (some { block := (0 : Nat), off := (0 : Nat) }) k d, Value.int IntKind.i64 n, poi, poi, poi, Value.int IntKind.i64 (↑(Prod.fst s') : Int), poi, poi, poi, poi, poi, poi, poi, poi, poi, poi, poi, poi, poi, poi, poi, poi, poi, poi, poi, poi, poi, poi, poi, poi, poi, poi, poi, poi, poi, poi, poi, poi, poi, poi, poi, poi] ∧ some (AObj.row (ints hs) (2 : Nat) true true true) :: noH = some (AObj.row (ints hs) (2 : Nat) true true true) :: noH))) (K (Value.int IntKind.i64 (0 : Int)) (some (AObj.row (ints hs) (2 : Nat) true true true) :: noH))) := by kernel_rfl
noncomputable def lpSmT (xs : List Nat) (n c : Nat) : Lp where
  σ := Nat
  E s := slots 19 [(0, .slice (some ⟨0, 0, none⟩) n c), (3, .int .i64 (Int.ofNat s))]
  Hp _ := [fR xs]
  I s := s ≤ n ∧ fi ((xs.drop s).map sE) = fi (xs.map sE)
  m s := n - s
noncomputable def hsSmT (xs : List Nat) (n c : Nat) : Hs Try.prog where
  op y := if y = 402 then some (hIa Try.prog) else if y = 403 then some (hLd Try.prog (xF xs)) else none
  lp _ := some (lpSmT xs n c)
  cl _ := keep 19 [0, 3]
  au := au0 Try.prog
theorem smT_t (xs : List Nat) (n : Nat) (c : Nat) (K : Value → Heap → Prop) :
    (fnP Try.prog csr4 (hsSmT xs n c) (65 : FuncId) [Value.slice (some { block := (0 : Nat), off := (0 : Nat) }) n c] [fR xs] K) =
    ((∃ (s : Nat), Is (s ≤ n ∧ fi (List.map sE (List.drop s xs)) = fi (List.map sE xs)) ∧ [Value.slice (some { block := (0 : Nat), off := (0 : Nat) }) n c, poi, poi, Value.int IntKind.i64 (0 : Int), poi, poi, poi, poi, poi, poi, poi, poi, poi, poi, poi, poi, poi, poi, poi] = [Value.slice (some { block := (0 : Nat), off := (0 : Nat) }) n c, poi, poi, Value.int IntKind.i64 (↑s : Int), poi, poi, poi, poi, poi, poi, poi, poi, poi, poi, poi, poi, poi, poi, poi] ∧ some (AObj.row (flts xs) (1 : Nat) true true true) :: noH = some (AObj.row (flts xs) (1 : Nat) true true true) :: noH) ∧ ∀ (s : Nat), Is (s ≤ n ∧ fi (List.map sE (List.drop s xs)) = fi (List.map sE xs)) → br (decide ((↑s : Int) < (↑n : Int))) (Is ((0 : Int) ≤ (↑s : Int) ∧ (↑s : Int) < (↑n : Int)) ∧ Is ((flts xs)[(0 : Nat) + Int.toNat (↑s : Int) * (1 : Nat)]? = some (Value.float FloatKind.f32 (List.getD xs ((0 : Nat) + Int.toNat (↑s : Int) * (1 : Nat)) (0 : Nat)))) ∧ br (sE (List.getD xs ((0 : Nat) + Int.toNat (↑s : Int) * (1 : Nat)) (0 : Nat)) != (0 : Int)) (K (Value.int IntKind.i64 (sE (List.getD xs ((0 : Nat) + Int.toNat (↑s : Int) * (1 : Nat)) (0 : Nat)))) (some (AObj.row (flts xs) (1 : Nat) true true true) :: noH)) (∃ (s' : Nat), Is (s' ≤ n ∧ fi (List.map sE (List.drop s' xs)) = fi (List.map sE xs)) ∧ Is (n - s' < n - s) ∧ [Value.slice (some { block := (0 : Nat), off := (0 : Nat) }) n c, poi, poi, Value.int IntKind.i64 (IntKind.wrap IntKind.i64 ((↑s : Int) + (1 : Int))), poi, poi, poi, poi, poi, poi, poi, poi, poi, poi, poi, poi, poi, poi, poi] = [Value.slice (some { block := (0 : Nat), off := (0 : Nat) }) n c, poi, poi, Value.int IntKind.i64 (↑s' : Int), poi, poi, poi, poi, poi, poi, poi, poi, poi, poi, poi, poi, poi, poi, poi] ∧ some (AObj.row (flts xs) (1 : Nat) true true true) :: noH = some (AObj.row (flts xs) (1 : Nat) true true true) :: noH)) (K (Value.int IntKind.i64 (0 : Int)) (some (AObj.row (flts xs) (1 : Nat) true true true) :: noH))) := by kernel_rfl
set_option maxRecDepth 100000 in
theorem chT_ok {hs : List Int} {k d : Nat} {n : Int} (hk : hs.length = k * 2) (hk9 : k ≤ 100000) :
    SmallRes Try.prog 45 [.slice (some ⟨0, 0, none⟩) k d, .int .i64 n] [some (.row (ints hs) 2 true true true)] (.int .i64 (hchk n hs (-1))) [some (.row (ints hs) 2 true true true)] := by
  refine fnP_res hm cr14_ok (hs := hsChT hs k d n) ?_
  rw [chT_t]
  refine ⟨⟨((0 : Nat), (-1 : Int)), ⟨by omega, by rw [Nat.zero_mul, List.drop_zero], by first | trivial | rfl⟩, by first | trivial | rfl, by first | trivial | rfl⟩, fun s hs' => br_of (fun hc => ?_) (fun hc => ?_)⟩
  · have hc := lt_of_dec hc
    obtain ⟨i1, i2, i3⟩ := hs'.out
    rw [spn_drop (show s.1 * 2 + 2 ≤ hs.length by omega), hchk] at i2
    simp only [pred1 hc (by omega), Nat.zero_add, Nat.add_zero, Int.toNat_natCast]
    have b1 : 0 ≤ (s.1 : Int) ∧ (s.1 : Int) < (k : Int) := by omega
    refine ⟨⟨b1⟩, ⟨ldh (by omega)⟩, br_of (fun h1 => ⟨⟨b1⟩, ⟨zint_at (by omega)⟩, ⟨by omega, by omega⟩, ⟨zint_at (by omega)⟩, ?_⟩) (fun h1 => ?_)⟩
    · have h1 : 0 < s.1 := by have := of_decide_eq_true h1; omega
      rw [if_neg (show ¬ s.1 = 0 by omega)] at i3
      rw [← i3]
      refine br_of (fun h => ?_) (fun h => ⟨(s.1 + 1, hs.getD (s.1 * 2 + 1) 0), ⟨hc, ?_, ?_⟩, ⟨by simp only; omega⟩, ?_, by first | trivial | rfl⟩)
      · rw [sel_ne h] at i2
        rw [← i2]
        exact ⟨by first | trivial | rfl, by first | trivial | rfl⟩
      · rw [sel_eq h] at i2
        exact i2
      · rw [if_neg (by simp only; omega)]; rfl
      · rw [up1 hc (by omega)]
    · have h1 : s.1 = 0 := by have := of_decide_eq_false h1; omega
      rw [if_pos h1] at i3
      have e : ∀ {b : Bool}, (b = true → wh (decide (hs.getD (s.1 * 2) 0 < 0) || (decide (hs.getD (s.1 * 2 + 1) 0 ≤ hs.getD (s.1 * 2) 0) || decide (n < hs.getD (s.1 * 2 + 1) 0))) 14 ≠ 0) →
          fi [wh (decide (hs.getD (s.1 * 2) 0 < 0) || (decide (hs.getD (s.1 * 2 + 1) 0 ≤ hs.getD (s.1 * 2) 0) || decide (n < hs.getD (s.1 * 2 + 1) 0))) 14, wh b 11] = fi [wh (decide (hs.getD (s.1 * 2) 0 < 0) || (decide (hs.getD (s.1 * 2 + 1) 0 ≤ hs.getD (s.1 * 2) 0) || decide (n < hs.getD (s.1 * 2 + 1) 0))) 14, 0] := fun h => fi_late h
      rw [e (fun h => ?_)] at i2
      · refine br_of (fun h => ?_) (fun h => ⟨(s.1 + 1, hs.getD (s.1 * 2 + 1) 0), ⟨hc, ?_, ?_⟩, ⟨by simp only; omega⟩, ?_, by first | trivial | rfl⟩)
        · rw [sel_ne h] at i2
          rw [← i2]
          exact ⟨by first | trivial | rfl, by first | trivial | rfl⟩
        · rw [sel_eq h] at i2
          exact i2
        · rw [if_neg (by simp only; omega)]; rfl
        · rw [up1 hc (by omega)]
      · have h := of_decide_eq_true h
        have : decide (hs.getD (s.1 * 2) 0 < 0) = true := decide_eq_true (by omega)
        rw [this]; simp [wh]
  · have hc := ge_of_dec hc
    obtain ⟨i1, i2, _⟩ := hs'.out
    rw [List.drop_eq_nil_of_le (by omega)] at i2
    rw [← i2]
    exact ⟨by first | trivial | rfl, by first | trivial | rfl⟩
noncomputable def orcChT (hs : List Int) : OrcV
  | [.slice (some ⟨0, 0, none⟩) k _, .int .i64 n], [some (.row e1 2 true true true)] => some (.int .i64 (hchk n hs (-1)), [some (.row e1 2 true true true)], e1 = ints hs ∧ hs.length = k * 2 ∧ k ≤ 100000)
  | _, _ => none
theorem okChT (hs : List Int) : OkV Try.prog 45 (orcChT hs) := by
  intro args H ret H' vc h hv
  unfold orcChT at h
  split at h
  · cases h
    obtain ⟨rfl, h1, h2⟩ := hv
    exact chT_ok h1 h2
  · cases h
set_option maxRecDepth 100000 in
theorem smT_ok {xs : List Nat} {n c : Nat} (hn : xs.length = n) (h9 : n ≤ 100000) :
    SmallRes Try.prog 65 [.slice (some ⟨0, 0, none⟩) n c] [fR xs] (.int .i64 (fi (xs.map sE))) [fR xs] := by
  refine fnP_res hm csr4_ok (hs := hsSmT xs n c) ?_
  rw [smT_t]
  refine ⟨⟨(0 : Nat), ⟨by omega, by rw [List.drop_zero]⟩, by first | trivial | rfl, by first | trivial | rfl⟩, fun s hs' => br_of (fun hc => ?_) (fun hc => ?_)⟩
  · have hc := lt_of_dec hc
    obtain ⟨i1, i2⟩ := hs'.out
    have e := fi_one (l := xs.map sE) (i := s) (by rw [List.length_map]; omega)
    rw [map_getD (by omega)] at e
    rw [List.map_drop, e] at i2
    simp only [Nat.zero_add, Nat.mul_one, Int.toNat_natCast]
    refine ⟨⟨by omega, by omega⟩, ⟨flts_at (by omega)⟩, br_of (fun h => ?_) (fun h => ⟨s + 1, ⟨hc, ?_⟩, ⟨by omega⟩, by rw [up1 hc (by omega)], by first | trivial | rfl⟩)⟩
    · rw [if_pos (by simpa using h)] at i2
      rw [← i2]
      exact ⟨by first | trivial | rfl, by first | trivial | rfl⟩
    · rw [if_neg (by simpa using h)] at i2
      rw [List.map_drop]
      exact i2
  · have hc := ge_of_dec hc
    obtain ⟨i1, i2⟩ := hs'.out
    rw [List.drop_eq_nil_of_le (by omega)] at i2
    rw [← i2]
    exact ⟨by first | trivial | rfl, by first | trivial | rfl⟩
noncomputable def orcSmT (xs : List Nat) : OrcV
  | [.slice (some ⟨0, 0, none⟩) n _], [some (.row e1 1 true true true)] => some (.int .i64 (fi (xs.map sE)), [some (.row e1 1 true true true)], e1 = flts xs ∧ xs.length = n ∧ n ≤ 100000)
  | _, _ => none
theorem okSmT (xs : List Nat) : OkV Try.prog 65 (orcSmT xs) := by
  intro args H ret H' vc h hv
  unfold orcSmT at h
  split at h
  · cases h
    obtain ⟨rfl, h1, h2⟩ := hv
    exact smT_ok h1 h2
  · cases h
noncomputable def hsLiT (xs : List Nat) : Hs Try.prog where
  au := auCalls [(65, hCa Try.prog 65 (orcSmT xs) (okSmT xs))]
theorem lsT_t (xs : List Nat) (n : Nat) (c : Nat) (K : Value → Heap → Prop) :
    (fnP Try.prog cr14 (hsLiT xs) (44 : FuncId) [Value.slice (some { block := (0 : Nat), off := (0 : Nat) }) n c] [fR xs] K) =
    (Is (flts xs = flts xs ∧ List.length xs = n ∧ n ≤ (100000 : Nat)) ∧ K (Value.int IntKind.i64 (fi [wh (decide ((4096 : Int) < (↑n : Int))) (5 : Int), fi (List.map sE xs)])) (some (AObj.row (flts xs) (1 : Nat) true true true) :: noH)) := by kernel_rfl
noncomputable def orcLiT (xs : List Nat) : OrcV
  | [.slice (some ⟨0, 0, none⟩) n _], [some (.row e1 1 true true true)] => some (.int .i64 (fi [wh (decide ((4096 : Int) < n)) 5, fi (xs.map sE)]), [some (.row e1 1 true true true)], e1 = flts xs ∧ xs.length = n ∧ n ≤ 100000)
  | _, _ => none
theorem okLiT (xs : List Nat) : OkV Try.prog 44 (orcLiT xs) := by
  intro args H ret H' vc h hv
  unfold orcLiT at h
  split at h
  · cases h
    obtain ⟨rfl, h1, h2⟩ := hv
    refine fnP_res hm cr14_ok (hs := hsLiT xs) ?_
    show fnP Try.prog cr14 (hsLiT xs) 44 _ [fR xs] _
    rw [lsT_t]
    exact ⟨⟨rfl, h1, h2⟩, by first | trivial | rfl, by first | trivial | rfl⟩
  · cases h
noncomputable def lpCrT (nm : ByteArray) (f : Int) (n c k d : Nat) (xs : List Nat) (hs : List Int) : Lp where
  σ := Nat
  E s := slots 62 [(1, .pointer (some ⟨2, 0, none⟩)), (5, .int .i64 (Int.ofNat s))]
  Hp _ := hp2r xs hs true true true true [runOs nm f n c k d]
  I s := s ≤ n ∧ ∀ j, j < s → nzB (xs.getD j 0) = true → knB hs (j : Int) = true
  m s := n - s
noncomputable def hsCrT (nm : ByteArray) (f : Int) (n c k d : Nat) (xs : List Nat) (hs : List Int) : Hs Try.prog where
  op y := if y = 1003 then some (hIa Try.prog) else if y = 1004 then some (hLd Try.prog (xF xs)) else none
  lp _ := some (lpCrT nm f n c k d xs hs)
  cl _ := keep 62 [1, 5]
  au := auF [(44, hCa Try.prog 44 (orcLiT xs) (okLiT xs)), (45, hCa Try.prog 45 (orcChT hs) (okChT hs)), (23, hCa Try.prog 23 (orcKn xs hs) (okKn xs hs))]
theorem crT_t (nm : ByteArray) (f : Int) (n : Nat) (c : Nat) (k : Nat) (d : Nat) (xs : List Nat) (hs : List Int) (K : Value → Heap → Prop) :
    (fnP Try.prog cr14 (hsCrT nm f n c k d xs hs) (12 : FuncId) [Value.agg (List.toArray (runA nm f (0 : Nat) n c (1 : Nat) k d))] (hp2r xs hs true true true true []) K) =
    (Is (flts xs = flts xs ∧ List.length xs = n ∧ n ≤ (100000 : Nat)) ∧ br (decide (IntKind.wrap IntKind.i64 ((100000000 : Int) - (↑n : Int)) < f)) (br (fi [wh (!nameB nm) (8 : Int), wi f (0 : Int) (100000000 : Int), fi [wh (decide ((4096 : Int) < (↑n : Int))) (5 : Int), fi (List.map sE xs)], wh (decide ((↑n : Int) ≤ (4096 : Int))) (4 : Int)] != (0 : Int)) (K (Value.int IntKind.i64 (fi [wh (!nameB nm) (8 : Int), wi f (0 : Int) (100000000 : Int), fi [wh (decide ((4096 : Int) < (↑n : Int))) (5 : Int), fi (List.map sE xs)], wh (decide ((↑n : Int) ≤ (4096 : Int))) (4 : Int)])) (some (AObj.row (flts xs) (1 : Nat) true true true) :: some (AObj.row (ints hs) (2 : Nat) true true true) :: noH)) (Is (ints hs = ints hs ∧ List.length hs = k * (2 : Nat) ∧ k ≤ (100000 : Nat)) ∧ br (hchk (↑n : Int) hs (-1 : Int) != (0 : Int)) (K (Value.int IntKind.i64 (hchk (↑n : Int) hs (-1 : Int))) (some (AObj.row (flts xs) (1 : Nat) true true true) :: some (AObj.row (ints hs) (2 : Nat) true true true) :: noH)) ((∃ (s : Nat), Is (s ≤ n ∧ ∀ (j : Nat), j < s → nzB (List.getD xs j (0 : Nat)) = true → knB hs (↑j : Int) = true) ∧ [poi, Value.pointer (some { block := (2 : Nat), off := (0 : Nat) }), poi, poi, poi, Value.int IntKind.i64 (0 : Int), poi, poi, poi, poi, poi, poi, poi, poi, poi, poi, poi, poi, poi, poi, poi, poi, poi, poi, poi, poi, poi, poi, poi, poi, poi, poi, poi, poi, poi, poi, poi, poi, poi, poi, poi, poi, poi, poi, poi, poi, poi, poi, poi, poi, poi, poi, poi, poi, poi, poi, poi, poi, poi, poi, poi, poi] = [poi, Value.pointer (some { block := (2 : Nat), off := (0 : Nat) }), poi, poi, poi, Value.int IntKind.i64 (↑s : Int), poi, poi, poi, poi, poi, poi, poi, poi, poi, poi, poi, poi, poi, poi, poi, poi, poi, poi, poi, poi, poi, poi, poi, poi, poi, poi, poi, poi, poi, poi, poi, poi, poi, poi, poi, poi, poi, poi, poi, poi, poi, poi, poi, poi, poi, poi, poi, poi, poi, poi, poi, poi, poi, poi, poi, poi] ∧ some (AObj.row (flts xs) (1 : Nat) true true true) :: some (AObj.row (ints hs) (2 : Nat) true true true) :: some (AObj.row [Value.string nm, Value.int IntKind.i64 f, Value.slice (some { block := (0 : Nat), off := (0 : Nat) }) n c, Value.slice (some { block := (1 : Nat), off := (0 : Nat) }) k d] (0 : Nat) false true (List.all [Value.string nm, Value.int IntKind.i64 f, Value.slice (some { block := (0 : Nat), off := (0 : Nat) }) n c, Value.slice (some { block := (1 : Nat), off := (0 : Nat) }) k d] atom)) :: noH = some (AObj.row (flts xs) (1 : Nat) true true true) :: some (AObj.row (ints hs) (2 : Nat) true true true) :: some (AObj.row [Value.string nm, Value.int IntKind.i64 f, Value.slice (some { block := (0 : Nat), off := (0 : Nat) }) n c, Value.slice (some { block := (1 : Nat), off := (0 : Nat) }) k d] (0 : Nat) false true false) :: noH) ∧ ∀ (s : Nat), Is (s ≤ n ∧ ∀ (j : Nat), j < s → nzB (List.getD xs j (0 : Nat)) = true → knB hs (↑j : Int) = true) → br (decide ((↑s : Int) < (↑n : Int))) (Is ((0 : Int) ≤ (↑s : Int) ∧ (↑s : Int) < (↑n : Int)) ∧ Is ((flts xs)[(0 : Nat) + Int.toNat (↑s : Int) * (1 : Nat)]? = some (Value.float FloatKind.f32 (List.getD xs ((0 : Nat) + Int.toNat (↑s : Int) * (1 : Nat)) (0 : Nat)))) ∧ Is True ∧ br (fNe (List.getD xs ((0 : Nat) + Int.toNat (↑s : Int) * (1 : Nat)) (0 : Nat)) (0 : Nat)) (Is (isRn0 xs hs k (flts xs) (ints hs)) ∧ br (!knB hs (↑s : Int)) (K (Value.int IntKind.i64 (1 : Int)) (some (AObj.row (flts xs) (1 : Nat) true true true) :: some (AObj.row (ints hs) (2 : Nat) true true true) :: noH)) (∃ (s' : Nat), Is (s' ≤ n ∧ ∀ (j : Nat), j < s' → nzB (List.getD xs j (0 : Nat)) = true → knB hs (↑j : Int) = true) ∧ Is (n - s' < n - s) ∧ [poi, Value.pointer (some { block := (2 : Nat), off := (0 : Nat) }), poi, poi, poi, Value.int IntKind.i64 (IntKind.wrap IntKind.i64 ((↑s : Int) + (1 : Int))), poi, poi, poi, poi, poi, poi, poi, poi, poi, poi, poi, poi, poi, poi, poi, poi, poi, poi, poi, poi, poi, poi, poi, poi, poi, poi, poi, poi, poi, poi, poi, poi, poi, poi, poi, poi, poi, poi, poi, poi, poi, poi, poi, poi, poi, poi, poi, poi, poi, poi, poi, poi, poi, poi, poi, poi] = [poi, Value.pointer (some { block := (2 : Nat), off := (0 : Nat) }), poi, poi, poi, Value.int IntKind.i64 (↑s' : Int), poi, poi, poi, poi, poi, poi, poi, poi, poi, poi, poi, poi, poi, poi, poi, poi, poi, poi, poi, poi, poi, poi, poi, poi, poi, poi, poi, poi, poi, poi, poi, poi, poi, poi, poi, poi, poi, poi, poi, poi, poi, poi, poi, poi, poi, poi, poi, poi, poi, poi, poi, poi, poi, poi, poi, poi] ∧ some (AObj.row (flts xs) (1 : Nat) true true true) :: some (AObj.row (ints hs) (2 : Nat) true true true) :: some (AObj.row [Value.string nm, Value.int IntKind.i64 f, Value.slice (some { block := (0 : Nat), off := (0 : Nat) }) n c, Value.slice (some { block := (1 : Nat), off := (0 : Nat) }) k d] (0 : Nat) false true false) :: noH = some (AObj.row (flts xs) (1 : Nat) true true true) :: some (AObj.row (ints hs) (2 : Nat) true true true) :: some (AObj.row [Value.string nm, Value.int IntKind.i64 f, Value.slice (some { block := (0 : Nat), off := (0 : Nat) }) n c, Value.slice (some { block := (1 : Nat), off := (0 : Nat) }) k d] (0 : Nat) false true false) :: noH)) (∃ (s' : Nat), Is (s' ≤ n ∧ ∀ (j : Nat), j < s' → nzB (List.getD xs j (0 : Nat)) = true → knB hs (↑j : Int) = true) ∧ Is (n - s' < n - s) ∧ [poi, Value.pointer (some { block := (2 : Nat), off := (0 : Nat) }), poi, poi, poi, Value.int IntKind.i64 (IntKind.wrap IntKind.i64 ((↑s : Int) + (1 : Int))), poi, poi, poi, poi, poi, poi, poi, poi, poi, poi, poi, poi, poi, poi, poi, poi, poi, poi, poi, poi, poi, poi, poi, poi, poi, poi, poi, poi, poi, poi, poi, poi, poi, poi, poi, poi, poi, poi, poi, poi, poi, poi, poi, poi, poi, poi, poi, poi, poi, poi, poi, poi, poi, poi, poi, poi] = [poi, Value.pointer (some { block := (2 : Nat), off := (0 : Nat) }), poi, poi, poi, Value.int IntKind.i64 (↑s' : Int), poi, poi, poi, poi, poi, poi, poi, poi, poi, poi, poi, poi, poi, poi, poi, poi, poi, poi, poi, poi, poi, poi, poi, poi, poi, poi, poi, poi, poi, poi, poi, poi, poi, poi, poi, poi, poi, poi, poi, poi, poi, poi, poi, poi, poi, poi, poi, poi, poi, poi, poi, poi, poi, poi, poi, poi] ∧ some (AObj.row (flts xs) (1 : Nat) true true true) :: some (AObj.row (ints hs) (2 : Nat) true true true) :: some (AObj.row [Value.string nm, Value.int IntKind.i64 f, Value.slice (some { block := (0 : Nat), off := (0 : Nat) }) n c, Value.slice (some { block := (1 : Nat), off := (0 : Nat) }) k d] (0 : Nat) false true false) :: noH = some (AObj.row (flts xs) (1 : Nat) true true true) :: some (AObj.row (ints hs) (2 : Nat) true true true) :: some (AObj.row [Value.string nm, Value.int IntKind.i64 f, Value.slice (some { block := (0 : Nat), off := (0 : Nat) }) n c, Value.slice (some { block := (1 : Nat), off := (0 : Nat) }) k d] (0 : Nat) false true false) :: noH)) (K (Value.int IntKind.i64 (0 : Int)) (some (AObj.row (flts xs) (1 : Nat) true true true) :: some (AObj.row (ints hs) (2 : Nat) true true true) :: noH))))) (br (fi [wh (!nameB nm) (8 : Int), wi f (0 : Int) (100000000 : Int), fi [wh (decide ((4096 : Int) < (↑n : Int))) (5 : Int), fi (List.map sE xs)], (0 : Int)] != (0 : Int)) (K (Value.int IntKind.i64 (fi [wh (!nameB nm) (8 : Int), wi f (0 : Int) (100000000 : Int), fi [wh (decide ((4096 : Int) < (↑n : Int))) (5 : Int), fi (List.map sE xs)], (0 : Int)])) (some (AObj.row (flts xs) (1 : Nat) true true true) :: some (AObj.row (ints hs) (2 : Nat) true true true) :: noH)) (Is (ints hs = ints hs ∧ List.length hs = k * (2 : Nat) ∧ k ≤ (100000 : Nat)) ∧ br (hchk (↑n : Int) hs (-1 : Int) != (0 : Int)) (K (Value.int IntKind.i64 (hchk (↑n : Int) hs (-1 : Int))) (some (AObj.row (flts xs) (1 : Nat) true true true) :: some (AObj.row (ints hs) (2 : Nat) true true true) :: noH)) ((∃ (s : Nat), Is (s ≤ n ∧ ∀ (j : Nat), j < s → nzB (List.getD xs j (0 : Nat)) = true → knB hs (↑j : Int) = true) ∧ [poi, Value.pointer (some { block := (2 : Nat), off := (0 : Nat) }), poi, poi, poi, Value.int IntKind.i64 (0 : Int), poi, poi, poi, poi, poi, poi, poi, poi, poi, poi, poi, poi, poi, poi, poi, poi, poi, poi, poi, poi, poi, poi, poi, poi, poi, poi, poi, poi, poi, poi, poi, poi, poi, poi, poi, poi, poi, poi, poi, poi, poi, poi, poi, poi, poi, poi, poi, poi, poi, poi, poi, poi, poi, poi, poi, poi] = [poi, Value.pointer (some { block := (2 : Nat), off := (0 : Nat) }), poi, poi, poi, Value.int IntKind.i64 (↑s : Int), poi, poi, poi, poi, poi, poi, poi, poi, poi, poi, poi, poi, poi, poi, poi, poi, poi, poi, poi, poi, poi, poi, poi, poi, poi, poi, poi, poi, poi, poi, poi, poi, poi, poi, poi, poi, poi, poi, poi, poi, poi, poi, poi, poi, poi, poi, poi, poi, poi, poi, poi, poi, poi, poi, poi, poi] ∧ some (AObj.row (flts xs) (1 : Nat) true true true) :: some (AObj.row (ints hs) (2 : Nat) true true true) :: some (AObj.row [Value.string nm, Value.int IntKind.i64 f, Value.slice (some { block := (0 : Nat), off := (0 : Nat) }) n c, Value.slice (some { block := (1 : Nat), off := (0 : Nat) }) k d] (0 : Nat) false true (List.all [Value.string nm, Value.int IntKind.i64 f, Value.slice (some { block := (0 : Nat), off := (0 : Nat) }) n c, Value.slice (some { block := (1 : Nat), off := (0 : Nat) }) k d] atom)) :: noH = some (AObj.row (flts xs) (1 : Nat) true true true) :: some (AObj.row (ints hs) (2 : Nat) true true true) :: some (AObj.row [Value.string nm, Value.int IntKind.i64 f, Value.slice (some { block := (0 : Nat), off := (0 : Nat) }) n c, Value.slice (some { block := (1 : Nat), off := (0 : Nat) }) k d] (0 : Nat) false true false) :: noH) ∧ ∀ (s : Nat), Is (s ≤ n ∧ ∀ (j : Nat), j < s → nzB (List.getD xs j (0 : Nat)) = true → knB hs (↑j : Int) = true) → br (decide ((↑s : Int) < (↑n : Int))) (Is ((0 : Int) ≤ (↑s : Int) ∧ (↑s : Int) < (↑n : Int)) ∧ Is ((flts xs)[(0 : Nat) + Int.toNat (↑s : Int) * (1 : Nat)]? = some (Value.float FloatKind.f32 (List.getD xs ((0 : Nat) + Int.toNat (↑s : Int) * (1 : Nat)) (0 : Nat)))) ∧ Is True ∧ br (fNe (List.getD xs ((0 : Nat) + Int.toNat (↑s : Int) * (1 : Nat)) (0 : Nat)) (0 : Nat)) (Is (isRn0 xs hs k (flts xs) (ints hs)) ∧ br (!knB hs (↑s : Int)) (K (Value.int IntKind.i64 (1 : Int)) (some (AObj.row (flts xs) (1 : Nat) true true true) :: some (AObj.row (ints hs) (2 : Nat) true true true) :: noH)) (∃ (s' : Nat), Is (s' ≤ n ∧ ∀ (j : Nat), j < s' → nzB (List.getD xs j (0 : Nat)) = true → knB hs (↑j : Int) = true) ∧ Is (n - s' < n - s) ∧ [poi, Value.pointer (some { block := (2 : Nat), off := (0 : Nat) }), poi, poi, poi, Value.int IntKind.i64 (IntKind.wrap IntKind.i64 ((↑s : Int) + (1 : Int))), poi, poi, poi, poi, poi, poi, poi, poi, poi, poi, poi, poi, poi, poi, poi, poi, poi, poi, poi, poi, poi, poi, poi, poi, poi, poi, poi, poi, poi, poi, poi, poi, poi, poi, poi, poi, poi, poi, poi, poi, poi, poi, poi, poi, poi, poi, poi, poi, poi, poi, poi, poi, poi, poi, poi, poi] = [poi, Value.pointer (some { block := (2 : Nat), off := (0 : Nat) }), poi, poi, poi, Value.int IntKind.i64 (↑s' : Int), poi, poi, poi, poi, poi, poi, poi, poi, poi, poi, poi, poi, poi, poi, poi, poi, poi, poi, poi, poi, poi, poi, poi, poi, poi, poi, poi, poi, poi, poi, poi, poi, poi, poi, poi, poi, poi, poi, poi, poi, poi, poi, poi, poi, poi, poi, poi, poi, poi, poi, poi, poi, poi, poi, poi, poi] ∧ some (AObj.row (flts xs) (1 : Nat) true true true) :: some (AObj.row (ints hs) (2 : Nat) true true true) :: some (AObj.row [Value.string nm, Value.int IntKind.i64 f, Value.slice (some { block := (0 : Nat), off := (0 : Nat) }) n c, Value.slice (some { block := (1 : Nat), off := (0 : Nat) }) k d] (0 : Nat) false true false) :: noH = some (AObj.row (flts xs) (1 : Nat) true true true) :: some (AObj.row (ints hs) (2 : Nat) true true true) :: some (AObj.row [Value.string nm, Value.int IntKind.i64 f, Value.slice (some { block := (0 : Nat), off := (0 : Nat) }) n c, Value.slice (some { block := (1 : Nat), off := (0 : Nat) }) k d] (0 : Nat) false true false) :: noH)) (∃ (s' : Nat), Is (s' ≤ n ∧ ∀ (j : Nat), j < s' → nzB (List.getD xs j (0 : Nat)) = true → knB hs (↑j : Int) = true) ∧ Is (n - s' < n - s) ∧ [poi, Value.pointer (some { block := (2 : Nat), off := (0 : Nat) }), poi, poi, poi, Value.int IntKind.i64 (IntKind.wrap IntKind.i64 ((↑s : Int) + (1 : Int))), poi, poi, poi, poi, poi, poi, poi, poi, poi, poi, poi, poi, poi, poi, poi, poi, poi, poi, poi, poi, poi, poi, poi, poi, poi, poi, poi, poi, poi, poi, poi, poi, poi, poi, poi, poi, poi, poi, poi, poi, poi, poi, poi, poi, poi, poi, poi, poi, poi, poi, poi, poi, poi, poi, poi, poi] = [poi, Value.pointer (some { block := (2 : Nat), off := (0 : Nat) }), poi, poi, poi, Value.int IntKind.i64 (↑s' : Int), poi, poi, poi, poi, poi, poi, poi, poi, poi, poi, poi, poi, poi, poi, poi, poi, poi, poi, poi, poi, poi, poi, poi, poi, poi, poi, poi, poi, poi, poi, poi, poi, poi, poi, poi, poi, poi, poi, poi, poi, poi, poi, poi, poi, poi, poi, poi, poi, poi, poi, poi, poi, poi, poi, poi, poi] ∧ some (AObj.row (flts xs) (1 : Nat) true true true) :: some (AObj.row (ints hs) (2 : Nat) true true true) :: some (AObj.row [Value.string nm, Value.int IntKind.i64 f, Value.slice (some { block := (0 : Nat), off := (0 : Nat) }) n c, Value.slice (some { block := (1 : Nat), off := (0 : Nat) }) k d] (0 : Nat) false true false) :: noH = some (AObj.row (flts xs) (1 : Nat) true true true) :: some (AObj.row (ints hs) (2 : Nat) true true true) :: some (AObj.row [Value.string nm, Value.int IntKind.i64 f, Value.slice (some { block := (0 : Nat), off := (0 : Nat) }) n c, Value.slice (some { block := (1 : Nat), off := (0 : Nat) }) k d] (0 : Nat) false true false) :: noH)) (K (Value.int IntKind.i64 (0 : Int)) (some (AObj.row (flts xs) (1 : Nat) true true true) :: some (AObj.row (ints hs) (2 : Nat) true true true) :: noH)))))) := by kernel_rfl
set_option maxRecDepth 100000 in
theorem crT_ok {nm : ByteArray} {f : Int} {n c k d : Nat} {xs : List Nat} {hs : List Int} (hn : xs.length = n) (h9 : n ≤ 100000) (hk : hs.length = k * 2) (hk9 : k ≤ 100000) :
    SmallRes Try.prog 12 [.agg (runA nm f 0 n c 1 k d).toArray] (hp2r xs hs true true true true []) (.int .i64 (runE nm f xs n hs)) (hp2r xs hs true true true true []) := by
  refine fnP_res hm cr14_ok (hs := hsCrT nm f n c k d xs hs) ?_
  rw [crT_t, wrap_eq (x := 100000000 - (n : Int)) (by omega) (by omega)]
  have pre : ∀ {b : Bool} {e : Int}, wh b 4 = e → (b = true ↔ (100000000 : Int) < f + n ∧ n ≤ 4096) → runE nm f xs n hs = sel (fi [wh (!nameB nm) 8, wi f 0 100000000, fi [wh (decide ((4096 : Int) < n)) 5, fi (xs.map sE)], e]) (sel (hchk n hs (-1)) (wh (!hzH xs hs) 1)) := by
    intro b e he hb
    subst he
    have e4 : ∀ x : Int, wh (decide ((4096 : Int) < n)) 5 = 0 → fi [fi (xs.map sE), wh (decide ((100000000 : Int) < f + n)) 4] = fi [fi (xs.map sE), wh b 4] := fun _ h => by
      have h := (wh_zero (by decide)).1 h
      have h := of_decide_eq_false h
      have : decide ((100000000 : Int) < f + n) = b := by
        rw [Bool.eq_iff_iff, decide_eq_true_iff, hb]
        exact ⟨fun h1 => ⟨h1, by omega⟩, fun h1 => h1.1⟩
      rw [this]
    rw [runE]
    by_cases h1 : wh (!nameB nm) 8 = 0
    · by_cases h2 : wi f 0 100000000 = 0
      · by_cases h3 : wh (decide ((4096 : Int) < n)) 5 = 0
        · rw [e4 0 h3]
          by_cases h4 : fi (xs.map sE) = 0 <;> simp [fi, h1, h2, h3, h4, sel]
        · simp [fi, h1, h2, h3, sel]
      · simp [fi, h1, h2, sel]
    · simp [fi, h1, sel]
  have go : ∀ {e : Int}, runE nm f xs n hs = sel e (sel (hchk n hs (-1)) (wh (!hzH xs hs) 1)) → e = 0 → hchk n hs (-1) = 0 → runE nm f xs n hs = wh (!hzH xs hs) 1 := fun h h1 h2 => by rw [h, h1, h2]; rfl
  have yes : runE nm f xs n hs = wh (!hzH xs hs) 1 → hchk n hs (-1) = 0 → (∀ j, j < n → nzB (xs.getD j 0) = true → knB hs (j : Int) = true) → runE nm f xs n hs = 0 := fun h h1 h2 => by
    subst hn
    rw [h, (hz_iff hs (-1) h1).2 h2]; rfl
  have no : runE nm f xs n hs = wh (!hzH xs hs) 1 → hchk n hs (-1) = 0 → ∀ j, j < n → nzB (xs.getD j 0) = true → knB hs (j : Int) = false → runE nm f xs n hs = 1 := fun h h1 j hj h2 h3 => by
    subst hn
    have : hzH xs hs = false := by
      cases hz : hzH xs hs
      · rfl
      · rw [(hz_iff hs (-1) h1).1 hz j hj h2] at h3; cases h3
    rw [h, this]; rfl
  refine ⟨⟨rfl, hn, h9⟩, br_of (fun hb => ?_) (fun hb => ?_)⟩
  case' refine_1 => have P := pre (b := decide ((n : Int) ≤ 4096)) rfl (by rw [decide_eq_true_iff]; have := of_decide_eq_true hb; omega)
  case' refine_2 => have P := pre (b := false) (e := 0) rfl (by have := of_decide_eq_false hb; constructor <;> intro h; cases h; omega)
  all_goals
    refine br_of (fun h => ?_) (fun h => ⟨⟨rfl, hk, hk9⟩, br_of (fun h2 => ?_) (fun h2 => ?_)⟩)
    · rw [P]
      rw [sel_ne h]
      exact ⟨by first | trivial | rfl, by first | trivial | rfl⟩
    · rw [P]
      rw [sel_eq h, sel_ne h2]
      exact ⟨by first | trivial | rfl, by first | trivial | rfl⟩
    have h2' : hchk n hs (-1) = 0 := by simpa using h2
    have h0 : runE nm f xs n hs = wh (!hzH xs hs) 1 := go P (by simpa using h) h2'
    refine ⟨⟨(0 : Nat), ⟨by omega, fun j hj => by omega⟩, by first | trivial | rfl, by first | trivial | rfl⟩, fun s hs' => br_of (fun hc => ?_) (fun hc => ?_)⟩
    · have hc := lt_of_dec hc
      obtain ⟨i1, i2⟩ := hs'.out
      simp only [Nat.zero_add, Nat.mul_one, Int.toNat_natCast]
      have next : (nzB (xs.getD s 0) = true → knB hs (s : Int) = true) → ∀ j, j < s + 1 → nzB (xs.getD j 0) = true → knB hs (j : Int) = true := fun h j hj hz => by
        rcases Nat.lt_succ_iff_lt_or_eq.1 hj with h' | rfl
        · exact i2 j h' hz
        · exact h hz
      refine ⟨⟨by omega, by omega⟩, ⟨flts_at (by omega)⟩, ⟨trivial⟩, br_of (fun hz => ⟨⟨rfl, rfl, hk, hk9⟩, br_of (fun hkn => ?_) (fun hkn => ⟨s + 1, ⟨hc, next fun _ => by simpa using hkn⟩, ⟨by omega⟩, by rw [up1 hc (by omega)], by first | trivial | rfl⟩)⟩) (fun hz => ⟨s + 1, ⟨hc, next fun h => ?_⟩, ⟨by omega⟩, by rw [up1 hc (by omega)], by first | trivial | rfl⟩)⟩
      · rw [no h0 h2' s hc hz (by simpa using hkn)]
        exact ⟨by first | trivial | rfl, by first | trivial | rfl⟩
      · have hz : nzB (xs.getD s 0) = false := hz
        rw [hz] at h; cases h
    · have hc := ge_of_dec hc
      obtain ⟨i1, i2⟩ := hs'.out
      rw [yes h0 h2' (fun j hj => i2 j (by omega))]
      exact ⟨by first | trivial | rfl, by first | trivial | rfl⟩
noncomputable def orcCrT (xs : List Nat) (hs : List Int) : OrcV
  | [.agg ⟨[.string nm, .int .i64 f, .slice (some ⟨0, 0, none⟩) n _, .slice (some ⟨1, 0, none⟩) k _]⟩], [some (.row e1 1 true true true), some (.row e2 2 true true true)] =>
    some (.int .i64 (runE nm f xs n hs), [some (.row e1 1 true true true), some (.row e2 2 true true true)], isRun xs hs n k e1 e2)
  | _, _ => none
theorem okCrT (xs : List Nat) (hs : List Int) : OkV Try.prog 12 (orcCrT xs hs) := by
  intro args H ret H' vc h hv
  unfold orcCrT at h
  split at h
  · cases h
    obtain ⟨rfl, rfl, h1, h2, h3, h4⟩ := hv
    exact crT_ok h1 h2 h3 h4
  · cases h
end
end Qq
end
section
/- Runs moved; small runs; runs compared. -/
open Go Go.Vm Go.Proofs Sp
namespace Sp
noncomputable section
/-- The first so many samples are small. -/
def smS (xs : List Nat) (s : Nat) : Prop := ∀ j, j < s → fGt (xs.getD j 0) 1148846080 = false ∧ fLt (xs.getD j 0) 3296329728 = false
noncomputable def isSr (xs : List Nat) (hs : List Int) (e1 e2 e3 e4 : List Value) : Prop := e1 = flts xs ∧ e3 = flts xs ∧ e2 = ints hs ∧ e4 = ints hs
instance (xs : List Nat) (s : Nat) : Decidable (smS xs s) := inferInstanceAs (Decidable (∀ j, j < s → fGt (xs.getD j 0) 1148846080 = false ∧ fLt (xs.getD j 0) 3296329728 = false))
end
end Sp
namespace Qq
noncomputable section
theorem owT_t (nm : ByteArray) (f : Int) (n : Nat) (c : Nat) (k : Nat) (d : Nat) (xs : List Nat) (hs : List Int) (K : Value → Heap → Prop) :
    (fnP Try.prog c0 hsOw (9 : FuncId) [Value.agg (List.toArray (runA nm f (0 : Nat) n c (1 : Nat) k d))] (hp2r xs hs true true true true []) K) =
    (Is (List.length (flts xs) = n * (1 : Nat) ∧ (∀ (v : Value), v ∈ flts xs → atom v = true) ∧ n * (4 : Nat) ≤ (140737488355328 : Nat) ∧ n ≤ (9223372036854775807 : Nat)) ∧ Is (List.length (ints hs) = k * (2 : Nat) ∧ (∀ (v : Value), v ∈ ints hs → atom v = true) ∧ k * (16 : Nat) ≤ (140737488355328 : Nat) ∧ k ≤ (9223372036854775807 : Nat)) ∧ K (Value.agg #[Value.string nm, Value.int IntKind.i64 f, Value.slice (some { block := (2 : Nat), off := (0 : Nat) }) n (0 : Nat), Value.slice (some { block := (3 : Nat), off := (0 : Nat) }) k (0 : Nat)]) (some (AObj.row (flts xs) (1 : Nat) true true true) :: some (AObj.row (ints hs) (2 : Nat) true true true) :: some (AObj.row (flts xs) (1 : Nat) true true true) :: some (AObj.row (ints hs) (2 : Nat) true true true) :: noH)) := by kernel_rfl
noncomputable def fV (xs : List Nat) (b : Bool) : Option AObj := some (.row (flts xs) 1 b b true)
noncomputable def orcOwT (xs : List Nat) (hs : List Int) : OrcV
  | [.agg ⟨[.string nm, .int .i64 f, .slice (some ⟨0, 0, none⟩) n _, .slice (some ⟨1, 0, none⟩) k _]⟩], [some (.row e1 1 true true true), some (.row e2 2 true true true)] =>
    some (.agg #[.string nm, .int .i64 f, .slice (some ⟨2, 0, none⟩) n 0, .slice (some ⟨3, 0, none⟩) k 0], [some (.row e1 1 true true true), some (.row e2 2 true true true), fR xs, some (.row (ints hs) 2 true true true)], isRun xs hs n k e1 e2)
  | _, _ => none
theorem okOwT (xs : List Nat) (hs : List Int) : OkV Try.prog 9 (orcOwT xs hs) := by
  intro args H ret H' vc h hv
  unfold orcOwT at h
  split at h
  · rename_i nm f n c k d e1 e2
    cases h
    obtain ⟨rfl, rfl, h1, h2, h3, h4⟩ := hv
    refine fnP_res hm c0_ok (hs := hsOw) ?_
    show fnP Try.prog c0 hsOw 9 [.agg (runA nm f 0 n c 1 k d).toArray] (hp2r xs hs true true true true []) _
    rw [owT_t]
    exact ⟨⟨by rw [flts_len]; omega, flts_atom xs, by omega, by omega⟩, ⟨by rw [ints_len]; omega, fun v hv => by obtain ⟨x, _, rfl⟩ := List.mem_map.1 hv; rfl, by omega, by omega⟩, by first | trivial | rfl, by first | trivial | rfl⟩
  · cases h
end
end Qq
end
section
/- Three runs: checked, read. -/
open Go Go.Vm Go.Proofs Sp
namespace Sp
noncomputable section
/-- The numbers that cells are. -/
def fxs (e : List Value) : List Nat := e.map fun v => match v with | .float _ a => a | _ => 0
def ihs (e : List Value) : List Int := e.map fun v => match v with | .int _ a => a | _ => 0
/-- The readings of a run, told by its cells. -/
noncomputable def rdG (n : Nat) (e1 e2 : List Value) : List Value := rdc n (rdF (fxs e1) (knB (ihs e2)))
end
end Sp
namespace Qq
noncomputable section
theorem fxs_flts (xs : List Nat) : fxs (flts xs) = xs := by
  rw [fxs, flts, List.map_map]
  exact (List.map_congr_left fun _ _ => rfl).trans (List.map_id xs)
theorem ihs_ints (hs : List Int) : ihs (ints hs) = hs := by
  rw [ihs, ints, List.map_map]
  exact (List.map_congr_left fun _ _ => rfl).trans (List.map_id hs)
/-- A valid run, told by its cells. -/
def okRun (nm : ByteArray) (f : Int) (n k : Nat) (e1 e2 : List Value) : Prop := isRun (fxs e1) (ihs e2) n k e1 e2 ∧ runE nm f (fxs e1) n (ihs e2) = 0
theorem okRun_of {nm : ByteArray} {f : Int} {n k : Nat} {xs : List Nat} {hs : List Int} (h : isRun xs hs n k (flts xs) (ints hs)) (h0 : runE nm f xs n hs = 0) : okRun nm f n k (flts xs) (ints hs) := by
  rw [okRun, fxs_flts, ihs_ints]; exact ⟨h, h0⟩
noncomputable def orcCrG : OrcV
  | [.agg ⟨[.string nm, .int .i64 f, .slice (some ⟨0, 0, none⟩) n _, .slice (some ⟨1, 0, none⟩) k _]⟩], [some (.row e1 1 true true true), some (.row e2 2 true true true)] =>
    some (.int .i64 0, [some (.row e1 1 true true true), some (.row e2 2 true true true)], okRun nm f n k e1 e2)
  | _, _ => none
theorem okCrG : OkV Try.prog 33 orcCrG := by
  intro args H ret H' vc h hv
  unfold orcCrG at h
  split at h
  · rename_i nm f n c k d e1 e2
    cases h
    obtain ⟨h1, h2⟩ := hv
    have := okCrP (fxs e1) (ihs e2) _ _ _ _ _ (show orcCrP (fxs e1) (ihs e2) [.agg ⟨[.string nm, .int .i64 f, .slice (some ⟨0, 0, none⟩) n c, .slice (some ⟨1, 0, none⟩) k d]⟩] [some (.row e1 1 true true true), some (.row e2 2 true true true)] = some _ from rfl) h1
    rwa [h2] at this
  · cases h
noncomputable def orcRrG : OrcV
  | [.agg ⟨[.string nm, .int .i64 f, .slice (some ⟨0, 0, none⟩) n _, .slice (some ⟨1, 0, none⟩) k _]⟩], [some (.row e1 1 true true true), some (.row e2 2 true true true)] =>
    some (.slice (some ⟨2, 0, none⟩) n 0, [some (.row e1 1 true true true), some (.row e2 2 true true true), some (.row (rdG n e1 e2) 2 true true true)], okRun nm f n k e1 e2)
  | _, _ => none
theorem okRrG : OkV Try.prog 38 orcRrG := by
  intro args H ret H' vc h hv
  unfold orcRrG at h
  split at h
  · rename_i nm f n c k d e1 e2
    cases h
    obtain ⟨h1, h2⟩ := hv
    obtain ⟨_, _, _, _, hx, hh, _⟩ := run_zero h2
    exact okRr (fxs e1) (ihs e2) _ _ _ _ _ (show orcRr (fxs e1) (ihs e2) [.agg ⟨[.string nm, .int .i64 f, .slice (some ⟨0, 0, none⟩) n c, .slice (some ⟨1, 0, none⟩) k d]⟩] [some (.row e1 1 true true true), some (.row e2 2 true true true)] = some _ from rfl) ⟨h1, hx, hh⟩
  · cases h
/-- The cells of three runs that lie from a block on. -/
def cel3 (nm0 nm1 nm2 : ByteArray) (f : Int) (n k0 k1 k2 i : Nat) : List Value :=
  [.string nm0, .int .i64 f, .slice (some ⟨i, 0, none⟩) n 0, .slice (some ⟨i + 1, 0, none⟩) k0 0, .string nm1, .int .i64 f, .slice (some ⟨i + 2, 0, none⟩) n 0, .slice (some ⟨i + 3, 0, none⟩) k1 0,
    .string nm2, .int .i64 f, .slice (some ⟨i + 4, 0, none⟩) n 0, .slice (some ⟨i + 5, 0, none⟩) k2 0]
def row6 (e0 g0 e1 g1 e2 g2 : List Value) : Heap := [some (.row e0 1 true true true), some (.row g0 2 true true true), some (.row e1 1 true true true), some (.row g1 2 true true true), some (.row e2 1 true true true), some (.row g2 2 true true true)]
noncomputable def hsM32 : Hs Try.prog where
  op y := if y = 503 then some (hCa Try.prog 33 orcCrG okCrG) else none
theorem m32_t (nm0 : ByteArray) (nm1 : ByteArray) (nm2 : ByteArray) (f : Int) (n : Nat) (k0 : Nat) (k1 : Nat) (k2 : Nat) (e0 : List Value) (g0 : List Value) (e1 : List Value) (g1 : List Value) (e2 : List Value) (g2 : List Value) (K : Value → Heap → Prop) :
    (fnP Try.prog c0 hsM32 (32 : FuncId) [Value.slice (some { block := (0 : Nat), off := (0 : Nat) }) (3 : Nat) (3 : Nat), Value.func (Fn.func (33 : FuncId)) #[] #[]] (some (AObj.row (cel3 nm0 nm1 nm2 f n k0 k1 k2 (1 : Nat)) (0 : Nat) false true false) :: row6 e0 g0 e1 g1 e2 g2) K) =
    (Is (okRun nm0 f n k0 e0 g0) ∧ Is (okRun nm1 f n k1 e1 g1) ∧ Is (okRun nm2 f n k2 e2 g2) ∧ K (Value.slice (some { block := (7 : Nat), off := (0 : Nat) }) (3 : Nat) (0 : Nat)) (some (AObj.row [Value.string nm0, Value.int IntKind.i64 f, Value.slice (some { block := (1 : Nat), off := (0 : Nat) }) n (0 : Nat), Value.slice (some { block := (2 : Nat), off := (0 : Nat) }) k0 (0 : Nat), Value.string nm1, Value.int IntKind.i64 f, Value.slice (some { block := (3 : Nat), off := (0 : Nat) }) n (0 : Nat), Value.slice (some { block := (4 : Nat), off := (0 : Nat) }) k1 (0 : Nat), Value.string nm2, Value.int IntKind.i64 f, Value.slice (some { block := (5 : Nat), off := (0 : Nat) }) n (0 : Nat), Value.slice (some { block := (6 : Nat), off := (0 : Nat) }) k2 (0 : Nat)] (0 : Nat) false true false) :: some (AObj.row e0 (1 : Nat) true true true) :: some (AObj.row g0 (2 : Nat) true true true) :: some (AObj.row e1 (1 : Nat) true true true) :: some (AObj.row g1 (2 : Nat) true true true) :: some (AObj.row e2 (1 : Nat) true true true) :: some (AObj.row g2 (2 : Nat) true true true) :: some (AObj.row [Value.int IntKind.i64 (0 : Int), Value.int IntKind.i64 (0 : Int), Value.int IntKind.i64 (0 : Int)] (1 : Nat) true true (List.all [Value.int IntKind.i64 (0 : Int)] atom && List.all [Value.int IntKind.i64 (0 : Int)] atom && List.all [Value.int IntKind.i64 (0 : Int)] atom)) :: noH)) := by kernel_rfl
noncomputable def hsM37 : Hs Try.prog where
  op y := if y = 503 then some (hCa Try.prog 38 orcRrG okRrG) else none
set_option maxRecDepth 100000 in
set_option maxHeartbeats 0 in
theorem m37_t (nm0 : ByteArray) (nm1 : ByteArray) (nm2 : ByteArray) (f : Int) (n : Nat) (k0 : Nat) (k1 : Nat) (k2 : Nat) (e0 : List Value) (g0 : List Value) (e1 : List Value) (g1 : List Value) (e2 : List Value) (g2 : List Value) (K : Value → Heap → Prop) :
    (fnP Try.prog c0 hsM37 (37 : FuncId) [Value.slice (some { block := (0 : Nat), off := (0 : Nat) }) (3 : Nat) (3 : Nat), Value.func (Fn.func (38 : FuncId)) #[] #[]] (some (AObj.row (cel3 nm0 nm1 nm2 f n k0 k1 k2 (1 : Nat)) (0 : Nat) false true false) :: row6 e0 g0 e1 g1 e2 g2) K) =
    (Is (okRun nm0 f n k0 e0 g0) ∧ Is (okRun nm1 f n k1 e1 g1) ∧ Is (okRun nm2 f n k2 e2 g2) ∧ K (Value.slice (some { block := (7 : Nat), off := (0 : Nat) }) (3 : Nat) (0 : Nat)) (some (AObj.row [Value.string nm0, Value.int IntKind.i64 f, Value.slice (some { block := (1 : Nat), off := (0 : Nat) }) n (0 : Nat), Value.slice (some { block := (2 : Nat), off := (0 : Nat) }) k0 (0 : Nat), Value.string nm1, Value.int IntKind.i64 f, Value.slice (some { block := (3 : Nat), off := (0 : Nat) }) n (0 : Nat), Value.slice (some { block := (4 : Nat), off := (0 : Nat) }) k1 (0 : Nat), Value.string nm2, Value.int IntKind.i64 f, Value.slice (some { block := (5 : Nat), off := (0 : Nat) }) n (0 : Nat), Value.slice (some { block := (6 : Nat), off := (0 : Nat) }) k2 (0 : Nat)] (0 : Nat) false true false) :: some (AObj.row e0 (1 : Nat) true true true) :: some (AObj.row g0 (2 : Nat) true true true) :: some (AObj.row e1 (1 : Nat) true true true) :: some (AObj.row g1 (2 : Nat) true true true) :: some (AObj.row e2 (1 : Nat) true true true) :: some (AObj.row g2 (2 : Nat) true true true) :: some (AObj.row [Value.slice (some { block := (8 : Nat), off := (0 : Nat) }) n (0 : Nat), Value.slice (some { block := (9 : Nat), off := (0 : Nat) }) n (0 : Nat), Value.slice (some { block := (10 : Nat), off := (0 : Nat) }) n (0 : Nat)] (1 : Nat) true true (List.all [Value.slice (some { block := (8 : Nat), off := (0 : Nat) }) n (0 : Nat)] atom && List.all [Value.slice (some { block := (12 : Nat), off := (0 : Nat) }) n (0 : Nat)] atom && List.all [Value.slice (some { block := (13 : Nat), off := (0 : Nat) }) n (0 : Nat)] atom)) :: some (AObj.row (rdG n e0 g0) (2 : Nat) true true true) :: some (AObj.row (rdG n e1 g1) (2 : Nat) true true true) :: some (AObj.row (rdG n e2 g2) (2 : Nat) true true true) :: noH)) := by kernel_rfl
end
end Qq
end
section
/- A part of readings, written as a run. -/
open Go Go.Vm Go.Proofs Sp
namespace Qq
noncomputable section
noncomputable def lpV0 (nm : ByteArray) (f : Int) (n c k d m e o N : Nat) (xs : List Nat) (hs : List Int) (R0 R : Nat → Int × Bool) : Lp where
  σ := Nat
  E _ := slots 70 [(1, .slice (some ⟨2, o * 2, none⟩) m e), (2, .pointer (some ⟨3, 0, none⟩)), (4, .pointer (some ⟨4, 0, none⟩)), (5, .pointer (some ⟨5, 0, none⟩))]
  Hp _ := hp2r xs hs true true true true [rdR N R0, runO nm f n c k d, some (.row zrun 0 false true true), some (.row (runA nm f 6 0 0 7 0 0) 0 false true false), fR [], some (.row (ints []) 2 true true true)]
  I s := s = 0
  m _ := 0
noncomputable def lpVw (nm : ByteArray) (f : Int) (n c k d m e o N : Nat) (xs : List Nat) (hs : List Int) (R0 R : Nat → Int × Bool) : Lp where
  σ := Nat
  E s := slots 70 [(2, .pointer (some ⟨3, 0, none⟩)), (4, .pointer (some ⟨4, 0, none⟩)), (5, .pointer (some ⟨5, 0, none⟩)), (14, .slice (some ⟨2, o * 2, none⟩) m e), (15, .int .i64 (Int.ofNat m)), (16, .int .i64 (Int.ofNat s))]
  Hp s := hp2r xs hs true true true true [rdR N R0, runO nm f n c k d, some (.row zrun 0 false true true), some (.row (runA nm f 6 s 0 7 (mkK (mkB R) s) 0) 0 false true false), fR (mkX R s), some (.row (ints (mkS (mkB R) s)) 2 true true true)]
  I s := s ≤ m
  m s := m - s
noncomputable def hsVi (nm : ByteArray) (f : Int) (n c k d m e o N : Nat) (xs : List Nat) (hs : List Int) (R0 R : Nat → Int × Bool) : Hs Try.prog where
  op y := if [401, 907, 1004, 1008].contains y then some (hIa Try.prog) else if y = 402 then some (hLd Try.prog (zR R0)) else if [909, 1006].contains y then some (hLc Try.prog gI) else if [506, 707].contains y then some (hAp Try.prog) else if y = 1010 then some (hSp Try.prog) else none
  cut y := if y = 2 then some (lpV0 nm f n c k d m e o N xs hs R0 R) else none
  lp _ := some (lpVw nm f n c k d m e o N xs hs R0 R)
  cl y := if y = 2 then keep 70 [1, 2, 4, 5] else keep 70 [2, 4, 5, 14, 15, 16]
  nl y := if y = 2 then [.cell 5 2 1, .cell 5 3 2] else []
  au := auCalls [(63, hCa Try.prog 63 orcSmO okSmO)]
theorem vi_t (nm : ByteArray) (f : Int) (n : Nat) (c : Nat) (k : Nat) (d : Nat) (m : Nat) (e : Nat) (o : Nat) (N : Nat) (xs : List Nat) (hs : List Int) (R0 : Nat → Int × Bool) (R : Nat → Int × Bool) (K : Value → Heap → Prop) :
    (fnP Try.prog c0 (hsVi nm f n c k d m e o N xs hs R0 R) (41 : FuncId) [Value.agg (List.toArray (runA nm f (0 : Nat) n c (1 : Nat) k d)), Value.slice (some { block := (2 : Nat), off := o * (2 : Nat) }) m e] (hp2r xs hs true true true true [rdR N R0]) K) =
    ((∃ (s : Nat), Is (s = (0 : Nat)) ∧ [poi, Value.slice (some { block := (2 : Nat), off := o * (2 : Nat) }) m e, Value.pointer (some { block := (3 : Nat), off := (0 : Nat) }), poi, Value.pointer (some { block := (4 : Nat), off := (0 : Nat) }), Value.pointer (some { block := (5 : Nat), off := (0 : Nat) }), poi, poi, poi, poi, poi, poi, poi, poi, poi, poi, poi, poi, poi, poi, poi, poi, poi, poi, poi, poi, poi, poi, poi, poi, poi, poi, poi, poi, poi, poi, poi, poi, poi, poi, poi, poi, poi, poi, poi, poi, poi, poi, poi, poi, poi, poi, poi, poi, poi, poi, poi, poi, poi, poi, poi, poi, poi, poi, poi, poi, poi, poi, poi, poi] = [poi, Value.slice (some { block := (2 : Nat), off := o * (2 : Nat) }) m e, Value.pointer (some { block := (3 : Nat), off := (0 : Nat) }), poi, Value.pointer (some { block := (4 : Nat), off := (0 : Nat) }), Value.pointer (some { block := (5 : Nat), off := (0 : Nat) }), poi, poi, poi, poi, poi, poi, poi, poi, poi, poi, poi, poi, poi, poi, poi, poi, poi, poi, poi, poi, poi, poi, poi, poi, poi, poi, poi, poi, poi, poi, poi, poi, poi, poi, poi, poi, poi, poi, poi, poi, poi, poi, poi, poi, poi, poi, poi, poi, poi, poi, poi, poi, poi, poi, poi, poi, poi, poi, poi, poi, poi, poi, poi, poi] ∧ some (AObj.row (flts xs) (1 : Nat) true true true) :: some (AObj.row (ints hs) (2 : Nat) true true true) :: some (AObj.row (rdc N R0) (2 : Nat) true true true) :: some (AObj.row [Value.string nm, Value.int IntKind.i64 f, Value.slice (some { block := (0 : Nat), off := (0 : Nat) }) n c, Value.slice (some { block := (1 : Nat), off := (0 : Nat) }) k d] (0 : Nat) false true (List.all [Value.string nm, Value.int IntKind.i64 f, Value.slice (some { block := (0 : Nat), off := (0 : Nat) }) n c, Value.slice (some { block := (1 : Nat), off := (0 : Nat) }) k d] atom)) :: some (AObj.row [Value.string { data := #[] }, Value.int IntKind.i64 (0 : Int), Value.slice none (0 : Nat) (0 : Nat), Value.slice none (0 : Nat) (0 : Nat)] (0 : Nat) false true true) :: some (AObj.row [Value.string nm, Value.int IntKind.i64 f, Value.slice (some { block := (6 : Nat), off := (0 : Nat) }) (0 : Nat) (0 : Nat), Value.slice (some { block := (7 : Nat), off := (0 : Nat) }) (0 : Nat) (0 : Nat)] (0 : Nat) false true false) :: some (AObj.row [] (1 : Nat) true true true) :: some (AObj.row [] (2 : Nat) true true true) :: noH = some (AObj.row (flts xs) (1 : Nat) true true true) :: some (AObj.row (ints hs) (2 : Nat) true true true) :: some (AObj.row (rdc N R0) (2 : Nat) true true true) :: some (AObj.row [Value.string nm, Value.int IntKind.i64 f, Value.slice (some { block := (0 : Nat), off := (0 : Nat) }) n c, Value.slice (some { block := (1 : Nat), off := (0 : Nat) }) k d] (0 : Nat) false true false) :: some (AObj.row [Value.string { data := #[] }, Value.int IntKind.i64 (0 : Int), Value.slice none (0 : Nat) (0 : Nat), Value.slice none (0 : Nat) (0 : Nat)] (0 : Nat) false true true) :: some (AObj.row [Value.string nm, Value.int IntKind.i64 f, Value.slice (some { block := (6 : Nat), off := (0 : Nat) }) (0 : Nat) (0 : Nat), Value.slice (some { block := (7 : Nat), off := (0 : Nat) }) (0 : Nat) (0 : Nat)] (0 : Nat) false true false) :: some (AObj.row [] (1 : Nat) true true true) :: some (AObj.row [] (2 : Nat) true true true) :: noH) ∧ ∀ (s : Nat), Is (s = (0 : Nat)) → (∃ (s : Nat), Is (s ≤ m) ∧ [poi, poi, Value.pointer (some { block := (3 : Nat), off := (0 : Nat) }), poi, Value.pointer (some { block := (4 : Nat), off := (0 : Nat) }), Value.pointer (some { block := (5 : Nat), off := (0 : Nat) }), poi, poi, poi, poi, poi, poi, poi, poi, Value.slice (some { block := (2 : Nat), off := o * (2 : Nat) }) m e, Value.int IntKind.i64 (↑m : Int), Value.int IntKind.i64 (0 : Int), poi, poi, poi, poi, poi, poi, poi, poi, poi, poi, poi, poi, poi, poi, poi, poi, poi, poi, poi, poi, poi, poi, poi, poi, poi, poi, poi, poi, poi, poi, poi, poi, poi, poi, poi, poi, poi, poi, poi, poi, poi, poi, poi, poi, poi, poi, poi, poi, poi, poi, poi, poi, poi] = [poi, poi, Value.pointer (some { block := (3 : Nat), off := (0 : Nat) }), poi, Value.pointer (some { block := (4 : Nat), off := (0 : Nat) }), Value.pointer (some { block := (5 : Nat), off := (0 : Nat) }), poi, poi, poi, poi, poi, poi, poi, poi, Value.slice (some { block := (2 : Nat), off := o * (2 : Nat) }) m e, Value.int IntKind.i64 (↑m : Int), Value.int IntKind.i64 (↑s : Int), poi, poi, poi, poi, poi, poi, poi, poi, poi, poi, poi, poi, poi, poi, poi, poi, poi, poi, poi, poi, poi, poi, poi, poi, poi, poi, poi, poi, poi, poi, poi, poi, poi, poi, poi, poi, poi, poi, poi, poi, poi, poi, poi, poi, poi, poi, poi, poi, poi, poi, poi, poi, poi] ∧ some (AObj.row (flts xs) (1 : Nat) true true true) :: some (AObj.row (ints hs) (2 : Nat) true true true) :: some (AObj.row (rdc N R0) (2 : Nat) true true true) :: some (AObj.row [Value.string nm, Value.int IntKind.i64 f, Value.slice (some { block := (0 : Nat), off := (0 : Nat) }) n c, Value.slice (some { block := (1 : Nat), off := (0 : Nat) }) k d] (0 : Nat) false true false) :: some (AObj.row [Value.string { data := #[] }, Value.int IntKind.i64 (0 : Int), Value.slice none (0 : Nat) (0 : Nat), Value.slice none (0 : Nat) (0 : Nat)] (0 : Nat) false true true) :: some (AObj.row [Value.string nm, Value.int IntKind.i64 f, Value.slice (some { block := (6 : Nat), off := (0 : Nat) }) (0 : Nat) (0 : Nat), Value.slice (some { block := (7 : Nat), off := (0 : Nat) }) (0 : Nat) (0 : Nat)] (0 : Nat) false true false) :: some (AObj.row [] (1 : Nat) true true true) :: some (AObj.row [] (2 : Nat) true true true) :: noH = some (AObj.row (flts xs) (1 : Nat) true true true) :: some (AObj.row (ints hs) (2 : Nat) true true true) :: some (AObj.row (rdc N R0) (2 : Nat) true true true) :: some (AObj.row [Value.string nm, Value.int IntKind.i64 f, Value.slice (some { block := (0 : Nat), off := (0 : Nat) }) n c, Value.slice (some { block := (1 : Nat), off := (0 : Nat) }) k d] (0 : Nat) false true false) :: some (AObj.row [Value.string { data := #[] }, Value.int IntKind.i64 (0 : Int), Value.slice none (0 : Nat) (0 : Nat), Value.slice none (0 : Nat) (0 : Nat)] (0 : Nat) false true true) :: some (AObj.row [Value.string nm, Value.int IntKind.i64 f, Value.slice (some { block := (6 : Nat), off := (0 : Nat) }) s (0 : Nat), Value.slice (some { block := (7 : Nat), off := (0 : Nat) }) (mkK (mkB R) s) (0 : Nat)] (0 : Nat) false true false) :: some (AObj.row (flts (mkX R s)) (1 : Nat) true true true) :: some (AObj.row (ints (mkS (mkB R) s)) (2 : Nat) true true true) :: noH) ∧ ∀ (s : Nat), Is (s ≤ m) → br (decide ((↑s : Int) < (↑m : Int))) (Is ((0 : Int) ≤ (↑s : Int) ∧ (↑s : Int) < (↑m : Int)) ∧ Is ((if o * (2 : Nat) + Int.toNat (↑s : Int) * (2 : Nat) + (2 : Nat) ≤ List.length (rdc N R0) then some (Value.agg (List.toArray (List.take (2 : Nat) (List.drop (o * (2 : Nat) + Int.toNat (↑s : Int) * (2 : Nat)) (rdc N R0))))) else none) = some (Value.agg #[Value.int IntKind.i64 (rdV R0 (o * (2 : Nat) + Int.toNat (↑s : Int) * (2 : Nat))), Value.bool (rdW R0 (o * (2 : Nat) + Int.toNat (↑s : Int) * (2 : Nat)))])) ∧ Is (Int.natAbs (rdV R0 (o * (2 : Nat) + Int.toNat (↑s : Int) * (2 : Nat))) < (16777216 : Nat)) ∧ Is (List.length (flts (mkX R s)) = s * (1 : Nat) ∧ (s + (1 : Nat)) * (4 : Nat) ≤ (140737488355328 : Nat) ∧ s + (1 : Nat) ≤ (9223372036854775807 : Nat)) ∧ br (rdW R0 (o * (2 : Nat) + Int.toNat (↑s : Int) * (2 : Nat))) (∃ (s' : Nat), Is (s' ≤ m) ∧ Is (m - s' < m - s) ∧ [poi, poi, Value.pointer (some { block := (3 : Nat), off := (0 : Nat) }), poi, Value.pointer (some { block := (4 : Nat), off := (0 : Nat) }), Value.pointer (some { block := (5 : Nat), off := (0 : Nat) }), poi, poi, poi, poi, poi, poi, poi, poi, Value.slice (some { block := (2 : Nat), off := o * (2 : Nat) }) m e, Value.int IntKind.i64 (↑m : Int), Value.int IntKind.i64 (IntKind.wrap IntKind.i64 ((↑s : Int) + (1 : Int))), poi, poi, poi, poi, poi, poi, poi, poi, poi, poi, poi, poi, poi, poi, poi, poi, poi, poi, poi, poi, poi, poi, poi, poi, poi, poi, poi, poi, poi, poi, poi, poi, poi, poi, poi, poi, poi, poi, poi, poi, poi, poi, poi, poi, poi, poi, poi, poi, poi, poi, poi, poi, poi] = [poi, poi, Value.pointer (some { block := (3 : Nat), off := (0 : Nat) }), poi, Value.pointer (some { block := (4 : Nat), off := (0 : Nat) }), Value.pointer (some { block := (5 : Nat), off := (0 : Nat) }), poi, poi, poi, poi, poi, poi, poi, poi, Value.slice (some { block := (2 : Nat), off := o * (2 : Nat) }) m e, Value.int IntKind.i64 (↑m : Int), Value.int IntKind.i64 (↑s' : Int), poi, poi, poi, poi, poi, poi, poi, poi, poi, poi, poi, poi, poi, poi, poi, poi, poi, poi, poi, poi, poi, poi, poi, poi, poi, poi, poi, poi, poi, poi, poi, poi, poi, poi, poi, poi, poi, poi, poi, poi, poi, poi, poi, poi, poi, poi, poi, poi, poi, poi, poi, poi, poi] ∧ some (AObj.row (flts xs) (1 : Nat) true true true) :: some (AObj.row (ints hs) (2 : Nat) true true true) :: some (AObj.row (rdc N R0) (2 : Nat) true true true) :: some (AObj.row [Value.string nm, Value.int IntKind.i64 f, Value.slice (some { block := (0 : Nat), off := (0 : Nat) }) n c, Value.slice (some { block := (1 : Nat), off := (0 : Nat) }) k d] (0 : Nat) false true false) :: some (AObj.row [Value.string { data := #[] }, Value.int IntKind.i64 (0 : Int), Value.slice none (0 : Nat) (0 : Nat), Value.slice none (0 : Nat) (0 : Nat)] (0 : Nat) false true true) :: some (AObj.row [Value.string nm, Value.int IntKind.i64 f, Value.slice (some { block := (6 : Nat), off := (0 : Nat) }) (s + (1 : Nat)) (0 : Nat), Value.slice (some { block := (7 : Nat), off := (0 : Nat) }) (mkK (mkB R) s) (0 : Nat)] (0 : Nat) false true (false && List.all [Value.slice (some { block := (10 : Nat), off := (0 : Nat) }) (s + (1 : Nat)) (0 : Nat)] atom)) :: some (AObj.row (flts (mkX R s) ++ [Value.float FloatKind.f32 (smO (rdV R0 (o * (2 : Nat) + Int.toNat (↑s : Int) * (2 : Nat))))]) (1 : Nat) true true (List.all [Value.float FloatKind.f32 (smO (rdV R0 (o * (2 : Nat) + Int.toNat (↑s : Int) * (2 : Nat))))] atom)) :: some (AObj.row (ints (mkS (mkB R) s)) (2 : Nat) true true true) :: noH = some (AObj.row (flts xs) (1 : Nat) true true true) :: some (AObj.row (ints hs) (2 : Nat) true true true) :: some (AObj.row (rdc N R0) (2 : Nat) true true true) :: some (AObj.row [Value.string nm, Value.int IntKind.i64 f, Value.slice (some { block := (0 : Nat), off := (0 : Nat) }) n c, Value.slice (some { block := (1 : Nat), off := (0 : Nat) }) k d] (0 : Nat) false true false) :: some (AObj.row [Value.string { data := #[] }, Value.int IntKind.i64 (0 : Int), Value.slice none (0 : Nat) (0 : Nat), Value.slice none (0 : Nat) (0 : Nat)] (0 : Nat) false true true) :: some (AObj.row [Value.string nm, Value.int IntKind.i64 f, Value.slice (some { block := (6 : Nat), off := (0 : Nat) }) s' (0 : Nat), Value.slice (some { block := (7 : Nat), off := (0 : Nat) }) (mkK (mkB R) s') (0 : Nat)] (0 : Nat) false true false) :: some (AObj.row (flts (mkX R s')) (1 : Nat) true true true) :: some (AObj.row (ints (mkS (mkB R) s')) (2 : Nat) true true true) :: noH) (br (decide ((0 : Int) < (↑(mkK (mkB R) s) : Int))) (Is ((0 : Int) ≤ IntKind.wrap IntKind.i64 ((↑(mkK (mkB R) s) : Int) - (1 : Int)) ∧ IntKind.wrap IntKind.i64 ((↑(mkK (mkB R) s) : Int) - (1 : Int)) < (↑(mkK (mkB R) s) : Int)) ∧ Is ((ints (mkS (mkB R) s))[(0 : Nat) + Int.toNat (IntKind.wrap IntKind.i64 ((↑(mkK (mkB R) s) : Int) - (1 : Int))) * (2 : Nat) + (1 : Nat)]? = some (Value.int IntKind.i64 (iAt (ints (mkS (mkB R) s)) ((0 : Nat) + Int.toNat (IntKind.wrap IntKind.i64 ((↑(mkK (mkB R) s) : Int) - (1 : Int))) * (2 : Nat) + (1 : Nat))))) ∧ br (iAt (ints (mkS (mkB R) s)) ((0 : Nat) + Int.toNat (IntKind.wrap IntKind.i64 ((↑(mkK (mkB R) s) : Int) - (1 : Int))) * (2 : Nat) + (1 : Nat)) == (↑s : Int)) (Is ((0 : Int) ≤ IntKind.wrap IntKind.i64 ((↑(mkK (mkB R) s) : Int) - (1 : Int)) ∧ IntKind.wrap IntKind.i64 ((↑(mkK (mkB R) s) : Int) - (1 : Int)) < (↑(mkK (mkB R) s) : Int)) ∧ Is ((ints (mkS (mkB R) s))[(0 : Nat) + Int.toNat (IntKind.wrap IntKind.i64 ((↑(mkK (mkB R) s) : Int) - (1 : Int))) * (2 : Nat) + (1 : Nat)]? = some (Value.int IntKind.i64 (iAt (ints (mkS (mkB R) s)) ((0 : Nat) + Int.toNat (IntKind.wrap IntKind.i64 ((↑(mkK (mkB R) s) : Int) - (1 : Int))) * (2 : Nat) + (1 : Nat))))) ∧ Is ((0 : Int) ≤ IntKind.wrap IntKind.i64 ((↑(mkK (mkB R) s) : Int) - (1 : Int)) ∧ IntKind.wrap IntKind.i64 ((↑(mkK (mkB R) s) : Int) - (1 : Int)) < (↑(mkK (mkB R) s) : Int)) ∧ Is ((0 : Nat) + Int.toNat (IntKind.wrap IntKind.i64 ((↑(mkK (mkB R) s) : Int) - (1 : Int))) * (2 : Nat) + (1 : Nat) + (1 : Nat) ≤ List.length (ints (mkS (mkB R) s))) ∧ ∃ (s' : Nat), Is (s' ≤ m) ∧ Is (m - s' < m - s) ∧ [poi, poi, Value.pointer (some { block := (3 : Nat), off := (0 : Nat) }), poi, Value.pointer (some { block := (4 : Nat), off := (0 : Nat) }), Value.pointer (some { block := (5 : Nat), off := (0 : Nat) }), poi, poi, poi, poi, poi, poi, poi, poi, Value.slice (some { block := (2 : Nat), off := o * (2 : Nat) }) m e, Value.int IntKind.i64 (↑m : Int), Value.int IntKind.i64 (IntKind.wrap IntKind.i64 ((↑s : Int) + (1 : Int))), poi, poi, poi, poi, poi, poi, poi, poi, poi, poi, poi, poi, poi, poi, poi, poi, poi, poi, poi, poi, poi, poi, poi, poi, poi, poi, poi, poi, poi, poi, poi, poi, poi, poi, poi, poi, poi, poi, poi, poi, poi, poi, poi, poi, poi, poi, poi, poi, poi, poi, poi, poi, poi] = [poi, poi, Value.pointer (some { block := (3 : Nat), off := (0 : Nat) }), poi, Value.pointer (some { block := (4 : Nat), off := (0 : Nat) }), Value.pointer (some { block := (5 : Nat), off := (0 : Nat) }), poi, poi, poi, poi, poi, poi, poi, poi, Value.slice (some { block := (2 : Nat), off := o * (2 : Nat) }) m e, Value.int IntKind.i64 (↑m : Int), Value.int IntKind.i64 (↑s' : Int), poi, poi, poi, poi, poi, poi, poi, poi, poi, poi, poi, poi, poi, poi, poi, poi, poi, poi, poi, poi, poi, poi, poi, poi, poi, poi, poi, poi, poi, poi, poi, poi, poi, poi, poi, poi, poi, poi, poi, poi, poi, poi, poi, poi, poi, poi, poi, poi, poi, poi, poi, poi, poi] ∧ some (AObj.row (flts xs) (1 : Nat) true true true) :: some (AObj.row (ints hs) (2 : Nat) true true true) :: some (AObj.row (rdc N R0) (2 : Nat) true true true) :: some (AObj.row [Value.string nm, Value.int IntKind.i64 f, Value.slice (some { block := (0 : Nat), off := (0 : Nat) }) n c, Value.slice (some { block := (1 : Nat), off := (0 : Nat) }) k d] (0 : Nat) false true false) :: some (AObj.row [Value.string { data := #[] }, Value.int IntKind.i64 (0 : Int), Value.slice none (0 : Nat) (0 : Nat), Value.slice none (0 : Nat) (0 : Nat)] (0 : Nat) false true true) :: some (AObj.row [Value.string nm, Value.int IntKind.i64 f, Value.slice (some { block := (6 : Nat), off := (0 : Nat) }) (s + (1 : Nat)) (0 : Nat), Value.slice (some { block := (7 : Nat), off := (0 : Nat) }) (mkK (mkB R) s) (0 : Nat)] (0 : Nat) false true (false && List.all [Value.slice (some { block := (10 : Nat), off := (0 : Nat) }) (s + (1 : Nat)) (0 : Nat)] atom)) :: some (AObj.row (flts (mkX R s) ++ [Value.float FloatKind.f32 (smO (rdV R0 (o * (2 : Nat) + Int.toNat (↑s : Int) * (2 : Nat))))]) (1 : Nat) true true (List.all [Value.float FloatKind.f32 (smO (rdV R0 (o * (2 : Nat) + Int.toNat (↑s : Int) * (2 : Nat))))] atom)) :: some (AObj.row (putL (ints (mkS (mkB R) s)) ((0 : Nat) + Int.toNat (IntKind.wrap IntKind.i64 ((↑(mkK (mkB R) s) : Int) - (1 : Int))) * (2 : Nat) + (1 : Nat)) [Value.int IntKind.i64 (IntKind.wrap IntKind.i64 (iAt (ints (mkS (mkB R) s)) ((0 : Nat) + Int.toNat (IntKind.wrap IntKind.i64 ((↑(mkK (mkB R) s) : Int) - (1 : Int))) * (2 : Nat) + (1 : Nat)) + (1 : Int)))]) (2 : Nat) true true (true && List.all [Value.int IntKind.i64 (IntKind.wrap IntKind.i64 (iAt (ints (mkS (mkB R) s)) ((0 : Nat) + Int.toNat (IntKind.wrap IntKind.i64 ((↑(mkK (mkB R) s) : Int) - (1 : Int))) * (2 : Nat) + (1 : Nat)) + (1 : Int)))] atom)) :: noH = some (AObj.row (flts xs) (1 : Nat) true true true) :: some (AObj.row (ints hs) (2 : Nat) true true true) :: some (AObj.row (rdc N R0) (2 : Nat) true true true) :: some (AObj.row [Value.string nm, Value.int IntKind.i64 f, Value.slice (some { block := (0 : Nat), off := (0 : Nat) }) n c, Value.slice (some { block := (1 : Nat), off := (0 : Nat) }) k d] (0 : Nat) false true false) :: some (AObj.row [Value.string { data := #[] }, Value.int IntKind.i64 (0 : Int), Value.slice none (0 : Nat) (0 : Nat), Value.slice none (0 : Nat) (0 : Nat)] (0 : Nat) false true true) :: some (AObj.row [Value.string nm, Value.int IntKind.i64 f, Value.slice (some { block := (6 : Nat), off := (0 : Nat) }) s' (0 : Nat), Value.slice (some { block := (7 : Nat), off := (0 : Nat) }) (mkK (mkB R) s') (0 : Nat)] (0 : Nat) false true false) :: some (AObj.row (flts (mkX R s')) (1 : Nat) true true true) :: some (AObj.row (ints (mkS (mkB R) s')) (2 : Nat) true true true) :: noH) (Is (List.length (ints (mkS (mkB R) s)) = mkK (mkB R) s * (2 : Nat) ∧ (mkK (mkB R) s + (1 : Nat)) * (16 : Nat) ≤ (140737488355328 : Nat) ∧ mkK (mkB R) s + (1 : Nat) ≤ (9223372036854775807 : Nat)) ∧ ∃ (s' : Nat), Is (s' ≤ m) ∧ Is (m - s' < m - s) ∧ [poi, poi, Value.pointer (some { block := (3 : Nat), off := (0 : Nat) }), poi, Value.pointer (some { block := (4 : Nat), off := (0 : Nat) }), Value.pointer (some { block := (5 : Nat), off := (0 : Nat) }), poi, poi, poi, poi, poi, poi, poi, poi, Value.slice (some { block := (2 : Nat), off := o * (2 : Nat) }) m e, Value.int IntKind.i64 (↑m : Int), Value.int IntKind.i64 (IntKind.wrap IntKind.i64 ((↑s : Int) + (1 : Int))), poi, poi, poi, poi, poi, poi, poi, poi, poi, poi, poi, poi, poi, poi, poi, poi, poi, poi, poi, poi, poi, poi, poi, poi, poi, poi, poi, poi, poi, poi, poi, poi, poi, poi, poi, poi, poi, poi, poi, poi, poi, poi, poi, poi, poi, poi, poi, poi, poi, poi, poi, poi, poi] = [poi, poi, Value.pointer (some { block := (3 : Nat), off := (0 : Nat) }), poi, Value.pointer (some { block := (4 : Nat), off := (0 : Nat) }), Value.pointer (some { block := (5 : Nat), off := (0 : Nat) }), poi, poi, poi, poi, poi, poi, poi, poi, Value.slice (some { block := (2 : Nat), off := o * (2 : Nat) }) m e, Value.int IntKind.i64 (↑m : Int), Value.int IntKind.i64 (↑s' : Int), poi, poi, poi, poi, poi, poi, poi, poi, poi, poi, poi, poi, poi, poi, poi, poi, poi, poi, poi, poi, poi, poi, poi, poi, poi, poi, poi, poi, poi, poi, poi, poi, poi, poi, poi, poi, poi, poi, poi, poi, poi, poi, poi, poi, poi, poi, poi, poi, poi, poi, poi, poi, poi] ∧ some (AObj.row (flts xs) (1 : Nat) true true true) :: some (AObj.row (ints hs) (2 : Nat) true true true) :: some (AObj.row (rdc N R0) (2 : Nat) true true true) :: some (AObj.row [Value.string nm, Value.int IntKind.i64 f, Value.slice (some { block := (0 : Nat), off := (0 : Nat) }) n c, Value.slice (some { block := (1 : Nat), off := (0 : Nat) }) k d] (0 : Nat) false true false) :: some (AObj.row [Value.string { data := #[] }, Value.int IntKind.i64 (0 : Int), Value.slice none (0 : Nat) (0 : Nat), Value.slice none (0 : Nat) (0 : Nat)] (0 : Nat) false true true) :: some (AObj.row [Value.string nm, Value.int IntKind.i64 f, Value.slice (some { block := (6 : Nat), off := (0 : Nat) }) (s + (1 : Nat)) (0 : Nat), Value.slice (some { block := (7 : Nat), off := (0 : Nat) }) (mkK (mkB R) s + (1 : Nat)) (0 : Nat)] (0 : Nat) false true (false && List.all [Value.slice (some { block := (10 : Nat), off := (0 : Nat) }) (s + (1 : Nat)) (0 : Nat)] atom && List.all [Value.slice (some { block := (12 : Nat), off := (0 : Nat) }) (mkK (mkB R) s + (1 : Nat)) (0 : Nat)] atom)) :: some (AObj.row (flts (mkX R s) ++ [Value.float FloatKind.f32 (smO (rdV R0 (o * (2 : Nat) + Int.toNat (↑s : Int) * (2 : Nat))))]) (1 : Nat) true true (List.all [Value.float FloatKind.f32 (smO (rdV R0 (o * (2 : Nat) + Int.toNat (↑s : Int) * (2 : Nat))))] atom)) :: some (AObj.row (ints (mkS (mkB R) s) ++ [Value.int IntKind.i64 (↑s : Int), Value.int IntKind.i64 (IntKind.wrap IntKind.i64 ((↑s : Int) + (1 : Int)))]) (2 : Nat) true true (List.all [Value.int IntKind.i64 (↑s : Int), Value.int IntKind.i64 (IntKind.wrap IntKind.i64 ((↑s : Int) + (1 : Int)))] atom)) :: noH = some (AObj.row (flts xs) (1 : Nat) true true true) :: some (AObj.row (ints hs) (2 : Nat) true true true) :: some (AObj.row (rdc N R0) (2 : Nat) true true true) :: some (AObj.row [Value.string nm, Value.int IntKind.i64 f, Value.slice (some { block := (0 : Nat), off := (0 : Nat) }) n c, Value.slice (some { block := (1 : Nat), off := (0 : Nat) }) k d] (0 : Nat) false true false) :: some (AObj.row [Value.string { data := #[] }, Value.int IntKind.i64 (0 : Int), Value.slice none (0 : Nat) (0 : Nat), Value.slice none (0 : Nat) (0 : Nat)] (0 : Nat) false true true) :: some (AObj.row [Value.string nm, Value.int IntKind.i64 f, Value.slice (some { block := (6 : Nat), off := (0 : Nat) }) s' (0 : Nat), Value.slice (some { block := (7 : Nat), off := (0 : Nat) }) (mkK (mkB R) s') (0 : Nat)] (0 : Nat) false true false) :: some (AObj.row (flts (mkX R s')) (1 : Nat) true true true) :: some (AObj.row (ints (mkS (mkB R) s')) (2 : Nat) true true true) :: noH)) (Is (List.length (ints (mkS (mkB R) s)) = mkK (mkB R) s * (2 : Nat) ∧ (mkK (mkB R) s + (1 : Nat)) * (16 : Nat) ≤ (140737488355328 : Nat) ∧ mkK (mkB R) s + (1 : Nat) ≤ (9223372036854775807 : Nat)) ∧ ∃ (s' : Nat), Is (s' ≤ m) ∧ Is (m - s' < m - s) ∧ [poi, poi, Value.pointer (some { block := (3 : Nat), off := (0 : Nat) }), poi, Value.pointer (some { block := (4 : Nat), off := (0 : Nat) }), Value.pointer (some { block := (5 : Nat), off := (0 : Nat) }), poi, poi, poi, poi, poi, poi, poi, poi, Value.slice (some { block := (2 : Nat), off := o * (2 : Nat) }) m e, Value.int IntKind.i64 (↑m : Int), Value.int IntKind.i64 (IntKind.wrap IntKind.i64 ((↑s : Int) + (1 : Int))), poi, poi, poi, poi, poi, poi, poi, poi, poi, poi, poi, poi, poi, poi, poi, poi, poi, poi, poi, poi, poi, poi, poi, poi, poi, poi, poi, poi, poi, poi, poi, poi, poi, poi, poi, poi, poi, poi, poi, poi, poi, poi, poi, poi, poi, poi, poi, poi, poi, poi, poi, poi, poi] = [poi, poi, Value.pointer (some { block := (3 : Nat), off := (0 : Nat) }), poi, Value.pointer (some { block := (4 : Nat), off := (0 : Nat) }), Value.pointer (some { block := (5 : Nat), off := (0 : Nat) }), poi, poi, poi, poi, poi, poi, poi, poi, Value.slice (some { block := (2 : Nat), off := o * (2 : Nat) }) m e, Value.int IntKind.i64 (↑m : Int), Value.int IntKind.i64 (↑s' : Int), poi, poi, poi, poi, poi, poi, poi, poi, poi, poi, poi, poi, poi, poi, poi, poi, poi, poi, poi, poi, poi, poi, poi, poi, poi, poi, poi, poi, poi, poi, poi, poi, poi, poi, poi, poi, poi, poi, poi, poi, poi, poi, poi, poi, poi, poi, poi, poi, poi, poi, poi, poi, poi] ∧ some (AObj.row (flts xs) (1 : Nat) true true true) :: some (AObj.row (ints hs) (2 : Nat) true true true) :: some (AObj.row (rdc N R0) (2 : Nat) true true true) :: some (AObj.row [Value.string nm, Value.int IntKind.i64 f, Value.slice (some { block := (0 : Nat), off := (0 : Nat) }) n c, Value.slice (some { block := (1 : Nat), off := (0 : Nat) }) k d] (0 : Nat) false true false) :: some (AObj.row [Value.string { data := #[] }, Value.int IntKind.i64 (0 : Int), Value.slice none (0 : Nat) (0 : Nat), Value.slice none (0 : Nat) (0 : Nat)] (0 : Nat) false true true) :: some (AObj.row [Value.string nm, Value.int IntKind.i64 f, Value.slice (some { block := (6 : Nat), off := (0 : Nat) }) (s + (1 : Nat)) (0 : Nat), Value.slice (some { block := (7 : Nat), off := (0 : Nat) }) (mkK (mkB R) s + (1 : Nat)) (0 : Nat)] (0 : Nat) false true (false && List.all [Value.slice (some { block := (10 : Nat), off := (0 : Nat) }) (s + (1 : Nat)) (0 : Nat)] atom && List.all [Value.slice (some { block := (12 : Nat), off := (0 : Nat) }) (mkK (mkB R) s + (1 : Nat)) (0 : Nat)] atom)) :: some (AObj.row (flts (mkX R s) ++ [Value.float FloatKind.f32 (smO (rdV R0 (o * (2 : Nat) + Int.toNat (↑s : Int) * (2 : Nat))))]) (1 : Nat) true true (List.all [Value.float FloatKind.f32 (smO (rdV R0 (o * (2 : Nat) + Int.toNat (↑s : Int) * (2 : Nat))))] atom)) :: some (AObj.row (ints (mkS (mkB R) s) ++ [Value.int IntKind.i64 (↑s : Int), Value.int IntKind.i64 (IntKind.wrap IntKind.i64 ((↑s : Int) + (1 : Int)))]) (2 : Nat) true true (List.all [Value.int IntKind.i64 (↑s : Int), Value.int IntKind.i64 (IntKind.wrap IntKind.i64 ((↑s : Int) + (1 : Int)))] atom)) :: noH = some (AObj.row (flts xs) (1 : Nat) true true true) :: some (AObj.row (ints hs) (2 : Nat) true true true) :: some (AObj.row (rdc N R0) (2 : Nat) true true true) :: some (AObj.row [Value.string nm, Value.int IntKind.i64 f, Value.slice (some { block := (0 : Nat), off := (0 : Nat) }) n c, Value.slice (some { block := (1 : Nat), off := (0 : Nat) }) k d] (0 : Nat) false true false) :: some (AObj.row [Value.string { data := #[] }, Value.int IntKind.i64 (0 : Int), Value.slice none (0 : Nat) (0 : Nat), Value.slice none (0 : Nat) (0 : Nat)] (0 : Nat) false true true) :: some (AObj.row [Value.string nm, Value.int IntKind.i64 f, Value.slice (some { block := (6 : Nat), off := (0 : Nat) }) s' (0 : Nat), Value.slice (some { block := (7 : Nat), off := (0 : Nat) }) (mkK (mkB R) s') (0 : Nat)] (0 : Nat) false true false) :: some (AObj.row (flts (mkX R s')) (1 : Nat) true true true) :: some (AObj.row (ints (mkS (mkB R) s')) (2 : Nat) true true true) :: noH))) (K (Value.agg #[Value.string nm, Value.int IntKind.i64 f, Value.slice (some { block := (3 : Nat), off := (0 : Nat) }) s (0 : Nat), Value.slice (some { block := (4 : Nat), off := (0 : Nat) }) (mkK (mkB R) s) (0 : Nat)]) (some (AObj.row (flts xs) (1 : Nat) true true true) :: some (AObj.row (ints hs) (2 : Nat) true true true) :: some (AObj.row (rdc N R0) (2 : Nat) true true true) :: some (AObj.row (flts (mkX R s)) (1 : Nat) true true true) :: some (AObj.row (ints (mkS (mkB R) s)) (2 : Nat) true true true) :: noH))) := by kernel_rfl
set_option maxRecDepth 100000 in
theorem vi_ok {nm : ByteArray} {f : Int} {n c k d m e o N : Nat} {xs : List Nat} {hs : List Int} {R0 R : Nat → Int × Bool} (hoN : o + m ≤ N) (hoR : ∀ i, i < m → R i = R0 (o + i)) (h9 : m ≤ 100000) (hR : ∀ i, i < m → (R i).1.natAbs < 2 ^ 24) :
    SmallRes Try.prog 41 [.agg (runA nm f 0 n c 1 k d).toArray, .slice (some ⟨2, o * 2, none⟩) m e] (hp2r xs hs true true true true [rdR N R0]) (.agg (runA nm f 3 m 0 4 (mkK (mkB R) m) 0).toArray) (hp2r xs hs true true true true [rdR N R0, fR (mkX R m), some (.row (ints (mkS (mkB R) m)) 2 true true true)]) := by
  refine fnP_res hm c0_ok (hs := hsVi nm f n c k d m e o N xs hs R0 R) ?_
  rw [vi_t]
  refine ⟨⟨(0 : Nat), ⟨rfl⟩, by first | trivial | rfl, by first | trivial | rfl⟩, fun _ _ => ⟨⟨(0 : Nat), ⟨Nat.zero_le _⟩, by first | trivial | rfl, by rw [mkK_zero, mkX_zero, mkS_zero]; first | done | trivial | rfl⟩, fun s hs' => br_of (fun hc => ?_) (fun hc => ?_)⟩⟩
  · have hc := lt_of_dec hc
    have es2 : o * 2 + s * 2 = (o + s) * 2 := by omega
    have eRs : R0 (o + s) = R s := (hoR s hc).symm
    simp only [Nat.zero_add, Int.toNat_natCast, es2, rdV_at, rdW_at, eRs]
    have r1 : mkB R s = (R s).2 := rfl
    obtain ⟨l1, l2⟩ := mkS_len (mkB R) s
    have hx : flts (mkX R s) ++ [.float .f32 (smO (R s).1)] = flts (mkX R (s + 1)) := by rw [mkX_succ, ← flts_app]; rfl
    have es : mkS (mkB R) (s + 1) = if mkB R s = true then mkS (mkB R) s else if lastIs (mkS (mkB R) s) s = true then (mkS (mkB R) s).take ((mkS (mkB R) s).length - 1) ++ [(s : Int) + 1] else mkS (mkB R) s ++ [(s : Int), (s : Int) + 1] := rfl
    have ek : mkK (mkB R) (s + 1) = (mkS (mkB R) (s + 1)).length / 2 := rfl
    have ek0 : mkK (mkB R) s = (mkS (mkB R) s).length / 2 := rfl
    have w1 : IntKind.wrap .i64 ((s : Int) + 1) = (s : Int) + 1 := wrap_eq (by omega) (by omega)
    rw [hx, up1 hc (by omega)]
    refine ⟨⟨by omega, by omega⟩, ⟨by have q := rdc_take (R := R0) (show o + s < N by omega); rw [eRs] at q; exact q⟩, ⟨hR s hc⟩, ⟨by rw [flts_len, mkX_len]; omega, by omega, by omega⟩, br_of (fun hk => ?_) (fun hk => ?_)⟩
    · have e1 : mkS (mkB R) (s + 1) = mkS (mkB R) s := by rw [es]; exact if_pos hk
      have e2 : mkK (mkB R) (s + 1) = mkK (mkB R) s := by rw [ek, e1, ek0]
      refine ⟨s + 1, ⟨hc⟩, ⟨by omega⟩, by first | trivial | rfl, by rw [e1, e2]; first | done | trivial | rfl⟩
    · have hk' : ¬ mkB R s = true := fun h => by rw [mkB, hk] at h; cases h
      rw [if_neg hk'] at es
      generalize mkS (mkB R) s = l at *
      have hnew : lastIs l s = false → mkS (mkB R) (s + 1) = l ++ [(s : Int), (s : Int) + 1] ∧ mkK (mkB R) (s + 1) = mkK (mkB R) s + 1 := fun h => by
        have : mkS (mkB R) (s + 1) = l ++ [(s : Int), (s : Int) + 1] := by rw [es, h]; rfl
        refine ⟨this, ?_⟩
        rw [ek, ek0, this, new_len]
      have happ : ints l ++ [.int .i64 (s : Int), .int .i64 ((s : Int) + 1)] = ints (l ++ [(s : Int), (s : Int) + 1]) := by rw [← ints_app]; rfl
      have hvc : (ints l).length = mkK (mkB R) s * 2 ∧ (mkK (mkB R) s + 1) * 16 ≤ 140737488355328 ∧ mkK (mkB R) s + 1 ≤ 9223372036854775807 := ⟨by rw [ints_len]; exact l1, by omega, by omega⟩
      have u1 : ((s + 1 : Nat) : Int) = (s : Int) + 1 := rfl
      refine br_of (fun h0 => ?_) (fun h0 => ?_)
      · have h0 : 0 < mkK (mkB R) s := by have := of_decide_eq_true h0; omega
        have wk : IntKind.wrap .i64 ((mkK (mkB R) s : Int) - 1) = ((mkK (mkB R) s - 1 : Nat) : Int) := by rw [wrap_eq (by omega) (by omega)]; omega
        have ei : (mkK (mkB R) s - 1) * 2 + 1 = l.length - 1 := by omega
        rw [wk]
        simp only [Int.toNat_natCast]
        have hl : l.length - 1 < l.length := by omega
        have hat : (ints l)[(mkK (mkB R) s - 1) * 2 + 1]? = some (.int .i64 (iAt (ints l) ((mkK (mkB R) s - 1) * 2 + 1))) := by rw [ei, iAt_ints hl, zint_at hl]
        have b1 : 0 ≤ ((mkK (mkB R) s - 1 : Nat) : Int) ∧ ((mkK (mkB R) s - 1 : Nat) : Int) < (mkK (mkB R) s : Int) := by omega
        refine ⟨⟨b1⟩, ⟨hat⟩, br_of (fun he => ?_) (fun he => ?_)⟩
        · have he : iAt (ints l) ((mkK (mkB R) s - 1) * 2 + 1) = (s : Int) := by simpa using he
          have hj : lastIs l s = true := by rw [lastIs, decide_eq_true (show 0 < l.length by omega), ← iAt_ints hl, ← ei, he]; simp
          have e1 : mkS (mkB R) (s + 1) = l.take (l.length - 1) ++ [(s : Int) + 1] := by rw [es, if_pos hj]
          have e2 : mkK (mkB R) (s + 1) = mkK (mkB R) s := by rw [ek, e1, join_len (by omega)]; omega
          rw [he, w1, putL_last l1 h0, ← e1]
          refine ⟨⟨b1⟩, ⟨by rw [he] at hat; exact hat⟩, ⟨b1⟩, ⟨by rw [ints_len]; first | omega | (simp only [List.length_cons, List.length_nil]; omega)⟩, s + 1, ⟨hc⟩, ⟨by omega⟩, by first | trivial | rfl, by rw [e2]; first | done | trivial | rfl⟩
        · have he : ¬ iAt (ints l) ((mkK (mkB R) s - 1) * 2 + 1) = (s : Int) := by simpa using he
          have hj : lastIs l s = false := by
            rw [lastIs, ← iAt_ints hl, ← ei, decide_eq_false he, Bool.and_false]
          obtain ⟨e1, e2⟩ := hnew hj
          rw [u1, happ, ← e1]
          refine ⟨⟨hvc⟩, s + 1, ⟨hc⟩, ⟨by omega⟩, by first | trivial | rfl, by rw [e2]; first | done | trivial | rfl⟩
      · have h0 : ¬ 0 < mkK (mkB R) s := by have := of_decide_eq_false h0; omega
        have hj : lastIs l s = false := by rw [lastIs, decide_eq_false (show ¬ 0 < l.length by omega)]; rfl
        obtain ⟨e1, e2⟩ := hnew hj
        rw [u1, happ, ← e1]
        refine ⟨⟨hvc⟩, s + 1, ⟨hc⟩, ⟨by omega⟩, by first | trivial | rfl, by rw [e2]; first | done | trivial | rfl⟩
  · have hc := ge_of_dec hc
    have : s = m := by have := hs'.out; omega
    subst this
    exact ⟨by first | trivial | rfl, by first | trivial | rfl⟩
noncomputable def orcVi (xs : List Nat) (hs : List Int) (N : Nat) (R0 R : Nat → Int × Bool) : OrcV
  | [.agg ⟨[.string nm, .int .i64 f, .slice (some ⟨0, 0, none⟩) n _, .slice (some ⟨1, 0, none⟩) k _]⟩, .slice (some ⟨2, o, none⟩) m _], [some (.row e1 1 true true true), some (.row e2 2 true true true), some (.row e3 2 true true true)] =>
    some (.agg (runA nm f 3 m 0 4 (mkK (mkB R) m) 0).toArray, [some (.row e1 1 true true true), some (.row e2 2 true true true), some (.row e3 2 true true true), fR (mkX R m), some (.row (ints (mkS (mkB R) m)) 2 true true true)], isRun xs hs n k e1 e2 ∧ e3 = rdc N R0 ∧ o / 2 * 2 = o ∧ o / 2 + m ≤ N ∧ (∀ i, i < m → R i = R0 (o / 2 + i)) ∧ m ≤ 100000 ∧ ∀ i, i < m → (R i).1.natAbs < 2 ^ 24)
  | _, _ => none
theorem okVi (xs : List Nat) (hs : List Int) (N : Nat) (R0 R : Nat → Int × Bool) : OkV Try.prog 41 (orcVi xs hs N R0 R) := by
  intro args H ret H' vc h hv
  unfold orcVi at h
  split at h
  · rename_i nm f n c k d o m e e1 e2 e3
    cases h
    obtain ⟨⟨rfl, rfl, _⟩, rfl, h1, h2, h3, h4, h5⟩ := hv
    have := vi_ok (nm := nm) (f := f) (n := n) (c := c) (k := k) (d := d) (e := e) (xs := xs) (hs := hs) h2 h3 h4 h5
    rw [h1] at this
    exact this
  · cases h
end
end Qq
end
