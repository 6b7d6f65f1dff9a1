/- Parts of the proof: HT, HU, HE, HF, HG, HP, HV, HW, HX, HY, JD. -/
import Derived.Test.YtellllnlidiljaaZAD
import Derived.Test.YtellllnlidiljaaZAC
section
/- What a rule asks for: the numbers. -/
open Go Go.Vm Go.Proofs Sp
namespace Sp
open Qq
noncomputable section
noncomputable def usC (e : List Value) (n : Nat) : List Value := ints (mp (gU (deI e) []) n)
noncomputable def xsC (p : List Value) (n : Nat) : List Value := ints (mp (gX (deI p) []) n)
noncomputable def ysC (p : List Value) (n : Nat) : List Value := ints (mp (gY (deI p) []) n)
noncomputable def cpC (e : List Value) (n : Nat) : Nat := cpN (deI e) n
noncomputable def cfC (e : List Value) (n : Nat) : List Value := ints (cpF (deI e) n)
/-- How many probes are used. -/
noncomputable def nuC (e : List Value) (n : Nat) : Nat := cpC (srC (usC e n)) n
def isE (e : List Value) (n a : Nat) : Prop := ∃ z, e = ints z ∧ z.length = n * a ∧ 1 ≤ n ∧ n ≤ 12
/-- All points are one. -/
def oneP (p : List Value) (m : Nat) : Prop := ∃ z, p = ints z ∧ z.length = m * 2 ∧ 1 ≤ m ∧ m ≤ 12 ∧ ∃ x y, few x ∧ few y ∧ ∀ i, i < m → z.getD (i * 2) 0 = x ∧ z.getD (i * 2 + 1) 0 = y
end
end Sp
namespace Go.Vm
/-- One hint or another. -/
noncomputable def hOr {P : Program} (h1 h2 : Hint P) : Hint P where
  fn o env H := match h1.fn o env H with
    | some x => some x
    | none => h2.fn o env H
  ok := by
    intro o env H out vc h hv
    split at h
    · rename_i x hx
      cases h
      exact h1.ok hx hv
    · exact h2.ok h hv
end Go.Vm
namespace Qq
noncomputable section
noncomputable def orcMU : OrcV
  | [.slice (some ⟨0, 0, none⟩) n _, .func (.func 49) ⟨[]⟩ ⟨[]⟩], [some (.row e 3 true true true)] => some (.slice (some ⟨1, 0, none⟩) n 0, [some (.row e 3 true true true), some (.row (usC e n) 1 true true true)], isE e n 3)
  | _, _ => none
theorem okMU : OkV Try.prog 48 orcMU := by
  intro args H ret H' vc h hv
  unfold orcMU at h
  split at h
  · cases h
    obtain ⟨z, rfl, h1, _, h2⟩ := hv
    rw [usC, deI_ints]
    exact mU_ok (d := []) (q := 0) (b := 0) h1 (by omega)
  · cases h
noncomputable def orcMXY : OrcV
  | [.slice (some ⟨0, 0, none⟩) n _, .func (.func 75) ⟨[]⟩ ⟨[]⟩], [some (.row e 2 true true true)] => some (.slice (some ⟨1, 0, none⟩) n 0, [some (.row e 2 true true true), some (.row (xsC e n) 1 true true true)], isE e n 2)
  | [.slice (some ⟨0, 0, none⟩) n _, .func (.func 76) ⟨[]⟩ ⟨[]⟩], [some (.row e 2 true true true)] => some (.slice (some ⟨1, 0, none⟩) n 0, [some (.row e 2 true true true), some (.row (ysC e n) 1 true true true)], isE e n 2)
  | _, _ => none
theorem okMXY : OkV Try.prog 74 orcMXY := by
  intro args H ret H' vc h hv
  unfold orcMXY at h
  split at h
  · cases h
    obtain ⟨z, rfl, h1, _, h2⟩ := hv
    rw [xsC, deI_ints]
    exact mX_ok (d := []) (q := 0) (b := 0) h1 (by omega)
  · cases h
    obtain ⟨z, rfl, h1, _, h2⟩ := hv
    rw [ysC, deI_ints]
    exact mY_ok (d := []) (q := 0) (b := 0) h1 (by omega)
  · cases h
noncomputable def orcCm : OrcV
  | [.slice (some ⟨0, 0, none⟩) n _], [some (.row e 1 true true true)] => some (.slice (some ⟨0, 0, none⟩) (cpC e n) big, [some (.row (cfC e n) 1 true true true)], isL1 e n)
  | _, _ => none
theorem okCm : OkV Try.prog 50 orcCm := by
  intro args H ret H' vc h hv
  unfold orcCm at h
  split at h
  · cases h
    obtain ⟨L, rfl, h1, h2⟩ := hv
    rw [cpC, cfC, deI_ints]
    exact cm_ok h1 (by omega)
  · cases h
noncomputable def hsXs : Hs Try.prog where
  au := auCalls [(74, hCa Try.prog 74 orcMXY okMXY)]
theorem xs_t (p : List Value) (n : Nat) (c : Nat) (K : Value → Heap → Prop) :
    (fnP Try.prog c0 hsXs (54 : FuncId) [Value.slice (some { block := (0 : Nat), off := (0 : Nat) }) n c] [dat p (2 : Nat)] K) =
    (Is (isE p n (2 : Nat)) ∧ K (Value.slice (some { block := (1 : Nat), off := (0 : Nat) }) n (0 : Nat)) (some (AObj.row p (2 : Nat) true true true) :: some (AObj.row (xsC p n) (1 : Nat) true true true) :: noH)) := by kernel_rfl
theorem ys_t (p : List Value) (n : Nat) (c : Nat) (K : Value → Heap → Prop) :
    (fnP Try.prog c0 hsXs (57 : FuncId) [Value.slice (some { block := (0 : Nat), off := (0 : Nat) }) n c] [dat p (2 : Nat)] K) =
    (Is (isE p n (2 : Nat)) ∧ K (Value.slice (some { block := (1 : Nat), off := (0 : Nat) }) n (0 : Nat)) (some (AObj.row p (2 : Nat) true true true) :: some (AObj.row (ysC p n) (1 : Nat) true true true) :: noH)) := by kernel_rfl
noncomputable def orcXs : OrcV
  | [.slice (some ⟨0, 0, none⟩) n _], [some (.row e 2 true true true)] => some (.slice (some ⟨1, 0, none⟩) n 0, [some (.row e 2 true true true), some (.row (xsC e n) 1 true true true)], isE e n 2)
  | _, _ => none
theorem okXs : OkV Try.prog 54 orcXs := by
  intro args H ret H' vc h hv
  unfold orcXs at h
  split at h
  · cases h
    refine fnP_res hm c0_ok (hs := hsXs) ?_
    show fnP Try.prog c0 hsXs 54 _ [dat _ 2] _
    rw [xs_t]
    exact ⟨⟨hv⟩, rfl, rfl⟩
  · cases h
noncomputable def orcYs : OrcV
  | [.slice (some ⟨0, 0, none⟩) n _], [some (.row e 2 true true true)] => some (.slice (some ⟨1, 0, none⟩) n 0, [some (.row e 2 true true true), some (.row (ysC e n) 1 true true true)], isE e n 2)
  | _, _ => none
theorem okYs : OkV Try.prog 57 orcYs := by
  intro args H ret H' vc h hv
  unfold orcYs at h
  split at h
  · cases h
    refine fnP_res hm c0_ok (hs := hsXs) ?_
    show fnP Try.prog c0 hsXs 57 _ [dat _ 2] _
    rw [ys_t]
    exact ⟨⟨hv⟩, rfl, rfl⟩
  · cases h
noncomputable def hsPt : Hs Try.prog where
  au := auCalls [(48, hCa Try.prog 48 orcMU okMU), (34, hCa Try.prog 34 orcSt okSt), (50, hCa Try.prog 50 orcCm okCm), (54, hCa Try.prog 54 orcXs okXs), (57, hCa Try.prog 57 orcYs okYs), (53, hCa Try.prog 53 orcEx okEx)]
theorem p2_t (e : List Value) (p : List Value) (n : Nat) (c : Nat) (m : Nat) (d : Nat) (K : Value → Heap → Prop) :
    (fnP Try.prog c0 hsPt (47 : FuncId) [Value.slice (some { block := (0 : Nat), off := (0 : Nat) }) n c, Value.slice (some { block := (1 : Nat), off := (0 : Nat) }) m d] [dat e (3 : Nat), dat p (2 : Nat)] K) =
    (Is (isE e n (3 : Nat)) ∧ Is (srIs n (usC e n)) ∧ Is (isL1 (srC (usC e n)) n) ∧ K (Value.slice (some { block := (2 : Nat), off := (0 : Nat) }) (1 : Nat) (1 : Nat)) (some (AObj.row e (3 : Nat) true true true) :: some (AObj.row p (2 : Nat) true true true) :: some (AObj.row [Value.int IntKind.i64 (↑(cpC (srC (usC e n)) n) : Int)] (1 : Nat) false true (List.all [Value.int IntKind.i64 (↑(cpC (srC (usC e n)) n) : Int)] atom)) :: noH)) := by kernel_rfl
theorem p4_t (e : List Value) (p : List Value) (n : Nat) (c : Nat) (m : Nat) (d : Nat) (K : Value → Heap → Prop) :
    (fnP Try.prog c0 hsPt (52 : FuncId) [Value.slice (some { block := (0 : Nat), off := (0 : Nat) }) n c, Value.slice (some { block := (1 : Nat), off := (0 : Nat) }) m d] [dat e (3 : Nat), dat p (2 : Nat)] K) =
    (Is (isE p m (2 : Nat)) ∧ Is (sameC (xsC p m) m) ∧ K (Value.slice (some { block := (2 : Nat), off := (0 : Nat) }) (1 : Nat) (1 : Nat)) (some (AObj.row e (3 : Nat) true true true) :: some (AObj.row p (2 : Nat) true true true) :: some (AObj.row [Value.int IntKind.i64 (0 : Int)] (1 : Nat) false true (List.all [Value.int IntKind.i64 (0 : Int)] atom)) :: noH)) := by kernel_rfl
theorem p6_t (e : List Value) (p : List Value) (n : Nat) (c : Nat) (m : Nat) (d : Nat) (K : Value → Heap → Prop) :
    (fnP Try.prog c0 hsPt (56 : FuncId) [Value.slice (some { block := (0 : Nat), off := (0 : Nat) }) n c, Value.slice (some { block := (1 : Nat), off := (0 : Nat) }) m d] [dat e (3 : Nat), dat p (2 : Nat)] K) =
    (Is (isE p m (2 : Nat)) ∧ Is (sameC (ysC p m) m) ∧ K (Value.slice (some { block := (2 : Nat), off := (0 : Nat) }) (1 : Nat) (1 : Nat)) (some (AObj.row e (3 : Nat) true true true) :: some (AObj.row p (2 : Nat) true true true) :: some (AObj.row [Value.int IntKind.i64 (0 : Int)] (1 : Nat) false true (List.all [Value.int IntKind.i64 (0 : Int)] atom)) :: noH)) := by kernel_rfl
theorem p8_t (e : List Value) (p : List Value) (n : Nat) (c : Nat) (m : Nat) (d : Nat) (K : Value → Heap → Prop) :
    (fnP Try.prog c0 hsPt (59 : FuncId) [Value.slice (some { block := (0 : Nat), off := (0 : Nat) }) n c, Value.slice (some { block := (1 : Nat), off := (0 : Nat) }) m d] [dat e (3 : Nat), dat p (2 : Nat)] K) =
    (Is (isE p m (2 : Nat)) ∧ K (Value.slice (some { block := (2 : Nat), off := (0 : Nat) }) m (0 : Nat)) (some (AObj.row e (3 : Nat) true true true) :: some (AObj.row p (2 : Nat) true true true) :: some (AObj.row (ysC p m) (1 : Nat) true true true) :: noH)) := by kernel_rfl
theorem isE_one {p : List Value} {m : Nat} (h : oneP p m) : isE p m 2 := by
  obtain ⟨z, h1, h2, h3, h4, _⟩ := h
  exact ⟨z, h1, h2, h3, h4⟩
theorem mp_const {g : Nat → List Int} {v : Int} : ∀ {n : Nat}, (∀ i, i < n → g i = [v]) → mp g n = List.replicate n v
  | 0, _ => rfl
  | n + 1, h => by
    rw [mp_succ, mp_const (n := n) fun i hi => h i (by omega), h n (by omega), List.replicate_succ']
theorem xs_one {p : List Value} {m : Nat} (h : oneP p m) : sameC (xsC p m) m := by
  obtain ⟨z, rfl, h2, h3, h4, x, y, hx, hy, h5⟩ := h
  refine ⟨x, ?_, h3, by omega, hx⟩
  rw [xsC, deI_ints, mp_const fun i hi => by rw [gX, (h5 i hi).1]]
theorem ys_one {p : List Value} {m : Nat} (h : oneP p m) : sameC (ysC p m) m := by
  obtain ⟨z, rfl, h2, h3, h4, x, y, hx, hy, h5⟩ := h
  refine ⟨y, ?_, h3, by omega, hy⟩
  rw [ysC, deI_ints, mp_const fun i hi => by rw [gY, (h5 i hi).2]]
noncomputable def orcP2 : OrcV
  | [.slice (some ⟨0, 0, none⟩) n _, .slice (some ⟨1, 0, none⟩) m _], [some (.row e 3 true true true), some (.row p 2 true true true)] => some (.slice (some ⟨2, 0, none⟩) 1 1, [some (.row e 3 true true true), some (.row p 2 true true true), some (.row [.int .i64 (nuC e n : Int)] 1 false true true)], isE e n 3)
  | _, _ => none
theorem okP2 : OkV Try.prog 47 orcP2 := by
  intro args H ret H' vc h hv
  unfold orcP2 at h
  split at h
  · rename_i n c m d e p
    cases h
    refine fnP_res hm c0_ok (hs := hsPt) ?_
    show fnP Try.prog c0 hsPt 47 _ [dat _ 3, dat _ 2] _
    rw [p2_t]
    obtain ⟨z, rfl, h1, h2, h3⟩ := hv
    have hl : (mp (gU z []) n).length = n * 1 := mp_len (w := 1) (fun _ => rfl) n
    refine ⟨⟨z, rfl, h1, h2, h3⟩, ⟨mp (gU z []) n, by rw [usC, deI_ints], by rw [hl, Nat.mul_one], h2, h3⟩, ⟨srt (mp (gU z []) n), by rw [srC, usC, deI_ints, deI_ints], ?_, by omega⟩, rfl, rfl⟩
    rw [srt, vals_len, rk_len, hl, Nat.mul_one]
  · cases h
noncomputable def orcP4 : OrcV
  | [.slice (some ⟨0, 0, none⟩) n _, .slice (some ⟨1, 0, none⟩) m _], [some (.row e 3 true true true), some (.row p 2 true true true)] => some (.slice (some ⟨2, 0, none⟩) 1 1, [some (.row e 3 true true true), some (.row p 2 true true true), some (.row [.int .i64 0] 1 false true true)], oneP p m)
  | _, _ => none
theorem okP4 : OkV Try.prog 52 orcP4 := by
  intro args H ret H' vc h hv
  unfold orcP4 at h
  split at h
  · cases h
    refine fnP_res hm c0_ok (hs := hsPt) ?_
    show fnP Try.prog c0 hsPt 52 _ [dat _ 3, dat _ 2] _
    rw [p4_t]
    exact ⟨⟨isE_one hv⟩, ⟨xs_one hv⟩, rfl, rfl⟩
  · cases h
noncomputable def orcP6 : OrcV
  | [.slice (some ⟨0, 0, none⟩) n _, .slice (some ⟨1, 0, none⟩) m _], [some (.row e 3 true true true), some (.row p 2 true true true)] => some (.slice (some ⟨2, 0, none⟩) 1 1, [some (.row e 3 true true true), some (.row p 2 true true true), some (.row [.int .i64 0] 1 false true true)], oneP p m)
  | _, _ => none
theorem okP6 : OkV Try.prog 56 orcP6 := by
  intro args H ret H' vc h hv
  unfold orcP6 at h
  split at h
  · cases h
    refine fnP_res hm c0_ok (hs := hsPt) ?_
    show fnP Try.prog c0 hsPt 56 _ [dat _ 3, dat _ 2] _
    rw [p6_t]
    exact ⟨⟨isE_one hv⟩, ⟨ys_one hv⟩, rfl, rfl⟩
  · cases h
noncomputable def orcP8 : OrcV
  | [.slice (some ⟨0, 0, none⟩) n _, .slice (some ⟨1, 0, none⟩) m _], [some (.row e 3 true true true), some (.row p 2 true true true)] => some (.slice (some ⟨2, 0, none⟩) m 0, [some (.row e 3 true true true), some (.row p 2 true true true), some (.row (ysC p m) 1 true true true)], oneP p m)
  | _, _ => none
theorem okP8 : OkV Try.prog 59 orcP8 := by
  intro args H ret H' vc h hv
  unfold orcP8 at h
  split at h
  · cases h
    refine fnP_res hm c0_ok (hs := hsPt) ?_
    show fnP Try.prog c0 hsPt 59 _ [dat _ 3, dat _ 2] _
    rw [p8_t]
    exact ⟨⟨isE_one hv⟩, rfl, rfl⟩
  · cases h
end
end Qq
end
section
/- Which classes are possible: the tree. -/
open Go Go.Vm Go.Proofs Sp
namespace Sp
open Qq
noncomputable section
/-- What the depths allow. -/
noncomputable def dpB (p : List Value) (m : Nat) : Bool := allIC 1 20 (ysC p m)
noncomputable def dpN (p : List Value) (m : Nat) : Nat := if dpB p m = true then 1 else 0
noncomputable def dpC (p : List Value) (m : Nat) (c : ByteArray) : List Value := if dpB p m = true then [.string c] else []
def poIs (e p : List Value) (n m r : Nat) (q : Int) (l : List Int) : Prop := (isE e n 3 ∧ oneP p m ∧ (nuC e n : Int) = q) ∧ r = 1 ∧ l = [q, 0, 0, 0, 0, 1, 20]
noncomputable def geC (e d : List Value) (n : Nat) : List Value := ints (mp (gE (deI e) (deI d)) n)
noncomputable def gqC (e d : List Value) (n : Nat) : List Value := ints (mp (gQ (deI e) (deI d)) n)
def grIs (e d : List Value) (n q a : Nat) : Prop := vD q a d ∧ ∃ z, e = ints z ∧ z.length = n * 1 ∧ 1 ≤ n ∧ n ≤ 12 ∧ ∀ i, i < n → 0 ≤ z.getD i 0 ∧ z.getD i 0 < q
end
end Sp
namespace Qq
noncomputable section
/-- The rule: a class, and all probes, and no extent, and the depths up to 20. -/
def ruC (c : ByteArray) (q : Int) : List Value := [.string c, .int .i64 q, .int .i64 q, .int .i64 0, .int .i64 0, .int .i64 0, .int .i64 0, .int .i64 1, .int .i64 20]
noncomputable def hsPo : Hs Try.prog where
  op y := if y = 910 then some (hOr (hCa Try.prog 47 orcP2 okP2) (hOr (hCa Try.prog 52 orcP4 okP4) (hOr (hCa Try.prog 56 orcP6 okP6) (hCa Try.prog 59 orcP8 okP8)))) else none
  rn := [.slot 0 1]
  au := auCalls [(38, hCa Try.prog 38 orcHa okHa)]
theorem po_t (e : List Value) (p : List Value) (c : ByteArray) (q : Int) (n : Nat) (a : Nat) (m : Nat) (b : Nat) (d : Nat) (K : Value → Heap → Prop) :
    (fnP Try.prog c0 hsPo (21 : FuncId) [Value.slice (some { block := (0 : Nat), off := (0 : Nat) }) n a, Value.slice (some { block := (1 : Nat), off := (0 : Nat) }) m b, Value.slice (some { block := (2 : Nat), off := (0 : Nat) }) (1 : Nat) d] [dat e (3 : Nat), dat p (2 : Nat), dat (ruC c q) (9 : Nat)] K) =
    (Is (isE e n (3 : Nat)) ∧ Is (numC [Value.int IntKind.i64 (↑(nuC e n) : Int)] (1 : Nat)) ∧ br (allIC q q [Value.int IntKind.i64 (↑(nuC e n) : Int)]) (Is (oneP p m) ∧ Is (numC [Value.int IntKind.i64 (0 : Int)] (1 : Nat)) ∧ Is (oneP p m) ∧ Is (numC [Value.int IntKind.i64 (0 : Int)] (1 : Nat)) ∧ Is (oneP p m) ∧ Is (numC (ysC p m) m) ∧ br (allIC (1 : Int) (20 : Int) (ysC p m)) (K (Value.slice (some { block := (3 : Nat), off := (0 : Nat) }) (1 : Nat) (0 : Nat)) (some (AObj.row e (3 : Nat) true true true) :: some (AObj.row p (2 : Nat) true true true) :: some (AObj.row [Value.string c, Value.int IntKind.i64 q, Value.int IntKind.i64 q, Value.int IntKind.i64 (0 : Int), Value.int IntKind.i64 (0 : Int), Value.int IntKind.i64 (0 : Int), Value.int IntKind.i64 (0 : Int), Value.int IntKind.i64 (1 : Int), Value.int IntKind.i64 (20 : Int)] (9 : Nat) true true true) :: some (AObj.row [Value.string c] (1 : Nat) true true (List.all [Value.string c] atom)) :: noH)) (K (Value.slice (some { block := (3 : Nat), off := (0 : Nat) }) (0 : Nat) (0 : Nat)) (some (AObj.row e (3 : Nat) true true true) :: some (AObj.row p (2 : Nat) true true true) :: some (AObj.row [Value.string c, Value.int IntKind.i64 q, Value.int IntKind.i64 q, Value.int IntKind.i64 (0 : Int), Value.int IntKind.i64 (0 : Int), Value.int IntKind.i64 (0 : Int), Value.int IntKind.i64 (0 : Int), Value.int IntKind.i64 (1 : Int), Value.int IntKind.i64 (20 : Int)] (9 : Nat) true true true) :: some (AObj.row [] (1 : Nat) true true true) :: noH))) (K (Value.slice (some { block := (3 : Nat), off := (0 : Nat) }) (0 : Nat) (0 : Nat)) (some (AObj.row e (3 : Nat) true true true) :: some (AObj.row p (2 : Nat) true true true) :: some (AObj.row [Value.string c, Value.int IntKind.i64 q, Value.int IntKind.i64 q, Value.int IntKind.i64 (0 : Int), Value.int IntKind.i64 (0 : Int), Value.int IntKind.i64 (0 : Int), Value.int IntKind.i64 (0 : Int), Value.int IntKind.i64 (1 : Int), Value.int IntKind.i64 (20 : Int)] (9 : Nat) true true true) :: some (AObj.row [] (1 : Nat) true true true) :: noH))) := by kernel_rfl
theorem num_one (x : Int) : numC [.int .i64 x] 1 := ⟨[x], rfl, rfl, by decide⟩
theorem allI_one {q : Int} : allIC q q [.int .i64 q] = true := by
  show (!([q] : List Int).any (outI q q)) = true
  rw [List.any_cons, outI, decide_eq_false (by omega)]; rfl
noncomputable def orcPo : OrcV
  | [.slice (some ⟨0, 0, none⟩) n _, .slice (some ⟨1, 0, none⟩) m _, .slice (some ⟨2, 0, none⟩) r _], [some (.row e 3 true true true), some (.row p 2 true true true), some (.row [.string c, .int .i64 q, .int .i64 a1, .int .i64 a2, .int .i64 a3, .int .i64 a4, .int .i64 a5, .int .i64 a6, .int .i64 a7] 9 true true true)] =>
    some (.slice (some ⟨3, 0, none⟩) (dpN p m) 0, [some (.row e 3 true true true), some (.row p 2 true true true), some (.row [.string c, .int .i64 q, .int .i64 a1, .int .i64 a2, .int .i64 a3, .int .i64 a4, .int .i64 a5, .int .i64 a6, .int .i64 a7] 9 true true true), some (.row (dpC p m c) 1 true true true)], poIs e p n m r q [a1, a2, a3, a4, a5, a6, a7])
  | _, _ => none
theorem okPo : OkV Try.prog 21 orcPo := by
  intro args H ret H' vc h hv
  unfold orcPo at h
  split at h
  · rename_i n a m b r d e p c q a1 a2 a3 a4 a5 a6 a7
    cases h
    obtain ⟨⟨h1, h2, h3⟩, rfl, h5⟩ := hv
    cases h5
    refine fnP_res hm c0_ok (hs := hsPo) ?_
    show fnP Try.prog c0 hsPo 21 _ [dat e 3, dat p 2, dat (ruC c q) 9] _
    rw [po_t, h3]
    have hq : numC (ysC p m) m := by
      obtain ⟨z, rfl, g1, g2, g3, _⟩ := h2
      exact ⟨mp (gY z []) m, by rw [ysC, deI_ints], by rw [mp_len (w := 1) (fun _ => rfl), Nat.mul_one], by omega⟩
    refine ⟨⟨h1⟩, ⟨num_one _⟩, br_of (fun _ => ⟨⟨h2⟩, ⟨num_one _⟩, ⟨h2⟩, ⟨num_one _⟩, ⟨h2⟩, ⟨hq⟩, br_of (fun hb => ?_) (fun hb => ?_)⟩) (fun h => ?_)⟩
    · rw [dpN, dpC, dpB, if_pos hb, if_pos hb]; exact ⟨rfl, rfl⟩
    · rw [dpN, dpC, dpB, if_neg (by rw [hb]; decide), if_neg (by rw [hb]; decide)]; exact ⟨rfl, rfl⟩
    · rw [allI_one] at h; cases h
  · cases h
noncomputable def orcME : OrcV
  | [.slice (some ⟨0, 0, none⟩) n _, .func (.func 20) ⟨[]⟩ ⟨[.pointer (some ⟨1, 0, none⟩)]⟩], [some (.row e 1 true true true), some (.row [.slice (some ⟨2, 0, none⟩) q b] 0 false true false), some (.row d 3 true true true)] =>
    some (.slice (some ⟨3, 0, none⟩) n 0, [some (.row e 1 true true true), some (.row [.slice (some ⟨2, 0, none⟩) q b] 0 false true false), some (.row d 3 true true true), some (.row (geC e d n) 3 true true true)], grIs e d n q 3)
  | _, _ => none
theorem okME : OkV Try.prog 19 orcME := by
  intro args H ret H' vc h hv
  unfold orcME at h
  split at h
  · cases h
    obtain ⟨⟨zd, rfl, hd⟩, z, rfl, h1, _, h2, h3⟩ := hv
    rw [geC, deI_ints, deI_ints]
    exact mE_ok (d := zd) h1 (by omega) fun i hi => ⟨⟨zd, rfl, hd⟩, h3 i hi⟩
  · cases h
noncomputable def orcMQ : OrcV
  | [.slice (some ⟨0, 0, none⟩) n _, .func (.func 23) ⟨[]⟩ ⟨[.pointer (some ⟨1, 0, none⟩)]⟩], [some (.row e 1 true true true), some (.row [.slice (some ⟨2, 0, none⟩) q b] 0 false true false), some (.row d 2 true true true)] =>
    some (.slice (some ⟨3, 0, none⟩) n 0, [some (.row e 1 true true true), some (.row [.slice (some ⟨2, 0, none⟩) q b] 0 false true false), some (.row d 2 true true true), some (.row (gqC e d n) 2 true true true)], grIs e d n q 2)
  | _, _ => none
theorem okMQ : OkV Try.prog 22 orcMQ := by
  intro args H ret H' vc h hv
  unfold orcMQ at h
  split at h
  · cases h
    obtain ⟨⟨zd, rfl, hd⟩, z, rfl, h1, _, h2, h3⟩ := hv
    rw [gqC, deI_ints, deI_ints]
    exact mQ_ok (d := zd) h1 (by omega) fun i hi => ⟨⟨zd, rfl, hd⟩, h3 i hi⟩
  · cases h
noncomputable def hsP1 : Hs Try.prog where
  au := auCalls [(19, hCa Try.prog 19 orcME okME), (22, hCa Try.prog 22 orcMQ okMQ), (21, hCa Try.prog 21 orcPo okPo)]
theorem q1_t (g : List Value) (e : List Value) (p : List Value) (c : ByteArray) (q : Int) (l : List Int) (a1 : Int) (a2 : Int) (a3 : Int) (a4 : Int) (a5 : Int) (a6 : Int) (a7 : Int) (n : Nat) (a : Nat) (m : Nat) (b : Nat) (k : Nat) (d : Nat) (r : Nat) (x : Nat) (K : Value → Heap → Prop) :
    (fnP Try.prog c0 hsP1 (18 : FuncId) [Value.slice (some { block := (0 : Nat), off := (0 : Nat) }) n a, Value.pointer (some { block := (1 : Nat), off := (0 : Nat) }), Value.pointer (some { block := (3 : Nat), off := (0 : Nat) }), Value.pointer (some { block := (5 : Nat), off := (0 : Nat) })] [dat g (1 : Nat), bxR m b (2 : Nat), dat e (3 : Nat), bxR k d (4 : Nat), dat p (2 : Nat), bxR r x (6 : Nat), dat [Value.string c, Value.int IntKind.i64 q, Value.int IntKind.i64 a1, Value.int IntKind.i64 a2, Value.int IntKind.i64 a3, Value.int IntKind.i64 a4, Value.int IntKind.i64 a5, Value.int IntKind.i64 a6, Value.int IntKind.i64 a7] (9 : Nat)] K) =
    (Is (grIs g e n m (3 : Nat)) ∧ Is (grIs g p n k (2 : Nat)) ∧ Is (poIs (geC g e n) (gqC g p n) n n r q [a1, a2, a3, a4, a5, a6, a7]) ∧ K (Value.slice (some { block := (7 : Nat), off := (0 : Nat) }) (dpN (gqC g p n) n) (0 : Nat)) (some (AObj.row g (1 : Nat) true true true) :: some (AObj.row [Value.slice (some { block := (2 : Nat), off := (0 : Nat) }) m b] (0 : Nat) false true false) :: some (AObj.row e (3 : Nat) true true true) :: some (AObj.row [Value.slice (some { block := (4 : Nat), off := (0 : Nat) }) k d] (0 : Nat) false true false) :: some (AObj.row p (2 : Nat) true true true) :: some (AObj.row [Value.slice (some { block := (6 : Nat), off := (0 : Nat) }) r x] (0 : Nat) false true false) :: some (AObj.row [Value.string c, Value.int IntKind.i64 q, Value.int IntKind.i64 a1, Value.int IntKind.i64 a2, Value.int IntKind.i64 a3, Value.int IntKind.i64 a4, Value.int IntKind.i64 a5, Value.int IntKind.i64 a6, Value.int IntKind.i64 a7] (9 : Nat) true true true) :: some (AObj.row (dpC (gqC g p n) n c) (1 : Nat) true true true) :: noH)) := by kernel_rfl
end
end Qq
end
section
/- The clusters of points, when near is the same: the tree. -/
open Go Go.Vm Go.Proofs Sp
namespace Sp
noncomputable section
noncomputable def eN (z : List Int) (i k : Nat) : Bool := eqAt z (i : Int) (k : Int)
/-- The points that are the i-th. -/
noncomputable def mem (z : List Int) (m i : Nat) : List Nat := (List.range m).filter fun k => eN z i k
/-- Those before i that are the first ones of theirs. -/
noncomputable def fs (z : List Int) (i : Nat) : List Nat := (List.range i).filter fun j => (List.range j).all fun k => !eN z k j
/-- What is known before round i. -/
noncomputable def sn (z : List Int) (m i : Nat) : List Nat := (fs z i).flatMap (mem z m)
noncomputable def im (L : List Nat) : List (Int × Value) := L.map fun n : Nat => ((n : Int), Value.bool true)
noncomputable def nats (r : List Nat) : List Int := r.map fun m : Nat => (m : Int)
noncomputable def grp (z : List Int) (m : Nat) (F : List Nat) (j : Nat) : List Nat := mem z m (F.getD j 0)
noncomputable def gLen (z : List Int) (m : Nat) (F : List Nat) (j : Nat) : Nat := (grp z m F j).length
noncomputable def gI2 (z : List Int) (m : Nat) (F : List Nat) (j : Nat) : List Int := nats (grp z m F j)
end
end Sp
namespace Qq
noncomputable section
/-- The groups, behind their list. -/
def gC (z : List Int) (m : Nat) (F : List Nat) (b g : Nat) : List Value := (List.range g).map fun j => .slice (some ⟨b + j, 0, none⟩) (gLen z m F j) 0
def gT (z : List Int) (m : Nat) (F : List Nat) (g : Nat) : Heap := (List.range g).map fun j => some (.row (ints (gI2 z m F j)) 1 true true true)
def gR (z : List Int) (m : Nat) (F : List Nat) (b g : Nat) : Option AObj := some (.row (gC z m F b g) 1 true true (Nat.beq g 0))
def gH (z : List Int) (m c : Nat) (F : List Nat) (g : Nat) : Heap := [some (.row (ints z) 2 true true true), some (.row [.slice (some ⟨0, 0, none⟩) m c] 0 false true false), some (.row [.int .i64 0] 0 false true true), gR z m F 4 g] ++ gT z m F g
def slG (m g i : Nat) : List (Nat × Value) := [(2, .pointer (some ⟨1, 0, none⟩)), (3, .pointer (some ⟨2, 0, none⟩)), (5, .slice (some ⟨3, 0, none⟩) g 0), (6, .map (some (4 + g))), (12, .int .i64 (m : Int)), (13, .int .i64 (i : Int))]
noncomputable def lpO (z : List Int) (m c g : Nat) : Lp where
  σ := Nat
  E i := slots 52 (slG m g i)
  Hp i := gH z m c (fs z i) g ++ [some (.imap (im (sn z m i)))]
  I i := i ≤ m ∧ (fs z i).length = g
  m i := m - i
noncomputable def lpA (z : List Int) (m c g i : Nat) : Lp where
  σ := Nat
  E q := slots 52 (slG m g i ++ [(7, .int .i64 (i : Int)), (8, .slice (some ⟨5 + g, 0, none⟩) q 0)])
  Hp q := gH z m c (fs z i) g ++ [some (.imap (im (sn z m i ++ (mem z m i).take q))), some (.row (ints (nats ((mem z m i).take q))) 1 true true true)]
  I q := (i < m ∧ (fs z i).length = g ∧ i ∉ sn z m i) ∧ 1 ≤ q ∧ q ≤ (mem z m i).length
  m q := (mem z m i).length - q
noncomputable def lpB (z : List Int) (m c g : Nat) (p : Nat × Nat) : Lp where
  σ := Nat
  E k := slots 52 (slG m g p.1 ++ [(7, .int .i64 (p.1 : Int)), (8, .slice (some ⟨5 + g, 0, none⟩) p.2 0), (24, .int .i64 (m : Int)), (25, .int .i64 (k : Int))])
  Hp _ := gH z m c (fs z p.1) g ++ [some (.imap (im (sn z m p.1 ++ (mem z m p.1).take p.2))), some (.row (ints (nats ((mem z m p.1).take p.2))) 1 true true true)]
  I k := (p.1 < m ∧ (fs z p.1).length = g ∧ p.1 ∉ sn z m p.1) ∧ (1 ≤ p.2 ∧ p.2 ≤ (mem z m p.1).length) ∧ k ≤ m ∧ ∀ j, j < k → eN z p.1 j = true → j ∈ (mem z m p.1).take p.2
  m k := m - k
def gOf (env : List Value) : Nat := match gt env 5 with
  | .slice _ n _ => n
  | _ => 9
noncomputable def hsCl (z : List Int) (m c : Nat) : Hs Try.prog where
  op y := if y = 200 then some (hMn Try.prog) else if [602, 1202].contains y then some (hIl Try.prog) else if [702, 1302].contains y then some (hIu Try.prog) else if [1403, 1703].contains y then some (hAp Try.prog) else none
  lf y := if y = 4 then some ⟨5, gOf, fun g => lpO z m c g⟩ else none
  lx y env := if y = 9 then some ⟨Nat, fun i => lpA z m c (gOf env) i⟩ else if y = 10 then some ⟨Nat × Nat, fun p => lpB z m c (gOf env) p⟩ else none
  cl y := if y = 4 then keep 52 [2, 3, 5, 6, 12, 13] else if y = 9 then keep 52 [2, 3, 5, 6, 7, 8, 12, 13] else keep 52 [2, 3, 5, 6, 7, 8, 12, 13, 24, 25]
  nl y := if y = 4 then [.only (.slot 5 1)] else if y = 9 then [.loos 8] else []
  sm := true
  au := auCalls [(31, hCa Try.prog 31 orcCf okCf), (34, hCa Try.prog 34 orcSt okSt)]
/-- A further group. -/
def gN (z : List Int) (m c : Nat) (F : List Nat) (g q : Nat) : Heap := [some (.row (ints z) 2 true true true), some (.row [.slice (some ⟨0, 0, none⟩) m c] 0 false true false), some (.row [.int .i64 0] 0 false true true), some (.row (gC z m F 4 g ++ [.slice (some ⟨4 + g, 0, none⟩) q 0]) 1 true true false)] ++ gT z m F g
/-- What comes back. -/
def gK (z : List Int) (m : Nat) (F : List Nat) (g : Nat) : Heap := some (.row (ints z) 2 true true true) :: gR z m F 2 g :: gT z m F g
/-- The first group asks a little more. -/
def ap0 : Nat → Prop → Prop
  | 0, X => Is ((0 : Nat) = 0 ∧ (24 : Nat) ≤ 140737488355328 ∧ (1 : Nat) ≤ 9223372036854775807) ∧ X
  | _ + 1, X => X
def clR (z : List Int) (m c g : Nat) (K : Value → Heap → Prop) : Prop :=
  ∀ (s : Nat), Is (s ≤ m ∧ List.length (fs z s) = g) → br (decide ((↑s : Int) < (↑m : Int))) (Is (allI (im (sn z m s))) ∧ br (hasI (↑s : Int) (im (sn z m s))) (∃ (s' : Nat), Is (s' ≤ m ∧ List.length (fs z s') = g) ∧ Is (m - s' < m - s) ∧ (Value.pointer (some { block := (1 : Nat), off := (0 : Nat) }) = Value.pointer (some { block := (1 : Nat), off := (0 : Nat) }) ∧ Value.pointer (some { block := (2 : Nat), off := (0 : Nat) }) = Value.pointer (some { block := (2 : Nat), off := (0 : Nat) }) ∧ Value.slice (some { block := (3 : Nat), off := (0 : Nat) }) g (0 : Nat) = Value.slice (some { block := (3 : Nat), off := (0 : Nat) }) g (0 : Nat) ∧ Value.map (some (4 + g)) = Value.map (some (4 + g)) ∧ Value.int IntKind.i64 (↑m : Int) = Value.int IntKind.i64 (↑m : Int) ∧ Value.int IntKind.i64 (IntKind.wrap IntKind.i64 ((↑s : Int) + (1 : Int))) = Value.int IntKind.i64 (↑s' : Int) ∧ True) ∧ gH z m c (fs z s) g ++ some (AObj.imap (im (sn z m s))) :: noH = gH z m c (fs z s') g ++ some (AObj.imap (im (sn z m s'))) :: noH) (Is (allI (im (sn z m s)) ∧ hasI (↑s : Int) (im (sn z m s)) = false) ∧ ∃ (p : Nat), (∃ (s_1 : Nat), Is ((p < m ∧ List.length (fs z p) = g ∧ ¬p ∈ sn z m p) ∧ (1 : Nat) ≤ s_1 ∧ s_1 ≤ List.length (mem z m p)) ∧ (Value.pointer (some { block := (1 : Nat), off := (0 : Nat) }) = Value.pointer (some { block := (1 : Nat), off := (0 : Nat) }) ∧ Value.pointer (some { block := (2 : Nat), off := (0 : Nat) }) = Value.pointer (some { block := (2 : Nat), off := (0 : Nat) }) ∧ Value.slice (some { block := (3 : Nat), off := (0 : Nat) }) g (0 : Nat) = Value.slice (some { block := (3 : Nat), off := (0 : Nat) }) g (0 : Nat) ∧ Value.map (some (4 + g)) = Value.map (some (4 + g)) ∧ Value.int IntKind.i64 (↑s : Int) = Value.int IntKind.i64 (↑p : Int) ∧ Value.slice (some { block := 5 + g, off := (0 : Nat) }) (1 : Nat) (0 : Nat) = Value.slice (some { block := 5 + g, off := (0 : Nat) }) s_1 (0 : Nat) ∧ Value.int IntKind.i64 (↑m : Int) = Value.int IntKind.i64 (↑m : Int) ∧ Value.int IntKind.i64 (↑s : Int) = Value.int IntKind.i64 (↑p : Int) ∧ True) ∧ gH z m c (fs z s) g ++ some (AObj.imap (im (sn z m s) ++ [((↑s : Int), Value.bool true)])) :: some (AObj.row [Value.int IntKind.i64 (↑s : Int)] (1 : Nat) true true (List.all [Value.int IntKind.i64 (↑s : Int)] atom)) :: noH = gH z m c (fs z p) g ++ some (AObj.imap (im (sn z m p ++ List.take s_1 (mem z m p)))) :: some (AObj.row (ints (nats (List.take s_1 (mem z m p)))) (1 : Nat) true true true) :: noH) ∧ ∀ (s_1 : Nat), Is ((p < m ∧ List.length (fs z p) = g ∧ ¬p ∈ sn z m p) ∧ (1 : Nat) ≤ s_1 ∧ s_1 ≤ List.length (mem z m p)) → ∃ (p_1 : Nat × Nat), (∃ (s : Nat), Is ((Prod.fst p_1 < m ∧ List.length (fs z (Prod.fst p_1)) = g ∧ ¬Prod.fst p_1 ∈ sn z m (Prod.fst p_1)) ∧ ((1 : Nat) ≤ Prod.snd p_1 ∧ Prod.snd p_1 ≤ List.length (mem z m (Prod.fst p_1))) ∧ s ≤ m ∧ ∀ (j : Nat), j < s → eN z (Prod.fst p_1) j = true → j ∈ List.take (Prod.snd p_1) (mem z m (Prod.fst p_1))) ∧ (Value.pointer (some { block := (1 : Nat), off := (0 : Nat) }) = Value.pointer (some { block := (1 : Nat), off := (0 : Nat) }) ∧ Value.pointer (some { block := (2 : Nat), off := (0 : Nat) }) = Value.pointer (some { block := (2 : Nat), off := (0 : Nat) }) ∧ Value.slice (some { block := (3 : Nat), off := (0 : Nat) }) g (0 : Nat) = Value.slice (some { block := (3 : Nat), off := (0 : Nat) }) g (0 : Nat) ∧ Value.map (some (4 + g)) = Value.map (some (4 + g)) ∧ Value.int IntKind.i64 (↑p : Int) = Value.int IntKind.i64 (↑(Prod.fst p_1) : Int) ∧ Value.slice (some { block := 5 + g, off := (0 : Nat) }) s_1 (0 : Nat) = Value.slice (some { block := 5 + g, off := (0 : Nat) }) (Prod.snd p_1) (0 : Nat) ∧ Value.int IntKind.i64 (↑m : Int) = Value.int IntKind.i64 (↑m : Int) ∧ Value.int IntKind.i64 (↑p : Int) = Value.int IntKind.i64 (↑(Prod.fst p_1) : Int) ∧ Value.int IntKind.i64 (↑m : Int) = Value.int IntKind.i64 (↑m : Int) ∧ Value.int IntKind.i64 (0 : Int) = Value.int IntKind.i64 (↑s : Int) ∧ True) ∧ gH z m c (fs z p) g ++ some (AObj.imap (im (sn z m p ++ List.take s_1 (mem z m p)))) :: some (AObj.row (ints (nats (List.take s_1 (mem z m p)))) (1 : Nat) true true true) :: noH = gH z m c (fs z (Prod.fst p_1)) g ++ some (AObj.imap (im (sn z m (Prod.fst p_1) ++ List.take (Prod.snd p_1) (mem z m (Prod.fst p_1))))) :: some (AObj.row (ints (nats (List.take (Prod.snd p_1) (mem z m (Prod.fst p_1))))) (1 : Nat) true true true) :: noH) ∧ ∀ (s_2 : Nat), Is ((Prod.fst p_1 < m ∧ List.length (fs z (Prod.fst p_1)) = g ∧ ¬Prod.fst p_1 ∈ sn z m (Prod.fst p_1)) ∧ ((1 : Nat) ≤ Prod.snd p_1 ∧ Prod.snd p_1 ≤ List.length (mem z m (Prod.fst p_1))) ∧ s_2 ≤ m ∧ ∀ (j : Nat), j < s_2 → eN z (Prod.fst p_1) j = true → j ∈ List.take (Prod.snd p_1) (mem z m (Prod.fst p_1))) → br (decide ((↑s_2 : Int) < (↑m : Int))) (Is (allI (im (sn z m (Prod.fst p_1) ++ List.take (Prod.snd p_1) (mem z m (Prod.fst p_1))))) ∧ br (!hasI (↑s_2 : Int) (im (sn z m (Prod.fst p_1) ++ List.take (Prod.snd p_1) (mem z m (Prod.fst p_1))))) (Is (anIs (ints z) (ints (nats (List.take (Prod.snd p_1) (mem z m (Prod.fst p_1))))) m (Prod.snd p_1) (↑s_2 : Int) (0 : Int)) ∧ br (anC (ints z) (ints (nats (List.take (Prod.snd p_1) (mem z m (Prod.fst p_1))))) (↑s_2 : Int)) (Is (allI (im (sn z m (Prod.fst p_1) ++ List.take (Prod.snd p_1) (mem z m (Prod.fst p_1)))) ∧ hasI (↑s_2 : Int) (im (sn z m (Prod.fst p_1) ++ List.take (Prod.snd p_1) (mem z m (Prod.fst p_1)))) = false) ∧ Is (List.length (ints (nats (List.take (Prod.snd p_1) (mem z m (Prod.fst p_1))))) = Prod.snd p_1 * (1 : Nat) ∧ (Prod.snd p_1 + (1 : Nat)) * (8 : Nat) ≤ (140737488355328 : Nat) ∧ Prod.snd p_1 + (1 : Nat) ≤ (9223372036854775807 : Nat)) ∧ ∃ (s' : Nat), Is ((p < m ∧ List.length (fs z p) = g ∧ ¬p ∈ sn z m p) ∧ (1 : Nat) ≤ s' ∧ s' ≤ List.length (mem z m p)) ∧ Is (List.length (mem z m p) - s' < List.length (mem z m p) - s_1) ∧ (Value.pointer (some { block := (1 : Nat), off := (0 : Nat) }) = Value.pointer (some { block := (1 : Nat), off := (0 : Nat) }) ∧ Value.pointer (some { block := (2 : Nat), off := (0 : Nat) }) = Value.pointer (some { block := (2 : Nat), off := (0 : Nat) }) ∧ Value.slice (some { block := (3 : Nat), off := (0 : Nat) }) g (0 : Nat) = Value.slice (some { block := (3 : Nat), off := (0 : Nat) }) g (0 : Nat) ∧ Value.map (some (4 + g)) = Value.map (some (4 + g)) ∧ Value.int IntKind.i64 (↑(Prod.fst p_1) : Int) = Value.int IntKind.i64 (↑p : Int) ∧ Value.slice (some { block := 5 + g, off := (0 : Nat) }) (Prod.snd p_1 + (1 : Nat)) (0 : Nat) = Value.slice (some { block := 5 + g, off := (0 : Nat) }) s' (0 : Nat) ∧ Value.int IntKind.i64 (↑m : Int) = Value.int IntKind.i64 (↑m : Int) ∧ Value.int IntKind.i64 (↑(Prod.fst p_1) : Int) = Value.int IntKind.i64 (↑p : Int) ∧ True) ∧ gH z m c (fs z (Prod.fst p_1)) g ++ some (AObj.imap (im (sn z m (Prod.fst p_1) ++ List.take (Prod.snd p_1) (mem z m (Prod.fst p_1))) ++ [((↑s_2 : Int), Value.bool true)])) :: some (AObj.row (ints (nats (List.take (Prod.snd p_1) (mem z m (Prod.fst p_1)))) ++ [Value.int IntKind.i64 (↑s_2 : Int)]) (1 : Nat) true true (List.all [Value.int IntKind.i64 (↑s_2 : Int)] atom)) :: noH = gH z m c (fs z p) g ++ some (AObj.imap (im (sn z m p ++ List.take s' (mem z m p)))) :: some (AObj.row (ints (nats (List.take s' (mem z m p)))) (1 : Nat) true true true) :: noH) (∃ (s' : Nat), Is ((Prod.fst p_1 < m ∧ List.length (fs z (Prod.fst p_1)) = g ∧ ¬Prod.fst p_1 ∈ sn z m (Prod.fst p_1)) ∧ ((1 : Nat) ≤ Prod.snd p_1 ∧ Prod.snd p_1 ≤ List.length (mem z m (Prod.fst p_1))) ∧ s' ≤ m ∧ ∀ (j : Nat), j < s' → eN z (Prod.fst p_1) j = true → j ∈ List.take (Prod.snd p_1) (mem z m (Prod.fst p_1))) ∧ Is (m - s' < m - s_2) ∧ (Value.pointer (some { block := (1 : Nat), off := (0 : Nat) }) = Value.pointer (some { block := (1 : Nat), off := (0 : Nat) }) ∧ Value.pointer (some { block := (2 : Nat), off := (0 : Nat) }) = Value.pointer (some { block := (2 : Nat), off := (0 : Nat) }) ∧ Value.slice (some { block := (3 : Nat), off := (0 : Nat) }) g (0 : Nat) = Value.slice (some { block := (3 : Nat), off := (0 : Nat) }) g (0 : Nat) ∧ Value.map (some (4 + g)) = Value.map (some (4 + g)) ∧ Value.int IntKind.i64 (↑(Prod.fst p_1) : Int) = Value.int IntKind.i64 (↑(Prod.fst p_1) : Int) ∧ Value.slice (some { block := 5 + g, off := (0 : Nat) }) (Prod.snd p_1) (0 : Nat) = Value.slice (some { block := 5 + g, off := (0 : Nat) }) (Prod.snd p_1) (0 : Nat) ∧ Value.int IntKind.i64 (↑m : Int) = Value.int IntKind.i64 (↑m : Int) ∧ Value.int IntKind.i64 (↑(Prod.fst p_1) : Int) = Value.int IntKind.i64 (↑(Prod.fst p_1) : Int) ∧ Value.int IntKind.i64 (↑m : Int) = Value.int IntKind.i64 (↑m : Int) ∧ Value.int IntKind.i64 (IntKind.wrap IntKind.i64 ((↑s_2 : Int) + (1 : Int))) = Value.int IntKind.i64 (↑s' : Int) ∧ True) ∧ gH z m c (fs z (Prod.fst p_1)) g ++ some (AObj.imap (im (sn z m (Prod.fst p_1) ++ List.take (Prod.snd p_1) (mem z m (Prod.fst p_1))))) :: some (AObj.row (ints (nats (List.take (Prod.snd p_1) (mem z m (Prod.fst p_1))))) (1 : Nat) true true true) :: noH = gH z m c (fs z (Prod.fst p_1)) g ++ some (AObj.imap (im (sn z m (Prod.fst p_1) ++ List.take (Prod.snd p_1) (mem z m (Prod.fst p_1))))) :: some (AObj.row (ints (nats (List.take (Prod.snd p_1) (mem z m (Prod.fst p_1))))) (1 : Nat) true true true) :: noH)) (∃ (s' : Nat), Is ((Prod.fst p_1 < m ∧ List.length (fs z (Prod.fst p_1)) = g ∧ ¬Prod.fst p_1 ∈ sn z m (Prod.fst p_1)) ∧ ((1 : Nat) ≤ Prod.snd p_1 ∧ Prod.snd p_1 ≤ List.length (mem z m (Prod.fst p_1))) ∧ s' ≤ m ∧ ∀ (j : Nat), j < s' → eN z (Prod.fst p_1) j = true → j ∈ List.take (Prod.snd p_1) (mem z m (Prod.fst p_1))) ∧ Is (m - s' < m - s_2) ∧ (Value.pointer (some { block := (1 : Nat), off := (0 : Nat) }) = Value.pointer (some { block := (1 : Nat), off := (0 : Nat) }) ∧ Value.pointer (some { block := (2 : Nat), off := (0 : Nat) }) = Value.pointer (some { block := (2 : Nat), off := (0 : Nat) }) ∧ Value.slice (some { block := (3 : Nat), off := (0 : Nat) }) g (0 : Nat) = Value.slice (some { block := (3 : Nat), off := (0 : Nat) }) g (0 : Nat) ∧ Value.map (some (4 + g)) = Value.map (some (4 + g)) ∧ Value.int IntKind.i64 (↑(Prod.fst p_1) : Int) = Value.int IntKind.i64 (↑(Prod.fst p_1) : Int) ∧ Value.slice (some { block := 5 + g, off := (0 : Nat) }) (Prod.snd p_1) (0 : Nat) = Value.slice (some { block := 5 + g, off := (0 : Nat) }) (Prod.snd p_1) (0 : Nat) ∧ Value.int IntKind.i64 (↑m : Int) = Value.int IntKind.i64 (↑m : Int) ∧ Value.int IntKind.i64 (↑(Prod.fst p_1) : Int) = Value.int IntKind.i64 (↑(Prod.fst p_1) : Int) ∧ Value.int IntKind.i64 (↑m : Int) = Value.int IntKind.i64 (↑m : Int) ∧ Value.int IntKind.i64 (IntKind.wrap IntKind.i64 ((↑s_2 : Int) + (1 : Int))) = Value.int IntKind.i64 (↑s' : Int) ∧ True) ∧ gH z m c (fs z (Prod.fst p_1)) g ++ some (AObj.imap (im (sn z m (Prod.fst p_1) ++ List.take (Prod.snd p_1) (mem z m (Prod.fst p_1))))) :: some (AObj.row (ints (nats (List.take (Prod.snd p_1) (mem z m (Prod.fst p_1))))) (1 : Nat) true true true) :: noH = gH z m c (fs z (Prod.fst p_1)) g ++ some (AObj.imap (im (sn z m (Prod.fst p_1) ++ List.take (Prod.snd p_1) (mem z m (Prod.fst p_1))))) :: some (AObj.row (ints (nats (List.take (Prod.snd p_1) (mem z m (Prod.fst p_1))))) (1 : Nat) true true true) :: noH)) (Is (srIs (Prod.snd p_1) (ints (nats (List.take (Prod.snd p_1) (mem z m (Prod.fst p_1)))))) ∧ ap0 g (br (Nat.blt (g + 1) 5) (∃ (s' : Nat), Is (s' ≤ m ∧ List.length (fs z s') = g + 1) ∧ Is (m - s' < m - s) ∧ (Value.pointer (some { block := (1 : Nat), off := (0 : Nat) }) = Value.pointer (some { block := (1 : Nat), off := (0 : Nat) }) ∧ Value.pointer (some { block := (2 : Nat), off := (0 : Nat) }) = Value.pointer (some { block := (2 : Nat), off := (0 : Nat) }) ∧ Value.slice (some { block := (3 : Nat), off := (0 : Nat) }) (g + 1) (0 : Nat) = Value.slice (some { block := (3 : Nat), off := (0 : Nat) }) (g + 1) (0 : Nat) ∧ Value.map (some (5 + g)) = Value.map (some (5 + g)) ∧ Value.int IntKind.i64 (↑m : Int) = Value.int IntKind.i64 (↑m : Int) ∧ Value.int IntKind.i64 (IntKind.wrap IntKind.i64 ((↑(Prod.fst p_1) : Int) + (1 : Int))) = Value.int IntKind.i64 (↑s' : Int) ∧ True) ∧ gN z m c (fs z (Prod.fst p_1)) g (Prod.snd p_1) ++ some (AObj.row (srC (ints (nats (List.take (Prod.snd p_1) (mem z m (Prod.fst p_1)))))) (1 : Nat) true true true) :: some (AObj.imap (im (sn z m (Prod.fst p_1) ++ List.take (Prod.snd p_1) (mem z m (Prod.fst p_1))))) :: noH = gH z m c (fs z s') (g + 1) ++ some (AObj.imap (im (sn z m s'))) :: noH) False)))) (K (Value.slice (some { block := (1 : Nat), off := (0 : Nat) }) g (0 : Nat)) (gK z m (fs z s) g))
theorem cl_t (z : List Int) (m : Nat) (c : Nat) (K : Value → Heap → Prop) :
    fnP Try.prog c0 (hsCl z m c) 15 [.slice (some ⟨0, 0, none⟩) m c, .int .i64 0] [some (.row (ints z) 2 true true true)] K =
    (Is True ∧ (∃ (s : Nat), Is (s ≤ m ∧ (fs z s).length = 0) ∧ ((.pointer (some ⟨1, 0, none⟩) : Value) = .pointer (some ⟨1, 0, none⟩) ∧ (.pointer (some ⟨2, 0, none⟩) : Value) = .pointer (some ⟨2, 0, none⟩) ∧ (.slice (some ⟨3, 0, none⟩) 0 0 : Value) = .slice (some ⟨3, 0, none⟩) 0 0 ∧ (.map (some 4) : Value) = .map (some 4) ∧ (.int .i64 (m : Int) : Value) = .int .i64 (m : Int) ∧ (.int .i64 0 : Value) = .int .i64 (s : Int) ∧ True) ∧ gH z m c [] 0 ++ [some (.imap [])] = gH z m c (fs z s) 0 ++ [some (.imap (im (sn z m s)))]) ∧
      ((((True ∧ clR z m c 0 K) ∧ clR z m c 1 K) ∧ clR z m c 2 K) ∧ clR z m c 3 K) ∧ clR z m c 4 K) := by kernel_rfl
end
end Qq
end
section
/- Points that are the same: plain facts. -/
open Go Go.Vm Go.Proofs Sp
namespace Qq
noncomputable section
theorem eN_iff {z : List Int} {i k : Nat} : eN z i k = true ↔ z.getD (i * 2) 0 = z.getD (k * 2) 0 ∧ z.getD (i * 2 + 1) 0 = z.getD (k * 2 + 1) 0 := by
  rw [eN, eqAt, decide_eq_true_eq, Int.toNat_natCast, Int.toNat_natCast]
theorem eN_refl (z : List Int) (i : Nat) : eN z i i = true := eN_iff.2 ⟨rfl, rfl⟩
theorem eN_symm {z : List Int} {i k : Nat} (h : eN z i k = true) : eN z k i = true := by
  rw [eN_iff] at h ⊢; exact ⟨h.1.symm, h.2.symm⟩
theorem eN_trans {z : List Int} {i j k : Nat} (h : eN z i j = true) (h2 : eN z j k = true) : eN z i k = true := by
  rw [eN_iff] at h h2 ⊢; exact ⟨h.1.trans h2.1, h.2.trans h2.2⟩
theorem mem_iff {z : List Int} {m i k : Nat} : k ∈ mem z m i ↔ k < m ∧ eN z i k = true := by
  rw [mem, List.mem_filter, List.mem_range]
theorem fs_iff {z : List Int} {i j : Nat} : j ∈ fs z i ↔ j < i ∧ ∀ k, k < j → eN z k j = false := by
  rw [fs, List.mem_filter, List.mem_range, List.all_eq_true]
  constructor
  · rintro ⟨h1, h2⟩
    exact ⟨h1, fun k hk => by have := h2 k (List.mem_range.2 hk); simpa using this⟩
  · rintro ⟨h1, h2⟩
    exact ⟨h1, fun k hk => by rw [h2 k (List.mem_range.1 hk)]; rfl⟩
/-- The first one of a point. -/
theorem fst_of {z : List Int} : ∀ (j k : Nat), eN z j k = true → ∃ f, f ≤ j ∧ eN z f k = true ∧ ∀ q, q < f → eN z q f = false
  | j, k, h => by
    by_cases hex : ∃ q, q < j ∧ eN z q j = true
    · obtain ⟨q, hq, hqj⟩ := hex
      obtain ⟨f, f1, f2, f3⟩ := fst_of q k (eN_trans hqj h)
      exact ⟨f, by omega, f2, f3⟩
    · refine ⟨j, Nat.le_refl _, h, fun q hq => ?_⟩
      cases e : eN z q j
      · rfl
      · exact absurd ⟨q, hq, e⟩ hex
theorem sn_iff {z : List Int} {m i k : Nat} : k ∈ sn z m i ↔ k < m ∧ ∃ j, j < i ∧ eN z j k = true := by
  rw [sn, List.mem_flatMap]
  constructor
  · rintro ⟨f, h1, h2⟩
    rw [mem_iff] at h2
    exact ⟨h2.1, f, (fs_iff.1 h1).1, h2.2⟩
  · rintro ⟨h1, j, h2, h3⟩
    obtain ⟨f, f1, f2, f3⟩ := fst_of j k h3
    exact ⟨f, fs_iff.2 ⟨by omega, f3⟩, mem_iff.2 ⟨h1, f2⟩⟩
theorem hasI_im (k : Nat) : ∀ L : List Nat, hasI (k : Int) (im L) = decide (k ∈ L)
  | [] => rfl
  | a :: L => by
    rw [im, List.map_cons, hasI]
    have ih := hasI_im k L
    rw [im] at ih
    rw [ih]
    by_cases h : k = a
    · subst h; simp
    · have : ((k : Int) == (a : Int)) = false := by
        cases e : ((k : Int) == (a : Int))
        · rfl
        · have := eq_of_beq e; omega
      rw [this, Bool.false_or]
      simp [h]
theorem allI_im (L : List Nat) : allI (im L) := by
  intro p hp
  rw [im, List.mem_map] at hp
  obtain ⟨a, _, rfl⟩ := hp; rfl
theorem im_app (A B : List Nat) : im (A ++ B) = im A ++ im B := List.map_append
theorem no_before {z : List Int} {m i : Nat} (hi : i < m) (h : i ∉ sn z m i) {j : Nat} (hj : j < i) : eN z j i = false := by
  cases e : eN z j i
  · rfl
  · exact absurd (sn_iff.2 ⟨hi, j, hj, e⟩) h
theorem fs_new {z : List Int} {m i : Nat} (hi : i < m) (h : i ∉ sn z m i) : fs z (i + 1) = fs z i ++ [i] := by
  rw [fs, fs, List.range_succ, List.filter_append]
  congr 1
  have : (List.range i).all (fun k => !eN z k i) = true := by
    rw [List.all_eq_true]
    intro k hk
    rw [no_before hi h (List.mem_range.1 hk)]; rfl
  simp only [List.filter_cons, this, List.filter_nil, if_true]
theorem fs_old {z : List Int} {m i : Nat} (h : i ∈ sn z m i) : fs z (i + 1) = fs z i := by
  rw [fs, fs, List.range_succ, List.filter_append]
  obtain ⟨_, j, hj, he⟩ := sn_iff.1 h
  have : (List.range i).all (fun k => !eN z k i) = false := by
    rw [List.all_eq_false]
    exact ⟨j, List.mem_range.2 hj, by rw [he]; decide⟩
  simp only [List.filter_cons, this, List.filter_nil, Bool.false_eq_true, if_false, List.append_nil]
theorem sn_new {z : List Int} {m i : Nat} (hi : i < m) (h : i ∉ sn z m i) : sn z m (i + 1) = sn z m i ++ mem z m i := by
  rw [sn, sn, fs_new hi h, List.flatMap_append, List.flatMap_singleton]
theorem sn_old {z : List Int} {m i : Nat} (h : i ∈ sn z m i) : sn z m (i + 1) = sn z m i := by
  rw [sn, sn, fs_old h]
theorem mem_inc (z : List Int) (m i : Nat) : (mem z m i).Pairwise (· < ·) := List.Pairwise.filter _ List.pairwise_lt_range
theorem mem_split {z : List Int} {m i q : Nat} (hq : q < (mem z m i).length) : ∃ x r, (mem z m i).drop q = x :: r ∧ (mem z m i).take (q + 1) = (mem z m i).take q ++ [x] ∧ x ∈ mem z m i ∧ x ∉ (mem z m i).take q ∧ ∀ k, k ∈ mem z m i → k ∉ (mem z m i).take q → x ≤ k := by
  have hd := List.drop_eq_getElem_cons hq
  have hp := mem_inc z m i
  rw [← List.take_append_drop q (mem z m i), hd, List.pairwise_append] at hp
  obtain ⟨_, h2, h3⟩ := hp
  refine ⟨_, _, hd, List.take_succ_eq_append_getElem hq, List.getElem_mem hq, fun h => ?_, fun k hk hn => ?_⟩
  · have := h3 _ h _ (List.mem_cons_self ..)
    omega
  · rw [← List.take_append_drop q (mem z m i), List.mem_append] at hk
    rcases hk with hk | hk
    · exact absurd hk hn
    · rw [hd, List.mem_cons] at hk
      rcases hk with rfl | hk
      · exact Nat.le_refl _
      · exact Nat.le_of_lt ((List.pairwise_cons.1 h2).1 k hk)
theorem len_pos {z : List Int} {m i : Nat} (hi : i < m) : 0 < (mem z m i).length := List.length_pos_of_mem (mem_iff.2 ⟨hi, eN_refl z i⟩)
theorem take_one {z : List Int} {m i : Nat} (hi : i < m) (h : i ∉ sn z m i) : (mem z m i).take 1 = [i] := by
  obtain ⟨x, r, _, h2, h3, _, h5⟩ := mem_split (len_pos (z := z) hi)
  have h2 : (mem z m i).take 1 = [x] := by simpa using h2
  have hx := h5 i (mem_iff.2 ⟨hi, eN_refl z i⟩) (by simp)
  have : x = i := by
    rcases Nat.lt_or_ge x i with hlt | hge
    · have := no_before hi h hlt
      rw [eN_symm (mem_iff.1 h3).2] at this; cases this
    · omega
  rw [h2, this]
/-- The next one is found. -/
theorem take_next {z : List Int} {m i q k : Nat} (hk : k < m) (he : eN z i k = true) (hn : k ∉ (mem z m i).take q) (hb : ∀ j, j < k → eN z i j = true → j ∈ (mem z m i).take q) (hq : q ≤ (mem z m i).length) :
    q < (mem z m i).length ∧ (mem z m i).take (q + 1) = (mem z m i).take q ++ [k] := by
  have hk' : k ∈ mem z m i := mem_iff.2 ⟨hk, he⟩
  have hlt : q < (mem z m i).length := by
    rcases Nat.lt_or_ge q (mem z m i).length with h | h
    · exact h
    · rw [List.take_of_length_le h] at hn; exact absurd hk' hn
  refine ⟨hlt, ?_⟩
  obtain ⟨x, r, _, h2, h3, h4, h5⟩ := mem_split hlt
  have hx := h5 k hk' hn
  have : x = k := by
    rcases Nat.lt_or_ge x k with h | h
    · exact absurd (hb x h (mem_iff.1 h3).2) h4
    · omega
  rw [h2, this]
/-- There is none more. -/
theorem take_all {z : List Int} {m i q : Nat} (hb : ∀ j, j < m → eN z i j = true → j ∈ (mem z m i).take q) (hq : q ≤ (mem z m i).length) : (mem z m i).take q = mem z m i ∧ q = (mem z m i).length := by
  have : ¬ q < (mem z m i).length := fun h => by
    obtain ⟨x, r, _, _, h3, h4, _⟩ := mem_split h
    obtain ⟨a, b⟩ := mem_iff.1 h3
    exact h4 (hb x a b)
  exact ⟨List.take_of_length_le (by omega), by omega⟩
theorem any_in {z : List Int} {m i q k : Nat} (hq : 1 ≤ q) (hq2 : q ≤ (mem z m i).length) : anyP z (nats ((mem z m i).take q)) (k : Int) = eN z i k := by
  have hall : ∀ g ∈ nats ((mem z m i).take q), eqAt z g (k : Int) = eN z i k := fun g hg => by
    rw [nats, List.mem_map] at hg
    obtain ⟨a, ha, rfl⟩ := hg
    have ha := (mem_iff.1 (List.mem_of_mem_take ha)).2
    show eN z a k = eN z i k
    cases e : eN z i k
    · cases e2 : eN z a k
      · rfl
      · rw [eN_trans ha e2] at e; cases e
    · exact eN_trans (eN_symm ha) e
  have hne : nats ((mem z m i).take q) ≠ [] := by
    intro e
    have := congrArg List.length e
    rw [nats, List.length_map, List.length_take, List.length_nil] at this
    omega
  rw [anyP]
  cases e : eN z i k
  · rw [List.any_eq_false]
    intro g hg
    rw [hall g hg, e]; decide
  · rw [List.any_eq_true]
    obtain ⟨g, hg⟩ := List.exists_mem_of_ne_nil _ hne
    exact ⟨g, hg, by rw [hall g hg, e]⟩
theorem nats_app (A B : List Nat) : nats (A ++ B) = nats A ++ nats B := List.map_append
theorem nats_len (A : List Nat) : (nats A).length = A.length := List.length_map ..
theorem up_of : ∀ {L : List Nat}, L.Pairwise (· < ·) → isUp (nats L)
  | [], _ => trivial
  | [_], _ => trivial
  | a :: b :: r, h => by
    obtain ⟨h1, h2⟩ := List.pairwise_cons.1 h
    have := h1 b (List.mem_cons_self ..)
    exact ⟨by show ((a : Nat) : Int) ≤ (b : Int); omega, up_of h2⟩
theorem mem_le (z : List Int) (m i : Nat) : (mem z m i).length ≤ m := by
  have := List.length_filter_le (fun k => eN z i k) (List.range m)
  rw [List.length_range] at this; exact this
theorem fs_le {z : List Int} {i n : Nat} (h : i ≤ n) : (fs z i).length ≤ (fs z n).length := by
  induction n with
  | zero =>
    have : i = 0 := by omega
    subst this; exact Nat.le_refl _
  | succ n ih =>
    rcases Nat.lt_or_ge n i with h' | h'
    · have : i = n + 1 := by omega
      subst this; exact Nat.le_refl _
    · have := ih h'
      have e : fs z (n + 1) = fs z n ++ List.filter (fun j => (List.range j).all fun k => !eN z k j) [n] := by
        rw [fs, List.range_succ, List.filter_append]; rfl
      rw [e, List.length_append]
      omega
end
end Qq
end
section
/- The clusters of points, when near is the same. -/
open Go Go.Vm Go.Proofs Sp
namespace Qq
noncomputable section
theorem ap0_of {X : Prop} (h : X) : ∀ g, ap0 g X
  | 0 => ⟨⟨rfl, by decide, by decide⟩, h⟩
  | _ + 1 => h
theorem grp_app {z : List Int} {m i j : Nat} {F : List Nat} (h : j < F.length) : grp z m (F ++ [i]) j = grp z m F j := by
  rw [grp, grp, List.getD_eq_getElem?_getD, List.getElem?_append_left h, ← List.getD_eq_getElem?_getD]
theorem grp_last {z : List Int} {m i : Nat} {F : List Nat} : grp z m (F ++ [i]) F.length = mem z m i := by
  rw [grp, List.getD_eq_getElem?_getD, List.getElem?_append_right (Nat.le_refl _), Nat.sub_self]; rfl
theorem gC_succ {z : List Int} {m i b : Nat} {F : List Nat} : gC z m (F ++ [i]) b (F.length + 1) = gC z m F b F.length ++ [.slice (some ⟨b + F.length, 0, none⟩) (mem z m i).length 0] := by
  rw [gC, List.range_succ, List.map_append, gC]
  congr 1
  · refine List.map_congr_left fun j hj => ?_
    rw [gLen, grp_app (List.mem_range.1 hj)]; rfl
  · show [Value.slice (some ⟨b + F.length, 0, none⟩) (gLen z m (F ++ [i]) F.length) 0] = _
    rw [gLen, grp_last]
theorem gT_succ {z : List Int} {m i : Nat} {F : List Nat} : gT z m (F ++ [i]) (F.length + 1) = gT z m F F.length ++ [some (.row (ints (nats (mem z m i))) 1 true true true)] := by
  rw [gT, List.range_succ, List.map_append, gT]
  congr 1
  · refine List.map_congr_left fun j hj => ?_
    rw [gI2, grp_app (List.mem_range.1 hj)]; rfl
  · show [some (AObj.row (ints (gI2 z m (F ++ [i]) F.length)) 1 true true true)] = _
    rw [gI2, grp_last]
theorem gH_succ {z : List Int} {m c i g : Nat} {F : List Nat} {X : Heap} (h : F.length = g) : gN z m c F g (mem z m i).length ++ some (.row (ints (nats (mem z m i))) 1 true true true) :: X = gH z m c (F ++ [i]) (g + 1) ++ X := by
  subst h
  rw [gH, gR, gC_succ, gT_succ, gN]
  simp only [List.append_assoc, List.cons_append, List.nil_append]
  rfl
set_option maxRecDepth 10000 in
theorem clR_in {z : List Int} {m c G g : Nat} (hz : smallZ z m) (h12 : m ≤ 12) (hG : (fs z m).length = G) (h4 : G ≤ 4) : clR z m c g (fun v h => v = .slice (some ⟨1, 0, none⟩) G 0 ∧ h = gK z m (fs z m) G) := by
  unfold clR
  intro i hi
  obtain ⟨hi1, hi2⟩ := hi.out
  refine br_of (fun hc => ?_) (fun hc => ?_)
  · have hc := lt_of_dec hc
    refine ⟨⟨allI_im _⟩, br_of (fun hs => ?_) (fun hs => ?_)⟩
    · rw [hasI_im, decide_eq_true_eq] at hs
      refine ⟨i + 1, ⟨by omega, by rw [fs_old hs]; exact hi2⟩, ⟨by omega⟩, ⟨rfl, rfl, rfl, rfl, rfl, by rw [up1 hc (by omega)], trivial⟩, ?_⟩
      rw [fs_old hs, sn_old hs]
    · have hs2 := hs
      rw [hasI_im, decide_eq_false_iff_not] at hs
      refine ⟨⟨allI_im _, hs2⟩, i, ⟨1, ⟨⟨hc, hi2, hs⟩, Nat.le_refl _, len_pos hc⟩, ⟨rfl, rfl, rfl, rfl, rfl, rfl, rfl, rfl, trivial⟩, ?_⟩, fun q hq => ?_⟩
      · rw [take_one hc hs, im_app]; rfl
      · obtain ⟨_, hq1, hq2⟩ := hq.out
        have hqm := mem_le z m i
        refine ⟨(i, q), ⟨0, ⟨⟨hc, hi2, hs⟩, ⟨hq1, hq2⟩, Nat.zero_le _, fun j hj => by omega⟩, ⟨rfl, rfl, rfl, rfl, rfl, rfl, rfl, rfl, rfl, rfl, trivial⟩, rfl⟩, fun k hk => ?_⟩
        dsimp only at hk ⊢
        obtain ⟨_, _, hk1, hk2⟩ := hk.out
        have hql : (nats ((mem z m i).take q)).length = q := by rw [nats_len, List.length_take]; omega
        refine br_of (fun hd => ?_) (fun hd => ?_)
        · have hd := lt_of_dec hd
          refine ⟨⟨allI_im _⟩, br_of (fun hu => ?_) (fun hu => ?_)⟩
          · have hu2 : hasI (k : Int) (im (sn z m i ++ (mem z m i).take q)) = false := by
              cases e : hasI (k : Int) (im (sn z m i ++ (mem z m i).take q))
              · rfl
              · rw [e] at hu; cases hu
            have hu3 := hu2
            rw [hasI_im, decide_eq_false_iff_not, List.mem_append, not_or] at hu3
            refine ⟨⟨z, nats ((mem z m i).take q), rfl, rfl, hql, hz, fun a ha => ?_, ⟨by omega, by omega⟩, rfl, by omega⟩, ?_⟩
            · rw [nats, List.mem_map] at ha
              obtain ⟨b, hb, rfl⟩ := ha
              have := (mem_iff.1 (List.mem_of_mem_take hb)).1
              exact ⟨by omega, by omega⟩
            · rw [anC, deI_ints, deI_ints, any_in hq1 hq2]
              refine br_of (fun ha => ?_) (fun ha => ?_)
              · obtain ⟨t1, t2⟩ := take_next hd ha hu3.2 hk2 hq2
                refine ⟨⟨allI_im _, hu2⟩, ⟨by rw [ints_len, hql]; omega, by omega, by omega⟩, q + 1, ⟨⟨hc, hi2, hs⟩, by omega, by omega⟩, ⟨by omega⟩, ⟨rfl, rfl, rfl, rfl, rfl, rfl, rfl, rfl, trivial⟩, ?_⟩
                rw [t2, ← List.append_assoc, im_app, im_app, im_app, nats_app, ← ints_app]; rfl
              · refine ⟨k + 1, ⟨⟨hc, hi2, hs⟩, ⟨hq1, hq2⟩, by omega, fun j hj he => ?_⟩, ⟨by omega⟩, ⟨rfl, rfl, rfl, rfl, rfl, rfl, rfl, rfl, rfl, by rw [up1 hd (by omega)], trivial⟩, rfl⟩
                by_cases e : j = k
                · subst e; rw [ha] at he; cases he
                · exact hk2 j (by omega) he
          · have hu2 : hasI (k : Int) (im (sn z m i ++ (mem z m i).take q)) = true := by
              cases e : hasI (k : Int) (im (sn z m i ++ (mem z m i).take q))
              · rw [e] at hu; cases hu
              · rfl
            rw [hasI_im, decide_eq_true_eq, List.mem_append] at hu2
            refine ⟨k + 1, ⟨⟨hc, hi2, hs⟩, ⟨hq1, hq2⟩, by omega, fun j hj he => ?_⟩, ⟨by omega⟩, ⟨rfl, rfl, rfl, rfl, rfl, rfl, rfl, rfl, rfl, by rw [up1 hd (by omega)], trivial⟩, rfl⟩
            by_cases e : j = k
            · subst e
              rcases hu2 with h | h
              · obtain ⟨_, b, b1, b2⟩ := sn_iff.1 h
                exact absurd (sn_iff.2 ⟨hc, b, b1, eN_trans b2 (eN_symm he)⟩) hs
              · exact h
            · exact hk2 j (by omega) he
        · have hd := ge_of_dec hd
          have : k = m := by omega
          subst this
          obtain ⟨t1, t2⟩ := take_all hk2 hq2
          have hf := fs_new hc hs
          have hg1 : (fs z (i + 1)).length = g + 1 := by rw [hf, List.length_append, hi2]; rfl
          have hg2 := fs_le (z := z) (i := i + 1) (n := k) (by omega)
          refine ⟨⟨_, rfl, hql, hq1, by omega⟩, ap0_of ?_ g⟩
          have hb : Nat.blt (g + 1) 5 = true := Nat.ble_eq_true_of_le (by omega)
          rw [hb]
          refine ⟨i + 1, ⟨by omega, hg1⟩, ⟨by omega⟩, ⟨rfl, rfl, rfl, rfl, rfl, by rw [up1 hc (by omega)], trivial⟩, ?_⟩
          rw [t1, srC, deI_ints, srt_up (up_of (mem_inc z k i)), t2, hf, sn_new hc hs]
          exact gH_succ hi2
  · have hc := ge_of_dec hc
    have : i = m := by omega
    subst this
    rw [← hG, hi2]
    exact ⟨rfl, rfl⟩
theorem cl_ok {z : List Int} {m c G : Nat} (hz : smallZ z m) (h12 : m ≤ 12) (hG : (fs z m).length = G) (h4 : G ≤ 4) :
    SmallRes Try.prog 15 [.slice (some ⟨0, 0, none⟩) m c, .int .i64 0] [some (.row (ints z) 2 true true true)] (.slice (some ⟨1, 0, none⟩) G 0) (gK z m (fs z m) G) := by
  refine fnP_res hm c0_ok (hs := hsCl z m c) ?_
  show fnP Try.prog c0 (hsCl z m c) 15 _ _ _
  rw [cl_t]
  exact ⟨⟨trivial⟩, ⟨0, ⟨Nat.zero_le _, rfl⟩, ⟨rfl, rfl, rfl, rfl, rfl, rfl, trivial⟩, rfl⟩, ⟨⟨⟨⟨trivial, clR_in hz h12 hG h4⟩, clR_in hz h12 hG h4⟩, clR_in hz h12 hG h4⟩, clR_in hz h12 hG h4⟩, clR_in hz h12 hG h4⟩
end
end Qq
end
section
/- Clusters. -/
open Go Go.Vm Go.Proofs Sp
namespace Sp
open Qq
noncomputable section
def clIs (e : List Value) (m G : Nat) : Prop := ∃ z, e = ints z ∧ smallZ z m ∧ m ≤ 12 ∧ (fs z m).length = G ∧ 1 ≤ G ∧ G ≤ 4
/-- The points of echoes. -/
noncomputable def ptZ (e d : List Value) (n : Nat) : List Int := deI (plC e d n)
end
end Sp
namespace Qq
noncomputable section
noncomputable def orcCl (G : Nat) : OrcV
  | [.slice (some ⟨0, 0, none⟩) m _, .int .i64 r], [some (.row e 2 true true true)] => some (.slice (some ⟨1, 0, none⟩) G 0, some (.row e 2 true true true) :: gR (deI e) m (fs (deI e) m) 2 G :: gT (deI e) m (fs (deI e) m) G, clIs e m G ∧ r = 0)
  | _, _ => none
theorem okCl (G : Nat) : OkV Try.prog 15 (orcCl G) := by
  intro args H ret H' vc h hv
  unfold orcCl at h
  split at h
  · cases h
    obtain ⟨⟨z, rfl, h1, h2, h3, _, h5⟩, rfl⟩ := hv
    rw [deI_ints]
    exact cl_ok h1 h2 h3 h5
  · cases h
noncomputable def hsCL (G : Nat) : Hs Try.prog where
  au := auCalls [(11, hCa Try.prog 11 orcCe okCe), (12, hCa Try.prog 12 orcPl okPl), (13, hCa Try.prog 13 orcFz okFz), (15, hCa Try.prog 15 (orcCl G) (okCl G))]
/-- The groups that come back, and their list. -/
def clT (z : List Int) (m G b : Nat) : Heap := gR z m (fs z m) b G :: gT z m (fs z m) G
def clR' (e d : List Value) (n q G : Nat) (K : Value → Heap → Prop) : Prop :=
  Is (eIs e n q ∧ pIs d q) ∧ Is (isL1 [.int .i64 0, .int .i64 0] 2) ∧ Is (eIs e n q ∧ vP q d) ∧ Is (clIs (plC e d n) n G ∧ (0 : Int) = 0) ∧ K (.tuple #[.slice (some ⟨2, 0, none⟩) G 0, .int .i64 0]) (some (.row d 1 true true true) :: some (.row e 3 true true true) :: clT (ptZ e d n) n G 3)
theorem CL1_t (e d : List Value) (n c q b : Nat) (K : Value → Heap → Prop) : fnP Try.prog c2 (hsCL 1) 6 [.slice (some ⟨0, 0, none⟩) q b, .slice (some ⟨1, 0, none⟩) n c, .int .i64 0] [dat d 1, dat e 3] K = clR' e d n q 1 K := by kernel_rfl
theorem CL2_t (e d : List Value) (n c q b : Nat) (K : Value → Heap → Prop) : fnP Try.prog c2 (hsCL 2) 6 [.slice (some ⟨0, 0, none⟩) q b, .slice (some ⟨1, 0, none⟩) n c, .int .i64 0] [dat d 1, dat e 3] K = clR' e d n q 2 K := by kernel_rfl
theorem CL3_t (e d : List Value) (n c q b : Nat) (K : Value → Heap → Prop) : fnP Try.prog c2 (hsCL 3) 6 [.slice (some ⟨0, 0, none⟩) q b, .slice (some ⟨1, 0, none⟩) n c, .int .i64 0] [dat d 1, dat e 3] K = clR' e d n q 3 K := by kernel_rfl
theorem CL4_t (e d : List Value) (n c q b : Nat) (K : Value → Heap → Prop) : fnP Try.prog c2 (hsCL 4) 6 [.slice (some ⟨0, 0, none⟩) q b, .slice (some ⟨1, 0, none⟩) n c, .int .i64 0] [dat d 1, dat e 3] K = clR' e d n q 4 K := by kernel_rfl
noncomputable def orcCL (G : Nat) : OrcV
  | [.slice (some ⟨0, 0, none⟩) q _, .slice (some ⟨1, 0, none⟩) n _, .int .i64 r], [some (.row d 1 true true true), some (.row e 3 true true true)] => some (.tuple #[.slice (some ⟨2, 0, none⟩) G 0, .int .i64 0], some (.row d 1 true true true) :: some (.row e 3 true true true) :: clT (ptZ e d n) n G 3, r = 0 ∧ eIs e n q ∧ pIs d q ∧ clIs (plC e d n) n G)
  | _, _ => none
theorem okCL (G : Nat) : OkV Try.prog 6 (orcCL G) := by
  intro args H ret H' vc h hv
  unfold orcCL at h
  split at h
  · cases h
    obtain ⟨rfl, h1, h2, h3⟩ := hv
    have hG := h3
    obtain ⟨_, _, _, _, _, g1, g4⟩ := h3
    match G, g1, g4, hG with
    | 1, _, _, hG =>
      refine fnP_res hm c2_ok (hs := hsCL 1) ?_
      show fnP Try.prog c2 (hsCL 1) 6 _ [dat _ 1, dat _ 3] _
      rw [CL1_t]
      exact ⟨⟨h1, h2⟩, ⟨isL1_two⟩, ⟨h1, h2.1⟩, ⟨hG, rfl⟩, rfl, rfl⟩
    | 2, _, _, hG =>
      refine fnP_res hm c2_ok (hs := hsCL 2) ?_
      show fnP Try.prog c2 (hsCL 2) 6 _ [dat _ 1, dat _ 3] _
      rw [CL2_t]
      exact ⟨⟨h1, h2⟩, ⟨isL1_two⟩, ⟨h1, h2.1⟩, ⟨hG, rfl⟩, rfl, rfl⟩
    | 3, _, _, hG =>
      refine fnP_res hm c2_ok (hs := hsCL 3) ?_
      show fnP Try.prog c2 (hsCL 3) 6 _ [dat _ 1, dat _ 3] _
      rw [CL3_t]
      exact ⟨⟨h1, h2⟩, ⟨isL1_two⟩, ⟨h1, h2.1⟩, ⟨hG, rfl⟩, rfl, rfl⟩
    | 4, _, _, hG =>
      refine fnP_res hm c2_ok (hs := hsCL 4) ?_
      show fnP Try.prog c2 (hsCL 4) 6 _ [dat _ 1, dat _ 3] _
      rw [CL4_t]
      exact ⟨⟨h1, h2⟩, ⟨isL1_two⟩, ⟨h1, h2.1⟩, ⟨hG, rfl⟩, rfl, rfl⟩
    | 0, g1, _, _ => omega
    | G + 5, _, g4, _ => omega
  · cases h
end
end Qq
end
section
/- Which classes are possible for each group: the trees. -/
open Go Go.Vm Go.Proofs Sp
namespace Sp
open Qq
noncomputable section
def q1Is (g e p : List Value) (n m k r : Nat) (q : Int) (l : List Int) : Prop := grIs g e n m 3 ∧ grIs g p n k 2 ∧ poIs (geC g e n) (gqC g p n) n n r q l
end
end Sp
namespace Qq
noncomputable section
noncomputable def orcQ1 : OrcV
  | [.slice (some ⟨0, 0, none⟩) n _, .pointer (some ⟨1, 0, none⟩), .pointer (some ⟨3, 0, none⟩), .pointer (some ⟨5, 0, none⟩)], [some (.row g 1 true true true), some (.row [.slice (some ⟨2, 0, none⟩) m b] 0 false true false), some (.row e 3 true true true), some (.row [.slice (some ⟨4, 0, none⟩) k d] 0 false true false), some (.row p 2 true true true), some (.row [.slice (some ⟨6, 0, none⟩) r x] 0 false true false), some (.row [.string c, .int .i64 q, .int .i64 a1, .int .i64 a2, .int .i64 a3, .int .i64 a4, .int .i64 a5, .int .i64 a6, .int .i64 a7] 9 true true true)] =>
    some (.slice (some ⟨7, 0, none⟩) (dpN (gqC g p n) n) 0, [some (.row g 1 true true true), some (.row [.slice (some ⟨2, 0, none⟩) m b] 0 false true false), some (.row e 3 true true true), some (.row [.slice (some ⟨4, 0, none⟩) k d] 0 false true false), some (.row p 2 true true true), some (.row [.slice (some ⟨6, 0, none⟩) r x] 0 false true false), some (.row [.string c, .int .i64 q, .int .i64 a1, .int .i64 a2, .int .i64 a3, .int .i64 a4, .int .i64 a5, .int .i64 a6, .int .i64 a7] 9 true true true), some (.row (dpC (gqC g p n) n c) 1 true true true)], q1Is g e p n m k r q [a1, a2, a3, a4, a5, a6, a7])
  | _, _ => none
theorem okQ1 : OkV Try.prog 18 orcQ1 := by
  intro args H ret H' vc h hv
  unfold orcQ1 at h
  split at h
  · rename_i n a g m b e k d p r x c q a1 a2 a3 a4 a5 a6 a7
    cases h
    obtain ⟨h1, h2, h3⟩ := hv
    refine fnP_res hm c0_ok (hs := hsP1) ?_
    show fnP Try.prog c0 hsP1 18 _ [dat g 1, bxR m b 2, dat e 3, bxR k d 4, dat p 2, bxR r x 6, dat [.string c, .int .i64 q, .int .i64 a1, .int .i64 a2, .int .i64 a3, .int .i64 a4, .int .i64 a5, .int .i64 a6, .int .i64 a7] 9] _
    rw [q1_t _ _ _ _ _ []]
    exact ⟨⟨h1⟩, ⟨h2⟩, ⟨h3⟩, rfl, rfl⟩
  · cases h
noncomputable def hsM7 : Hs Try.prog where
  op y := if y = 503 then some (hCa Try.prog 18 orcQ1 okQ1) else none
  nl _ := [.stay]
  au := au0 Try.prog
/-- What the closure holds. -/
def cpH (G : Nat) (m b k d r x : Nat) (e p rl : List Value) : Heap := [bxR m b (G + 2), dat e 3, bxR k d (G + 4), dat p 2, bxR r x (G + 6), dat rl 9]
noncomputable def f18 (G : Nat) : Value := .func (.func 18) #[] #[.pointer (some ⟨G + 1, 0, none⟩), .pointer (some ⟨G + 3, 0, none⟩), .pointer (some ⟨G + 5, 0, none⟩)]
noncomputable def wN (z : List Int) (w : Nat) (F : List Nat) (p : List Value) (j : Nat) : Nat := dpN (gqC (ints (gI2 z w F j)) p (gLen z w F j)) (gLen z w F j)
noncomputable def wC (z : List Int) (w : Nat) (F : List Nat) (p : List Value) (c : ByteArray) (j : Nat) : List Value := dpC (gqC (ints (gI2 z w F j)) p (gLen z w F j)) (gLen z w F j) c
/-- The classes, behind their list. -/
def sR (z : List Int) (w : Nat) (F : List Nat) (p : List Value) (b G : Nat) : Option AObj := some (.row ((List.range G).map fun j => .slice (some ⟨b + j, 0, none⟩) (wN z w F p j) 0) 1 true true (Nat.beq G 0))
def sT (z : List Int) (w : Nat) (F : List Nat) (p : List Value) (c : ByteArray) (G : Nat) : Heap := (List.range G).map fun j => some (.row (wC z w F p c j) 1 true true true)
def gJ (z : List Int) (w : Nat) (F : List Nat) (e p : List Value) (m k r : Nat) (q : Int) (j : Nat) : Prop := q1Is (ints (gI2 z w F j)) e p (gLen z w F j) m k r q [q, 0, 0, 0, 0, 1, 20]
def chQ (f : Nat → Prop) : Nat → Nat → Prop → Prop
  | _, 0, P => P
  | j, g + 1, P => Is (f j) ∧ chQ f (j + 1) g P
theorem chQ_of {f : Nat → Prop} {G : Nat} {P : Prop} (h : ∀ j, j < G → f j) (hP : P) : ∀ (g j : Nat), j + g = G → chQ f j g P
  | 0, _, _ => hP
  | g + 1, j, e => ⟨⟨h j (by omega)⟩, chQ_of h hP g (j + 1) (by omega)⟩
def h17 (z : List Int) (w : Nat) (F : List Nat) (c : ByteArray) (q : Int) (e p : List Value) (m b k d r x G : Nat) : Heap := gR z w F 1 G :: gT z w F G ++ cpH G m b k d r x e p (ruC c q)
theorem m71_t (z : List Int) (w : Nat) (F : List Nat) (c : ByteArray) (q : Int) (e p : List Value) (m b k d r x : Nat) (K : Value → Heap → Prop) : fnP Try.prog c0 hsM7 17 [.slice (some ⟨0, 0, none⟩) 1 0, f18 1] (h17 z w F c q e p m b k d r x 1) K = chQ (gJ z w F e p m k r q) 0 1 (K (.slice (some ⟨8, 0, none⟩) 1 0) (h17 z w F c q e p m b k d r x 1 ++ sR z w F p 9 1 :: sT z w F p c 1)) := by kernel_rfl
theorem m72_t (z : List Int) (w : Nat) (F : List Nat) (c : ByteArray) (q : Int) (e p : List Value) (m b k d r x : Nat) (K : Value → Heap → Prop) : fnP Try.prog c0 hsM7 17 [.slice (some ⟨0, 0, none⟩) 2 0, f18 2] (h17 z w F c q e p m b k d r x 2) K = chQ (gJ z w F e p m k r q) 0 2 (K (.slice (some ⟨9, 0, none⟩) 2 0) (h17 z w F c q e p m b k d r x 2 ++ sR z w F p 10 2 :: sT z w F p c 2)) := by kernel_rfl
theorem m73_t (z : List Int) (w : Nat) (F : List Nat) (c : ByteArray) (q : Int) (e p : List Value) (m b k d r x : Nat) (K : Value → Heap → Prop) : fnP Try.prog c0 hsM7 17 [.slice (some ⟨0, 0, none⟩) 3 0, f18 3] (h17 z w F c q e p m b k d r x 3) K = chQ (gJ z w F e p m k r q) 0 3 (K (.slice (some ⟨10, 0, none⟩) 3 0) (h17 z w F c q e p m b k d r x 3 ++ sR z w F p 11 3 :: sT z w F p c 3)) := by kernel_rfl
theorem m74_t (z : List Int) (w : Nat) (F : List Nat) (c : ByteArray) (q : Int) (e p : List Value) (m b k d r x : Nat) (K : Value → Heap → Prop) : fnP Try.prog c0 hsM7 17 [.slice (some ⟨0, 0, none⟩) 4 0, f18 4] (h17 z w F c q e p m b k d r x 4) K = chQ (gJ z w F e p m k r q) 0 4 (K (.slice (some ⟨11, 0, none⟩) 4 0) (h17 z w F c q e p m b k d r x 4 ++ sR z w F p 12 4 :: sT z w F p c 4)) := by kernel_rfl
noncomputable def orcM7 (z : List Int) (w : Nat) (F : List Nat) (c : ByteArray) (q : Int) (e p : List Value) (m b k d r x G : Nat) : OrcV := fun args H =>
  some (.slice (some ⟨G + 7, 0, none⟩) G 0, h17 z w F c q e p m b k d r x G ++ sR z w F p (G + 8) G :: sT z w F p c G, (args = [.slice (some ⟨0, 0, none⟩) G 0, f18 G] ∧ H = h17 z w F c q e p m b k d r x G) ∧ (1 ≤ G ∧ G ≤ 4) ∧ ∀ j, j < G → gJ z w F e p m k r q j)
theorem okM7 (z : List Int) (w : Nat) (F : List Nat) (c : ByteArray) (q : Int) (e p : List Value) (m b k d r x G : Nat) : OkV Try.prog 17 (orcM7 z w F c q e p m b k d r x G) := by
  intro args H ret H' vc h hv
  cases h
  obtain ⟨⟨rfl, rfl⟩, ⟨g1, g4⟩, hj⟩ := hv
  match G, g1, g4, hj with
  | 1, _, _, hj =>
    refine fnP_res hm c0_ok (hs := hsM7) ?_
    show fnP Try.prog c0 hsM7 17 [.slice (some ⟨0, 0, none⟩) 1 0, f18 1] (h17 z w F c q e p m b k d r x 1) _
    rw [m71_t]
    exact chQ_of hj ⟨rfl, rfl⟩ 1 0 rfl
  | 2, _, _, hj =>
    refine fnP_res hm c0_ok (hs := hsM7) ?_
    show fnP Try.prog c0 hsM7 17 [.slice (some ⟨0, 0, none⟩) 2 0, f18 2] (h17 z w F c q e p m b k d r x 2) _
    rw [m72_t]
    exact chQ_of hj ⟨rfl, rfl⟩ 2 0 rfl
  | 3, _, _, hj =>
    refine fnP_res hm c0_ok (hs := hsM7) ?_
    show fnP Try.prog c0 hsM7 17 [.slice (some ⟨0, 0, none⟩) 3 0, f18 3] (h17 z w F c q e p m b k d r x 3) _
    rw [m73_t]
    exact chQ_of hj ⟨rfl, rfl⟩ 3 0 rfl
  | 4, _, _, hj =>
    refine fnP_res hm c0_ok (hs := hsM7) ?_
    show fnP Try.prog c0 hsM7 17 [.slice (some ⟨0, 0, none⟩) 4 0, f18 4] (h17 z w F c q e p m b k d r x 4) _
    rw [m74_t]
    exact chQ_of hj ⟨rfl, rfl⟩ 4 0 rfl
  | 0, g1, _, _ => omega
  | G + 5, _, g4, _ => omega
/-- The class of the rule. -/
def hole : ByteArray := ⟨#[104, 111, 108, 101]⟩
theorem cr1_t (c : Nat) (K : Value → Heap → Prop) : fnP Try.prog c0 hsO 16 [.slice (some ⟨0, 0, none⟩) 1 c] [dat (ruC hole 1) 9] K = K (.int .i64 0) [dat (ruC hole 1) 9] := by kernel_rfl
theorem cr2_t (c : Nat) (K : Value → Heap → Prop) : fnP Try.prog c0 hsO 16 [.slice (some ⟨0, 0, none⟩) 1 c] [dat (ruC hole 2) 9] K = K (.int .i64 0) [dat (ruC hole 2) 9] := by kernel_rfl
theorem cr3_t (c : Nat) (K : Value → Heap → Prop) : fnP Try.prog c0 hsO 16 [.slice (some ⟨0, 0, none⟩) 1 c] [dat (ruC hole 3) 9] K = K (.int .i64 0) [dat (ruC hole 3) 9] := by kernel_rfl
end
end Qq
end
section
/- Possible, Doubtful: the trees. -/
open Go Go.Vm Go.Proofs Sp
namespace Qq
noncomputable section
def rcIs (rl : List Value) (r : Nat) : Prop := r = 1 ∧ ∃ q : Int, (q = 1 ∨ q = 2 ∨ q = 3) ∧ rl = ruC hole q
noncomputable def orcCR : OrcV
  | [.slice (some ⟨0, 0, none⟩) r _], [some (.row rl 9 true true true)] => some (.int .i64 0, [some (.row rl 9 true true true)], rcIs rl r)
  | _, _ => none
theorem cr_ok (c : Nat) (q : Int) (hq : q = 1 ∨ q = 2 ∨ q = 3) : SmallRes Try.prog 16 [.slice (some ⟨0, 0, none⟩) 1 c] [dat (ruC hole q) 9] (.int .i64 0) [dat (ruC hole q) 9] := by
  rcases hq with h | h | h
  · rw [h]
    refine fnP_res hm c0_ok (hs := hsO) ?_
    rw [cr1_t]; exact ⟨rfl, rfl⟩
  · rw [h]
    refine fnP_res hm c0_ok (hs := hsO) ?_
    rw [cr2_t]; exact ⟨rfl, rfl⟩
  · rw [h]
    refine fnP_res hm c0_ok (hs := hsO) ?_
    rw [cr3_t]; exact ⟨rfl, rfl⟩
theorem okCR : OkV Try.prog 16 orcCR := by
  intro args H ret H' vc h hv
  unfold orcCR at h
  split at h
  · cases h
    obtain ⟨rfl, q, hq, rfl⟩ := hv
    exact cr_ok _ q hq
  · cases h
noncomputable def hsPs (e d : List Value) (q : Int) (n c1 c2 G : Nat) : Hs Try.prog where
  au := auCalls [(11, hCa Try.prog 11 orcCe okCe), (16, hCa Try.prog 16 orcCR okCR), (13, hCa Try.prog 13 orcFz okFz), (12, hCa Try.prog 12 orcPl okPl), (15, hCa Try.prog 15 (orcCl G) (okCl G)),
    (17, hCa Try.prog 17 (orcM7 (deI (plC e d n)) n (fs (deI (plC e d n)) n) hole q e (plC e d n) n c1 n 0 1 c2 G) (okM7 (deI (plC e d n)) n (fs (deI (plC e d n)) n) hole q e (plC e d n) n c1 n 0 1 c2 G))]
def psR (e d : List Value) (q : Int) (np n k1 k2 G : Nat) (K : Value → Heap → Prop) : Prop :=
  Is (eIs e n np ∧ pIs d np) ∧ Is (rcIs (ruC hole q) 1) ∧ Is (isL1 [.int .i64 0, .int .i64 0, .int .i64 0] 3) ∧ Is (eIs e n np ∧ vP np d) ∧ Is (clIs (plC e d n) n G ∧ (0 : Int) = 0) ∧
    Is (([.slice (some ⟨0, 0, none⟩) G 0, f18 G] = [.slice (some ⟨0, 0, none⟩) G 0, f18 G] ∧ h17 (ptZ e d n) n (fs (ptZ e d n) n) hole q e (plC e d n) n k1 n 0 1 k2 G = h17 (ptZ e d n) n (fs (ptZ e d n) n) hole q e (plC e d n) n k1 n 0 1 k2 G) ∧ (1 ≤ G ∧ G ≤ 4) ∧ ∀ j, j < G → gJ (ptZ e d n) n (fs (ptZ e d n) n) e (plC e d n) n n 1 q j) ∧
    K (.tuple #[.slice (some ⟨3, 0, none⟩) G 0, .int .i64 0]) ([dat d 1, dat e 3, dat (ruC hole q) 9] ++ sR (ptZ e d n) n (fs (ptZ e d n) n) (plC e d n) 4 G :: sT (ptZ e d n) n (fs (ptZ e d n) n) (plC e d n) hole G)
theorem ps1_t (e d : List Value) (q : Int) (np cb n k1 k2 : Nat) (K : Value → Heap → Prop) : fnP Try.prog c2 (hsPs e d q n k1 k2 1) 7 [.slice (some ⟨0, 0, none⟩) np cb, .slice (some ⟨1, 0, none⟩) n k1, .int .i64 0, .slice (some ⟨2, 0, none⟩) 1 k2] [dat d 1, dat e 3, dat (ruC hole q) 9] K = psR e d q np n k1 k2 1 K := by kernel_rfl
theorem ps2_t (e d : List Value) (q : Int) (np cb n k1 k2 : Nat) (K : Value → Heap → Prop) : fnP Try.prog c2 (hsPs e d q n k1 k2 2) 7 [.slice (some ⟨0, 0, none⟩) np cb, .slice (some ⟨1, 0, none⟩) n k1, .int .i64 0, .slice (some ⟨2, 0, none⟩) 1 k2] [dat d 1, dat e 3, dat (ruC hole q) 9] K = psR e d q np n k1 k2 2 K := by kernel_rfl
theorem ps3_t (e d : List Value) (q : Int) (np cb n k1 k2 : Nat) (K : Value → Heap → Prop) : fnP Try.prog c2 (hsPs e d q n k1 k2 3) 7 [.slice (some ⟨0, 0, none⟩) np cb, .slice (some ⟨1, 0, none⟩) n k1, .int .i64 0, .slice (some ⟨2, 0, none⟩) 1 k2] [dat d 1, dat e 3, dat (ruC hole q) 9] K = psR e d q np n k1 k2 3 K := by kernel_rfl
theorem ps4_t (e d : List Value) (q : Int) (np cb n k1 k2 : Nat) (K : Value → Heap → Prop) : fnP Try.prog c2 (hsPs e d q n k1 k2 4) 7 [.slice (some ⟨0, 0, none⟩) np cb, .slice (some ⟨1, 0, none⟩) n k1, .int .i64 0, .slice (some ⟨2, 0, none⟩) 1 k2] [dat d 1, dat e 3, dat (ruC hole q) 9] K = psR e d q np n k1 k2 4 K := by kernel_rfl
/-- What Possible asks. -/
def psIs (e d rl : List Value) (r : Nat) (q : Int) (np n G : Nat) : Prop := (r = 1 ∧ rl = ruC hole q ∧ (q = 1 ∨ q = 2 ∨ q = 3)) ∧ eIs e n np ∧ pIs d np ∧ clIs (plC e d n) n G ∧ ∀ j, j < G → gJ (ptZ e d n) n (fs (ptZ e d n) n) e (plC e d n) n n 1 q j
noncomputable def orcPs (q : Int) (G : Nat) : OrcV
  | [.slice (some ⟨0, 0, none⟩) np _, .slice (some ⟨1, 0, none⟩) n _, .int .i64 x, .slice (some ⟨2, 0, none⟩) r _], [some (.row d 1 true true true), some (.row e 3 true true true), some (.row rl 9 true true true)] =>
    some (.tuple #[.slice (some ⟨3, 0, none⟩) G 0, .int .i64 0], [some (.row d 1 true true true), some (.row e 3 true true true), some (.row rl 9 true true true)] ++ sR (ptZ e d n) n (fs (ptZ e d n) n) (plC e d n) 4 G :: sT (ptZ e d n) n (fs (ptZ e d n) n) (plC e d n) hole G, x = 0 ∧ psIs e d rl r q np n G)
  | _, _ => none
theorem ps1_ok {e d : List Value} {q : Int} {np cb n k1 k2 : Nat} (hq : q = 1 ∨ q = 2 ∨ q = 3) (h1 : eIs e n np) (h2 : pIs d np) (h3 : clIs (plC e d n) n 1) (h4 : ∀ j, j < 1 → gJ (ptZ e d n) n (fs (ptZ e d n) n) e (plC e d n) n n 1 q j) :
    SmallRes Try.prog 7 [.slice (some ⟨0, 0, none⟩) np cb, .slice (some ⟨1, 0, none⟩) n k1, .int .i64 0, .slice (some ⟨2, 0, none⟩) 1 k2] [dat d 1, dat e 3, dat (ruC hole q) 9] (.tuple #[.slice (some ⟨3, 0, none⟩) 1 0, .int .i64 0]) ([dat d 1, dat e 3, dat (ruC hole q) 9] ++ sR (ptZ e d n) n (fs (ptZ e d n) n) (plC e d n) 4 1 :: sT (ptZ e d n) n (fs (ptZ e d n) n) (plC e d n) hole 1) := by
  refine fnP_res hm c2_ok (hs := hsPs e d q n k1 k2 1) ?_
  rw [ps1_t]
  exact ⟨⟨h1, h2⟩, ⟨rfl, q, hq, rfl⟩, ⟨isL1_three⟩, ⟨h1, h2.1⟩, ⟨h3, rfl⟩, ⟨⟨rfl, rfl⟩, ⟨by decide, by decide⟩, h4⟩, rfl, rfl⟩
theorem ps2_ok {e d : List Value} {q : Int} {np cb n k1 k2 : Nat} (hq : q = 1 ∨ q = 2 ∨ q = 3) (h1 : eIs e n np) (h2 : pIs d np) (h3 : clIs (plC e d n) n 2) (h4 : ∀ j, j < 2 → gJ (ptZ e d n) n (fs (ptZ e d n) n) e (plC e d n) n n 1 q j) :
    SmallRes Try.prog 7 [.slice (some ⟨0, 0, none⟩) np cb, .slice (some ⟨1, 0, none⟩) n k1, .int .i64 0, .slice (some ⟨2, 0, none⟩) 1 k2] [dat d 1, dat e 3, dat (ruC hole q) 9] (.tuple #[.slice (some ⟨3, 0, none⟩) 2 0, .int .i64 0]) ([dat d 1, dat e 3, dat (ruC hole q) 9] ++ sR (ptZ e d n) n (fs (ptZ e d n) n) (plC e d n) 4 2 :: sT (ptZ e d n) n (fs (ptZ e d n) n) (plC e d n) hole 2) := by
  refine fnP_res hm c2_ok (hs := hsPs e d q n k1 k2 2) ?_
  rw [ps2_t]
  exact ⟨⟨h1, h2⟩, ⟨rfl, q, hq, rfl⟩, ⟨isL1_three⟩, ⟨h1, h2.1⟩, ⟨h3, rfl⟩, ⟨⟨rfl, rfl⟩, ⟨by decide, by decide⟩, h4⟩, rfl, rfl⟩
theorem ps3_ok {e d : List Value} {q : Int} {np cb n k1 k2 : Nat} (hq : q = 1 ∨ q = 2 ∨ q = 3) (h1 : eIs e n np) (h2 : pIs d np) (h3 : clIs (plC e d n) n 3) (h4 : ∀ j, j < 3 → gJ (ptZ e d n) n (fs (ptZ e d n) n) e (plC e d n) n n 1 q j) :
    SmallRes Try.prog 7 [.slice (some ⟨0, 0, none⟩) np cb, .slice (some ⟨1, 0, none⟩) n k1, .int .i64 0, .slice (some ⟨2, 0, none⟩) 1 k2] [dat d 1, dat e 3, dat (ruC hole q) 9] (.tuple #[.slice (some ⟨3, 0, none⟩) 3 0, .int .i64 0]) ([dat d 1, dat e 3, dat (ruC hole q) 9] ++ sR (ptZ e d n) n (fs (ptZ e d n) n) (plC e d n) 4 3 :: sT (ptZ e d n) n (fs (ptZ e d n) n) (plC e d n) hole 3) := by
  refine fnP_res hm c2_ok (hs := hsPs e d q n k1 k2 3) ?_
  rw [ps3_t]
  exact ⟨⟨h1, h2⟩, ⟨rfl, q, hq, rfl⟩, ⟨isL1_three⟩, ⟨h1, h2.1⟩, ⟨h3, rfl⟩, ⟨⟨rfl, rfl⟩, ⟨by decide, by decide⟩, h4⟩, rfl, rfl⟩
theorem ps4_ok {e d : List Value} {q : Int} {np cb n k1 k2 : Nat} (hq : q = 1 ∨ q = 2 ∨ q = 3) (h1 : eIs e n np) (h2 : pIs d np) (h3 : clIs (plC e d n) n 4) (h4 : ∀ j, j < 4 → gJ (ptZ e d n) n (fs (ptZ e d n) n) e (plC e d n) n n 1 q j) :
    SmallRes Try.prog 7 [.slice (some ⟨0, 0, none⟩) np cb, .slice (some ⟨1, 0, none⟩) n k1, .int .i64 0, .slice (some ⟨2, 0, none⟩) 1 k2] [dat d 1, dat e 3, dat (ruC hole q) 9] (.tuple #[.slice (some ⟨3, 0, none⟩) 4 0, .int .i64 0]) ([dat d 1, dat e 3, dat (ruC hole q) 9] ++ sR (ptZ e d n) n (fs (ptZ e d n) n) (plC e d n) 4 4 :: sT (ptZ e d n) n (fs (ptZ e d n) n) (plC e d n) hole 4) := by
  refine fnP_res hm c2_ok (hs := hsPs e d q n k1 k2 4) ?_
  rw [ps4_t]
  exact ⟨⟨h1, h2⟩, ⟨rfl, q, hq, rfl⟩, ⟨isL1_three⟩, ⟨h1, h2.1⟩, ⟨h3, rfl⟩, ⟨⟨rfl, rfl⟩, ⟨by decide, by decide⟩, h4⟩, rfl, rfl⟩
theorem ps_ok {e d : List Value} {q : Int} {np cb n k1 k2 G : Nat} (hq : q = 1 ∨ q = 2 ∨ q = 3) (h1 : eIs e n np) (h2 : pIs d np) (h3 : clIs (plC e d n) n G) (h4 : ∀ j, j < G → gJ (ptZ e d n) n (fs (ptZ e d n) n) e (plC e d n) n n 1 q j) :
    SmallRes Try.prog 7 [.slice (some ⟨0, 0, none⟩) np cb, .slice (some ⟨1, 0, none⟩) n k1, .int .i64 0, .slice (some ⟨2, 0, none⟩) 1 k2] [dat d 1, dat e 3, dat (ruC hole q) 9] (.tuple #[.slice (some ⟨3, 0, none⟩) G 0, .int .i64 0]) ([dat d 1, dat e 3, dat (ruC hole q) 9] ++ sR (ptZ e d n) n (fs (ptZ e d n) n) (plC e d n) 4 G :: sT (ptZ e d n) n (fs (ptZ e d n) n) (plC e d n) hole G) := by
  have hG := h3
  obtain ⟨_, _, _, _, _, g1, g4⟩ := h3
  match G, g1, g4, hG, h4 with
  | 1, _, _, hG, h4 => exact ps1_ok hq h1 h2 hG h4
  | 2, _, _, hG, h4 => exact ps2_ok hq h1 h2 hG h4
  | 3, _, _, hG, h4 => exact ps3_ok hq h1 h2 hG h4
  | 4, _, _, hG, h4 => exact ps4_ok hq h1 h2 hG h4
  | 0, g1, _, _, _ => omega
  | G + 5, _, g4, _, _ => omega
theorem okPs (q : Int) (G : Nat) : OkV Try.prog 7 (orcPs q G) := by
  intro args H ret H' vc h hv
  unfold orcPs at h
  split at h
  · cases h
    obtain ⟨rfl, ⟨rfl, rfl, hq⟩, h1, h2, h3, h4⟩ := hv
    exact ps_ok hq h1 h2 h3 h4
  · cases h
end
end Qq
end
section
/- Doubtful: the tree. -/
open Go Go.Vm Go.Proofs Sp
namespace Sp
open Qq
noncomputable section
/-- Of the first i groups those that have not one class. -/
noncomputable def dbN (e d : List Value) (n i : Nat) : List Nat := (List.range i).filter fun j => wN (ptZ e d n) n (fs (ptZ e d n) n) (plC e d n) j != 1
noncomputable def dbL (e d : List Value) (n i : Nat) : List Int := nats (dbN e d n i)
noncomputable def dbC (e d : List Value) (n i : Nat) : Nat := (dbN e d n i).length
noncomputable def wE (e d : List Value) (n j : Nat) : Nat := wN (ptZ e d n) n (fs (ptZ e d n) n) (plC e d n) j
noncomputable def slS (e d : List Value) (n off : Nat) : Value := .slice (some ⟨5 + off, 0, none⟩) (wE e d n off) 0
end
end Sp
namespace Qq
noncomputable section
noncomputable def lpDb (e d : List Value) (q : Int) (n G : Nat) : Lp where
  σ := Nat
  E i := slots 42 [(12, .slice (some ⟨3, 0, none⟩) (dbC e d n i) 0), (26, .slice (some ⟨4, 0, none⟩) G 0), (27, .int .i64 (G : Int)), (28, .int .i64 (i : Int))]
  Hp i := [dat d 1, dat e 3, dat (ruC hole q) 9, dat (ints (dbL e d n i)) 1] ++ sR (ptZ e d n) n (fs (ptZ e d n) n) (plC e d n) 5 G :: sT (ptZ e d n) n (fs (ptZ e d n) n) (plC e d n) hole G
  I i := i ≤ G
  m i := G - i
noncomputable def hsDb (e d : List Value) (q : Int) (n G : Nat) : Hs Try.prog where
  op y := if y = 701 then some (hIa Try.prog) else if y = 702 then some (hLd Try.prog (slS e d n)) else if y = 903 then some (hAp Try.prog) else none
  lp y := if y = 6 then some (lpDb e d q n G) else none
  cl _ := keep 42 [12, 26, 27, 28]
  nl _ := [.only (.slot 12 1)]
  sm := true
  au := auCalls [(7, hCa Try.prog 7 (orcPs q G) (okPs q G))]
def dH (e d : List Value) (q : Int) (n G : Nat) (r : Option AObj) : Heap := [dat d 1, dat e 3, dat (ruC hole q) 9, r] ++ sR (ptZ e d n) n (fs (ptZ e d n) n) (plC e d n) 5 G :: sT (ptZ e d n) n (fs (ptZ e d n) n) (plC e d n) hole G
def sC (e d : List Value) (n G : Nat) : List Value := (List.range G).map fun j => .slice (some ⟨5 + j, 0, none⟩) (wN (ptZ e d n) n (fs (ptZ e d n) n) (plC e d n) j) 0
def dbT (e d : List Value) (q : Int) (np n G : Nat) (K : Value → Heap → Prop) : Prop :=
  (Is ((0 : Int) = (0 : Int) ∧ psIs e d (ruC hole q) (1 : Nat) q np n G) ∧ (∃ (s : Nat), Is (s ≤ G) ∧ (Value.slice (some { block := (3 : Nat), off := (0 : Nat) }) (0 : Nat) (0 : Nat) = Value.slice (some { block := (3 : Nat), off := (0 : Nat) }) (dbC e d n s) (0 : Nat) ∧ Value.slice (some { block := (4 : Nat), off := (0 : Nat) }) G (0 : Nat) = Value.slice (some { block := (4 : Nat), off := (0 : Nat) }) G (0 : Nat) ∧ Value.int IntKind.i64 (G : Int) = Value.int IntKind.i64 (G : Int) ∧ Value.int IntKind.i64 (0 : Int) = Value.int IntKind.i64 (↑s : Int) ∧ True) ∧ (dH e d q n G (some (AObj.row [] (1 : Nat) true true true))) = (dH e d q n G (some (AObj.row (ints (dbL e d n s)) (1 : Nat) true true true)))) ∧ ∀ (s : Nat), Is (s ≤ G) → br (decide ((↑s : Int) < (G : Int))) (Is ((0 : Int) ≤ (↑s : Int) ∧ (↑s : Int) < (G : Int)) ∧ Is ((sC e d n G)[(0 : Nat) + Int.toNat (↑s : Int) * (1 : Nat)]? = some (Value.slice (some { block := (5 : Nat) + ((0 : Nat) + Int.toNat (↑s : Int) * (1 : Nat)), off := (0 : Nat) }) (wE e d n ((0 : Nat) + Int.toNat (↑s : Int) * (1 : Nat))) (0 : Nat))) ∧ br ((↑(wE e d n ((0 : Nat) + Int.toNat (↑s : Int) * (1 : Nat))) : Int) != (1 : Int)) (Is (List.length (ints (dbL e d n s)) = dbC e d n s * (1 : Nat) ∧ (dbC e d n s + (1 : Nat)) * (8 : Nat) ≤ (140737488355328 : Nat) ∧ dbC e d n s + (1 : Nat) ≤ (9223372036854775807 : Nat)) ∧ ∃ (s' : Nat), Is (s' ≤ G) ∧ Is (G - s' < G - s) ∧ (Value.slice (some { block := (3 : Nat), off := (0 : Nat) }) (dbC e d n s + (1 : Nat)) (0 : Nat) = Value.slice (some { block := (3 : Nat), off := (0 : Nat) }) (dbC e d n s') (0 : Nat) ∧ Value.slice (some { block := (4 : Nat), off := (0 : Nat) }) G (0 : Nat) = Value.slice (some { block := (4 : Nat), off := (0 : Nat) }) G (0 : Nat) ∧ Value.int IntKind.i64 (G : Int) = Value.int IntKind.i64 (G : Int) ∧ Value.int IntKind.i64 (IntKind.wrap IntKind.i64 ((↑s : Int) + (1 : Int))) = Value.int IntKind.i64 (↑s' : Int) ∧ True) ∧ (dH e d q n G (some (AObj.row (ints (dbL e d n s) ++ [Value.int IntKind.i64 (↑s : Int)]) (1 : Nat) true true (List.all [Value.int IntKind.i64 (↑s : Int)] atom)))) = (dH e d q n G (some (AObj.row (ints (dbL e d n s')) (1 : Nat) true true true)))) (∃ (s' : Nat), Is (s' ≤ G) ∧ Is (G - s' < G - s) ∧ (Value.slice (some { block := (3 : Nat), off := (0 : Nat) }) (dbC e d n s) (0 : Nat) = Value.slice (some { block := (3 : Nat), off := (0 : Nat) }) (dbC e d n s') (0 : Nat) ∧ Value.slice (some { block := (4 : Nat), off := (0 : Nat) }) G (0 : Nat) = Value.slice (some { block := (4 : Nat), off := (0 : Nat) }) G (0 : Nat) ∧ Value.int IntKind.i64 (G : Int) = Value.int IntKind.i64 (G : Int) ∧ Value.int IntKind.i64 (IntKind.wrap IntKind.i64 ((↑s : Int) + (1 : Int))) = Value.int IntKind.i64 (↑s' : Int) ∧ True) ∧ (dH e d q n G (some (AObj.row (ints (dbL e d n s)) (1 : Nat) true true true))) = (dH e d q n G (some (AObj.row (ints (dbL e d n s')) (1 : Nat) true true true))))) (K (Value.tuple #[Value.slice (some { block := (3 : Nat), off := (0 : Nat) }) (dbC e d n s) (0 : Nat), Value.int IntKind.i64 (0 : Int)]) (([dat d 1, dat e 3, dat (ruC hole q) 9] ++ [some (AObj.row (ints (dbL e d n s)) (1 : Nat) true true true)]))))
theorem db1_t (e d : List Value) (q : Int) (np cb n k1 k2 : Nat) (K : Value → Heap → Prop) : fnP Try.prog c0 (hsDb e d q n 1) 8 [.slice (some ⟨0, 0, none⟩) np cb, .slice (some ⟨1, 0, none⟩) n k1, .int .i64 0, .slice (some ⟨2, 0, none⟩) 1 k2] [dat d 1, dat e 3, dat (ruC hole q) 9] K = dbT e d q np n 1 K := by kernel_rfl
theorem db2_t (e d : List Value) (q : Int) (np cb n k1 k2 : Nat) (K : Value → Heap → Prop) : fnP Try.prog c0 (hsDb e d q n 2) 8 [.slice (some ⟨0, 0, none⟩) np cb, .slice (some ⟨1, 0, none⟩) n k1, .int .i64 0, .slice (some ⟨2, 0, none⟩) 1 k2] [dat d 1, dat e 3, dat (ruC hole q) 9] K = dbT e d q np n 2 K := by kernel_rfl
theorem db3_t (e d : List Value) (q : Int) (np cb n k1 k2 : Nat) (K : Value → Heap → Prop) : fnP Try.prog c0 (hsDb e d q n 3) 8 [.slice (some ⟨0, 0, none⟩) np cb, .slice (some ⟨1, 0, none⟩) n k1, .int .i64 0, .slice (some ⟨2, 0, none⟩) 1 k2] [dat d 1, dat e 3, dat (ruC hole q) 9] K = dbT e d q np n 3 K := by kernel_rfl
theorem db4_t (e d : List Value) (q : Int) (np cb n k1 k2 : Nat) (K : Value → Heap → Prop) : fnP Try.prog c0 (hsDb e d q n 4) 8 [.slice (some ⟨0, 0, none⟩) np cb, .slice (some ⟨1, 0, none⟩) n k1, .int .i64 0, .slice (some ⟨2, 0, none⟩) 1 k2] [dat d 1, dat e 3, dat (ruC hole q) 9] K = dbT e d q np n 4 K := by kernel_rfl
theorem dbN_le (e d : List Value) (n i : Nat) : dbC e d n i ≤ i := by
  have := List.length_filter_le (fun j => wN (ptZ e d n) n (fs (ptZ e d n) n) (plC e d n) j != 1) (List.range i)
  rw [List.length_range] at this; exact this
theorem db_yes {e d : List Value} {n i : Nat} (h : wE e d n i ≠ 1) : dbN e d n (i + 1) = dbN e d n i ++ [i] := by
  rw [dbN, List.range_succ, List.filter_append, dbN]
  congr 1
  have : (wN (ptZ e d n) n (fs (ptZ e d n) n) (plC e d n) i != 1) = true := by simpa [wE] using h
  simp only [List.filter_cons, this, List.filter_nil, if_true]
theorem db_no {e d : List Value} {n i : Nat} (h : wE e d n i = 1) : dbN e d n (i + 1) = dbN e d n i := by
  rw [dbN, List.range_succ, List.filter_append, dbN]
  have : (wN (ptZ e d n) n (fs (ptZ e d n) n) (plC e d n) i != 1) = false := by simpa [wE] using h
  simp only [List.filter_cons, this, List.filter_nil, Bool.false_eq_true, if_false, List.append_nil]
theorem db_in {e d : List Value} {q : Int} {np n G : Nat} (h : psIs e d (ruC hole q) 1 q np n G) (h4 : G ≤ 4) : dbT e d q np n G (fun v h => v = .tuple #[.slice (some ⟨3, 0, none⟩) (dbC e d n G) 0, .int .i64 0] ∧ h = [dat d 1, dat e 3, dat (ruC hole q) 9] ++ [dat (ints (dbL e d n G)) 1]) := by
  unfold dbT
  refine ⟨⟨rfl, h⟩, ⟨0, ⟨Nat.zero_le _⟩, ⟨rfl, rfl, rfl, rfl, trivial⟩, rfl⟩, fun i hi => br_of (fun hc => ?_) (fun hc => ?_)⟩
  · have hc := lt_of_dec hc
    have hl := dbN_le e d n i
    have e0 : 0 + (i : Int).toNat * 1 = i := by omega
    have hld : (sC e d n G)[i]? = some (.slice (some ⟨5 + i, 0, none⟩) (wE e d n i) 0) := by
      rw [sC, List.getElem?_map, List.getElem?_range hc]; rfl
    rw [e0, hld]
    refine ⟨⟨by omega, by omega⟩, ⟨rfl⟩, br_of (fun hw => ?_) (fun hw => ?_)⟩
    · have hw : wE e d n i ≠ 1 := fun e => by rw [e] at hw; simp at hw
      have h1 := db_yes hw
      have h2 : dbC e d n (i + 1) = dbC e d n i + 1 := by rw [dbC, h1, List.length_append]; rfl
      refine ⟨⟨by rw [ints_len, dbL, nats_len, Nat.mul_one]; rfl, by omega, by omega⟩, i + 1, ⟨by omega⟩, ⟨by omega⟩, ⟨by rw [h2], rfl, rfl, by rw [up1 hc (by omega)], trivial⟩, ?_⟩
      rw [dbL, dbL, h1, nats_app, ← ints_app]; rfl
    · have hw : wE e d n i = 1 := by
        have : ((wE e d n i : Nat) : Int) = 1 := by simpa using hw
        omega
      have h1 := db_no hw
      refine ⟨i + 1, ⟨by omega⟩, ⟨by omega⟩, ⟨by rw [dbC, dbC, h1], rfl, rfl, by rw [up1 hc (by omega)], trivial⟩, ?_⟩
      rw [dbL, dbL, h1]
  · have hc := ge_of_dec hc
    have : G = i := by have := hi.out; omega
    subst this
    exact ⟨rfl, rfl⟩
theorem db1_ok {e d : List Value} {q : Int} {np cb n k1 k2 : Nat} (h : psIs e d (ruC hole q) 1 q np n 1) : SmallRes Try.prog 8 [.slice (some ⟨0, 0, none⟩) np cb, .slice (some ⟨1, 0, none⟩) n k1, .int .i64 0, .slice (some ⟨2, 0, none⟩) 1 k2] [dat d 1, dat e 3, dat (ruC hole q) 9] (.tuple #[.slice (some ⟨3, 0, none⟩) (dbC e d n 1) 0, .int .i64 0]) ([dat d 1, dat e 3, dat (ruC hole q) 9] ++ [dat (ints (dbL e d n 1)) 1]) := by
  refine fnP_res hm c0_ok (hs := hsDb e d q n 1) ?_
  rw [db1_t]
  exact db_in h (by decide)
theorem db2_ok {e d : List Value} {q : Int} {np cb n k1 k2 : Nat} (h : psIs e d (ruC hole q) 1 q np n 2) : SmallRes Try.prog 8 [.slice (some ⟨0, 0, none⟩) np cb, .slice (some ⟨1, 0, none⟩) n k1, .int .i64 0, .slice (some ⟨2, 0, none⟩) 1 k2] [dat d 1, dat e 3, dat (ruC hole q) 9] (.tuple #[.slice (some ⟨3, 0, none⟩) (dbC e d n 2) 0, .int .i64 0]) ([dat d 1, dat e 3, dat (ruC hole q) 9] ++ [dat (ints (dbL e d n 2)) 1]) := by
  refine fnP_res hm c0_ok (hs := hsDb e d q n 2) ?_
  rw [db2_t]
  exact db_in h (by decide)
theorem db3_ok {e d : List Value} {q : Int} {np cb n k1 k2 : Nat} (h : psIs e d (ruC hole q) 1 q np n 3) : SmallRes Try.prog 8 [.slice (some ⟨0, 0, none⟩) np cb, .slice (some ⟨1, 0, none⟩) n k1, .int .i64 0, .slice (some ⟨2, 0, none⟩) 1 k2] [dat d 1, dat e 3, dat (ruC hole q) 9] (.tuple #[.slice (some ⟨3, 0, none⟩) (dbC e d n 3) 0, .int .i64 0]) ([dat d 1, dat e 3, dat (ruC hole q) 9] ++ [dat (ints (dbL e d n 3)) 1]) := by
  refine fnP_res hm c0_ok (hs := hsDb e d q n 3) ?_
  rw [db3_t]
  exact db_in h (by decide)
theorem db4_ok {e d : List Value} {q : Int} {np cb n k1 k2 : Nat} (h : psIs e d (ruC hole q) 1 q np n 4) : SmallRes Try.prog 8 [.slice (some ⟨0, 0, none⟩) np cb, .slice (some ⟨1, 0, none⟩) n k1, .int .i64 0, .slice (some ⟨2, 0, none⟩) 1 k2] [dat d 1, dat e 3, dat (ruC hole q) 9] (.tuple #[.slice (some ⟨3, 0, none⟩) (dbC e d n 4) 0, .int .i64 0]) ([dat d 1, dat e 3, dat (ruC hole q) 9] ++ [dat (ints (dbL e d n 4)) 1]) := by
  refine fnP_res hm c0_ok (hs := hsDb e d q n 4) ?_
  rw [db4_t]
  exact db_in h (by decide)
theorem db_ok {e d : List Value} {q : Int} {np cb n k1 k2 G : Nat} (h : psIs e d (ruC hole q) 1 q np n G) : SmallRes Try.prog 8 [.slice (some ⟨0, 0, none⟩) np cb, .slice (some ⟨1, 0, none⟩) n k1, .int .i64 0, .slice (some ⟨2, 0, none⟩) 1 k2] [dat d 1, dat e 3, dat (ruC hole q) 9] (.tuple #[.slice (some ⟨3, 0, none⟩) (dbC e d n G) 0, .int .i64 0]) ([dat d 1, dat e 3, dat (ruC hole q) 9] ++ [dat (ints (dbL e d n G)) 1]) := by
  have h0 := h
  obtain ⟨_, _, _, ⟨_, _, _, _, _, g1, g4⟩, _⟩ := h0
  match G, g1, g4, h with
  | 1, _, _, h => exact db1_ok h
  | 2, _, _, h => exact db2_ok h
  | 3, _, _, h => exact db3_ok h
  | 4, _, _, h => exact db4_ok h
  | 0, g1, _, _ => omega
  | G + 5, _, g4, _ => omega
noncomputable def orcDb (q : Int) (G : Nat) : OrcV
  | [.slice (some ⟨0, 0, none⟩) np _, .slice (some ⟨1, 0, none⟩) n _, .int .i64 x, .slice (some ⟨2, 0, none⟩) r _], [some (.row d 1 true true true), some (.row e 3 true true true), some (.row rl 9 true true true)] =>
    some (.tuple #[.slice (some ⟨3, 0, none⟩) (dbC e d n G) 0, .int .i64 0], [some (.row d 1 true true true), some (.row e 3 true true true), some (.row rl 9 true true true), some (.row (ints (dbL e d n G)) 1 true true true)], x = 0 ∧ r = 1 ∧ psIs e d rl r q np n G)
  | _, _ => none
theorem okDb (q : Int) (G : Nat) : OkV Try.prog 8 (orcDb q G) := by
  intro args H ret H' vc h hv
  unfold orcDb at h
  split at h
  · cases h
    obtain ⟨rfl, rfl, hp⟩ := hv
    have h2 := hp.1.2.1
    subst h2
    exact db_ok hp
  · cases h
end
end Qq
end
section
/- Sets of numbers, words that are the same; the fixed example. -/
open Go Go.Vm Go.Proofs Sp
namespace Qq
noncomputable section
def smC (e1 e2 : List Value) (n m : Nat) : Prop := e1 = e2 ∧ n = m ∧ ∃ L, e1 = ints L ∧ L.length = n ∧ n ≤ 100
noncomputable def orcSm : OrcV
  | [.slice (some ⟨0, 0, none⟩) n _, .slice (some ⟨1, 0, none⟩) m _], [some (.row e1 1 true true true), some (.row e2 1 true true true)] => some (.bool true, [some (.row e1 1 true true true), some (.row e2 1 true true true)], smC e1 e2 n m)
  | _, _ => none
theorem okSm : OkV Try.prog 24 orcSm := by
  intro args H ret H' vc h hv
  unfold orcSm at h
  split at h
  · cases h
    obtain ⟨rfl, rfl, L, rfl, h1, h2⟩ := hv
    exact okSmI L _ _ _ _ _ rfl ⟨rfl, rfl, rfl, h1, by omega⟩
  · cases h
noncomputable def hsSS : Hs Try.prog where
  nl _ := [.stay]
  rn := [.stay]
  au := auCalls [(24, hCa Try.prog 24 orcSm okSm)]
/-- Two lists of groups. -/
def h9 (z1 : List Int) (w : Nat) (F1 : List Nat) (z2 : List Int) (F2 : List Nat) (G : Nat) : Heap := (gR z1 w F1 1 G :: gT z1 w F1 G) ++ (gR z2 w F2 (G + 2) G :: gT z2 w F2 G)
def sJ (z1 : List Int) (w : Nat) (F1 : List Nat) (z2 : List Int) (F2 : List Nat) (j : Nat) : Prop := smC (ints (gI2 z1 w F1 j)) (ints (gI2 z2 w F2 j)) (gLen z1 w F1 j) (gLen z2 w F2 j)
theorem ss1_t (z1 : List Int) (w : Nat) (F1 : List Nat) (z2 : List Int) (F2 : List Nat) (K : Value → Heap → Prop) : fnP Try.prog c0 hsSS 9 [.slice (some ⟨0, 0, none⟩) 1 0, .slice (some ⟨2, 0, none⟩) 1 0] (h9 z1 w F1 z2 F2 1) K = chQ (sJ z1 w F1 z2 F2) 0 1 (K (.bool true) (h9 z1 w F1 z2 F2 1)) := by kernel_rfl
theorem ss2_t (z1 : List Int) (w : Nat) (F1 : List Nat) (z2 : List Int) (F2 : List Nat) (K : Value → Heap → Prop) : fnP Try.prog c0 hsSS 9 [.slice (some ⟨0, 0, none⟩) 2 0, .slice (some ⟨3, 0, none⟩) 2 0] (h9 z1 w F1 z2 F2 2) K = chQ (sJ z1 w F1 z2 F2) 0 2 (K (.bool true) (h9 z1 w F1 z2 F2 2)) := by kernel_rfl
theorem ss3_t (z1 : List Int) (w : Nat) (F1 : List Nat) (z2 : List Int) (F2 : List Nat) (K : Value → Heap → Prop) : fnP Try.prog c0 hsSS 9 [.slice (some ⟨0, 0, none⟩) 3 0, .slice (some ⟨4, 0, none⟩) 3 0] (h9 z1 w F1 z2 F2 3) K = chQ (sJ z1 w F1 z2 F2) 0 3 (K (.bool true) (h9 z1 w F1 z2 F2 3)) := by kernel_rfl
theorem ss4_t (z1 : List Int) (w : Nat) (F1 : List Nat) (z2 : List Int) (F2 : List Nat) (K : Value → Heap → Prop) : fnP Try.prog c0 hsSS 9 [.slice (some ⟨0, 0, none⟩) 4 0, .slice (some ⟨5, 0, none⟩) 4 0] (h9 z1 w F1 z2 F2 4) K = chQ (sJ z1 w F1 z2 F2) 0 4 (K (.bool true) (h9 z1 w F1 z2 F2 4)) := by kernel_rfl
noncomputable def orcSS (z1 : List Int) (w : Nat) (F1 : List Nat) (z2 : List Int) (F2 : List Nat) (G : Nat) : OrcV := fun args H =>
  some (.bool true, h9 z1 w F1 z2 F2 G, (args = [.slice (some ⟨0, 0, none⟩) G 0, .slice (some ⟨G + 1, 0, none⟩) G 0] ∧ H = h9 z1 w F1 z2 F2 G) ∧ (1 ≤ G ∧ G ≤ 4) ∧ ∀ j, j < G → sJ z1 w F1 z2 F2 j)
theorem okSS (z1 : List Int) (w : Nat) (F1 : List Nat) (z2 : List Int) (F2 : List Nat) (G : Nat) : OkV Try.prog 9 (orcSS z1 w F1 z2 F2 G) := by
  intro args H ret H' vc h hv
  cases h
  obtain ⟨⟨rfl, rfl⟩, ⟨g1, g4⟩, hj⟩ := hv
  match G, g1, g4, hj with
  | 1, _, _, hj =>
    refine fnP_res hm c0_ok (hs := hsSS) ?_
    rw [ss1_t]
    exact chQ_of hj ⟨rfl, rfl⟩ 1 0 rfl
  | 2, _, _, hj =>
    refine fnP_res hm c0_ok (hs := hsSS) ?_
    rw [ss2_t]
    exact chQ_of hj ⟨rfl, rfl⟩ 2 0 rfl
  | 3, _, _, hj =>
    refine fnP_res hm c0_ok (hs := hsSS) ?_
    rw [ss3_t]
    exact chQ_of hj ⟨rfl, rfl⟩ 3 0 rfl
  | 4, _, _, hj =>
    refine fnP_res hm c0_ok (hs := hsSS) ?_
    rw [ss4_t]
    exact chQ_of hj ⟨rfl, rfl⟩ 4 0 rfl
  | 0, g1, _, _ => omega
  | G + 5, _, g4, _ => omega
theorem sw_t (a b c' d' : Bool) (c d : Nat) (K : Value → Heap → Prop) : fnP Try.prog c0 hsO 10 [.slice (some ⟨0, 0, none⟩) 1 c, .slice (some ⟨1, 0, none⟩) 1 d] [some (.row [.string hole] 1 a b true), some (.row [.string hole] 1 c' d' true)] K = K (.bool true) [some (.row [.string hole] 1 a b true), some (.row [.string hole] 1 c' d' true)] := by kernel_rfl
def swC (e1 e2 : List Value) (n m : Nat) : Prop := e1 = [.string hole] ∧ e2 = [.string hole] ∧ n = 1 ∧ m = 1
noncomputable def orcSw : OrcV
  | [.slice (some ⟨0, 0, none⟩) n _, .slice (some ⟨1, 0, none⟩) m _], [some (.row e1 1 a b true), some (.row e2 1 c d true)] => some (.bool true, [some (.row e1 1 a b true), some (.row e2 1 c d true)], swC e1 e2 n m)
  | _, _ => none
theorem sw_ok (a b c' d' : Bool) (c d : Nat) : SmallRes Try.prog 10 [.slice (some ⟨0, 0, none⟩) 1 c, .slice (some ⟨1, 0, none⟩) 1 d] [some (.row [.string hole] 1 a b true), some (.row [.string hole] 1 c' d' true)] (.bool true) [some (.row [.string hole] 1 a b true), some (.row [.string hole] 1 c' d' true)] := by
  refine fnP_res hm c0_ok (hs := hsO) ?_
  rw [sw_t]; exact ⟨rfl, rfl⟩
theorem okSw : OkV Try.prog 10 orcSw := by
  intro args H ret H' vc h hv
  unfold orcSw at h
  split at h
  · cases h
    obtain ⟨rfl, rfl, rfl, rfl⟩ := hv
    exact sw_ok _ _ _ _ _ _
  · cases h
theorem se_t (K : Value → Heap → Prop) : fnP Try.prog c0 hsO 4 [] [] K = (Is True ∧ Is True ∧ K (.bool true) noH) := by kernel_rfl
noncomputable def orcEo : OrcV
  | [], [] => some (.bool true, [], True)
  | _, _ => none
theorem okEo : OkV Try.prog 4 orcEo := by
  intro args H ret H' vc h hv
  unfold orcEo at h
  split at h
  · cases h
    refine fnP_res hm c0_ok (hs := hsO) ?_
    rw [se_t]
    exact ⟨⟨trivial⟩, ⟨trivial⟩, rfl, rfl⟩
  · cases h
end
end Qq
end
section
/- What the law builds. -/
open Go Go.Vm Go.Proofs Sp
namespace Sp
open Qq
noncomputable section
/-- So many echoes: of i reflectors all, and k more. -/
noncomputable def cnt (nS i k : Nat) : Nat := i * nS + k
/-- All echoes. -/
noncomputable def nE (nR nS : Nat) : Nat := cnt nS nR 0
/-- The slopes of the probes; those of the other train. -/
noncomputable def psL (ss : List Int) : List Int := ss.map fun s => s.tmod 4
noncomputable def ngL (ss : List Int) : List Int := ss.map fun s => -(s.tmod 4)
noncomputable def psC (ss : List Int) (k : Nat) : List Value := ints ((psL ss).take k)
noncomputable def ngC (ss : List Int) (k : Nat) : List Value := ints ((ngL ss).take k)
/-- Where a reflector lies. -/
noncomputable def rX (rs : List Int) (i : Nat) : Int := 1000 + rs.getD (i * 2) 0
noncomputable def rY (rs : List Int) (i : Nat) : Int := 1 + (rs.getD (i * 2 + 1) 0).tmod 40
noncomputable def poR (rs : List Int) (i : Nat) : List Int := [rX rs i, rY rs i]
noncomputable def rz (rs : List Int) (n : Nat) : List Int := mp (poR rs) n
/-- The echoes: of the q-th, the reflector and the probe. -/
noncomputable def poE (rs : List Int) (nS q : Nat) : List Int := poR rs (q / nS)
noncomputable def thE (rs ss : List Int) (nS q : Nat) : List Int := [((q % nS : Nat) : Int), rX rs (q / nS) - (psL ss).getD (q % nS) 0 * rY rs (q / nS), rY rs (q / nS)]
noncomputable def bkE (rs ss : List Int) (nS q : Nat) : List Int := [((q % nS : Nat) : Int), 10000 - rX rs (q / nS) - (ngL ss).getD (q % nS) 0 * rY rs (q / nS), rY rs (q / nS)]
noncomputable def thC (rs ss : List Int) (nS n : Nat) : List Value := ints (mp (thE rs ss nS) n)
noncomputable def bkC (rs ss : List Int) (nS n : Nat) : List Value := ints (mp (bkE rs ss nS) n)
noncomputable def poC (rs : List Int) (nS n : Nat) : List Value := ints (mp (poE rs nS) n)
/-- The different ones of the first i. -/
noncomputable def dfI (rs : List Int) (nR i : Nat) : List Nat := fs (rz rs nR) i
noncomputable def dfN (rs : List Int) (nR i : Nat) : Nat := (dfI rs nR i).length
noncomputable def dfC (rs : List Int) (nR i : Nat) : List Value := ints ((dfI rs nR i).flatMap (poR rs))
noncomputable def knw (rs : List Int) (nR i j : Nat) : Bool := ((dfI rs nR i).take j).any fun g => eN (rz rs nR) g i
noncomputable def u8s (ds : List Int) : List Value := ds.map fun b => .int .u8 b
noncomputable def i8s (ds : List Int) : List Value := ds.map fun b => .int .i8 b
noncomputable def dA (ds : List Int) (off : Nat) : Int := ds.getD off 0
noncomputable def gU2 (rs : List Int) (off : Nat) : Value := .agg #[.int .u8 (dA rs off), .int .u8 (dA rs (off + 1))]
noncomputable def gI8 (ss : List Int) (off : Nat) : Value := .int .i8 (dA ss off)
noncomputable def gE2 (cells : List Value) (off : Nat) : Value := .agg #[.int .i64 (iAt cells off), .int .i64 (iAt cells (off + 1))]
end
end Sp
end
