/- Indices, the worst window: the program, and the reference. -/
import Derived.Test.YtaigknknfaeajaaGreatDoorRK
import Derived.Test.YtaigknknfaeajaaGreatDoorZO
open Go Go.Vm Go.Proofs Sp
namespace Sp
noncomputable section
noncomputable def cwE (nm : ByteArray) (f : Int) (xs : List Nat) (n : Nat) (hs : List Int) (y : Int) : Int := fi [runE nm f xs n hs, wi y 2 256]
noncomputable def iL (nm : ByteArray) (f : Int) (xs : List Nat) (n : Nat) (hs : List Int) (y : Int) : List Int := if cwE nm f xs n hs y = 0 then ixL xs hs y.toNat (n / y.toNat) else []
end
end Sp
namespace Qq
noncomputable section
noncomputable def hsCw (xs : List Nat) (hs : List Int) : Hs Tryz.prog where
  au := auCalls [(108, hCa Tryz.prog 108 (orcCrP xs hs) (okCrP xs hs))]
theorem cw_t (nm : ByteArray) (f : Int) (n : Nat) (c : Nat) (k : Nat) (d : Nat) (xs : List Nat) (hs : List Int) (y : Int) (K : Value → Heap → Prop) :
    (fnP Tryz.prog c2 (hsCw xs hs) (118 : FuncId) [Value.agg (List.toArray (runA nm f (0 : Nat) n c (1 : Nat) k d)), Value.int IntKind.i64 y] (hp2r xs hs true true true true []) K) =
    (Is (isRun xs hs n k (flts xs) (ints hs)) ∧ K (Value.int IntKind.i64 (fi [runE nm f xs n hs, wi y (2 : Int) (256 : Int)])) (some (AObj.row (flts xs) (1 : Nat) true true true) :: some (AObj.row (ints hs) (2 : Nat) true true true) :: noH)) := by kernel_rfl
noncomputable def orcCw (xs : List Nat) (hs : List Int) : OrcV
  | [.agg ⟨[.string nm, .int .i64 f, .slice (some ⟨0, 0, none⟩) n _, .slice (some ⟨1, 0, none⟩) k _]⟩, .int .i64 y], [some (.row e1 1 true true true), some (.row e2 2 true true true)] =>
    some (.int .i64 (cwE nm f xs n hs y), [some (.row e1 1 true true true), some (.row e2 2 true true true)], isRun xs hs n k e1 e2)
  | _, _ => none
theorem okCw (xs : List Nat) (hs : List Int) : OkV Tryz.prog 118 (orcCw xs hs) := by
  intro args H ret H' vc h hv
  unfold orcCw at h
  split at h
  · rename_i nm f n c k d y e1 e2
    cases h
    obtain ⟨rfl, rfl, h1, h2, h3, h4⟩ := hv
    refine fnP_res hm c2_ok (hs := hsCw xs hs) ?_
    show fnP Tryz.prog c2 (hsCw xs hs) 118 [.agg (runA nm f 0 n c 1 k d).toArray, _] (hp2r xs hs true true true true []) _
    rw [cw_t]
    exact ⟨⟨rfl, rfl, h1, h2, h3, h4⟩, by first | trivial | rfl, by first | trivial | rfl⟩
  · cases h
noncomputable def hsId (xs : List Nat) (hs : List Int) (y : Int) : Hs Tryz.prog where
  au := auCalls [(118, hCa Tryz.prog 118 (orcCw xs hs) (okCw xs hs)), (119, hCa Tryz.prog 119 (orcInx xs hs y.toNat) (okInx xs hs y.toNat))]
theorem id_t (nm : ByteArray) (f : Int) (n : Nat) (c : Nat) (k : Nat) (d : Nat) (xs : List Nat) (hs : List Int) (y : Int) (K : Value → Heap → Prop) :
    (fnP Tryz.prog c2 (hsId xs hs y) (25 : FuncId) [Value.agg (List.toArray (runA nm f (0 : Nat) n c (1 : Nat) k d)), Value.int IntKind.i64 y] (hp2r xs hs true true true true []) K) =
    (Is (isRun xs hs n k (flts xs) (ints hs)) ∧ br (cwE nm f xs n hs y != (0 : Int)) (K (Value.tuple #[Value.slice none (0 : Nat) (0 : Nat), Value.int IntKind.i64 (cwE nm f xs n hs y)]) (some (AObj.row (flts xs) (1 : Nat) true true true) :: some (AObj.row (ints hs) (2 : Nat) true true true) :: noH)) (Is (isRun xs hs n k (flts xs) (ints hs) ∧ runE nm f xs n hs = (0 : Int) ∧ y = (↑(Int.toNat y) : Int) ∧ (0 : Nat) < Int.toNat y ∧ Int.toNat y ≤ (256 : Nat)) ∧ K (Value.tuple #[Value.slice (some { block := (2 : Nat), off := (0 : Nat) }) (n / Int.toNat y) (0 : Nat), Value.int IntKind.i64 (0 : Int)]) (some (AObj.row (flts xs) (1 : Nat) true true true) :: some (AObj.row (ints hs) (2 : Nat) true true true) :: some (AObj.row (ints (ixL xs hs (Int.toNat y) (n / Int.toNat y))) (1 : Nat) true true true) :: noH))) := by kernel_rfl
/- The first index of a value. -/
/- The worst window. -/
theorem cw_zero {nm : ByteArray} {f : Int} {xs : List Nat} {n : Nat} {hs : List Int} {y : Int} (h : cwE nm f xs n hs y = 0) : runE nm f xs n hs = 0 ∧ y = (y.toNat : Int) ∧ 0 < y.toNat ∧ y.toNat ≤ 256 := by
  have h1 := fi_zero.1 h (runE nm f xs n hs) (by simp)
  have h2 := wi_zero.1 (fi_zero.1 h (wi y 2 256) (by simp))
  exact ⟨h1, by omega, by omega, by omega⟩
theorem iL_some {nm : ByteArray} {f : Int} {xs : List Nat} {n : Nat} {hs : List Int} {y : Int} (h : cwE nm f xs n hs y = 0) : iL nm f xs n hs y = ixL xs hs y.toNat (n / y.toNat) := if_pos h
theorem iL_none {nm : ByteArray} {f : Int} {xs : List Nat} {n : Nat} {hs : List Int} {y : Int} (h : ¬ cwE nm f xs n hs y = 0) : iL nm f xs n hs y = [] := if_neg h
theorem id_ok {nm : ByteArray} {f : Int} {n c k d : Nat} {xs : List Nat} {hs : List Int} {y : Int} (hr : isRun xs hs n k (flts xs) (ints hs)) :
    SmallRes Tryz.prog 25 [.agg (runA nm f 0 n c 1 k d).toArray, .int .i64 y] (hp2r xs hs true true true true []) (.tuple #[.slice (some ⟨2, 0, none⟩) (iL nm f xs n hs y).length 0, .int .i64 (cwE nm f xs n hs y)]) (hp2r xs hs true true true true [oneR (iL nm f xs n hs y)]) := by
  by_cases h0 : cwE nm f xs n hs y = 0
  · obtain ⟨h1, h2, h3, h4⟩ := cw_zero h0
    rw [iL_some h0, ixL_len, h0]
    refine fnP_res hm c2_ok (hs := hsId xs hs y) ?_
    rw [id_t]
    exact ⟨⟨hr⟩, br_of (fun h => by rw [h0] at h; cases h) (fun _ => ⟨⟨hr, h1, h2, h3, h4⟩, by first | trivial | rfl, by first | trivial | rfl⟩)⟩
  · rw [iL_none h0]
    refine SmallRes.nil (H' := hp2r xs hs true true true true []) (rest := [.int .i64 (cwE nm f xs n hs y)]) ?_ 1
    refine fnP_res hm c2_ok (hs := hsId xs hs y) ?_
    rw [id_t]
    exact ⟨⟨hr⟩, br_of (fun _ => ⟨by first | trivial | rfl, by first | trivial | rfl⟩) (fun h => absurd (by simpa using h) h0)⟩
noncomputable def orcIdV (xs : List Nat) (hs : List Int) : OrcV
  | [.agg ⟨[.string nm, .int .i64 f, .slice (some ⟨0, 0, none⟩) n _, .slice (some ⟨1, 0, none⟩) k _]⟩, .int .i64 y], [some (.row e1 1 true true true), some (.row e2 2 true true true)] =>
    some (.tuple #[.slice (some ⟨2, 0, none⟩) (iL nm f xs n hs y).length 0, .int .i64 (cwE nm f xs n hs y)], [some (.row e1 1 true true true), some (.row e2 2 true true true), oneR (iL nm f xs n hs y)], isRun xs hs n k e1 e2)
  | _, _ => none
theorem okIdV (xs : List Nat) (hs : List Int) : OkV Tryz.prog 25 (orcIdV xs hs) := by
  intro args H ret H' vc h hv
  unfold orcIdV at h
  split at h
  · cases h
    obtain ⟨rfl, rfl, h1⟩ := hv
    exact id_ok ⟨rfl, rfl, h1⟩
  · cases h
/-! ### The worst window -/
end
end Qq
