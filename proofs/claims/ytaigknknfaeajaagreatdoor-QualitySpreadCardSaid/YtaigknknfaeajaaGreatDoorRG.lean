/- The law about moments of parts. -/
import Derived.Test.YtaigknknfaeajaaGreatDoorZU
import Derived.Test.YtaigknknfaeajaaGreatDoorQE
import Derived.Test.YtaigknknfaeajaaGreatDoorZD
open Go Go.Vm Go.Proofs Sp
namespace Sp
noncomputable section
noncomputable def shB (nm : ByteArray) (n k : Nat) : Bool := decide (nm.size ≤ 40) && ((decide (n ≤ 40) || n == 4097) && decide (k ≤ 12))
end
end Sp
namespace Qq
noncomputable section
noncomputable def orcOwR (xs : List Nat) (hs : List Int) : OrcV
  | [.agg ⟨[.string nm, .int .i64 f, .slice (some ⟨0, 0, none⟩) n _, .slice (some ⟨1, 0, none⟩) k _]⟩], [some (.row e1 1 false false true), some (.row e2 2 false false true)] =>
    some (.agg #[.string nm, .int .i64 f, .slice (some ⟨2, 0, none⟩) n 0, .slice (some ⟨3, 0, none⟩) k 0], [some (.row e1 1 false false true), some (.row e2 2 false false true), fR xs, some (.row (ints hs) 2 true true true)], isRun xs hs n k e1 e2)
  | _, _ => none
theorem okOwR (xs : List Nat) (hs : List Int) : OkV Tryz.prog 113 (orcOwR xs hs) := by
  intro args H ret H' vc h hv
  unfold orcOwR at h
  split at h
  · rename_i nm f n c k d e1 e2
    cases h
    obtain ⟨rfl, rfl, h1, h2, h3, h4⟩ := hv
    refine fnP_res hm c0_ok (hs := hsOw) ?_
    show fnP Tryz.prog c0 hsOw 113 [.agg (runA nm f 0 n c 1 k d).toArray] (hp2r xs hs false false false false []) _
    rw [owR_t]
    exact ⟨⟨by rw [flts_len]; omega, flts_atom xs, by omega, by omega⟩, ⟨by rw [ints_len]; omega, fun v hv => by obtain ⟨x, _, rfl⟩ := List.mem_map.1 hv; rfl, by omega, by omega⟩, by first | trivial | rfl, by first | trivial | rfl⟩
  · cases h
noncomputable def hsRu (xs : List Nat) (hs : List Int) : Hs Tryz.prog where
  au := auCalls [(113, hCa Tryz.prog 113 (orcOwR xs hs) (okOwR xs hs))]
theorem ru_t (nm : ByteArray) (f : Int) (n : Nat) (c : Nat) (k : Nat) (d : Nat) (xs : List Nat) (hs : List Int) (K : Value → Heap → Prop) :
    (fnP Tryz.prog c0 (hsRu xs hs) (21 : FuncId) [Value.agg (List.toArray (runA nm f (0 : Nat) n c (1 : Nat) k d))] (hp2r xs hs false false false false []) K) =
    (Is (isRun xs hs n k (flts xs) (ints hs)) ∧ K (Value.agg #[Value.string nm, Value.int IntKind.i64 f, Value.slice (some { block := (2 : Nat), off := (0 : Nat) }) n (0 : Nat), Value.slice (some { block := (3 : Nat), off := (0 : Nat) }) k (0 : Nat)]) (some (AObj.row (flts xs) (1 : Nat) false false true) :: some (AObj.row (ints hs) (2 : Nat) false false true) :: some (AObj.row (flts xs) (1 : Nat) true true true) :: some (AObj.row (ints hs) (2 : Nat) true true true) :: noH)) := by kernel_rfl
theorem okRu (xs : List Nat) (hs : List Int) : OkV Tryz.prog 21 (orcOwR xs hs) := by
  intro args H ret H' vc h hv
  unfold orcOwR at h
  split at h
  · rename_i nm f n c k d e1 e2
    cases h
    obtain ⟨rfl, rfl, h1, h2, h3, h4⟩ := hv
    refine fnP_res hm c0_ok (hs := hsRu xs hs) ?_
    show fnP Tryz.prog c0 (hsRu xs hs) 21 [.agg (runA nm f 0 n c 1 k d).toArray] (hp2r xs hs false false false false []) _
    rw [ru_t]
    exact ⟨⟨rfl, rfl, h1, h2, h3, h4⟩, by first | trivial | rfl, by first | trivial | rfl⟩
  · cases h
noncomputable def isRn1 (xs : List Nat) (hs : List Int) (e1 e2 : List Value) : Prop := e1 = flts xs ∧ e2 = ints hs
noncomputable def orcShR (xs : List Nat) (hs : List Int) : OrcV
  | [.agg ⟨[.string nm, .int .i64 _, .slice (some ⟨0, 0, none⟩) n _, .slice (some ⟨1, 0, none⟩) k _]⟩], [some (.row e1 1 false false true), some (.row e2 2 false false true)] =>
    some (.bool (shB nm n k), [some (.row e1 1 false false true), some (.row e2 2 false false true)], isRn1 xs hs e1 e2)
  | _, _ => none
theorem okShR (xs : List Nat) (hs : List Int) : OkV Tryz.prog 19 (orcShR xs hs) := by
  intro args H ret H' vc h hv
  unfold orcShR at h
  split at h
  · rename_i nm f n c k d e1 e2
    cases h
    obtain ⟨rfl, rfl⟩ := hv
    refine fnP_res hm c0_ok (hs := hsShR) ?_
    show fnP Tryz.prog c0 hsShR 19 [.agg (runA nm f 0 n c 1 k d).toArray] (hp2r xs hs false false false false []) _
    rw [srn_t]
    have e40 : decide ((nm.size : Int) ≤ 40) = decide (nm.size ≤ 40) := decide_eq_decide.2 (by omega)
    have e12 : decide ((k : Int) ≤ 12) = decide (k ≤ 12) := decide_eq_decide.2 (by omega)
    refine br_of (fun h => ⟨⟨xs, rfl⟩, br_of (fun h2 => ?_) (fun h2 => ?_)⟩) (fun h => ?_)
    · rw [shB, ← e40, h, h2, e12]; exact ⟨by first | trivial | rfl, by first | trivial | rfl⟩
    · rw [shB, ← e40, h, h2]; exact ⟨by first | trivial | rfl, by first | trivial | rfl⟩
    · rw [shB, ← e40, h]; exact ⟨by first | trivial | rfl, by first | trivial | rfl⟩
  · cases h
noncomputable def orcPtR (xs : List Nat) (hs : List Int) : OrcV
  | [.agg ⟨[.string _, .int .i64 f, .slice (some ⟨0, 0, none⟩) n _, .slice (some ⟨1, 0, none⟩) _ _]⟩, .agg ⟨[.int .i64 p, .int .i64 q]⟩], [some (.row e1 1 false false true), some (.row e2 2 false false true)] =>
    some (.int .i64 (wh (spB f n p q) 14), [some (.row e1 1 false false true), some (.row e2 2 false false true)], isRn1 xs hs e1 e2 ∧ 0 ≤ f ∧ f ≤ 100000000 ∧ n ≤ 100000)
  | _, _ => none
theorem okPtR (xs : List Nat) (hs : List Int) : OkV Tryz.prog 23 (orcPtR xs hs) := by
  intro args H ret H' vc h hv
  unfold orcPtR at h
  split at h
  · rename_i nm f n c k d p q e1 e2
    cases h
    obtain ⟨⟨rfl, rfl⟩, f0, f1, hn⟩ := hv
    refine fnP_res hm cr14_ok (hs := h0) ?_
    show fnP Tryz.prog cr14 h0 23 [.agg (runA nm f 0 n c 1 k d).toArray, .agg (spC p q).toArray] (hp2r xs hs false false false false []) _
    rw [ptR_t, wrap_eq (x := f + n) (by omega) (by omega), spB]
    refine br_of (fun h1 => ?_) (fun h1 => br_of (fun h2 => ?_) (fun h2 => ?_))
    · rw [h1]; exact ⟨by first | trivial | rfl, by first | trivial | rfl⟩
    · rw [h1, h2]; exact ⟨by first | trivial | rfl, by first | trivial | rfl⟩
    · rw [h1, h2]; exact ⟨by first | trivial | rfl, by first | trivial | rfl⟩
  · cases h
noncomputable def l3 : List (Nat × Orc) := [(18, orcTrue)]
noncomputable def hs3 (xs : List Nat) (hs : List Int) : Hs Tryz.prog where
  au := auCalls [(19, hCa Tryz.prog 19 (orcShR xs hs) (okShR xs hs)), (21, hCa Tryz.prog 21 (orcOwR xs hs) (okRu xs hs)), (20, hCa Tryz.prog 20 (orcMoV xs hs) (okMoV xs hs)), (22, hCa Tryz.prog 22 (orcCrR xs hs) (okCrR xs hs)),
    (23, hCa Tryz.prog 23 (orcPtR xs hs) (okPtR xs hs)), (24, hCa Tryz.prog 24 (orcMoR xs hs) (okMoR xs hs))]
end
end Qq
