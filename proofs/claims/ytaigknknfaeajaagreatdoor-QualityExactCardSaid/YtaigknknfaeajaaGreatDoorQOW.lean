/- A section of one's own, of the reference. -/
import Derived.Test.YtaigknknfaeajaaGreatDoorZG
import Derived.Test.YtaigknknfaeajaaGreatDoorZD
open Go Go.Vm Go.Proofs Sp
namespace Qq
noncomputable section
noncomputable def hsOw : Hs Tryz.prog where
  op y := if [105, 109].contains y then some (hAe Tryz.prog true) else none
theorem ow_t (nm : ByteArray) (zs : List Int) (ks : List (Int × ByteArray)) (n : Nat) (c : Nat) (k : Nat) (d : Nat) (K : Value → Heap → Prop) :
    (fnP Tryz.prog c0 hsOw (74 : FuncId) [Value.agg (List.toArray (secA nm (0 : Nat) n c (1 : Nat) k d))] (hp2 zs ks false false false false []) K) =
    (Is (List.length (ints zs) = n * (2 : Nat) ∧ (∀ (v : Value), v ∈ ints zs → atom v = true) ∧ n * (16 : Nat) ≤ (140737488355328 : Nat) ∧ n ≤ (9223372036854775807 : Nat)) ∧ Is (List.length (acs ks) = k * (2 : Nat) ∧ (∀ (v : Value), v ∈ acs ks → atom v = true) ∧ k * (24 : Nat) ≤ (140737488355328 : Nat) ∧ k ≤ (9223372036854775807 : Nat)) ∧ K (Value.agg #[Value.string nm, Value.slice (some { block := (2 : Nat), off := (0 : Nat) }) n (0 : Nat), Value.slice (some { block := (3 : Nat), off := (0 : Nat) }) k (0 : Nat)]) (some (AObj.row (ints zs) (2 : Nat) false false true) :: some (AObj.row (acs ks) (2 : Nat) false false true) :: some (AObj.row (ints zs) (2 : Nat) true true true) :: some (AObj.row (acs ks) (2 : Nat) true true true) :: noH)) := by kernel_rfl
noncomputable def orcOw (zs : List Int) (ks : List (Int × ByteArray)) : OrcV
  | [.agg ⟨[.string nm, .slice (some ⟨0, 0, none⟩) n _, .slice (some ⟨1, 0, none⟩) k _]⟩], [some (.row e1 2 false false true), some (.row e2 2 false false true)] => some (.agg #[.string nm, .slice (some ⟨2, 0, none⟩) n 0, .slice (some ⟨3, 0, none⟩) k 0], [some (.row e1 2 false false true), some (.row e2 2 false false true), some (.row (ints zs) 2 true true true), some (.row (acs ks) 2 true true true)], isSec zs ks n k e1 e2)
  | _, _ => none
theorem acs_atom : ∀ (ks : List (Int × ByteArray)), ∀ v ∈ acs ks, atom v = true
  | [], v, h => by simp [acs] at h
  | a :: r, v, h => by
    simp only [acs, List.mem_cons] at h
    rcases h with rfl | rfl | h
    · rfl
    · rfl
    · exact acs_atom r v h
theorem ow_okV (zs : List Int) (ks : List (Int × ByteArray)) : OkV Tryz.prog 74 (orcOw zs ks) := by
  intro args H ret H' vc h hv
  unfold orcOw at h
  split at h
  · rename_i nm n c k d e1 e2
    cases h
    obtain ⟨rfl, rfl, hz, hk, hn, hk2⟩ := hv
    refine fnP_res hm c0_ok (hs := hsOw) ?_
    show fnP Tryz.prog c0 hsOw 74 [.agg (secA nm 0 n c 1 k d).toArray] (hp2 zs ks false false false false []) _
    rw [ow_t]
    refine ⟨⟨by rw [ints_len]; omega, fun v hv => ?_, by omega, by omega⟩, ⟨by rw [acs_len]; omega, fun v hv => ?_, by omega, by omega⟩, by first | trivial | rfl, by first | trivial | rfl⟩
    · obtain ⟨z, _, rfl⟩ := List.mem_map.1 hv; rfl
    · exact acs_atom ks v hv
  · cases h
theorem ldm {zs : List Int} {i : Nat} (h : i * 2 + 2 ≤ zs.length) : (if i * 2 + 2 ≤ (ints zs).length then some (Value.agg (List.toArray (List.take 2 (List.drop (i * 2) (ints zs))))) else none) =
    some (.agg #[.int .i64 (zs.getD (i * 2) 0), .int .i64 (zs.getD (i * 2 + 1) 0)]) := by
  rw [ints_len, if_pos h, ints_pair h]
end
end Qq
