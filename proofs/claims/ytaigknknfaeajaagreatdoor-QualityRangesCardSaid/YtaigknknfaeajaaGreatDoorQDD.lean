/- The law about lines: its own functions. -/
import Derived.Test.YtaigknknfaeajaaGreatDoorZH
import Derived.Test.YtaigknknfaeajaaGreatDoorQJ
open Go Go.Vm Go.Proofs Sp
namespace Qq
noncomputable section
noncomputable def orcFewV (zs : List Int) (ks : List (Int × ByteArray)) : OrcV
  | [.agg ⟨[.string _nm, .slice (some ⟨0, 0, none⟩) n _c, .slice (some ⟨1, 0, none⟩) k _d]⟩, .int .i64 p], [some (.row e1 2 false false true), some (.row e2 2 false false true)] =>
    some (.int .i64 (wh (decide (pm zs ks n k p < 2)) 16), [some (.row e1 2 false false true), some (.row e2 2 false false true)], isPer zs ks n k p e1 e2)
  | _, _ => none
theorem few_okV (zs : List Int) (ks : List (Int × ByteArray)) : OkV Tryz.prog 45 (orcFewV zs ks) := by
  intro args H ret H' vc h hv
  unfold orcFewV at h
  split at h
  · rename_i nm n c k d p e1 e2
    cases h
    obtain ⟨⟨rfl, rfl, h1⟩, h2⟩ := hv
    refine fnP_res hm cr2_ok (hs := hsFew zs ks) ?_
    show fnP Tryz.prog cr2 (hsFew zs ks) 45 [.agg (secA nm 0 n c 1 k d).toArray, .int .i64 p] (hp2 zs ks false false false false []) _
    rw [few_t]
    have e : decide ((pm zs ks n k p : Int) < 2) = decide (pm zs ks n k p < 2) := by
      rw [decide_eq_decide]; omega
    rw [e]
    exact ⟨⟨⟨rfl, rfl, h1⟩, h2⟩, by first | trivial | rfl, by first | trivial | rfl⟩
  · cases h
noncomputable def orcCpR (zs : List Int) (ks : List (Int × ByteArray)) : OrcV
  | [.agg ⟨[.string _nm, .slice (some ⟨0, 0, none⟩) _n _c, .slice (some ⟨1, 0, none⟩) k _d]⟩, .int .i64 p], [some (.row e1 2 false false true), some (.row e2 2 false false true)] =>
    some (.int .i64 (wh (decide (p < 0) || decide ((k : Int) < p)) 10), [some (.row e1 2 false false true), some (.row e2 2 false false true)], e1 = ints zs ∧ e2 = acs ks)
  | _, _ => none
theorem cpR_okV (zs : List Int) (ks : List (Int × ByteArray)) : OkV Tryz.prog 136 (orcCpR zs ks) := by
  intro args H ret H' vc h hv
  unfold orcCpR at h
  split at h
  · cases h
    obtain ⟨rfl, rfl⟩ := hv
    exact cpR_ok
  · cases h
noncomputable def hsCl (zs : List Int) (ks : List (Int × ByteArray)) : Hs Tryz.prog where
  au := auCalls [(38, hCa Tryz.prog 38 (orcCkV zs ks) (ckR_okV zs ks)), (136, hCa Tryz.prog 136 (orcCpR zs ks) (cpR_okV zs ks))]
theorem cl_t (nm : ByteArray) (zs : List Int) (ks : List (Int × ByteArray)) (n : Nat) (c : Nat) (k : Nat) (d : Nat) (p : Int) (K : Value → Heap → Prop) :
    (fnP Tryz.prog cr2 (hsCl zs ks) (44 : FuncId) [Value.agg (List.toArray (secA nm (0 : Nat) n c (1 : Nat) k d)), Value.int IntKind.i64 p] (hp2 zs ks false false false false []) K) =
    (Is (isSec zs ks n k (ints zs) (acs ks)) ∧ br (secE nm zs n ks k != (0 : Int)) (K (Value.int IntKind.i64 (secE nm zs n ks k)) (some (AObj.row (ints zs) (2 : Nat) false false true) :: some (AObj.row (acs ks) (2 : Nat) false false true) :: noH)) (Is (ints zs = ints zs ∧ acs ks = acs ks) ∧ K (Value.int IntKind.i64 (wh (decide (p < (0 : Int)) || decide ((↑k : Int) < p)) (10 : Int))) (some (AObj.row (ints zs) (2 : Nat) false false true) :: some (AObj.row (acs ks) (2 : Nat) false false true) :: noH))) := by kernel_rfl
theorem num_t (h : Int) (e : Int) (b : Int) (w : Int) (K : Value → Heap → Prop) :
    (fnP Tryz.prog cr2 h0 (51 : FuncId) [Value.int IntKind.i64 h, Value.int IntKind.i64 e, Value.int IntKind.i64 b, Value.int IntKind.i64 w] [] K) =
    (br (e == b) (br (b != (0 : Int)) (br (h == (0 : Int)) (K (Value.bool true) noH) (br (b == (0 : Int)) (K (Value.bool (h == w)) noH) (K (Value.bool false) noH))) (br (b == (0 : Int)) (K (Value.bool (h == w)) noH) (K (Value.bool false) noH))) (K (Value.bool false) noH)) := by kernel_rfl
noncomputable def orcNum : OrcV
  | [.int .i64 h, .int .i64 e, .int .i64 b, .int .i64 w], [] => some (.bool true, [], e = b ∧ h = gz b w)
  | _, _ => none
theorem sel_fi {a b : Int} : sel a b = fi [a, b] := by
  simp only [sel, fi]
  by_cases h : a = 0 <;> by_cases h2 : b = 0 <;> simp_all
noncomputable def orcClV (zs : List Int) (ks : List (Int × ByteArray)) : OrcV
  | [.agg ⟨[.string nm, .slice (some ⟨0, 0, none⟩) n _c, .slice (some ⟨1, 0, none⟩) k _d]⟩, .int .i64 p], [some (.row e1 2 false false true), some (.row e2 2 false false true)] =>
    some (.int .i64 (perE nm zs n ks k p), [some (.row e1 2 false false true), some (.row e2 2 false false true)], isSec zs ks n k e1 e2)
  | _, _ => none
theorem cl_okV (zs : List Int) (ks : List (Int × ByteArray)) : OkV Tryz.prog 44 (orcClV zs ks) := by
  intro args H ret H' vc h hv
  unfold orcClV at h
  split at h
  · rename_i nm n c k d p e1 e2
    cases h
    obtain ⟨rfl, rfl, h1⟩ := hv
    refine fnP_res hm cr2_ok (hs := hsCl zs ks) ?_
    show fnP Tryz.prog cr2 (hsCl zs ks) 44 [.agg (secA nm 0 n c 1 k d).toArray, .int .i64 p] (hp2 zs ks false false false false []) _
    rw [cl_t]
    have e : perE nm zs n ks k p = sel (secE nm zs n ks k) (wh (decide (p < 0) || decide ((k : Int) < p)) 10) := sel_fi.symm
    refine ⟨⟨⟨rfl, rfl, h1⟩⟩, br_of (fun h => ?_) (fun h => ?_)⟩
    · rw [e, sel_ne h]; exact ⟨by first | trivial | rfl, by first | trivial | rfl⟩
    · rw [e, sel_eq h]; exact ⟨⟨rfl, rfl⟩, by first | trivial | rfl, by first | trivial | rfl⟩
  · cases h
theorem num_okV : OkV Tryz.prog 51 orcNum := by
  intro args H ret H' vc h hv
  unfold orcNum at h
  split at h
  · rename_i h e b w
    cases h
    obtain ⟨rfl, rfl⟩ := hv
    refine fnP_res hm cr2_ok (hs := h0) ?_
    rw [num_t]
    refine br_of (fun h => br_of (fun hb => br_of (fun h2 => ⟨by first | trivial | rfl, by first | trivial | rfl⟩) (fun h2 => ?_)) (fun hb => ?_)) (fun h => by simp at h)
    · exfalso
      have hb : e ≠ 0 := by simpa using hb
      rw [gz, if_neg hb] at h2
      simp at h2
    · have hb : e = 0 := by simpa using hb
      subst hb
      refine br_of (fun _ => ⟨?_, by first | trivial | rfl⟩) (fun h => by simp at h)
      simp [gz]
  · cases h
noncomputable def bx (cs : List Value) : Option AObj := some (.row cs 0 false true true)
noncomputable def i0 : Value := .int .i64 0
end
end Qq
