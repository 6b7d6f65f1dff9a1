/- Parts of the proof: XM, WS. -/
import Derived.Test.YtkajlfaeecaegaaZAF
import Derived.Test.YtkajlfaeecaegaaZAD
section
/- Lists that are the same. -/
open Go Go.Vm Go.Proofs Sp
namespace Sp
noncomputable section
noncomputable def xE (e : List Value) (off : Nat) : Value := .float .f32 ((fxs e).getD off 0)
noncomputable def zE (e : List Value) (off : Nat) : Value := .int .i64 ((ihs e).getD off 0)
end
end Sp
namespace Qq
noncomputable section
noncomputable def lpSmm (e : List Value) (es : Nat) (n c d : Nat) : Lp where
  σ := Nat
  E s := slots 26 [(0, .slice (some ⟨0, 0, none⟩) n c), (1, .slice (some ⟨1, 0, none⟩) n d), (5, .int .i64 (Int.ofNat s))]
  Hp _ := [some (.row e es true true true), some (.row e es true true true)]
  I s := s ≤ n
  m s := n - s
noncomputable def hsSx (e : List Value) (n c d : Nat) : Hs Try.prog where
  op y := if [602, 606].contains y then some (hIa Try.prog) else if [603, 607].contains y then some (hLd Try.prog (xE e)) else none
  lp _ := some (lpSmm e 1 n c d)
  cl _ := keep 26 [0, 1, 5]
  au := au2
noncomputable def hsSz (e : List Value) (n c d : Nat) : Hs Try.prog where
  op y := if [602, 606].contains y then some (hIa Try.prog) else if [603, 607].contains y then some (hLd Try.prog (zE e)) else none
  lp _ := some (lpSmm e 1 n c d)
  cl _ := keep 26 [0, 1, 5]
  au := au2
theorem ssx_t (e : List Value) (n : Nat) (c : Nat) (d : Nat) (K : Value → Heap → Prop) :
    (fnP Try.prog c0 (hsSx e n c d) (13 : FuncId) [Value.slice (some { block := (0 : Nat), off := (0 : Nat) }) n c, Value.slice (some { block := (1 : Nat), off := (0 : Nat) }) n d] [some (AObj.row e (1 : Nat) true true true), some (AObj.row e (1 : Nat) true true true)] K) =
    (br ((↑n : Int) != (↑n : Int)) (K (Value.bool false) (some (AObj.row e (1 : Nat) true true true) :: some (AObj.row e (1 : Nat) true true true) :: noH)) ((∃ (s : Nat), Is (s ≤ n) ∧ [Value.slice (some { block := (0 : Nat), off := (0 : Nat) }) n c, Value.slice (some { block := (1 : Nat), off := (0 : Nat) }) n d, poi, poi, poi, Value.int IntKind.i64 (0 : Int), poi, poi, poi, poi, poi, poi, poi, poi, poi, poi, poi, poi, poi, poi, poi, poi, poi, poi, poi, poi] = [Value.slice (some { block := (0 : Nat), off := (0 : Nat) }) n c, Value.slice (some { block := (1 : Nat), off := (0 : Nat) }) n d, poi, poi, poi, Value.int IntKind.i64 (↑s : Int), poi, poi, poi, poi, poi, poi, poi, poi, poi, poi, poi, poi, poi, poi, poi, poi, poi, poi, poi, poi] ∧ some (AObj.row e (1 : Nat) true true true) :: some (AObj.row e (1 : Nat) true true true) :: noH = some (AObj.row e (1 : Nat) true true true) :: some (AObj.row e (1 : Nat) true true true) :: noH) ∧ ∀ (s : Nat), Is (s ≤ n) → br (decide ((↑s : Int) < (↑n : Int))) (Is ((0 : Int) ≤ (↑s : Int) ∧ (↑s : Int) < (↑n : Int)) ∧ Is (e[(0 : Nat) + Int.toNat (↑s : Int) * (1 : Nat)]? = some (Value.float FloatKind.f32 (List.getD (fxs e) ((0 : Nat) + Int.toNat (↑s : Int) * (1 : Nat)) (0 : Nat)))) ∧ Is ((0 : Int) ≤ (↑s : Int) ∧ (↑s : Int) < (↑n : Int)) ∧ Is (e[(0 : Nat) + Int.toNat (↑s : Int) * (1 : Nat)]? = some (Value.float FloatKind.f32 (List.getD (fxs e) ((0 : Nat) + Int.toNat (↑s : Int) * (1 : Nat)) (0 : Nat)))) ∧ Is True ∧ br (fNe (List.getD (fxs e) ((0 : Nat) + Int.toNat (↑s : Int) * (1 : Nat)) (0 : Nat)) (List.getD (fxs e) ((0 : Nat) + Int.toNat (↑s : Int) * (1 : Nat)) (0 : Nat))) (K (Value.bool false) (some (AObj.row e (1 : Nat) true true true) :: some (AObj.row e (1 : Nat) true true true) :: noH)) (∃ (s' : Nat), Is (s' ≤ n) ∧ Is (n - s' < n - s) ∧ [Value.slice (some { block := (0 : Nat), off := (0 : Nat) }) n c, Value.slice (some { block := (1 : Nat), off := (0 : Nat) }) n d, poi, poi, poi, Value.int IntKind.i64 (IntKind.wrap IntKind.i64 ((↑s : Int) + (1 : Int))), poi, poi, poi, poi, poi, poi, poi, poi, poi, poi, poi, poi, poi, poi, poi, poi, poi, poi, poi, poi] = [Value.slice (some { block := (0 : Nat), off := (0 : Nat) }) n c, Value.slice (some { block := (1 : Nat), off := (0 : Nat) }) n d, poi, poi, poi, Value.int IntKind.i64 (↑s' : Int), poi, poi, poi, poi, poi, poi, poi, poi, poi, poi, poi, poi, poi, poi, poi, poi, poi, poi, poi, poi] ∧ some (AObj.row e (1 : Nat) true true true) :: some (AObj.row e (1 : Nat) true true true) :: noH = some (AObj.row e (1 : Nat) true true true) :: some (AObj.row e (1 : Nat) true true true) :: noH)) (K (Value.bool true) (some (AObj.row e (1 : Nat) true true true) :: some (AObj.row e (1 : Nat) true true true) :: noH)))) := by kernel_rfl
theorem ssz_t (e : List Value) (n : Nat) (c : Nat) (d : Nat) (K : Value → Heap → Prop) :
    (fnP Try.prog c0 (hsSz e n c d) (12 : FuncId) [Value.slice (some { block := (0 : Nat), off := (0 : Nat) }) n c, Value.slice (some { block := (1 : Nat), off := (0 : Nat) }) n d] [some (AObj.row e (1 : Nat) true true true), some (AObj.row e (1 : Nat) true true true)] K) =
    (br ((↑n : Int) != (↑n : Int)) (K (Value.bool false) (some (AObj.row e (1 : Nat) true true true) :: some (AObj.row e (1 : Nat) true true true) :: noH)) ((∃ (s : Nat), Is (s ≤ n) ∧ [Value.slice (some { block := (0 : Nat), off := (0 : Nat) }) n c, Value.slice (some { block := (1 : Nat), off := (0 : Nat) }) n d, poi, poi, poi, Value.int IntKind.i64 (0 : Int), poi, poi, poi, poi, poi, poi, poi, poi, poi, poi, poi, poi, poi, poi, poi, poi, poi, poi, poi, poi] = [Value.slice (some { block := (0 : Nat), off := (0 : Nat) }) n c, Value.slice (some { block := (1 : Nat), off := (0 : Nat) }) n d, poi, poi, poi, Value.int IntKind.i64 (↑s : Int), poi, poi, poi, poi, poi, poi, poi, poi, poi, poi, poi, poi, poi, poi, poi, poi, poi, poi, poi, poi] ∧ some (AObj.row e (1 : Nat) true true true) :: some (AObj.row e (1 : Nat) true true true) :: noH = some (AObj.row e (1 : Nat) true true true) :: some (AObj.row e (1 : Nat) true true true) :: noH) ∧ ∀ (s : Nat), Is (s ≤ n) → br (decide ((↑s : Int) < (↑n : Int))) (Is ((0 : Int) ≤ (↑s : Int) ∧ (↑s : Int) < (↑n : Int)) ∧ Is (e[(0 : Nat) + Int.toNat (↑s : Int) * (1 : Nat)]? = some (Value.int IntKind.i64 (List.getD (ihs e) ((0 : Nat) + Int.toNat (↑s : Int) * (1 : Nat)) (0 : Int)))) ∧ Is ((0 : Int) ≤ (↑s : Int) ∧ (↑s : Int) < (↑n : Int)) ∧ Is (e[(0 : Nat) + Int.toNat (↑s : Int) * (1 : Nat)]? = some (Value.int IntKind.i64 (List.getD (ihs e) ((0 : Nat) + Int.toNat (↑s : Int) * (1 : Nat)) (0 : Int)))) ∧ br (List.getD (ihs e) ((0 : Nat) + Int.toNat (↑s : Int) * (1 : Nat)) (0 : Int) != List.getD (ihs e) ((0 : Nat) + Int.toNat (↑s : Int) * (1 : Nat)) (0 : Int)) (K (Value.bool false) (some (AObj.row e (1 : Nat) true true true) :: some (AObj.row e (1 : Nat) true true true) :: noH)) (∃ (s' : Nat), Is (s' ≤ n) ∧ Is (n - s' < n - s) ∧ [Value.slice (some { block := (0 : Nat), off := (0 : Nat) }) n c, Value.slice (some { block := (1 : Nat), off := (0 : Nat) }) n d, poi, poi, poi, Value.int IntKind.i64 (IntKind.wrap IntKind.i64 ((↑s : Int) + (1 : Int))), poi, poi, poi, poi, poi, poi, poi, poi, poi, poi, poi, poi, poi, poi, poi, poi, poi, poi, poi, poi] = [Value.slice (some { block := (0 : Nat), off := (0 : Nat) }) n c, Value.slice (some { block := (1 : Nat), off := (0 : Nat) }) n d, poi, poi, poi, Value.int IntKind.i64 (↑s' : Int), poi, poi, poi, poi, poi, poi, poi, poi, poi, poi, poi, poi, poi, poi, poi, poi, poi, poi, poi, poi] ∧ some (AObj.row e (1 : Nat) true true true) :: some (AObj.row e (1 : Nat) true true true) :: noH = some (AObj.row e (1 : Nat) true true true) :: some (AObj.row e (1 : Nat) true true true) :: noH)) (K (Value.bool true) (some (AObj.row e (1 : Nat) true true true) :: some (AObj.row e (1 : Nat) true true true) :: noH)))) := by kernel_rfl
noncomputable def orcSx : OrcV
  | [.slice (some ⟨0, 0, none⟩) n _, .slice (some ⟨1, 0, none⟩) m _], [some (.row e1 1 true true true), some (.row e2 1 true true true)] =>
    some (.bool true, [some (.row e1 1 true true true), some (.row e2 1 true true true)], e2 = e1 ∧ m = n ∧ e1 = flts (fxs e1) ∧ (fxs e1).length = n ∧ n ≤ 100000 ∧ fi ((fxs e1).map sE) = 0)
  | _, _ => none
theorem okSx : OkV Try.prog 13 orcSx := by
  intro args H ret H' vc h hv
  unfold orcSx at h
  split at h
  · rename_i n c m d e1 e2
    cases h
    obtain ⟨rfl, rfl, h0, h1, h4, h5⟩ := hv
    refine fnP_res hm c0_ok (hs := hsSx e2 m c d) ?_
    show fnP Try.prog c0 (hsSx e2 m c d) 13 _ _ _
    rw [ssx_t]
    refine br_of (fun h => by simp at h) (fun _ => ⟨⟨(0 : Nat), ⟨by omega⟩, by first | trivial | rfl, by first | trivial | rfl⟩, fun s hs' => br_of (fun hc => ?_) (fun hc => ⟨by first | trivial | rfl, by first | trivial | rfl⟩)⟩)
    have hc := lt_of_dec hc
    simp only [Nat.zero_add, Nat.mul_one, Int.toNat_natCast]
    have hne : fNe ((fxs e2).getD s 0) ((fxs e2).getD s 0) = false := by
      rw [Fl.ne_lev (Fl.smp (smps h5 (by omega))) (Fl.smp (smps h5 (by omega)))]
      exact decide_eq_false (fun h => h rfl)
    have hg : e2[s]? = some (.float .f32 ((fxs e2).getD s 0)) := by
      rw [h0, fxs_flts]; exact flts_at (by omega)
    refine ⟨⟨by omega, by omega⟩, ⟨hg⟩, ⟨by omega, by omega⟩, ⟨hg⟩, ⟨trivial⟩, br_of (fun h => by rw [hne] at h; cases h) (fun _ => ⟨s + 1, ⟨hc⟩, ⟨by omega⟩, by rw [up1 hc (by omega)], by first | trivial | rfl⟩)⟩
  · cases h
noncomputable def orcSz : OrcV
  | [.slice (some ⟨0, 0, none⟩) n _, .slice (some ⟨1, 0, none⟩) m _], [some (.row e1 1 true true true), some (.row e2 1 true true true)] =>
    some (.bool true, [some (.row e1 1 true true true), some (.row e2 1 true true true)], e2 = e1 ∧ m = n ∧ e1 = ints (ihs e1) ∧ (ihs e1).length = n ∧ n ≤ 100000)
  | _, _ => none
theorem okSz : OkV Try.prog 12 orcSz := by
  intro args H ret H' vc h hv
  unfold orcSz at h
  split at h
  · rename_i n c m d e1 e2
    cases h
    obtain ⟨rfl, rfl, h0, h1, h4⟩ := hv
    refine fnP_res hm c0_ok (hs := hsSz e2 m c d) ?_
    show fnP Try.prog c0 (hsSz e2 m c d) 12 _ _ _
    rw [ssz_t]
    refine br_of (fun h => by simp at h) (fun _ => ⟨⟨(0 : Nat), ⟨by omega⟩, by first | trivial | rfl, by first | trivial | rfl⟩, fun s hs' => br_of (fun hc => ?_) (fun hc => ⟨by first | trivial | rfl, by first | trivial | rfl⟩)⟩)
    have hc := lt_of_dec hc
    simp only [Nat.zero_add, Nat.mul_one, Int.toNat_natCast]
    have hg : e2[s]? = some (.int .i64 ((ihs e2).getD s 0)) := by
      rw [h0, ihs_ints, ints, List.getElem?_map, List.getElem?_eq_getElem (by omega), List.getD_eq_getElem?_getD, List.getElem?_eq_getElem (by omega)]; rfl
    refine ⟨⟨by omega, by omega⟩, ⟨hg⟩, ⟨by omega, by omega⟩, ⟨hg⟩, br_of (fun h => by simp at h) (fun _ => ⟨s + 1, ⟨hc⟩, ⟨by omega⟩, by rw [up1 hc (by omega)], by first | trivial | rfl⟩)⟩
  · cases h
noncomputable def orcSent : OrcV
  | [], [] => some (.bool true, [], True)
  | _, _ => none
end
end Qq
end
section
/- The fixed example: evaluated. -/
open Go Go.Vm Go.Proofs Sp
namespace Qq
noncomputable section
noncomputable def cS0 : CallF := ctx Try.prog []
noncomputable def hS0 : Hs Try.prog := {}
set_option maxRecDepth 1000000 in
set_option maxHeartbeats 0 in
theorem sent_t (K : Value → Heap → Prop) :
    (fnP Try.prog cS0 hS0 (4 : FuncId) [] [] K) =
    (K (Value.bool true) noH) := by kernel_rfl
end
end Qq
end
