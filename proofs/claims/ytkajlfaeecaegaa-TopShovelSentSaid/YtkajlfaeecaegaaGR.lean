/- The statement TopShovelSent is proved: whatever packets and losses are given, the law returns true, and each argument reads behind the call as it read before. No condition. -/
import Derived.Test.YtkajlfaeecaegaaGQ
import Derived.Test.YtkajlfaeecaegaaGP
import Derived.Lay
open Go Go.Vm
namespace Go.Proofs.Ytkajlfaeecaegaa.Sent
open Go.ChangeShapes Go.WideShapes Go.ChangeAt Go.WideMaps Go.WideElems Go.RowKit Go.Joins Go.Vm Common

theorem params_ok : ∀ t ∈ Try.f3.params.toList, Try.prog.readableRec t = true ∧ t < Try.prog.types.size := by
  have h : (Try.f3.params.toList.all fun t => Try.prog.readableRec t && decide (t < Try.prog.types.size)) = true := by kernel_rfl
  intro t ht
  simpa using List.all_eq_true.1 h t ht

set_option maxRecDepth 100000 in
theorem lifted (os : Os) (started : os.Started) (H : Type) (enc : TypeId × Value → H) :
    ReturnsInHanded {} Try.checked os 3 .any (Rows.topShovelSentSpec.pre6 enc Try.prog Try.f3 [] false) (Rows.topShovelSentSpec.post enc Try.prog Try.f3 false true false false) := by
  have hw := ChangeSpec.witness_shaped (enc := enc) (C := Try.checked) (os := os) (f := 3) (fn := Try.f3) (s := Rows.topShovelSentSpec) (conds := []) (apart := false) (X := fun _ _ => True) false (World.laidAll Try.prog os []) #[.slice none 0 0, .int .u16 0] 8 (World.laidAll_os _ _ _) (World.shaped_of_ZipB (by kernel_rfl) (by kernel_rfl)) (by kernel_rfl) (by kernel_rfl) (by kernel_rfl) trivial
  obtain ⟨w, tape, i, k1, k2, k3, k4, ⟨⟨k5, _⟩, k6⟩, k7⟩ := hw
  refine returnsInHanded_of_change (C := Try.checked) own started (by kernel_rfl) Try.func3 ⟨w, tape, i, k1, k2, k3, k4, ⟨k5, k6⟩, k7⟩ ?_
  intro W base args ds gs before hval0 hW _ _
  have hval : ∀ (j : Nat) t v, Try.f3.params[j]? = some t → args[j]? = some v → Value.okWide Try.prog W .any base t v := hval0
  have hW' := hW
  obtain ⟨p, q, hA0, hV, rfl, hfz, hnd⟩ := hW
  have hA : DataW.TrodAll enc Try.prog W 0 (fun _ => true) true Try.f3.params.toList args.toList ds p := hA0
  rw [Try.params3] at hA hval
  obtain ⟨v0, v1, d0, d1, p0, p1, rfl, rfl, rfl, g0, g1⟩ := trodAll_two hA
  obtain ⟨rfl, rfl⟩ := trodVars_none hV
  obtain ⟨ds, m, l, l1, l2, l3, e0, e1, e3⟩ := open_ds (hval 0 22 v0 rfl rfl) g0
  obtain ⟨L, rfl⟩ := open_u16 (hval 1 23 v1 rfl rfl)
  have hlays : lays Try.prog W := fun h => absurd no_tab h
  have hh := HRel.views hlays l3
  rw [l2] at hh
  have hlr : LR (viewA l) (viewG l) [.slice (some ⟨0, 0, none⟩) m big, .int .u16 L] [v0, .int .u16 L] := .cons e3 (LR.ground rfl)
  have hb : ∀ id, viewA l id → id < [Qq.dr ds].length := fun id hid => by rw [viewA, l1] at hid; exact hid
  have hc := calls_true (Qq.law3 (m := m) (c := big) (L := L) e0 e1) hh hb hlr
  refine hc.mono fun e W' ⟨he, hw⟩ => ?_
  exact ⟨_, he, post_true (tb := 4) hW' rfl laidOut params_ok (by kernel_rfl) Try.underlying4 (by rfl) hw⟩

theorem holds : Rows.TopShovelSentSaid :=
  OpenClaim.holds_of_wide 3 Try.f3 rfl rfl rfl rfl rfl rfl rfl ⟨rfl, rfl, rfl, rfl, rfl⟩ rfl rfl rfl rfl rfl k_fn Try.func3 closed
    k_inst (by unfold Func.isWrapper; first | (rw [if_pos (by decide +kernel)]; kernel_rfl) | (rw [if_neg (by decide +kernel)]; exact ⟨rfl, rfl⟩))
    (fun os started H enc _ => lifted os started H enc)

end Go.Proofs.Ytkajlfaeecaegaa.Sent
