/- The statement TopJackRanked is proved: whatever sections, limit and price are given, the law returns true, and each argument reads behind the call as it read before. No condition. -/
import Derived.Test.YtmbeobnpkcoapaaGreatGQ
import Derived.Test.YtmbeobnpkcoapaaGreatGP
import Derived.Lay
open Go Go.Vm
namespace Go.Proofs.YtmbeobnpkcoapaaGreat.Ranked
open Go.ChangeShapes Go.WideShapes Go.ChangeAt Go.WideMaps Go.WideElems Go.RowKit Go.Joins Go.Vm Common

theorem params_ok : ∀ t ∈ Tryz.f3.params.toList, Tryz.prog.readableRec t = true ∧ t < Tryz.prog.types.size := by
  have h : (Tryz.f3.params.toList.all fun t => Tryz.prog.readableRec t && decide (t < Tryz.prog.types.size)) = true := by kernel_rfl
  intro t ht
  simpa using List.all_eq_true.1 h t ht

set_option maxRecDepth 100000 in
theorem lifted (os : Os) (started : os.Started) (H : Type) (enc : TypeId × Value → H) :
    ReturnsInHanded {} Tryz.checked os 3 .any (Rows.topJackRankedSpec.pre6 enc Tryz.prog Tryz.f3 [] false) (Rows.topJackRankedSpec.post enc Tryz.prog Tryz.f3 false true false false) := by
  have hw := ChangeSpec.witness_shaped (enc := enc) (C := Tryz.checked) (os := os) (f := 3) (fn := Tryz.f3) (s := Rows.topJackRankedSpec) (conds := []) (apart := false) (X := fun _ _ => True) false (World.laidAll Tryz.prog os []) #[.slice none 0 0, .int .u16 0, .int .u8 0] 8 (World.laidAll_os _ _ _) (World.shaped_of_ZipB (by kernel_rfl) (by kernel_rfl)) (by kernel_rfl) (by kernel_rfl) (by kernel_rfl) trivial
  obtain ⟨w, tape, i, k1, k2, k3, k4, ⟨⟨k5, _⟩, k6⟩, k7⟩ := hw
  refine returnsInHanded_of_change (C := Tryz.checked) own started (by kernel_rfl) Tryz.func3 ⟨w, tape, i, k1, k2, k3, k4, ⟨k5, k6⟩, k7⟩ ?_
  intro W base args ds gs before hval0 hW _ _
  have hval : ∀ (j : Nat) t v, Tryz.f3.params[j]? = some t → args[j]? = some v → Value.okWide Tryz.prog W .any base t v := hval0
  have hW' := hW
  obtain ⟨p, q, hA0, hV, rfl, hfz, hnd⟩ := hW
  have hA : DataW.TrodAll enc Tryz.prog W 0 (fun _ => true) true Tryz.f3.params.toList args.toList ds p := hA0
  rw [Tryz.params3] at hA hval
  obtain ⟨v0, v1, v2, d0, d1, d2, p0, p1, p2, rfl, rfl, rfl, g0, g1, g2⟩ := trodAll_three hA
  obtain ⟨rfl, rfl⟩ := trodVars_none hV
  obtain ⟨s, n, l, l1, l2, l3, l4, l5⟩ := open_list (hval 0 22 v0 rfl rfl) g0
  obtain ⟨x, rfl, _, _, hx⟩ := open_int Tryz.underlying23 (hval 1 23 v1 rfl rfl) g1
  obtain ⟨pr, rfl, _, _, hp⟩ := open_int Tryz.underlying5 (hval 2 5 v2 rfl rfl) g2
  have hlays : lays Tryz.prog W := fun h => absurd no_tab h
  have hh := HRel.nviews hlays l2
  rw [l1] at hh
  have hlr : LR (nviewA l) (nviewG l) [.slice (some ⟨0, 0, none⟩) n big, .int .u16 x, .int .u8 pr] [v0, .int .u16 x, .int .u8 pr] := .cons l5 (LR.ground (by rfl))
  have hb : ∀ id, nviewA l id → id < (Qq.lsG s n).length := fun id hid => by rw [← l1, List.length_map]; exact hid
  have hc := calls_true (Qq.law3 (c := big) (x := x) (pr := pr) l3 (u16_in hx).1 (u8_in hp)) hh hb hlr
  refine hc.mono fun e W' ⟨he, hw⟩ => ?_
  exact ⟨_, he, post_true (tb := 4) hW' rfl laidOut params_ok (by kernel_rfl) Tryz.underlying4 (by rfl) hw⟩

theorem holds : Rows.TopJackRankedSaid :=
  OpenClaim.holds_of_wide 3 Tryz.f3 rfl rfl rfl rfl rfl rfl rfl ⟨rfl, rfl, rfl, rfl, rfl⟩ rfl rfl rfl rfl rfl k_fn Tryz.func3 closed
    k_inst (by unfold Func.isWrapper; first | (rw [if_pos (by decide +kernel)]; kernel_rfl) | (rw [if_neg (by decide +kernel)]; exact ⟨rfl, rfl⟩))
    (fun os started H enc _ => lifted os started H enc)

end Go.Proofs.YtmbeobnpkcoapaaGreat.Ranked
