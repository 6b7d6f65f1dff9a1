/- The statement TopShovelHeard is proved: whatever reflectors and slopes are given, the law returns true, and each argument reads behind the call as it read before. No condition. -/
import Derived.Test.YtellllnlidiljaaGQ
import Derived.Test.YtellllnlidiljaaZAG
import Derived.Test.YtellllnlidiljaaGP
import Derived.Lay
open Go Go.Vm
namespace Go.Proofs.Ytellllnlidiljaa.Heard
open Go.ChangeShapes Go.WideShapes Go.ChangeAt Go.WideMaps Go.WideElems Go.RowKit Go.Joins Go.Vm Common

theorem params_ok : ∀ t ∈ Try.f3.params.toList, Try.prog.readableRec t = true ∧ t < Try.prog.types.size := by
  have h : (Try.f3.params.toList.all fun t => Try.prog.readableRec t && decide (t < Try.prog.types.size)) = true := by kernel_rfl
  intro t ht
  simpa using List.all_eq_true.1 h t ht

set_option maxRecDepth 100000 in
theorem lifted (os : Os) (started : os.Started) (H : Type) (enc : TypeId × Value → H) :
    ReturnsInHanded {} Try.checked os 3 .any (Rows.topShovelHeardSpec.pre6 enc Try.prog Try.f3 [] false) (Rows.topShovelHeardSpec.post enc Try.prog Try.f3 false true false false) := by
  have hw := ChangeSpec.witness_shaped (enc := enc) (C := Try.checked) (os := os) (f := 3) (fn := Try.f3) (s := Rows.topShovelHeardSpec) (conds := []) (apart := false) (X := fun _ _ => True) false (World.laidAll Try.prog os []) #[.slice none 0 0, .slice none 0 0] 8 (World.laidAll_os _ _ _) (World.shaped_of_ZipB (by kernel_rfl) (by kernel_rfl)) (by kernel_rfl) (by kernel_rfl) (by kernel_rfl) trivial
  obtain ⟨w, tape, i, k1, k2, k3, k4, ⟨⟨k5, _⟩, k6⟩, k7⟩ := hw
  refine returnsInHanded_of_change (C := Try.checked) own started (by kernel_rfl) Try.func3 ⟨w, tape, i, k1, k2, k3, k4, ⟨k5, k6⟩, k7⟩ ?_
  intro W base args ds gs before hval0 hW _ _
  have hval : ∀ (j : Nat) t v, Try.f3.params[j]? = some t → args[j]? = some v → Value.okWide Try.prog W .any base t v := hval0
  have hW' := hW
  obtain ⟨p, q, hA0, hV, rfl, hfz, hnd⟩ := hW
  have hA : DataW.TrodAll enc Try.prog W 0 (fun _ => true) true Try.f3.params.toList args.toList ds p := hA0
  rw [Try.params3] at hA hval
  obtain ⟨v0, v1, d0, d1, p0, p1, rfl, rfl, rfl, g0, g1⟩ := trodAll_two hA
  obtain ⟨rfl, rfl⟩ := trodVars_none hV
  obtain ⟨rs, m, h0, a1, a2, a3, a4, a5⟩ := open_rs (hval 0 22 v0 rfl rfl) g0
  obtain ⟨ss, n, h1, b1, b2, b3, b4, b5⟩ := open_ss (hval 1 23 v1 rfl rfl) g1
  have hlays : lays Try.prog W := fun h => absurd no_tab h
  have l3 : ∀ v ∈ ([⟨h0, Sp.u8s rs⟩, ⟨h1, Sp.i8s ss⟩] : List View), v.ok W := by
    intro v hv
    simp at hv
    rcases hv with rfl | rfl
    · exact a2
    · exact b2
  have hh := HRel.views hlays l3
  have l2 : ([⟨h0, Sp.u8s rs⟩, ⟨h1, Sp.i8s ss⟩] : List View).map View.obj = [Qq.rfR rs, Qq.slR ss] := by
    simp only [List.map_cons, List.map_nil, View.obj, a1, b1]; rfl
  rw [l2] at hh
  have hlr : LR (viewA [⟨h0, Sp.u8s rs⟩, ⟨h1, Sp.i8s ss⟩]) (viewG [⟨h0, Sp.u8s rs⟩, ⟨h1, Sp.i8s ss⟩]) [.slice (some ⟨0, 0, none⟩) m big, .slice (some ⟨1, 0, none⟩) n big] [v0, v1] :=
    .cons (a5 _ _ 0 (by rw [viewA]; exact (by decide : 0 < 2)) rfl) (.cons (b5 _ _ 1 (by rw [viewA]; exact (by decide : 1 < 2)) rfl) (LR.ground (l := []) rfl))
  have hb : ∀ id, viewA [⟨h0, Sp.u8s rs⟩, ⟨h1, Sp.i8s ss⟩] id → id < ([Qq.rfR rs, Qq.slR ss] : Heap).length := fun id hid => by rw [viewA] at hid; exact hid
  have hc := calls_true (Qq.law3 (b0 := big) (b1 := big) a3 b3 a4 b4) hh hb hlr
  refine hc.mono fun e W' ⟨he, hw⟩ => ?_
  exact ⟨_, he, post_true (tb := 4) hW' rfl laidOut params_ok (by kernel_rfl) Try.underlying4 (by rfl) hw⟩

theorem holds : Rows.TopShovelHeardSaid :=
  OpenClaim.holds_of_wide 3 Try.f3 rfl rfl rfl rfl rfl rfl rfl ⟨rfl, rfl, rfl, rfl, rfl⟩ rfl rfl rfl rfl rfl k_fn Try.func3 closed
    k_inst (by unfold Func.isWrapper; first | (rw [if_pos (by decide +kernel)]; kernel_rfl) | (rw [if_neg (by decide +kernel)]; exact ⟨rfl, rfl⟩))
    (fun os started H enc _ => lifted os started H enc)

end Go.Proofs.Ytellllnlidiljaa.Heard
