/- The statement TopForkGrown is proved: whatever two runs and four small numbers are given, the law returns true, and each argument reads behind the call as it read before. No condition. -/
import Derived.Test.YtbamclejfkddmaaGQ
import Derived.Test.YtbamclejfkddmaaGP
import Derived.Lay
open Go Go.Vm
namespace Go.Proofs.Ytbamclejfkddmaa.Grown
open Go.ChangeShapes Go.WideShapes Go.ChangeAt Go.WideMaps Go.WideElems Go.RowKit Go.Joins Go.Vm Common

theorem params_ok : ∀ t ∈ Try.f3.params.toList, Try.prog.readableRec t = true ∧ t < Try.prog.types.size := by
  have h : (Try.f3.params.toList.all fun t => Try.prog.readableRec t && decide (t < Try.prog.types.size)) = true := by kernel_rfl
  intro t ht
  simpa using List.all_eq_true.1 h t ht

set_option maxRecDepth 100000 in
theorem lifted (os : Os) (started : os.Started) (H : Type) (enc : TypeId × Value → H) :
    ReturnsInHanded {} Try.checked os 3 .any (Rows.topForkGrownSpec.pre6 enc Try.prog Try.f3 [] false) (Rows.topForkGrownSpec.post enc Try.prog Try.f3 false true false false) := by
  have hw := ChangeSpec.witness_shaped (enc := enc) (C := Try.checked) (os := os) (f := 3) (fn := Try.f3) (s := Rows.topForkGrownSpec) (conds := []) (apart := false) (X := fun _ _ => True) false (World.laidAll Try.prog os []) #[.agg #[.string ⟨#[]⟩, .int .i64 0, .slice none 0 0, .slice none 0 0, .string ⟨#[]⟩, .int .i64 0, .slice none 0 0, .slice none 0 0], .agg #[.int .u8 0, .int .u8 0, .int .u8 0, .int .u8 0]] 8 (World.laidAll_os _ _ _) (World.shaped_of_ZipB (by kernel_rfl) (by kernel_rfl)) (by kernel_rfl) (by kernel_rfl) (by kernel_rfl) trivial
  obtain ⟨w, tape, i, k1, k2, k3, k4, ⟨⟨k5, _⟩, k6⟩, k7⟩ := hw
  refine returnsInHanded_of_change (C := Try.checked) own started (by kernel_rfl) Try.func3 ⟨w, tape, i, k1, k2, k3, k4, ⟨k5, k6⟩, k7⟩ ?_
  intro W base args ds gs before hval0 hW _ _
  have hval : ∀ (j : Nat) t v, Try.f3.params[j]? = some t → args[j]? = some v → Value.okWide Try.prog W .any base t v := hval0
  have hW' := hW
  obtain ⟨p, q, hA0, hV, rfl, hfz, hnd⟩ := hW
  have hA : DataW.TrodAll enc Try.prog W 0 (fun _ => true) true Try.f3.params.toList args.toList ds p := hA0
  rw [Try.params3] at hA hval
  obtain ⟨v0, v1, d0, d1, p0, p1, rfl, rfl, rfl, h0, h1⟩ := trodAll_two hA
  obtain ⟨rfl, rfl⟩ := trodVars_none hV
  obtain ⟨nm1, nm2, f, g, xs, ys, hs, gs, k, k2, l, l1, l2, l3, e1, e2, e3⟩ := open_two (hval 0 26 v0 rfl rfl) h0
  obtain ⟨u0, u1, u2, u3, rfl, q0, q1, q2, q3⟩ := open_four (hval 1 27 v1 rfl rfl) h1
  have hlays : lays Try.prog W := fun h => absurd no_tab h
  have hh := HRel.views hlays l3
  rw [l2] at hh
  have hlr : LR (viewA l) (viewG l) [.agg #[.string nm1, .int .i64 f, .slice (some ⟨0, 0, none⟩) xs.length big, .slice (some ⟨1, 0, none⟩) k big, .string nm2, .int .i64 g, .slice (some ⟨2, 0, none⟩) ys.length big, .slice (some ⟨3, 0, none⟩) k2 big], .agg #[.int .u8 u0, .int .u8 u1, .int .u8 u2, .int .u8 u3]] [v0, .agg #[.int .u8 u0, .int .u8 u1, .int .u8 u2, .int .u8 u3]] :=
    .cons e3 (LR.ground rfl)
  have hb : ∀ id, viewA l id → id < (Qq.hp04 xs ys hs gs).length := fun id hid => by rw [viewA, l1] at hid; exact hid
  have hc := calls_true (Qq.law3 (c := big) (d := big) (c2 := big) (d2 := big) rfl e1 rfl e2 q0 q1 q2 q3) hh hb hlr
  refine hc.mono fun e W' ⟨he, hw⟩ => ?_
  exact ⟨_, he, post_true (tb := 4) hW' rfl laidOut params_ok (by kernel_rfl) Try.underlying4 (by rfl) hw⟩

theorem holds : Rows.TopForkGrownSaid :=
  OpenClaim.holds_of_wide 3 Try.f3 rfl rfl rfl rfl rfl rfl rfl ⟨rfl, rfl, rfl, rfl, rfl⟩ rfl rfl rfl rfl rfl k_fn Try.func3 closed
    k_inst (by unfold Func.isWrapper; first | (rw [if_pos (by decide +kernel)]; kernel_rfl) | (rw [if_neg (by decide +kernel)]; exact ⟨rfl, rfl⟩))
    (fun os started H enc _ => lifted os started H enc)

end Go.Proofs.Ytbamclejfkddmaa.Grown
