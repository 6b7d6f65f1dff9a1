/- The statement TopShovelVoted is proved: whatever three runs, a limit and three small numbers are given, the law returns true, and each argument reads behind the call as it read before. No condition. -/
import Derived.Test.YtihhajpploifhaaGQ
import Derived.Test.YtihhajpploifhaaGP
import Derived.Test.YtihhajpploifhaaZAL
import Derived.Lay
open Go Go.Vm
namespace Go.Proofs.Ytihhajpploifhaa.Voted
open Go.ChangeShapes Go.WideShapes Go.ChangeAt Go.WideMaps Go.WideElems Go.RowKit Go.Joins Go.Vm Common

theorem params_ok : ∀ t ∈ Try.f3.params.toList, Try.prog.readableRec t = true ∧ t < Try.prog.types.size := by
  have h : (Try.f3.params.toList.all fun t => Try.prog.readableRec t && decide (t < Try.prog.types.size)) = true := by kernel_rfl
  intro t ht
  simpa using List.all_eq_true.1 h t ht

set_option maxRecDepth 100000 in
theorem lifted (os : Os) (started : os.Started) (H : Type) (enc : TypeId × Value → H) :
    ReturnsInHanded {} Try.checked os 3 .any (Rows.topShovelVotedSpec.pre6 enc Try.prog Try.f3 [] false) (Rows.topShovelVotedSpec.post enc Try.prog Try.f3 false true false false) := by
  have hw := ChangeSpec.witness_shaped (enc := enc) (C := Try.checked) (os := os) (f := 3) (fn := Try.f3) (s := Rows.topShovelVotedSpec) (conds := []) (apart := false) (X := fun _ _ => True) false (World.laidAll Try.prog os []) #[.agg #[.string ⟨#[]⟩, .int .i64 0, .slice none 0 0, .slice none 0 0, .string ⟨#[]⟩, .int .i64 0, .slice none 0 0, .slice none 0 0, .string ⟨#[]⟩, .int .i64 0, .slice none 0 0, .slice none 0 0], .float .f32 0, .agg #[.int .u8 0, .int .u8 0, .int .u8 0]] 8 (World.laidAll_os _ _ _) (World.shaped_of_ZipB (by kernel_rfl) (by kernel_rfl)) (by kernel_rfl) (by kernel_rfl) (by kernel_rfl) trivial
  obtain ⟨w, tape, i, k1, k2, k3, k4, ⟨⟨k5, _⟩, k6⟩, k7⟩ := hw
  refine returnsInHanded_of_change (C := Try.checked) own started (by kernel_rfl) Try.func3 ⟨w, tape, i, k1, k2, k3, k4, ⟨k5, k6⟩, k7⟩ ?_
  intro W base args ds gs before hval0 hW _ _
  have hval : ∀ (j : Nat) t v, Try.f3.params[j]? = some t → args[j]? = some v → Value.okWide Try.prog W .any base t v := hval0
  have hW' := hW
  obtain ⟨p, q, hA0, hV, rfl, hfz, hnd⟩ := hW
  have hA : DataW.TrodAll enc Try.prog W 0 (fun _ => true) true Try.f3.params.toList args.toList ds p := hA0
  rw [Try.params3] at hA hval
  obtain ⟨v0, v1, v2, d0, d1, d2, p0, p1, p2, rfl, rfl, rfl, g0, g1, g2⟩ := trodAll_three hA
  obtain ⟨rfl, rfl⟩ := trodVars_none hV
  obtain ⟨nm0, nm1, nm2, f0, f1, f2, x0, x1, x2, h0, h1, h2, k0, k1, k2, l, l1, l2, l3, e0, e1, e2, e3⟩ := open_three (hval 0 26 v0 rfl rfl) g0
  obtain ⟨lim, rfl⟩ := open_float (hval 1 27 v1 rfl rfl)
  obtain ⟨u0, u1, u2, rfl, q0, q1, q2⟩ := open_u3 (hval 2 28 v2 rfl rfl) g2
  have hlays : lays Try.prog W := fun h => absurd no_tab h
  have hh := HRel.views hlays l3
  rw [l2] at hh
  have hlr : LR (viewA l) (viewG l) [.agg #[.string nm0, .int .i64 f0, .slice (some ⟨0, 0, none⟩) x0.length big, .slice (some ⟨1, 0, none⟩) k0 big, .string nm1, .int .i64 f1, .slice (some ⟨2, 0, none⟩) x1.length big, .slice (some ⟨3, 0, none⟩) k1 big, .string nm2, .int .i64 f2, .slice (some ⟨4, 0, none⟩) x2.length big, .slice (some ⟨5, 0, none⟩) k2 big], .float .f32 lim, .agg #[.int .u8 u0, .int .u8 u1, .int .u8 u2]] [v0, .float .f32 lim, .agg #[.int .u8 u0, .int .u8 u1, .int .u8 u2]] :=
    .cons e3 (LR.ground rfl)
  have hb : ∀ id, viewA l id → id < (Qq.hp04 x0 x1 x2 h0 h1 h2 []).length := fun id hid => by rw [viewA, l1] at hid; exact hid
  have hc := calls_true (Qq.law3 (a0 := big) (a1 := big) (a2 := big) (d0 := big) (d1 := big) (d2 := big) rfl rfl rfl e0 e1 e2 q0 q1 q2) hh hb hlr
  refine hc.mono fun e W' ⟨he, hw⟩ => ?_
  exact ⟨_, he, post_true (tb := 4) hW' rfl laidOut params_ok (by kernel_rfl) Try.underlying4 (by rfl) hw⟩

theorem holds : Rows.TopShovelVotedSaid :=
  OpenClaim.holds_of_wide 3 Try.f3 rfl rfl rfl rfl rfl rfl rfl ⟨rfl, rfl, rfl, rfl, rfl⟩ rfl rfl rfl rfl rfl k_fn Try.func3 closed
    k_inst (by unfold Func.isWrapper; first | (rw [if_pos (by decide +kernel)]; kernel_rfl) | (rw [if_neg (by decide +kernel)]; exact ⟨rfl, rfl⟩))
    (fun os started H enc _ => lifted os started H enc)

end Go.Proofs.Ytihhajpploifhaa.Voted
