/- The statement TopJackGround is proved: whatever a nominal form, two rails and columns are given, the law returns true, and each argument reads behind the call as it read before. No condition. -/
import Derived.Test.YtjcncnppohmoeaaGQ
import Derived.Test.YtjcncnppohmoeaaZAJ
import Derived.Test.YtjcncnppohmoeaaGP
import Derived.Lay
open Go Go.Vm
namespace Go.Proofs.Ytjcncnppohmoeaa.Ground
open Go.ChangeShapes Go.WideShapes Go.ChangeAt Go.WideMaps Go.WideElems Go.RowKit Go.Joins Go.Vm Common

theorem params_ok : ∀ t ∈ Try.f3.params.toList, Try.prog.readableRec t = true ∧ t < Try.prog.types.size := by
  have h : (Try.f3.params.toList.all fun t => Try.prog.readableRec t && decide (t < Try.prog.types.size)) = true := by kernel_rfl
  intro t ht
  simpa using List.all_eq_true.1 h t ht

set_option maxRecDepth 100000 in
theorem lifted (os : Os) (started : os.Started) (H : Type) (enc : TypeId × Value → H) :
    ReturnsInHanded {} Try.checked os 3 .any (Rows.topJackGroundSpec.pre6 enc Try.prog Try.f3 [] false) (Rows.topJackGroundSpec.post enc Try.prog Try.f3 false true false false) := by
  have hw := ChangeSpec.witness_shaped (enc := enc) (C := Try.checked) (os := os) (f := 3) (fn := Try.f3) (s := Rows.topJackGroundSpec) (conds := []) (apart := false) (X := fun _ _ => True) false (World.laidAll Try.prog os []) #[.slice none 0 0, .agg #[.slice none 0 0, .slice none 0 0], .slice none 0 0] 8 (World.laidAll_os _ _ _) (World.shaped_of_ZipB (by kernel_rfl) (by kernel_rfl)) (by kernel_rfl) (by kernel_rfl) (by kernel_rfl) trivial
  obtain ⟨w, tape, i, k1, k2, k3, k4, ⟨⟨k5, _⟩, k6⟩, k7⟩ := hw
  refine returnsInHanded_of_change (C := Try.checked) own started (by kernel_rfl) Try.func3 ⟨w, tape, i, k1, k2, k3, k4, ⟨k5, k6⟩, k7⟩ ?_
  intro W base args ds gs before hval0 hW _ _
  have hval : ∀ (j : Nat) t v, Try.f3.params[j]? = some t → args[j]? = some v → Value.okWide Try.prog W .any base t v := hval0
  have hW' := hW
  obtain ⟨p, q, hA0, hV, rfl, hfz, hnd⟩ := hW
  have hA : DataW.TrodAll enc Try.prog W 0 (fun _ => true) true Try.f3.params.toList args.toList ds p := hA0
  rw [Try.params3] at hA hval
  obtain ⟨v0, v1, v2, d0, d1, d2, p0, p1, p2, rfl, rfl, rfl, g0, g1, g2⟩ := trodAll_three hA
  obtain ⟨rfl, rfl⟩ := trodVars_none hV
  obtain ⟨zs, n, h0, a1, a2, a3, a4⟩ := open_zs (hval 0 22 v0 rfl rfl) g0
  obtain ⟨b0, b1, rfl, y1, y2, k1, k2, h1, h2, ⟨e1, e2, e3⟩, ⟨f1, f2, f3⟩, e4, f4⟩ := open_two (hval 1 23 v1 rfl rfl) g1
  obtain ⟨cs, h3, c1, c2, c3⟩ := open_cs (hval 2 24 v2 rfl rfl) g2
  have hlays : lays Try.prog W := fun h => absurd no_tab h
  have l3 : ∀ v ∈ ([⟨h0, Sp.ints zs⟩, ⟨h1, Sp.ints y1⟩, ⟨h2, Sp.ints y2⟩, ⟨h3, Sp.ints cs⟩] : List View), v.ok W := by
    intro v hv
    simp at hv
    rcases hv with rfl | rfl | rfl | rfl
    · exact a2
    · exact e2
    · exact f2
    · exact c2
  have hh := (HRel.views hlays l3).loose
  have l2 : looseH (([⟨h0, Sp.ints zs⟩, ⟨h1, Sp.ints y1⟩, ⟨h2, Sp.ints y2⟩, ⟨h3, Sp.ints cs⟩] : List View).map View.obj) = Qq.bG zs y1 y2 cs := by
    simp only [List.map_cons, List.map_nil, View.obj, a1, e1, f1, c1]; rfl
  rw [l2] at hh
  have at0 : ∀ i, i < 4 → viewA [⟨h0, Sp.ints zs⟩, ⟨h1, Sp.ints y1⟩, ⟨h2, Sp.ints y2⟩, ⟨h3, Sp.ints cs⟩] i := fun i hi => by rw [viewA]; exact hi
  have hlr : LR (viewA [⟨h0, Sp.ints zs⟩, ⟨h1, Sp.ints y1⟩, ⟨h2, Sp.ints y2⟩, ⟨h3, Sp.ints cs⟩]) (viewG [⟨h0, Sp.ints zs⟩, ⟨h1, Sp.ints y1⟩, ⟨h2, Sp.ints y2⟩, ⟨h3, Sp.ints cs⟩]) (Qq.ar n k1 k2 cs.length big big big big) [v0, .agg #[b0, b1], v2] :=
    .cons (a4 _ _ 0 (at0 0 (by omega)) rfl) (.cons (vr_two (e4 _ _ 1 (at0 1 (by omega)) rfl) (f4 _ _ 2 (at0 2 (by omega)) rfl)) (.cons (c3 _ _ 3 (at0 3 (by omega)) rfl) (LR.ground (l := []) rfl)))
  have hb : ∀ id, viewA [⟨h0, Sp.ints zs⟩, ⟨h1, Sp.ints y1⟩, ⟨h2, Sp.ints y2⟩, ⟨h3, Sp.ints cs⟩] id → id < (Qq.bG zs y1 y2 cs).length := fun id hid => by rw [viewA] at hid; exact hid
  have hc := calls_true (Qq.law3 (b0 := big) (b1 := big) (b2 := big) (b3 := big) a3 e3 f3 rfl) hh hb hlr
  refine hc.mono fun e W' ⟨he, hw⟩ => ?_
  exact ⟨_, he, post_true (tb := 4) hW' rfl laidOut params_ok (by kernel_rfl) Try.underlying4 (by rfl) hw⟩

theorem holds : Rows.TopJackGroundSaid :=
  OpenClaim.holds_of_wide 3 Try.f3 rfl rfl rfl rfl rfl rfl rfl ⟨rfl, rfl, rfl, rfl, rfl⟩ rfl rfl rfl rfl rfl k_fn Try.func3 closed
    k_inst (by unfold Func.isWrapper; first | (rw [if_pos (by decide +kernel)]; kernel_rfl) | (rw [if_neg (by decide +kernel)]; exact ⟨rfl, rfl⟩))
    (fun os started H enc _ => lifted os started H enc)

end Go.Proofs.Ytjcncnppohmoeaa.Ground
