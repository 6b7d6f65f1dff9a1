/- The statement TopLeverRaw: the card is proved. -/
import Derived.Test.YtgcniklghjfogaaDoorLQ
import Derived.Test.YtgcniklghjfogaaDoorLK
import Derived.Lay
open Go Go.Vm
namespace Go.Proofs.YtgcniklghjfogaaDoor.Raw
open Go.ChangeShapes Go.WideShapes Go.ChangeAt Go.WideMaps Go.WideElems Go.RowKit Go.Joins Go.Vm Common

theorem params_ok : ∀ t ∈ Tryd.f3.params.toList, Tryd.prog.readableRec t = true ∧ t < Tryd.prog.types.size := by
  have h : (Tryd.f3.params.toList.all fun t => Tryd.prog.readableRec t && decide (t < Tryd.prog.types.size)) = true := by kernel_rfl
  intro t ht
  simpa using List.all_eq_true.1 h t ht

abbrev laid5 := Rows.topLeverRawRow.laid
theorem table5 {W : World} (h : laidMetH Tryd.prog laid5 W) : Lib.TabIs Tryd.prog W "versine/inertia.weights" .i64 [1, -2, 1] := by
  rw [MakeChecks.laidMetH_plain _ _ _ (by kernel_rfl)] at h
  exact Lib.tabIs_of_head (g := 0) (t := 72) (e := 3) (n := 3) (by kernel_rfl) (by kernel_rfl) (by kernel_rfl) (by kernel_rfl) (by kernel_rfl) (by kernel_rfl) h

set_option maxRecDepth 100000 in
theorem lifted (os : Os) (started : os.Started) (H : Type) (enc : TypeId × Value → H) :
    ReturnsInHanded {} Tryd.checked os 3 .any (fun w args => (Rows.topLeverRawSpec.pre enc Tryd.prog Tryd.f3 [] false w args ∧ laidMetH Tryd.prog laid5 w) ∧ sizedMet enc Tryd.prog Tryd.f3 (OpenSpec.ofChange Rows.topLeverRawSpec) false w args)
      (Rows.topLeverRawSpec.post enc Tryd.prog Tryd.f3 false true false false) := by
  refine returnsInHanded_of_change_and (C := Tryd.checked) (X := fun w _ => laidMetH Tryd.prog laid5 w) (fun _ _ _ hh h => h.of_heap hh) own started (by kernel_rfl) Tryd.func3
    (ChangeSpec.witness_shaped (enc := enc) (C := Tryd.checked) (os := os) (X := fun w _ => laidMetH Tryd.prog laid5 w) false (World.laidAll Tryd.prog os laid5) #[.slice none 0 0, .float .f32 0, .slice none 0 0] 8 (World.laidAll_os _ _ _) (World.shaped_of_ZipB (by kernel_rfl) (by kernel_rfl)) (by kernel_rfl) (by kernel_rfl) (by kernel_rfl) (by rw [MakeChecks.laidMetH_plain _ _ _ (by kernel_rfl)]; exact laidMet_laidAll _ (by kernel_rfl) (by kernel_rfl))) ?_
  intro W base args ds gs before hval0 hW _ _ hL _
  have hval : ∀ (j : Nat) t v, Tryd.f3.params[j]? = some t → args[j]? = some v → Value.okWide Tryd.prog W .any base t v := hval0
  have hW' := hW
  obtain ⟨p, q, hA0, hV, rfl, hfz, hnd⟩ := hW
  have hA : DataW.TrodAll enc Tryd.prog W 0 (fun _ => true) true Tryd.f3.params.toList args.toList ds p := hA0
  rw [Tryd.params3] at hA hval
  obtain ⟨v0, v1, v2, d0, d1, d2, p0, p1, p2, rfl, rfl, rfl, h0, h1, h2⟩ := trodAll_three hA
  obtain ⟨rfl, rfl⟩ := trodVars_none hV
  obtain ⟨x1, rfl⟩ := open_float (hval 1 23 v1 rfl rfl)
  obtain ⟨xs, g0, a1, a2, a3, a4⟩ := open_flts (hval 0 22 v0 rfl rfl) h0
  obtain ⟨us, g2, b1, b2, b3, b4⟩ := open_u8s (hval 2 24 v2 rfl rfl) h2
  have hlays : lays Tryd.prog W := ⟨fun h => absurd no_tab h, fun _ => table5 hL⟩
  have l3 : ∀ v ∈ ([⟨g0, Sp.flts xs⟩, ⟨g2, Sp.u8s us⟩] : List View), v.ok W := by
    intro v hv
    simp at hv
    rcases hv with rfl | rfl
    · exact a2
    · exact b2
  have hh := HRel.views hlays l3
  have l2 : ([⟨g0, Sp.flts xs⟩, ⟨g2, Sp.u8s us⟩] : List View).map View.obj = Qq.hp0 xs us [] := by
    simp only [List.map_cons, List.map_nil, View.obj, a1, b1]; rfl
  rw [l2] at hh
  have hlr : LR (viewA [⟨g0, Sp.flts xs⟩, ⟨g2, Sp.u8s us⟩]) (viewG [⟨g0, Sp.flts xs⟩, ⟨g2, Sp.u8s us⟩]) [.slice (some ⟨0, 0, none⟩) xs.length big, .float .f32 x1, .slice (some ⟨1, 0, none⟩) us.length big] [v0, .float .f32 x1, v2] :=
    .cons (a4 _ _ 0 (by rw [viewA]; exact (by decide : 0 < 2)) rfl) (.cons (.atom _ rfl) (.cons (b4 _ _ 1 (by rw [viewA]; exact (by decide : 1 < 2)) rfl) (LR.ground (l := []) rfl)))
  have hb : ∀ id, viewA [⟨g0, Sp.flts xs⟩, ⟨g2, Sp.u8s us⟩] id → id < (Qq.hp0 xs us []).length := fun id hid => by rw [viewA] at hid; exact hid
  have hc := calls_true (Qq.law3 (c := big) (d := big) (o := x1) rfl rfl b3 a3) hh hb hlr
  refine hc.mono fun e W' ⟨he, hw⟩ => ?_
  exact ⟨_, he, post_true (tb := 4) hW' rfl laidOut params_ok (by kernel_rfl) Tryd.underlying4 (by rfl) hw⟩

theorem holds : Rows.TopLeverRawSaid :=
  OpenClaim.holds_of_wide 3 Tryd.f3 rfl rfl rfl rfl rfl rfl rfl ⟨rfl, rfl, rfl, rfl, rfl⟩ rfl rfl rfl rfl rfl k_fn Tryd.func3 closed
    k_inst (by unfold Func.isWrapper; first | (rw [if_pos (by decide +kernel)]; kernel_rfl) | (rw [if_neg (by decide +kernel)]; exact ⟨rfl, rfl⟩))
    (fun os started H enc _ => lifted os started H enc)

theorem card_holds : Rows.TopLeverRawCardSaid :=
  Claim7.holds_tied_plain_at .later [] [.data] true (true, "be101c7218cff0f5af4db30dc53cfbef5f71eb330644abba2131aa7aca9d922d") false
    holds (fun _ h => by cases h) k_wf (fun _ h => by cases h) topLeverRaw_row_tie rfl ⟨rfl, rfl⟩ k_main rfl
    (fun f fn hf hfn => by
      obtain rfl : f = 3 := Option.some.inj (k_fn.symm.trans hf) |>.symm
      obtain rfl : fn = Tryd.f3 := (Option.some.inj (Tryd.func3.symm.trans hfn)).symm
      exact ⟨k_lo, fun j t ht => by
        rw [Tryd.params3] at ht
        have hm : t ∈ [22, 23, 24] := by have := Array.mem_of_getElem? ht; simpa using this
        have hall : ([22, 23, 24].all fun u => !Tryd.prog.wantsStandIn u) = true := by kernel_rfl
        exact (show Tryd.prog.wantsStandIn t = false by simpa using List.all_eq_true.1 hall t hm)⟩)
    k_go

theorem card : Rows.TopLeverRawCardSaid := card_holds
end Go.Proofs.YtgcniklghjfogaaDoor.Raw
