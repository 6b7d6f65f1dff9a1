/- The statement TopLeverDue: the card is proved. -/
import Derived.Test.YtapnpmehjbaomaaGreatDoorHQ
import Derived.Test.YtapnpmehjbaomaaGreatDoorHK
import Derived.Lay
open Go Go.Vm
namespace Go.Proofs.YtapnpmehjbaomaaGreatDoor.Due
open Go.ChangeShapes Go.WideShapes Go.ChangeAt Go.WideMaps Go.WideElems Go.RowKit Go.Joins Go.Vm Common

theorem params_ok : ∀ t ∈ Tryz.f3.params.toList, Tryz.prog.readableRec t = true ∧ t < Tryz.prog.types.size := by
  have h : (Tryz.f3.params.toList.all fun t => Tryz.prog.readableRec t && decide (t < Tryz.prog.types.size)) = true := by kernel_rfl
  intro t ht
  simpa using List.all_eq_true.1 h t ht

abbrev laid5 := Rows.topLeverDueRow.laid
theorem table5 {W : World} (h : laidMetH Tryz.prog laid5 W) : Lib.TabIs Tryz.prog W "versine/inertia.weights" .i64 [1, -2, 1] := by
  rw [MakeChecks.laidMetH_plain _ _ _ (by kernel_rfl)] at h
  exact Lib.tabIs_of_head (g := 0) (t := 129) (e := 3) (n := 3) (by kernel_rfl) (by kernel_rfl) (by kernel_rfl) (by kernel_rfl) (by kernel_rfl) (by kernel_rfl) h

set_option maxRecDepth 100000 in
theorem lifted (os : Os) (started : os.Started) (H : Type) (enc : TypeId × Value → H) :
    ReturnsInHanded {} Tryz.checked os 3 .any (fun w args => (Rows.topLeverDueSpec.pre enc Tryz.prog Tryz.f3 [] false w args ∧ laidMetH Tryz.prog laid5 w) ∧ sizedMet enc Tryz.prog Tryz.f3 (OpenSpec.ofChange Rows.topLeverDueSpec) false w args)
      (Rows.topLeverDueSpec.post enc Tryz.prog Tryz.f3 false true false false) := by
  refine returnsInHanded_of_change_and (C := Tryz.checked) (X := fun w _ => laidMetH Tryz.prog laid5 w) (fun _ _ _ hh h => h.of_heap hh) own started (by kernel_rfl) Tryz.func3
    (ChangeSpec.witness_shaped (enc := enc) (C := Tryz.checked) (os := os) (X := fun w _ => laidMetH Tryz.prog laid5 w) false (World.laidAll Tryz.prog os laid5) #[.agg #[.string ⟨#[]⟩, .slice none 0 0, .slice none 0 0], .slice none 0 0, .agg #[.int .u16 0, .int .u16 0]] 8 (World.laidAll_os _ _ _) (World.shaped_of_ZipB (by kernel_rfl) (by kernel_rfl)) (by kernel_rfl) (by kernel_rfl) (by kernel_rfl) (by rw [MakeChecks.laidMetH_plain _ _ _ (by kernel_rfl)]; exact laidMet_laidAll _ (by kernel_rfl) (by kernel_rfl))) ?_
  intro W base args ds gs before hval0 hW _ _ hL _
  have hval : ∀ (j : Nat) t v, Tryz.f3.params[j]? = some t → args[j]? = some v → Value.okWide Tryz.prog W .any base t v := hval0
  have hW' := hW
  obtain ⟨p, q, hA0, hV, rfl, hfz, hnd⟩ := hW
  have hA : DataW.TrodAll enc Tryz.prog W 0 (fun _ => true) true Tryz.f3.params.toList args.toList ds p := hA0
  rw [Tryz.params3] at hA hval
  obtain ⟨v0, v1, v2, d0, d1, d2, p0, p1, p2, rfl, rfl, rfl, h0, h1, h2⟩ := trodAll_three hA
  obtain ⟨rfl, rfl⟩ := trodVars_none hV
  obtain ⟨lu, mu, rfl, wu⟩ := open_arrI Tryz.underlying28 Tryz.underlying27 (by kernel_rfl) (by kernel_rfl) (hval 2 28 v2 rfl rfl) h2
  obtain ⟨u0, u1, rfl⟩ := list2 mu
  have b0 := u16_in (wu u0 (by simp))
  have b1 := u16_in (wu u1 (by simp))
  obtain ⟨xs, gx, a1, a2, a3, a4⟩ := open_flts (hval 1 26 v1 rfl rfl) h1
  obtain ⟨nm, zs, ks, n, k, l, l1, l2, l3, e1, e2, e3, e4, e5⟩ := open_sec (hval 0 25 v0 rfl rfl) h0
  have hlays : lays Tryz.prog W := ⟨fun h => absurd no_tab h, fun _ => table5 hL⟩
  obtain ⟨y0, y1, rfl⟩ : ∃ y0 y1, l = [y0, y1] := by
    obtain _ | ⟨x, _ | ⟨y, _ | ⟨z, r⟩⟩⟩ := l
    · simp at l1
    · simp at l1
    · exact ⟨x, y, rfl⟩
    · simp at l1
  have l3' : ∀ v ∈ ([y0, y1, ⟨gx, Sp.flts xs⟩] : List View), v.ok W := by
    intro v hv
    simp at hv
    rcases hv with rfl | rfl | rfl
    · exact l3 _ (by simp)
    · exact l3 _ (by simp)
    · exact a2
  have hh := HRel.views hlays l3'
  have l2' : ([y0, y1, ⟨gx, Sp.flts xs⟩] : List View).map View.obj = Qq.hp03 zs ks xs [] := by
    have e : [y0.obj, y1.obj] = [some (.row (Sp.ints zs) 2 false false true), some (.row (Qq.acs ks) 2 false false true)] := l2
    have e1 : y0.obj = some (.row (Sp.ints zs) 2 false false true) := (List.cons.inj e).1
    have e2 : y1.obj = some (.row (Qq.acs ks) 2 false false true) := (List.cons.inj (List.cons.inj e).2).1
    simp only [List.map_cons, List.map_nil, e1, e2]
    simp only [View.obj, a1]; rfl
  rw [l2'] at hh
  have hlr : LR (viewA [y0, y1, ⟨gx, Sp.flts xs⟩]) (viewG [y0, y1, ⟨gx, Sp.flts xs⟩]) [.agg (Qq.secA nm 0 n big 1 k big).toArray, .slice (some ⟨2, 0, none⟩) xs.length big, .agg #[.int .u16 u0, .int .u16 u1]] [v0, v1, .agg #[.int .u16 u0, .int .u16 u1]] :=
    .cons (e5 _ _ 0 (by rw [viewA]; exact (by decide : 0 < 3)) (by rw [viewA]; exact (by decide : 1 < 3)) rfl rfl) (.cons (a4 _ _ 2 (by rw [viewA]; exact (by decide : 2 < 3)) rfl) (LR.ground (l := [.agg #[.int .u16 u0, .int .u16 u1]]) rfl))
  have hb : ∀ id, viewA [y0, y1, ⟨gx, Sp.flts xs⟩] id → id < (Qq.hp03 zs ks xs []).length := fun id hid => by rw [viewA] at hid; exact hid
  have hc := calls_true (Qq.due3 (nm := nm) (c := big) (d := big) (cl := big) e1 e2 e3 e4 rfl b0.1 b0.2 b1.1 b1.2) hh hb hlr
  refine hc.mono fun e W' ⟨he, hw⟩ => ?_
  exact ⟨_, he, post_true (tb := 4) hW' rfl laidOut params_ok (by kernel_rfl) Tryz.underlying4 (by rfl) hw⟩

theorem holds : Rows.TopLeverDueSaid :=
  OpenClaim.holds_of_wide 3 Tryz.f3 rfl rfl rfl rfl rfl rfl rfl ⟨rfl, rfl, rfl, rfl, rfl⟩ rfl rfl rfl rfl rfl k_fn Tryz.func3 closed
    k_inst (by unfold Func.isWrapper; first | (rw [if_pos (by decide +kernel)]; kernel_rfl) | (rw [if_neg (by decide +kernel)]; exact ⟨rfl, rfl⟩))
    (fun os started H enc _ => lifted os started H enc)

theorem card_holds : Rows.TopLeverDueCardSaid :=
  Claim7.holds_tied_plain_at .later [] [.data] true (true, "4d011d5a3a05fc86807142c4d80923e1e6d84320e86f6833b56d5d2269156bb3") false
    holds (fun _ h => by cases h) k_wf (fun _ h => by cases h) topLeverDue_row_tie rfl ⟨rfl, rfl⟩ k_main rfl
    (fun f fn hf hfn => by
      obtain rfl : f = 3 := Option.some.inj (k_fn.symm.trans hf) |>.symm
      obtain rfl : fn = Tryz.f3 := (Option.some.inj (Tryz.func3.symm.trans hfn)).symm
      exact ⟨k_lo, fun j t ht => by
        rw [Tryz.params3] at ht
        have hm : t ∈ [25, 26, 28] := by have := Array.mem_of_getElem? ht; simpa using this
        have hall : ([25, 26, 28].all fun u => !Tryz.prog.wantsStandIn u) = true := by kernel_rfl
        exact (show Tryz.prog.wantsStandIn t = false by simpa using List.all_eq_true.1 hall t hm)⟩)
    k_go

theorem card : Rows.TopLeverDueCardSaid := card_holds
end Go.Proofs.YtapnpmehjbaomaaGreatDoor.Due
