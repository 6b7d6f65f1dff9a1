/- The statement QualitySpread: the card is proved. -/
import Derived.Test.YtaigknknfaeajaaGreatDoorZN
import Derived.Test.YtaigknknfaeajaaGreatDoorZD
import Derived.Test.YtaigknknfaeajaaGreatDoorRN
import Derived.Test.YtaigknknfaeajaaGreatDoorRZG
import Derived.Test.YtaigknknfaeajaaGreatDoorQK15
open Go Go.Vm
namespace Go.Proofs.YtaigknknfaeajaaGreatDoor.Spread
open Go.ChangeShapes Go.WideShapes Go.ChangeAt Go.WideMaps Go.WideElems Go.RowKit Go.Joins Go.Vm Common

theorem u8_in {a : Int} (h : (Lit.int .u8 a).wf = true) : 0 ≤ a ∧ a < 256 := by
  have h1 : (decide (IntKind.u8.min ≤ a) && decide (a ≤ IntKind.u8.max)) = true := h
  have b1 : IntKind.u8.min = 0 := by decide
  have b2 : IntKind.u8.max = 255 := by decide
  rw [b1, b2, Bool.and_eq_true, decide_eq_true_eq, decide_eq_true_eq] at h1
  omega

theorem params_ok : ∀ t ∈ Tryz.f15.params.toList, Tryz.prog.readableRec t = true ∧ t < Tryz.prog.types.size := by
  have h : (Tryz.f15.params.toList.all fun t => Tryz.prog.readableRec t && decide (t < Tryz.prog.types.size)) = true := by kernel_rfl
  intro t ht
  simpa using List.all_eq_true.1 h t ht

set_option maxRecDepth 100000 in
theorem lifted (hl : ∀ p ∈ Qq.l15, Ok Tryz.prog p.1 p.2) (os : Os) (started : os.Started) (H : Type) (enc : TypeId × Value → H) :
    ReturnsInHanded {} Tryz.checked os 15 .any (fun w args => (Rows.qualitySpreadSpec.pre enc Tryz.prog Tryz.f15 [] false w args ∧ laidMetH Tryz.prog laid3 w) ∧ sizedMet enc Tryz.prog Tryz.f15 (OpenSpec.ofChange Rows.qualitySpreadSpec) false w args)
      (Rows.qualitySpreadSpec.post enc Tryz.prog Tryz.f15 false true false false) := by
  refine returnsInHanded_of_change_and (C := Tryz.checked) (X := fun w _ => laidMetH Tryz.prog laid3 w) (fun _ _ _ hh h => h.of_heap hh) own started (by kernel_rfl) Tryz.func15
    (ChangeSpec.witness_shaped (enc := enc) (C := Tryz.checked) (os := os) (X := fun w _ => laidMetH Tryz.prog laid3 w) false (World.doorLaid Tryz.prog 400 os) #[.agg #[.string ⟨#[]⟩, .int .i64 0, .slice none 0 0, .slice none 0 0], .agg #[.int .u8 0, .int .u8 0, .int .u8 0]] 8 rfl (World.shaped_of_RefB (by kernel_rfl) (by kernel_rfl)) (by kernel_rfl) (by kernel_rfl) (by kernel_rfl) (door_met os _)) ?_
  intro W base args ds gs before hval0 hW _ _ hL _
  have hval : ∀ (j : Nat) t v, Tryz.f15.params[j]? = some t → args[j]? = some v → Value.okWide Tryz.prog W .any base t v := hval0
  have hW' := hW
  obtain ⟨p, q, hA0, hV, rfl, hfz, hnd⟩ := hW
  have hA : DataW.TrodAll enc Tryz.prog W 0 (fun _ => true) true Tryz.f15.params.toList args.toList ds p := hA0
  rw [Tryz.params15] at hA hval
  obtain ⟨v0, v1, d0, d1, p0, p1, rfl, rfl, rfl, h0, h1⟩ := trodAll_two hA
  obtain ⟨rfl, rfl⟩ := trodVars_none hV
  obtain ⟨l1, m1, rfl, w1⟩ := open_arrI Tryz.underlying154 Tryz.underlying5 (by kernel_rfl) (by kernel_rfl) (hval 1 154 v1 rfl rfl) h1
  obtain ⟨x10, x11, x12, rfl⟩ := list3 m1
  have bx10 := u8_in (w1 x10 (by simp))
  have bx11 := u8_in (w1 x11 (by simp))
  have bx12 := u8_in (w1 x12 (by simp))
  obtain ⟨nm, ff, xs, hs, n, k, l, l1, l2, l3, e1, e2, e5⟩ := open_run (hval 0 25 v0 rfl rfl) h0
  have hlays : lays Tryz.prog W := fun _ => table hL
  have hh := HRel.views hlays l3
  rw [l2] at hh
  have hlr := (run_lr l1 e5 (vs := [.agg #[.int .u8 x10, .int .u8 x11, .int .u8 x12]]) (by rfl))
  have hb : ∀ id, viewA l id → id < (Qq.hp2r xs hs false false false false []).length := fun id hid => by rw [viewA, l1] at hid; exact hid
  have hc := calls_true (Qq.law15 hl (nm := nm) (c := big) (d := big) bx10.1 bx10.2 bx11.1 bx11.2 bx12.1 bx12.2 e1 e2) hh hb hlr
  refine hc.mono fun e W' ⟨he, hw⟩ => ?_
  exact ⟨_, he, post_true (tb := 4) hW' rfl laidOut params_ok (by kernel_rfl) Tryz.underlying4 (by rfl) hw⟩

theorem holds (hl : ∀ p ∈ Qq.l15, Ok Tryz.prog p.1 p.2) : Rows.QualitySpreadSaid :=
  OpenClaim.holds_of_wide 15 Tryz.f15 rfl rfl rfl rfl rfl rfl rfl ⟨rfl, rfl, rfl, rfl, rfl⟩ rfl rfl rfl rfl rfl k_fn Tryz.func15 closed
    k_inst (by unfold Func.isWrapper; first | (rw [if_pos (by decide +kernel)]; kernel_rfl) | (rw [if_neg (by decide +kernel)]; exact ⟨rfl, rfl⟩))
    (fun os started H enc _ => lifted hl os started H enc)

theorem card_holds (hl : ∀ p ∈ Qq.l15, Ok Tryz.prog p.1 p.2) : Rows.QualitySpreadCardSaid :=
  Claim7.holds_tied_plain_at .later [] [.data, .data, .data] true (true, "476780b8474583dd50713e090344d8796cd804ebab54954e5d6f57dab0c3dc78") false
    (holds hl) (fun _ h => by cases h) k_wf (fun _ h => by cases h) qualitySpread_row_tie rfl ⟨rfl, rfl⟩ k_main rfl
    (fun f fn hf hfn => by
      obtain rfl : f = 15 := Option.some.inj (k_fn.symm.trans hf) |>.symm
      obtain rfl : fn = Tryz.f15 := (Option.some.inj (Tryz.func15.symm.trans hfn)).symm
      exact ⟨k_lo, fun j t ht => by
        rw [Tryz.params15] at ht
        have hm : t ∈ [25, 154] := by have := Array.mem_of_getElem? ht; simpa using this
        have hall : ([25, 154].all fun u => !Tryz.prog.wantsStandIn u) = true := by kernel_rfl
        exact (show Tryz.prog.wantsStandIn t = false by simpa using List.all_eq_true.1 hall t hm)⟩)
    k_go

theorem card : Rows.QualitySpreadCardSaid := card_holds (all_cons Qq.okTrue all_nil)
end Go.Proofs.YtaigknknfaeajaaGreatDoor.Spread
