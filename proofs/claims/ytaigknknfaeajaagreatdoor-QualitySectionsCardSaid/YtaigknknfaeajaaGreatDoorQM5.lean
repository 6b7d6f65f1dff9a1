/- The statement on sections. -/
import Derived.Test.YtaigknknfaeajaaGreatDoorQN
import Derived.Test.YtaigknknfaeajaaGreatDoorQJ
import Derived.Test.YtaigknknfaeajaaGreatDoorQK5
open Go Go.Vm
namespace Go.Proofs.YtaigknknfaeajaaGreatDoor.Sections
open Go.ChangeShapes Go.WideShapes Go.ChangeAt Go.WideMaps Go.WideElems Go.RowKit Go.Joins Go.Vm Common

theorem params_ok : ∀ t ∈ Tryz.f5.params.toList, Tryz.prog.readableRec t = true ∧ t < Tryz.prog.types.size := by
  have h : (Tryz.f5.params.toList.all fun t => Tryz.prog.readableRec t && decide (t < Tryz.prog.types.size)) = true := by kernel_rfl
  intro t ht
  simpa using List.all_eq_true.1 h t ht

theorem sec_lr {l : List View} {v0 : Value} {nm : ByteArray} {n k : Nat} (l1 : l.length = 2)
    (e5 : ∀ (A : Nat → Prop) (ψ : Nat → Gh) (i : Nat), A i → A (i + 1) → ψ i = viewG l 0 → ψ (i + 1) = viewG l 1 → VR A ψ (.agg (Qq.secA nm i n big (i + 1) k big).toArray) v0) :
    LR (viewA l) (viewG l) [.agg (Qq.secA nm 0 n big 1 k big).toArray] [v0] := by
  refine ⟨rfl, fun i => ?_⟩
  match i with
  | 0 => exact e5 (viewA l) (viewG l) 0 (by rw [viewA, l1]; decide) (by rw [viewA, l1]; decide) rfl rfl
  | i + 1 => exact .poison _

set_option maxRecDepth 100000 in
theorem lifted (hl : ∀ p ∈ Qq.l5, Ok Tryz.prog p.1 p.2) (os : Os) (started : os.Started) (H : Type) (enc : TypeId × Value → H) :
    ReturnsInHanded {} Tryz.checked os 5 .any (fun w args => (Rows.qualitySectionsSpec.pre enc Tryz.prog Tryz.f5 [] false w args ∧ laidMetH Tryz.prog laid3 w) ∧ sizedMet enc Tryz.prog Tryz.f5 (OpenSpec.ofChange Rows.qualitySectionsSpec) false w args)
      (Rows.qualitySectionsSpec.post enc Tryz.prog Tryz.f5 false true false false) := by
  refine returnsInHanded_of_change_and (C := Tryz.checked) (X := fun w _ => laidMetH Tryz.prog laid3 w) (fun _ _ _ hh h => h.of_heap hh) own started (by kernel_rfl) Tryz.func5
    (ChangeSpec.witness_shaped (enc := enc) (C := Tryz.checked) (os := os) (X := fun w _ => laidMetH Tryz.prog laid3 w) false (World.doorLaid Tryz.prog 400 os) #[.agg #[.string ⟨#[]⟩, .slice none 0 0, .slice none 0 0]] 8 rfl (World.shaped_of_RefB (by kernel_rfl) (by kernel_rfl)) (by kernel_rfl) (by kernel_rfl) (by kernel_rfl) (door_met os _)) ?_
  intro W base args ds gs before hval0 hW _ _ hL _
  have hval : ∀ (j : Nat) t v, Tryz.f5.params[j]? = some t → args[j]? = some v → Value.okWide Tryz.prog W .any base t v := hval0
  have hW' := hW
  obtain ⟨p, q, hA0, hV, rfl, hfz, hnd⟩ := hW
  have hA : DataW.TrodAll enc Tryz.prog W 0 (fun _ => true) true Tryz.f5.params.toList args.toList ds p := hA0
  rw [Tryz.params5] at hA hval
  obtain ⟨v0, d0, rfl, rfl, h0⟩ := trodAll_one hA
  obtain ⟨rfl, rfl⟩ := trodVars_none hV
  obtain ⟨nm, zs, ks, n, k, l, l1, l2, l3, e1, e2, e3, e4, e5⟩ := open_sec (hval 0 62 v0 rfl rfl) h0
  have hlays : lays Tryz.prog W := fun _ => table hL
  have hh := HRel.views hlays l3
  rw [l2] at hh
  have hlr : LR (viewA l) (viewG l) [.agg (Qq.secA nm 0 n big 1 k big).toArray] [v0] := sec_lr l1 e5
  have hb : ∀ id, viewA l id → id < (Qq.hp2 zs ks false false false false []).length := fun id hid => by rw [viewA, l1] at hid; exact hid
  have hc := calls_true (Qq.law5 hl (nm := nm) (c := big) (d := big) e1 e2 e3 e4) hh hb hlr
  refine hc.mono fun e W' ⟨he, hw⟩ => ?_
  exact ⟨_, he, post_true (tb := 4) hW' rfl laidOut params_ok (by kernel_rfl) Tryz.underlying4 (by rfl) hw⟩

theorem holds (hl : ∀ p ∈ Qq.l5, Ok Tryz.prog p.1 p.2) : Rows.QualitySectionsSaid :=
  OpenClaim.holds_of_wide 5 Tryz.f5 rfl rfl rfl rfl rfl rfl rfl ⟨rfl, rfl, rfl, rfl, rfl⟩ rfl rfl rfl rfl rfl k_fn Tryz.func5 closed
    k_inst (by unfold Func.isWrapper; first | (rw [if_pos (by decide +kernel)]; kernel_rfl) | (rw [if_neg (by decide +kernel)]; exact ⟨rfl, rfl⟩))
    (fun os started H enc _ => lifted hl os started H enc)

theorem card_holds (hl : ∀ p ∈ Qq.l5, Ok Tryz.prog p.1 p.2) : Rows.QualitySectionsCardSaid :=
  Claim7.holds_tied_plain_at .later [] [.data, .data, .data] true (true, "476780b8474583dd50713e090344d8796cd804ebab54954e5d6f57dab0c3dc78") false
    (holds hl) (fun _ h => by cases h) k_wf (fun _ h => by cases h) qualitySections_row_tie rfl ⟨rfl, rfl⟩ k_main rfl
    (fun f fn hf hfn => by
      obtain rfl : f = 5 := Option.some.inj (k_fn.symm.trans hf) |>.symm
      obtain rfl : fn = Tryz.f5 := (Option.some.inj (Tryz.func5.symm.trans hfn)).symm
      exact ⟨k_lo, fun j t ht => by
        rw [Tryz.params5] at ht
        have hm : t ∈ [62] := by have := Array.mem_of_getElem? ht; simpa using this
        have hall : ([62].all fun u => !Tryz.prog.wantsStandIn u) = true := by kernel_rfl
        exact (show Tryz.prog.wantsStandIn t = false by simpa using List.all_eq_true.1 hall t hm)⟩)
    k_go

theorem card : Rows.QualitySectionsCardSaid := card_holds (all_cons Qq.okTrue all_nil)
end Go.Proofs.YtaigknknfaeajaaGreatDoor.Sections
