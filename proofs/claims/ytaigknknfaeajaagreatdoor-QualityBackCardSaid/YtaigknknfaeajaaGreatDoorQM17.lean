/- The statement QualityBack: the card is proved. -/
import Derived.Test.YtaigknknfaeajaaGreatDoorZN
import Derived.Test.YtaigknknfaeajaaGreatDoorZD
import Derived.Test.YtaigknknfaeajaaGreatDoorTT
import Derived.Test.YtaigknknfaeajaaGreatDoorQK17
import Derived.Lay
open Go Go.Vm
namespace Go.Proofs.YtaigknknfaeajaaGreatDoor.Back
open Go.ChangeShapes Go.WideShapes Go.ChangeAt Go.WideMaps Go.WideElems Go.RowKit Go.Joins Go.Vm Common

theorem params_ok : ∀ t ∈ Tryz.f17.params.toList, Tryz.prog.readableRec t = true ∧ t < Tryz.prog.types.size := by
  have h : (Tryz.f17.params.toList.all fun t => Tryz.prog.readableRec t && decide (t < Tryz.prog.types.size)) = true := by kernel_rfl
  intro t ht
  simpa using List.all_eq_true.1 h t ht

abbrev laid5 := Rows.qualityBackRow.laid
theorem table5 {W : World} (h : laidMetH Tryz.prog laid5 W) : Lib.TabIs Tryz.prog W "internal/strconv.uint64pow10" .u64 Lib.pow10Tab := by
  rw [MakeChecks.laidMetH_plain _ _ _ (by kernel_rfl)] at h
  have h2 := laidMet.filter (fun x => x.1 == "internal/strconv.uint64pow10") h
  have e : laid5.filter (fun x => x.1 == "internal/strconv.uint64pow10") = [("internal/strconv.uint64pow10", Lib.tabData .u64 Lib.pow10Tab)] := by kernel_rfl
  rw [e] at h2
  exact Lib.tabIs_of_head (g := 0) (t := 347) (e := 312) (n := 20) (by kernel_rfl) (by kernel_rfl) (by kernel_rfl) (by kernel_rfl) (by kernel_rfl) (by kernel_rfl) h2

set_option maxRecDepth 100000 in
theorem lifted (hl : ∀ p ∈ Qq.l17, Ok Tryz.prog p.1 p.2) (os : Os) (started : os.Started) (H : Type) (enc : TypeId × Value → H) :
    ReturnsInHanded {} Tryz.checked os 17 .any (fun w args => (Rows.qualityBackSpec.pre enc Tryz.prog Tryz.f17 [] false w args ∧ laidMetH Tryz.prog laid5 w) ∧ sizedMet enc Tryz.prog Tryz.f17 (OpenSpec.ofChange Rows.qualityBackSpec) false w args)
      (Rows.qualityBackSpec.post enc Tryz.prog Tryz.f17 false true false false) := by
  refine returnsInHanded_of_change_and (C := Tryz.checked) (X := fun w _ => laidMetH Tryz.prog laid5 w) (fun _ _ _ hh h => h.of_heap hh) own started (by kernel_rfl) Tryz.func17
    (ChangeSpec.witness_shaped (enc := enc) (C := Tryz.checked) (os := os) (X := fun w _ => laidMetH Tryz.prog laid5 w) false (World.laidAll Tryz.prog os laid5) #[.agg #[.string ⟨#[]⟩, .slice none 0 0, .slice none 0 0], .string ⟨#[]⟩] 8 (World.laidAll_os _ _ _) (World.shaped_of_ZipB (by kernel_rfl) (by kernel_rfl)) (by kernel_rfl) (by kernel_rfl) (by kernel_rfl) (by rw [MakeChecks.laidMetH_plain _ _ _ (by kernel_rfl)]; exact laidMet_laidAll _ (by kernel_rfl) (by kernel_rfl))) ?_
  intro W base args ds gs before hval0 hW _ _ hL _
  have hval : ∀ (j : Nat) t v, Tryz.f17.params[j]? = some t → args[j]? = some v → Value.okWide Tryz.prog W .any base t v := hval0
  have hW' := hW
  obtain ⟨p, q, hA0, hV, rfl, hfz, hnd⟩ := hW
  have hA : DataW.TrodAll enc Tryz.prog W 0 (fun _ => true) true Tryz.f17.params.toList args.toList ds p := hA0
  rw [Tryz.params17] at hA hval
  obtain ⟨v0, v1, d0, d1, p0, p1, rfl, rfl, rfl, h0, h1⟩ := trodAll_two hA
  obtain ⟨rfl, rfl⟩ := trodVars_none hV
  obtain ⟨x1, rfl⟩ := okWide_string Tryz.underlying9 (hval 1 9 v1 rfl rfl)
  obtain ⟨nm, zs, ks, n, k, l, l1, l2, l3, e1, e2, e3, e4, e5⟩ := open_sec (hval 0 62 v0 rfl rfl) h0
  have hlays : lays Tryz.prog W := fun _ => table5 hL
  have hh := HRel.views hlays l3
  rw [l2] at hh
  have hlr := (sec_lr l1 e5 (vs := [.string x1]) (by rfl))
  have hb : ∀ id, viewA l id → id < (Qq.hp2 zs ks false false false false []).length := fun id hid => by rw [viewA, l1] at hid; exact hid
  have hc := calls_true (Qq.law17 hl (nm := nm) (c := big) (d := big) x1 e1 e2 e3 e4) hh hb hlr
  refine hc.mono fun e W' ⟨he, hw⟩ => ?_
  exact ⟨_, he, post_true (tb := 4) hW' rfl laidOut params_ok (by kernel_rfl) Tryz.underlying4 (by rfl) hw⟩

theorem holds (hl : ∀ p ∈ Qq.l17, Ok Tryz.prog p.1 p.2) : Rows.QualityBackSaid :=
  OpenClaim.holds_of_wide 17 Tryz.f17 rfl rfl rfl rfl rfl rfl rfl ⟨rfl, rfl, rfl, rfl, rfl⟩ rfl rfl rfl rfl rfl k_fn Tryz.func17 closed
    k_inst (by unfold Func.isWrapper; first | (rw [if_pos (by decide +kernel)]; kernel_rfl) | (rw [if_neg (by decide +kernel)]; exact ⟨rfl, rfl⟩))
    (fun os started H enc _ => lifted hl os started H enc)

theorem card_holds (hl : ∀ p ∈ Qq.l17, Ok Tryz.prog p.1 p.2) : Rows.QualityBackCardSaid :=
  Claim7.holds_tied_plain_at .later [] [.data, .data, .data, .data, .pinned] true (true, "476780b8474583dd50713e090344d8796cd804ebab54954e5d6f57dab0c3dc78") false
    (holds hl) (fun _ h => by cases h) k_wf (fun _ h => by cases h) qualityBack_row_tie rfl ⟨rfl, rfl⟩ k_main rfl
    (fun f fn hf hfn => by
      obtain rfl : f = 17 := Option.some.inj (k_fn.symm.trans hf) |>.symm
      obtain rfl : fn = Tryz.f17 := (Option.some.inj (Tryz.func17.symm.trans hfn)).symm
      exact ⟨k_lo, fun j t ht => by
        rw [Tryz.params17] at ht
        have hm : t ∈ [62, 9] := by have := Array.mem_of_getElem? ht; simpa using this
        have hall : ([62, 9].all fun u => !Tryz.prog.wantsStandIn u) = true := by kernel_rfl
        exact (show Tryz.prog.wantsStandIn t = false by simpa using List.all_eq_true.1 hall t hm)⟩)
    k_go

theorem card : Rows.QualityBackCardSaid := card_holds (all_cons Qq.okTrue all_nil)
end Go.Proofs.YtaigknknfaeajaaGreatDoor.Back
