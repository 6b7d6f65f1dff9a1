/- The statement on moments, but for awake. -/
import Derived.Test.YtaigknknfaeajaaGreatDoorQB
import Derived.Test.YtaigknknfaeajaaGreatDoorVmT
import Derived.Test.YtaigknknfaeajaaGreatDoorQE
import Derived.Test.YtaigknknfaeajaaGreatDoorQK13
import Derived.LaidMore
import Derived.OpenShut
import Derived.LaidSub
import Derived.Stop.Joined
import Derived.Lib.SmallJoins
import Derived.SevenTiedAt
import Derived.Test.YtaigknknfaeajaaGreatDoorCards
import Derived.Test.YtaigknknfaeajaaGreatDoorTie
open Go Go.Vm
namespace Go.Proofs.YtaigknknfaeajaaGreatDoor.Moments
open Go.ChangeShapes Go.WideShapes Go.ChangeAt Go.WideMaps Go.WideElems Go.RowKit Go.Joins Go.Vm

theorem own : ownKnob Tryz.prog.godebug = none := by kernel_rfl
theorem laidOut : laidOutB Tryz.prog = true := by kernel_rfl
abbrev laid3 := Rows.qualityMomentsRow.laid
theorem door_met (os : Os) (args : Array Value) : laidMetH Tryz.prog laid3 ((World.doorLaid Tryz.prog 400 os).forCall (fun _ _ => 0) ⟨#[], args, []⟩).memory :=
  laidMetH_of_parts3 (fuel := 8) (laidMet_of_run' 8 (by kernel_rfl) (by kernel_rfl)) (by kernel_rfl) (by kernel_rfl)

theorem table {W : World} (h : laidMetH Tryz.prog laid3 W) : Lib.TabIs Tryz.prog W "internal/strconv.uint64pow10" .u64 Lib.pow10Tab := by
  rw [MakeChecks.laidMetH_plain _ _ _ (by kernel_rfl)] at h
  have h2 := laidMet.filter (fun x => x.1 == "internal/strconv.uint64pow10") h
  have e : laid3.filter (fun x => x.1 == "internal/strconv.uint64pow10") = [("internal/strconv.uint64pow10", Lib.tabData .u64 Lib.pow10Tab)] := by kernel_rfl
  rw [e] at h2
  exact Lib.tabIs_of_head (g := 0) (t := 347) (e := 312) (n := 20) (by kernel_rfl) (by kernel_rfl) (by kernel_rfl) (by kernel_rfl) (by kernel_rfl) (by kernel_rfl) h2

theorem params_ok : ∀ t ∈ Tryz.f13.params.toList, Tryz.prog.readableRec t = true ∧ t < Tryz.prog.types.size := by
  have h : (Tryz.f13.params.toList.all fun t => Tryz.prog.readableRec t && decide (t < Tryz.prog.types.size)) = true := by kernel_rfl
  intro t ht
  simpa using List.all_eq_true.1 h t ht

set_option maxRecDepth 100000 in
theorem lifted (hl : ∀ p ∈ Qq.l1, Ok Tryz.prog p.1 p.2) (os : Os) (started : os.Started) (H : Type) (enc : TypeId × Value → H) :
    ReturnsInHanded {} Tryz.checked os 13 .any (fun w args => (Rows.qualityMomentsSpec.pre enc Tryz.prog Tryz.f13 [] false w args ∧ laidMetH Tryz.prog laid3 w) ∧ sizedMet enc Tryz.prog Tryz.f13 (OpenSpec.ofChange Rows.qualityMomentsSpec) false w args)
      (Rows.qualityMomentsSpec.post enc Tryz.prog Tryz.f13 false true false false) := by
  refine returnsInHanded_of_change_and (C := Tryz.checked) (X := fun w _ => laidMetH Tryz.prog laid3 w) (fun _ _ _ hh h => h.of_heap hh) own started (by kernel_rfl) Tryz.func13
    (ChangeSpec.witness_shaped (enc := enc) (C := Tryz.checked) (os := os) (X := fun w _ => laidMetH Tryz.prog laid3 w) false (World.doorLaid Tryz.prog 400 os) #[.agg #[.int .i64 0, .int .i64 0, .int .i64 0], .agg #[.int .i64 0, .int .i64 0, .int .i64 0]] 8 rfl (World.shaped_of_RefB (by kernel_rfl) (by kernel_rfl)) (by kernel_rfl) (by kernel_rfl) (by kernel_rfl) (door_met os _)) ?_
  intro W base args ds gs before hval0 hW _ _ hL _
  have hval : ∀ (j : Nat) t v, Tryz.f13.params[j]? = some t → args[j]? = some v → Value.okWide Tryz.prog W .any base t v := hval0
  have hW' := hW
  obtain ⟨p, q, hA0, hV, rfl, hfz, hnd⟩ := hW
  have hA : DataW.TrodAll enc Tryz.prog W 0 (fun _ => true) true Tryz.f13.params.toList args.toList ds p := hA0
  rw [Tryz.params13] at hA hval
  obtain ⟨v0, v1, d0, d1, p0, p1, rfl, rfl, rfl, h0, h1⟩ := trodAll_two hA
  obtain ⟨rfl, rfl⟩ := trodVars_none hV
  have c38 : Tryz.prog.cellsOf 38 = 3 := by kernel_rfl
  obtain ⟨a0, a1, a2, y0, y1, y2, m, rfl, rfl, rfl, k0, k1, k2⟩ := open_agg3 Tryz.underlying38 (by kernel_rfl) c38 (hval 0 38 v0 rfl rfl) h0
  obtain ⟨b0, b1, b2, z0, z1, z2, m', rfl, rfl, rfl, l0, l1, l2⟩ := open_agg3 Tryz.underlying38 (by kernel_rfl) c38 (hval 1 38 v1 rfl rfl) h1
  obtain ⟨n0, e0, _⟩ := DataW.trod_int Tryz.underlying3 k0
  obtain ⟨n1, e1, _⟩ := DataW.trod_int Tryz.underlying3 k1
  obtain ⟨n2, e2, _⟩ := DataW.trod_int Tryz.underlying3 k2
  obtain ⟨n3, e3, _⟩ := DataW.trod_int Tryz.underlying3 l0
  obtain ⟨n4, e4, _⟩ := DataW.trod_int Tryz.underlying3 l1
  obtain ⟨n5, e5, _⟩ := DataW.trod_int Tryz.underlying3 l2
  simp only [List.cons.injEq, and_true] at e0 e1 e2 e3 e4 e5
  subst e0 e1 e2 e3 e4 e5
  have hlays : lays Tryz.prog W := fun _ => table hL
  refine (calls_true0 (hL := hlays) (Qq.law13 hl n0 n1 n2 n3 n4 n5) (W := W) (LR.ground (by rfl))).mono fun e W' ⟨he, hw⟩ => ?_
  exact ⟨_, he, post_true (tb := 4) hW' rfl laidOut params_ok (by kernel_rfl) Tryz.underlying4 (by rfl) hw⟩

theorem holds (hl : ∀ p ∈ Qq.l1, Ok Tryz.prog p.1 p.2) : Rows.QualityMomentsSaid :=
  OpenClaim.holds_of_wide 13 Tryz.f13 rfl rfl rfl rfl rfl rfl rfl ⟨rfl, rfl, rfl, rfl, rfl⟩ rfl rfl rfl rfl rfl k_fn Tryz.func13 closed
    k_inst (by unfold Func.isWrapper; first | (rw [if_pos (by decide +kernel)]; kernel_rfl) | (rw [if_neg (by decide +kernel)]; exact ⟨rfl, rfl⟩))
    (fun os started H enc _ => lifted hl os started H enc)

theorem card_holds (hl : ∀ p ∈ Qq.l1, Ok Tryz.prog p.1 p.2) : Rows.QualityMomentsCardSaid :=
  Claim7.holds_tied_plain_at .later [] [.data, .data, .data] true (true, "476780b8474583dd50713e090344d8796cd804ebab54954e5d6f57dab0c3dc78") false
    (holds hl) (fun _ h => by cases h) k_wf (fun _ h => by cases h) qualityMoments_row_tie rfl ⟨rfl, rfl⟩ k_main rfl
    (fun f fn hf hfn => by
      obtain rfl : f = 13 := Option.some.inj (k_fn.symm.trans hf) |>.symm
      obtain rfl : fn = Tryz.f13 := (Option.some.inj (Tryz.func13.symm.trans hfn)).symm
      exact ⟨k_lo, fun j t ht => by
        rw [Tryz.params13] at ht
        have hm : t ∈ [38] := by have := Array.mem_of_getElem? ht; simpa using this
        have hall : ([38].all fun u => !Tryz.prog.wantsStandIn u) = true := by kernel_rfl
        exact (show Tryz.prog.wantsStandIn t = false by simpa using List.all_eq_true.1 hall t hm)⟩)
    k_go

theorem all1 : ∀ p ∈ Qq.l1, Ok Tryz.prog p.1 p.2 := all_cons Qq.okTrue (all_cons Qq.okAdd (all_cons Qq.okVar (all_cons Qq.okCkM (all_cons Qq.okCkR (all_cons Qq.okAddR (all_cons Qq.okFirstR (all_cons Qq.okWhenR all_nil)))))))
theorem card : Rows.QualityMomentsCardSaid := card_holds all1
end Go.Proofs.YtaigknknfaeajaaGreatDoor.Moments
