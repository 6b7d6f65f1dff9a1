/- The statement QualityRanks: the card is proved. -/
import Derived.Test.YtdpnlnfpjmjgaaaGreatDoorYQN
import Derived.Test.YtdpnlnfpjmjgaaaGreatDoorZAC
import Derived.Test.YtdpnlnfpjmjgaaaGreatDoorZAI
import Derived.Test.YtdpnlnfpjmjgaaaGreatDoorYQK
open Go Go.Vm
namespace Qq
open Sp Go.Proofs
theorem law10 {l : Ls} {n c : Nat} {x : Int} (hs : okLs l n) (h9 : n ≤ 9223372036854775807) : ∃ H', SmallRes Tryz.prog 3 [.slice (some ⟨0, 0, none⟩) n c, .int .i64 x] (lsG l n) (.bool true) H' := by
  cases h : shL l n
  · exact ⟨_, lw_gen hs h9 h⟩
  · rcases (sh_lt hs h).2 with h6 | rfl
    · exact ⟨_, lw_few h6 hs h⟩
    · exact lw_33 l c x hs h
end Qq
namespace Go.Proofs.YtdpnlnfpjmjgaaaGreatDoor.Ranks
open Go.ChangeShapes Go.WideShapes Go.ChangeAt Go.WideMaps Go.WideElems Go.RowKit Go.Joins Go.Vm Common

theorem params_ok : ∀ t ∈ Tryz.f3.params.toList, Tryz.prog.readableRec t = true ∧ t < Tryz.prog.types.size := by
  have h : (Tryz.f3.params.toList.all fun t => Tryz.prog.readableRec t && decide (t < Tryz.prog.types.size)) = true := by kernel_rfl
  intro t ht
  simpa using List.all_eq_true.1 h t ht

set_option maxRecDepth 100000 in
theorem lifted (os : Os) (started : os.Started) (H : Type) (enc : TypeId × Value → H) :
    ReturnsInHanded {} Tryz.checked os 3 .any (fun w args => (Rows.qualityRanksSpec.pre enc Tryz.prog Tryz.f3 [] false w args ∧ laidMetH Tryz.prog laid3 w) ∧ sizedMet enc Tryz.prog Tryz.f3 (OpenSpec.ofChange Rows.qualityRanksSpec) false w args)
      (Rows.qualityRanksSpec.post enc Tryz.prog Tryz.f3 false true false false) := by
  refine returnsInHanded_of_change_and (C := Tryz.checked) (X := fun w _ => laidMetH Tryz.prog laid3 w) (fun _ _ _ hh h => h.of_heap hh) own started (by kernel_rfl) Tryz.func3
    (ChangeSpec.witness_shaped (enc := enc) (C := Tryz.checked) (os := os) (X := fun w _ => laidMetH Tryz.prog laid3 w) false (World.doorLaid Tryz.prog 400 os) #[.slice none 0 0, .int .i64 0] 8 rfl (World.shaped_of_RefB (by kernel_rfl) (by kernel_rfl)) (by kernel_rfl) (by kernel_rfl) (by kernel_rfl) (door_met os _)) ?_
  intro W base args ds gs before hval0 hW _ _ hL _
  have hval : ∀ (j : Nat) t v, Tryz.f3.params[j]? = some t → args[j]? = some v → Value.okWide Tryz.prog W .any base t v := hval0
  have hW' := hW
  obtain ⟨p, q, hA0, hV, rfl, hfz, hnd⟩ := hW
  have hA : DataW.TrodAll enc Tryz.prog W 0 (fun _ => true) true Tryz.f3.params.toList args.toList ds p := hA0
  rw [Tryz.params3] at hA hval
  obtain ⟨v0, v1, d0, d1, p0, p1, rfl, rfl, rfl, h0, h1⟩ := trodAll_two hA
  obtain ⟨rfl, rfl⟩ := trodVars_none hV
  obtain ⟨x, rfl⟩ := okWide_int Tryz.underlying3 (hval 1 3 v1 rfl rfl)
  obtain ⟨s, n, l, l1, l2, l3, l4, l5⟩ := open_list (hval 0 22 v0 rfl rfl) h0
  have hlays : lays Tryz.prog W := fun _ => table hL
  have hh := HRel.nviews hlays l2
  rw [l1] at hh
  have hlr : LR (nviewA l) (nviewG l) [.slice (some ⟨0, 0, none⟩) n big, .int .i64 x] [v0, .int .i64 x] := .cons l5 (LR.ground (by rfl))
  have hb : ∀ id, nviewA l id → id < (Qq.lsG s n).length := fun id hid => by rw [← l1, List.length_map]; exact hid
  obtain ⟨H', hlaw⟩ := Qq.law10 (c := big) (x := x) l3 l4
  have hc := calls_true hlaw hh hb hlr
  refine hc.mono fun e W' ⟨he, hw⟩ => ?_
  exact ⟨_, he, post_true (tb := 4) hW' rfl laidOut params_ok (by kernel_rfl) Tryz.underlying4 (by rfl) hw⟩

theorem holds : Rows.QualityRanksSaid :=
  OpenClaim.holds_of_wide 3 Tryz.f3 rfl rfl rfl rfl rfl rfl rfl ⟨rfl, rfl, rfl, rfl, rfl⟩ rfl rfl rfl rfl rfl k_fn Tryz.func3 closed
    k_inst (by unfold Func.isWrapper; first | (rw [if_pos (by decide +kernel)]; kernel_rfl) | (rw [if_neg (by decide +kernel)]; exact ⟨rfl, rfl⟩))
    (fun os started H enc _ => lifted os started H enc)

theorem card : Rows.QualityRanksCardSaid :=
  Claim7.holds_tied_plain_at .later [] [.data, .data, .data] true (true, "745d676ec441a96fc7de1898fd3ec8953fc90b6341174dbb2d891262250e1b55") false
    holds (fun _ h => by cases h) k_wf (fun _ h => by cases h) qualityRanks_row_tie rfl ⟨rfl, rfl⟩ k_main rfl
    (fun f fn hf hfn => by
      obtain rfl : f = 3 := Option.some.inj (k_fn.symm.trans hf) |>.symm
      obtain rfl : fn = Tryz.f3 := (Option.some.inj (Tryz.func3.symm.trans hfn)).symm
      exact ⟨k_lo, fun j t ht => by
        rw [Tryz.params3] at ht
        have hm : t ∈ [22, 3] := by have := Array.mem_of_getElem? ht; simpa using this
        have hall : ([22, 3].all fun u => !Tryz.prog.wantsStandIn u) = true := by kernel_rfl
        exact (show Tryz.prog.wantsStandIn t = false by simpa using List.all_eq_true.1 hall t hm)⟩)
    k_go

end Go.Proofs.YtdpnlnfpjmjgaaaGreatDoor.Ranks
