/- Parts of the proof: PO2, PM3, PO3, PMG, PO. -/
import Derived.Test.YtmbeobnpkcoapaaGreatZAH
section
/- The law: 2 sections. -/
open Go Go.Vm Go.Proofs Sp
namespace Qq
noncomputable section
set_option maxRecDepth 100000 in
theorem lw2_ok {l : Ls} {x pr : Int} {O : Nat → Nat} {oc : List Value} {N c : Nat} (h : Jr l 2 x O oc N) (hp : 0 ≤ pr ∧ pr ≤ 255) (hj : jsRes true 2 c (lsG l 2)) : SmallRes Tryz.prog 3 [.slice (some ⟨0, 0, none⟩) 2 c, .int .u16 x, .int .u8 pr] (lsG l 2) (.bool true) (lsG l 2) := by
  refine fnP_res hm c0_ok (hs := hsJ l 2 x pr O oc N c 999) ?_
  rw [lw2_t]
  have nN := h.Nn
  have x1 := h.x1
  have wp : IntKind.wrap .i64 pr = pr := W_in (by omega)
  have hpo := price hp
  refine ⟨⟨hj⟩, ⟨decide_eq_false (by omega)⟩, ⟨⟨sec_is h.ht (by decide)⟩, ⟨sec_is h.ht (by decide)⟩, (0 : Nat), ⟨rfl⟩, ?_, by first | trivial | rfl⟩, fun _ _ => ?_⟩
  · repeat (first | exact trivial | refine ⟨by first | trivial | rfl | (rw [decide_eq_false (by omega)]) | (rw [decide_eq_true (by omega)]) | (rw [ho]) | (rw [dJ, hoN]) | (rw [eJ, hoN]), ?_⟩)
  refine ⟨⟨h.rkI rfl⟩, ⟨rfl⟩, ⟨trivial⟩, ⟨⟨(0 : Nat), ⟨Nat.zero_le _⟩, ?_, by rw [mJ_in (Nat.zero_le N)] <;> rfl⟩, fun s hs => br_of (fun hd => ?_) (fun hd => ?_)⟩, fun _ _ => ?_⟩
  · repeat (first | exact trivial | refine ⟨by first | trivial | rfl | (rw [decide_eq_false (by omega)]) | (rw [decide_eq_true (by omega)]) | (rw [ho]) | (rw [dJ, hoN]) | (rw [eJ, hoN]), ?_⟩)
  · have hd : s < 2 := by have := of_decide_eq_true hd; omega
    rw [show (0 : Nat) + Int.toNat (s : Int) * 1 = s by omega]
    have ea := h.at_ hd
    rw [show 0 + s * 1 = s by omega] at ea
    have ol := h.lt s hd
    refine ⟨⟨by omega, by omega⟩, ⟨ea⟩, ?_⟩
    refine br_of (fun ho => ?_) (fun ho0 => ?_)
    · have ho : (O s : Int) = 0 := eq_of_beq ho
      have hoN : O s = 0 := by omega
      have hn := h.no hd ho
      refine ⟨⟨hn⟩, ⟨hn⟩, s, ⟨⟨sec_is h.ht (by decide)⟩, ⟨h.rcI (by decide)⟩, s, ⟨hd⟩, ?_, ?_⟩, fun _ _ => ?_⟩
      · repeat (first | exact trivial | refine ⟨by first | trivial | rfl | (rw [decide_eq_false (by omega)]) | (rw [decide_eq_true (by omega)]) | (rw [ho]) | (rw [dJ, hoN]) | (rw [eJ, hoN]), ?_⟩)
      · rw [knO_succ, ho]
      refine br_of (fun h7 => ?_) (fun h7 => br_of (fun h16 => ?_) (fun h16 => ?_))
      · have hl : N ≤ s := h.late hd (by intro e; rw [e] at h7; cases h7)
        rw [mJ_out hl]
        refine ⟨s + 1, ⟨by omega⟩, ⟨by omega⟩, ?_, by rw [mJ_out (show N ≤ s + 1 by omega)]⟩
        rw [up1 hd (by decide)]
        repeat (first | exact trivial | refine ⟨by first | trivial | rfl | (rw [decide_eq_false (by omega)]) | (rw [decide_eq_true (by omega)]) | (rw [ho]) | (rw [dJ, hoN]) | (rw [eJ, hoN]), ?_⟩)
      · have hl : N ≤ s := h.late hd (by intro e; rw [e] at h16; cases h16)
        rw [mJ_out hl]
        refine ⟨s + 1, ⟨by omega⟩, ⟨by omega⟩, ?_, by rw [mJ_out (show N ≤ s + 1 by omega)]⟩
        rw [up1 hd (by decide)]
        repeat (first | exact trivial | refine ⟨by first | trivial | rfl | (rw [decide_eq_false (by omega)]) | (rw [decide_eq_true (by omega)]) | (rw [ho]) | (rw [dJ, hoN]) | (rw [eJ, hoN]), ?_⟩)
      · obtain ⟨he, hN⟩ := h.soon hd h7 h16
        refine ⟨s, ⟨⟨by rw [he] <;> rfl⟩, br_of (fun hx => absurd (of_decide_eq_true hx) (by omega)) (fun _ => ⟨s, ⟨hd, hN⟩, ?_, by rw [mJ_in (show s ≤ N by omega)]⟩)⟩, fun _ _ => br_of (fun h0 => ?_) (fun h0 => ?_)⟩
        · repeat (first | exact trivial | refine ⟨by first | trivial | rfl | (rw [decide_eq_false (by omega)]) | (rw [decide_eq_true (by omega)]) | (rw [ho]) | (rw [dJ, hoN]) | (rw [eJ, hoN]), ?_⟩)
        · have h0 : 0 < s := by have := of_decide_eq_true h0; omega
          have e1 : IntKind.wrap .i64 ((s : Int) - 1) = ((s - 1 : Nat) : Int) := by rw [W_in (by omega)]; omega
          have e2 : 0 + (s - 1) * 4 + 0 = (s - 1) * 4 := by omega
          have e3 : (s - 1) * 4 / 4 = s - 1 := by omega
          have o3 := h.O3 hd
          rw [e1, Int.toNat_natCast, Int.toNat_natCast, e2, e3, txS_sz, h.nm hd]
          refine ⟨⟨by omega, by omega⟩, ⟨(sh_at (by omega)).1⟩, ⟨decide_eq_false ?_⟩, ⟨by omega, by omega⟩, ⟨by decide⟩, ⟨se_len _ _ _ _, by omega, by omega⟩, ⟨sh_len _ _ _, by omega, by omega⟩, s + 1, ⟨by omega⟩, ⟨by omega⟩, ?_, ?_⟩
          · have := h.up (s - 1) (by omega)
            rw [show s - 1 + 1 = s by omega] at this
            show ¬ dJ l x O s < dJ l x O (0 + (s - 1))
            rw [Nat.zero_add]; omega
          · rw [up1 hd (by decide)]
            repeat (first | exact trivial | refine ⟨by first | trivial | rfl | (rw [decide_eq_false (by omega)]) | (rw [decide_eq_true (by omega)]) | (rw [ho]) | (rw [dJ, hoN]) | (rw [eJ, hoN]), ?_⟩)
          · rw [mJ_in (show s + 1 ≤ N by omega), se_succ, sh_succ, show (0 : Nat) + s = s from Nat.zero_add s] <;> rfl
        · have o3 := h.O3 hd
          rw [Int.toNat_natCast, txS_sz, h.nm hd]
          refine ⟨⟨by omega, by omega⟩, ⟨by decide⟩, ⟨se_len _ _ _ _, by omega, by omega⟩, ⟨sh_len _ _ _, by omega, by omega⟩, s + 1, ⟨by omega⟩, ⟨by omega⟩, ?_, ?_⟩
          · rw [up1 hd (by decide)]
            repeat (first | exact trivial | refine ⟨by first | trivial | rfl | (rw [decide_eq_false (by omega)]) | (rw [decide_eq_true (by omega)]) | (rw [ho]) | (rw [dJ, hoN]) | (rw [eJ, hoN]), ?_⟩)
          · rw [mJ_in (show s + 1 ≤ N by omega), se_succ, sh_succ, show (0 : Nat) + s = s from Nat.zero_add s] <;> rfl
    have g0 : (O s : Int) ≠ 0 := ne_of_beq_false ho0
    have ho : (O s : Int) = 1 := by omega
    refine ⟨⟨ho⟩, ?_⟩
    have hoN : O s = 1 := by omega
    have hn := h.no hd ho
    refine ⟨⟨hn⟩, ⟨hn⟩, s, ⟨⟨sec_is h.ht (by decide)⟩, ⟨h.rcI (by decide)⟩, s, ⟨hd⟩, ?_, ?_⟩, fun _ _ => ?_⟩
    · repeat (first | exact trivial | refine ⟨by first | trivial | rfl | (rw [decide_eq_false (by omega)]) | (rw [decide_eq_true (by omega)]) | (rw [ho]) | (rw [dJ, hoN]) | (rw [eJ, hoN]), ?_⟩)
    · rw [knO_succ, ho]
    refine br_of (fun h7 => ?_) (fun h7 => br_of (fun h16 => ?_) (fun h16 => ?_))
    · have hl : N ≤ s := h.late hd (by intro e; rw [e] at h7; cases h7)
      rw [mJ_out hl]
      refine ⟨s + 1, ⟨by omega⟩, ⟨by omega⟩, ?_, by rw [mJ_out (show N ≤ s + 1 by omega)]⟩
      rw [up1 hd (by decide)]
      repeat (first | exact trivial | refine ⟨by first | trivial | rfl | (rw [decide_eq_false (by omega)]) | (rw [decide_eq_true (by omega)]) | (rw [ho]) | (rw [dJ, hoN]) | (rw [eJ, hoN]), ?_⟩)
    · have hl : N ≤ s := h.late hd (by intro e; rw [e] at h16; cases h16)
      rw [mJ_out hl]
      refine ⟨s + 1, ⟨by omega⟩, ⟨by omega⟩, ?_, by rw [mJ_out (show N ≤ s + 1 by omega)]⟩
      rw [up1 hd (by decide)]
      repeat (first | exact trivial | refine ⟨by first | trivial | rfl | (rw [decide_eq_false (by omega)]) | (rw [decide_eq_true (by omega)]) | (rw [ho]) | (rw [dJ, hoN]) | (rw [eJ, hoN]), ?_⟩)
    · obtain ⟨he, hN⟩ := h.soon hd h7 h16
      refine ⟨s, ⟨⟨by rw [he] <;> rfl⟩, br_of (fun hx => absurd (of_decide_eq_true hx) (by omega)) (fun _ => ⟨s, ⟨hd, hN⟩, ?_, by rw [mJ_in (show s ≤ N by omega)]⟩)⟩, fun _ _ => br_of (fun h0 => ?_) (fun h0 => ?_)⟩
      · repeat (first | exact trivial | refine ⟨by first | trivial | rfl | (rw [decide_eq_false (by omega)]) | (rw [decide_eq_true (by omega)]) | (rw [ho]) | (rw [dJ, hoN]) | (rw [eJ, hoN]), ?_⟩)
      · have h0 : 0 < s := by have := of_decide_eq_true h0; omega
        have e1 : IntKind.wrap .i64 ((s : Int) - 1) = ((s - 1 : Nat) : Int) := by rw [W_in (by omega)]; omega
        have e2 : 0 + (s - 1) * 4 + 0 = (s - 1) * 4 := by omega
        have e3 : (s - 1) * 4 / 4 = s - 1 := by omega
        have o3 := h.O3 hd
        rw [e1, Int.toNat_natCast, Int.toNat_natCast, e2, e3, txS_sz, h.nm hd]
        refine ⟨⟨by omega, by omega⟩, ⟨(sh_at (by omega)).1⟩, ⟨decide_eq_false ?_⟩, ⟨by omega, by omega⟩, ⟨by decide⟩, ⟨se_len _ _ _ _, by omega, by omega⟩, ⟨sh_len _ _ _, by omega, by omega⟩, s + 1, ⟨by omega⟩, ⟨by omega⟩, ?_, ?_⟩
        · have := h.up (s - 1) (by omega)
          rw [show s - 1 + 1 = s by omega] at this
          show ¬ dJ l x O s < dJ l x O (0 + (s - 1))
          rw [Nat.zero_add]; omega
        · rw [up1 hd (by decide)]
          repeat (first | exact trivial | refine ⟨by first | trivial | rfl | (rw [decide_eq_false (by omega)]) | (rw [decide_eq_true (by omega)]) | (rw [ho]) | (rw [dJ, hoN]) | (rw [eJ, hoN]), ?_⟩)
        · rw [mJ_in (show s + 1 ≤ N by omega), se_succ, sh_succ, show (0 : Nat) + s = s from Nat.zero_add s] <;> rfl
      · have o3 := h.O3 hd
        rw [Int.toNat_natCast, txS_sz, h.nm hd]
        refine ⟨⟨by omega, by omega⟩, ⟨by decide⟩, ⟨se_len _ _ _ _, by omega, by omega⟩, ⟨sh_len _ _ _, by omega, by omega⟩, s + 1, ⟨by omega⟩, ⟨by omega⟩, ?_, ?_⟩
        · rw [up1 hd (by decide)]
          repeat (first | exact trivial | refine ⟨by first | trivial | rfl | (rw [decide_eq_false (by omega)]) | (rw [decide_eq_true (by omega)]) | (rw [ho]) | (rw [dJ, hoN]) | (rw [eJ, hoN]), ?_⟩)
        · rw [mJ_in (show s + 1 ≤ N by omega), se_succ, sh_succ, show (0 : Nat) + s = s from Nat.zero_add s] <;> rfl
  · have hd : 2 ≤ s := by have := of_decide_eq_false hd; omega
    refine ⟨(0 : Nat), ⟨rfl⟩, ?_, by rw [mJ_out (show N ≤ s by omega)]⟩
    repeat (first | exact trivial | refine ⟨by first | trivial | rfl | (rw [decide_eq_false (by omega)]) | (rw [decide_eq_true (by omega)]) | (rw [ho]) | (rw [dJ, hoN]) | (rw [eJ, hoN]), ?_⟩)
  · refine br_of (fun _ => ⟨⟨trivial⟩, rfl, rfl⟩) (fun h0 => ?_)
    have h0 : 0 < N := by have := ne_of_beq_false h0; omega
    have s1 := h.seIs (Nat.le_refl N)
    have s2 := h.shIs (Nat.le_refl N)
    have w1 : IntKind.wrap .i64 ((N : Int) - 1) = ((N - 1 : Nat) : Int) := by rw [W_in (by omega)]; omega
    have f0 : ltN false N = 0 := if_neg (by simp)
    simp only [Int.toNat_natCast, w1, f0]
    refine ⟨⟨s1⟩, ⟨s2⟩, ⟨⟨⟨rfl, rfl⟩, by omega, by decide, h0, by omega⟩, h.of0⟩, ⟨s1⟩, ⟨s2⟩, ⟨⟨rfl, rfl⟩, h.of0, h.lt0, h0⟩, ⟨by rw [W_in (by omega)]; exact bne_self_eq_false _⟩, ⟨rfl⟩, ⟨⟨s1⟩, ⟨by decide, by omega, by omega⟩, ⟨by rw [sh_len]; omega, sh_atom, by omega, by omega⟩, (0 : Nat), ⟨rfl, h0⟩, ?_, by rw [sh_tail h0] <;> rfl⟩, fun _ _ => ?_⟩
    · repeat (first | exact trivial | refine ⟨by first | trivial | rfl | (rw [decide_eq_false (by omega)]) | (rw [decide_eq_true (by omega)]) | (rw [ho]) | (rw [dJ, hoN]) | (rw [eJ, hoN]), ?_⟩)
    refine ⟨⟨⟨⟨rfl, rfl⟩, by omega, by decide, h0, by omega⟩, h.of1⟩, ⟨⟨rfl, rfl⟩, h.of1, h.lt1, h0⟩, br_of (fun h1 => ?_) (fun h1 => ?_)⟩
    · have h1 : N = 1 := by have := eq_of_beq h1; omega
      have f1 : ltN true N = 1 := if_pos ⟨rfl, h0⟩
      have f2 : ltC true N = [.int .i64 0, .string sDay] := if_pos ⟨rfl, h0⟩
      rw [altB_one h1, f1, f2]
      refine ⟨⟨by rw [W_in (by omega)]; exact bne_self_eq_false _⟩, ⟨rfl⟩, ⟨rfl⟩, ⟨by decide⟩, ⟨rfl⟩, ⟨trivial, by first | trivial | rfl⟩, ?_⟩
      refine ⟨⟨(0 : Nat), ⟨Nat.zero_le _, h0⟩, ?_, by first | trivial | rfl⟩, fun k hk => br_of (fun hd => ?_) (fun hd => ?_)⟩
      · repeat (first | exact trivial | refine ⟨by first | trivial | rfl | (rw [decide_eq_false (by omega)]) | (rw [decide_eq_true (by omega)]) | (rw [ho]) | (rw [dJ, hoN]) | (rw [eJ, hoN]), ?_⟩)
      · have hd := lt_of_dec hd
        rw [wp]
        refine ⟨⟨by decide, by decide, by omega, by omega⟩, ⟨pr_len _ _ _, by omega, by omega⟩, k + 1, ⟨hd, h0⟩, ⟨by omega⟩, ?_, by rw [pr_succ] <;> rfl⟩
        rw [up1 hd (by omega)]
        repeat (first | exact trivial | refine ⟨by first | trivial | rfl | (rw [decide_eq_false (by omega)]) | (rw [decide_eq_true (by omega)]) | (rw [ho]) | (rw [dJ, hoN]) | (rw [eJ, hoN]), ?_⟩)
      · obtain rfl : N = k := by have := ge_of_dec hd; have := hk.out.1; omega
        exact ⟨⟨pr_len _ _ _, pr_atom, by omega, by omega⟩, ⟨⟨⟨rfl, rfl⟩, rfl, rfl⟩, h.of0, hpo⟩, ⟨by decide, by omega, by omega⟩, ⟨by rw [pr_len]; omega, pr_atom, by omega, by omega⟩, ⟨⟨⟨rfl, rfl⟩, pr_tail h0, rfl⟩, h.of1, hpo⟩, ⟨h.bd0 hpo⟩, ⟨h.bd1 hpo h0⟩, ⟨trivial⟩, by first | trivial | rfl, by first | trivial | rfl⟩
    · have h1 : N ≠ 1 := by have := ne_of_beq_false h1; omega
      have hb : altB (dJ l x O) N = decide (dAt (dJ l x O) 0 < dAt (dJ l x O) 1) := altB_no h1
      refine ⟨⟨by decide, by omega⟩, ⟨(sh_at (i := 1) (by omega)).1⟩, ⟨by decide, by omega⟩, ⟨(sh_at (i := 0) (by omega)).1⟩, ⟨by rw [W_in (by omega)]; exact bne_self_eq_false _⟩, ?_⟩
      rw [hb]
      cases decide (dAt (dJ l x O) 0 < dAt (dJ l x O) 1) with
      | false =>
        rw [f0]
        refine ⟨⟨rfl⟩, ⟨rfl⟩, br_of (fun hd => by cases hd) (fun _ => ?_)⟩
        refine ⟨⟨(0 : Nat), ⟨Nat.zero_le _, h0⟩, ?_, by first | trivial | rfl⟩, fun k hk => br_of (fun hd => ?_) (fun hd => ?_)⟩
        · repeat (first | exact trivial | refine ⟨by first | trivial | rfl | (rw [decide_eq_false (by omega)]) | (rw [decide_eq_true (by omega)]) | (rw [ho]) | (rw [dJ, hoN]) | (rw [eJ, hoN]), ?_⟩)
        · have hd := lt_of_dec hd
          rw [wp]
          refine ⟨⟨by decide, by decide, by omega, by omega⟩, ⟨pr_len _ _ _, by omega, by omega⟩, k + 1, ⟨hd, h0⟩, ⟨by omega⟩, ?_, by rw [pr_succ] <;> rfl⟩
          rw [up1 hd (by omega)]
          repeat (first | exact trivial | refine ⟨by first | trivial | rfl | (rw [decide_eq_false (by omega)]) | (rw [decide_eq_true (by omega)]) | (rw [ho]) | (rw [dJ, hoN]) | (rw [eJ, hoN]), ?_⟩)
        · obtain rfl : N = k := by have := ge_of_dec hd; have := hk.out.1; omega
          exact ⟨⟨pr_len _ _ _, pr_atom, by omega, by omega⟩, ⟨⟨⟨rfl, rfl⟩, rfl, rfl⟩, h.of0, hpo⟩, ⟨by decide, by omega, by omega⟩, ⟨by rw [pr_len]; omega, pr_atom, by omega, by omega⟩, ⟨⟨⟨rfl, rfl⟩, pr_tail h0, rfl⟩, h.of1, hpo⟩, ⟨h.bd0 hpo⟩, ⟨h.bd1 hpo h0⟩, ⟨trivial⟩, by first | trivial | rfl, by first | trivial | rfl⟩
      | true =>
        have f1 : ltN true N = 1 := if_pos ⟨rfl, h0⟩
        have f2 : ltC true N = [.int .i64 0, .string sDay] := if_pos ⟨rfl, h0⟩
        rw [f1, f2]
        refine ⟨⟨rfl⟩, ⟨rfl⟩, br_of (fun _ => ⟨⟨by decide⟩, ⟨rfl⟩, ⟨trivial, by first | trivial | rfl⟩, ?_⟩) (fun hd => by cases hd)⟩
        refine ⟨⟨(0 : Nat), ⟨Nat.zero_le _, h0⟩, ?_, by first | trivial | rfl⟩, fun k hk => br_of (fun hd => ?_) (fun hd => ?_)⟩
        · repeat (first | exact trivial | refine ⟨by first | trivial | rfl | (rw [decide_eq_false (by omega)]) | (rw [decide_eq_true (by omega)]) | (rw [ho]) | (rw [dJ, hoN]) | (rw [eJ, hoN]), ?_⟩)
        · have hd := lt_of_dec hd
          rw [wp]
          refine ⟨⟨by decide, by decide, by omega, by omega⟩, ⟨pr_len _ _ _, by omega, by omega⟩, k + 1, ⟨hd, h0⟩, ⟨by omega⟩, ?_, by rw [pr_succ] <;> rfl⟩
          rw [up1 hd (by omega)]
          repeat (first | exact trivial | refine ⟨by first | trivial | rfl | (rw [decide_eq_false (by omega)]) | (rw [decide_eq_true (by omega)]) | (rw [ho]) | (rw [dJ, hoN]) | (rw [eJ, hoN]), ?_⟩)
        · obtain rfl : N = k := by have := ge_of_dec hd; have := hk.out.1; omega
          exact ⟨⟨pr_len _ _ _, pr_atom, by omega, by omega⟩, ⟨⟨⟨rfl, rfl⟩, rfl, rfl⟩, h.of0, hpo⟩, ⟨by decide, by omega, by omega⟩, ⟨by rw [pr_len]; omega, pr_atom, by omega, by omega⟩, ⟨⟨⟨rfl, rfl⟩, pr_tail h0, rfl⟩, h.of1, hpo⟩, ⟨h.bd0 hpo⟩, ⟨h.bd1 hpo h0⟩, ⟨trivial⟩, by first | trivial | rfl, by first | trivial | rfl⟩
end
end Qq
end
section
/- The law, walked: 3 sections. -/
open Go Go.Vm Go.Proofs Sp
namespace Qq
noncomputable section
set_option maxRecDepth 100000 in
theorem lw3_t (l : Ls) (x : Int) (pr : Int) (O : Nat → Nat) (oc : List Value) (N : Nat) (c : Nat) (K : Value → Heap → Prop) :
    (fnP Tryz.prog c0 (hsJ l (3 : Nat) x pr O oc N c (999 : Nat)) (3 : FuncId) [Value.slice (some { block := (0 : Nat), off := (0 : Nat) }) (3 : Nat) c, Value.int IntKind.u16 x, Value.int IntKind.u8 pr] (lsG l (3 : Nat)) K) =
    (let q0 : Prop := Value.pointer (some ⟨7, 0, none⟩) = Value.pointer (some ⟨7, 0, none⟩); let q1 : Prop := Value.slice (some ⟨0, 0, none⟩) 3 c = Value.slice (some ⟨0, 0, none⟩) 3 c; let q2 : Prop := Value.slice (some ⟨11, 0, none⟩) 3 0 = Value.slice (some ⟨11, 0, none⟩) 3 0; let q3 : Prop := Value.int .u8 pr = Value.int .u8 pr; let q4 : Prop := Value.map (some 10) = Value.map (some 10); let q5 : Prop := Value.int .u16 x = Value.int .u16 x; let q6 : Prop := Value.int .i64 3 = Value.int .i64 3; let q7 : Prop := Value.pointer (some ⟨10, 0, none⟩) = Value.pointer (some ⟨10, 0, none⟩); let q8 : Prop := Value.pointer (some ⟨11, 0, none⟩) = Value.pointer (some ⟨11, 0, none⟩); let q9 : Prop := Value.pointer (some ⟨14, 0, none⟩) = Value.pointer (some ⟨14, 0, none⟩); let q10 : Prop := Value.int .i64 (N : Int) = Value.int .i64 (N : Int); let z11 : AObj := AObj.row (seC (nmJ O) (dJ l x O) (4 : Int) N) 5 true true true; let z12 : AObj := AObj.row [Value.slice (some ⟨8, 0, none⟩) N 0, Value.slice (some ⟨9, 0, none⟩) N 0] 0 false true false; let z13 : AObj := AObj.row [Value.slice (some ⟨12, 0, none⟩) N 0, Value.slice (some ⟨13, 0, none⟩) (N - 1) 0] 0 false true false; let z14 : AObj := AObj.row [Value.int .i64 ((4 : Int) * (N : Int)), Value.int .i64 0] 0 false true true; let z15 : AObj := AObj.row [Value.int .i64 ((4 : Int) * (↑(N - 1) : Int)), Value.int .i64 0] 0 false true true; let z16 : AObj := AObj.row [Value.string (Ls.nm l 0), Value.slice (some ⟨1, 0, none⟩) (Ls.N l 0) 18446744073709551616, Value.slice (some ⟨2, 0, none⟩) (Ls.K l 0) 18446744073709551616] 0 false true false; let z17 : AObj := AObj.row [Value.string (Ls.nm l 1), Value.slice (some ⟨3, 0, none⟩) (Ls.N l 1) 18446744073709551616, Value.slice (some ⟨4, 0, none⟩) (Ls.K l 1) 18446744073709551616] 0 false true false; let z18 : AObj := AObj.row [Value.string (Ls.nm l 0), Value.slice (some ⟨8, 0, none⟩) (Ls.N l 0) 0, Value.slice (some ⟨9, 0, none⟩) (Ls.K l 0) 0] 3 true true false; (Is (jsRes true 3 c (lsG l 3 ++ noH)) ∧ Is (decide ((10000 : Int) < x) = false) ∧ (Is (secIs (Ls.N l 0) (Ls.K l 0) (ints (Ls.zs l 0)) (acs (Ls.ks l 0))) ∧ Is (secIs (Ls.N l 1) (Ls.K l 1) (ints (Ls.zs l 1)) (acs (Ls.ks l 1))) ∧ Is (secIs (Ls.N l 2) (Ls.K l 2) (ints (Ls.zs l 2)) (acs (Ls.ks l 2))) ∧ ∃ (s : Nat), Is (s = 0) ∧ (q1 ∧ q5 ∧ q3 ∧ Value.slice (some ⟨7, 0, none⟩) 3 0 = Value.slice (some ⟨7, 0, none⟩) 3 0 ∧ True) ∧ lsG l 3 ++ some (AObj.row [Value.string (Ls.nm l 0), Value.slice (some ⟨8, 0, none⟩) (Ls.N l 0) 0, Value.slice (some ⟨9, 0, none⟩) (Ls.K l 0) 0, Value.string (Ls.nm l 1), Value.slice (some ⟨10, 0, none⟩) (Ls.N l 1) 0, Value.slice (some ⟨11, 0, none⟩) (Ls.K l 1) 0, Value.string (Ls.nm l 2), Value.slice (some ⟨12, 0, none⟩) (Ls.N l 2) 0, Value.slice (some ⟨13, 0, none⟩) (Ls.K l 2) 0] 3 true true (List.all [Value.string (Ls.nm l 0), Value.slice (some { block := List.length (lsG l 3 ++ some z16 :: noH) + 0, off := 0 }) (Ls.N l 0) 0, Value.slice (some { block := List.length (lsG l 3 ++ some z16 :: noH) + 1, off := 0 }) (Ls.K l 0) 0] atom && List.all [Value.string (Ls.nm l 1), Value.slice (some { block := List.length (lsG l 3 ++ some z18 :: some (AObj.row (ints (Ls.zs l 0)) 2 true true true) :: some (AObj.row (acs (Ls.ks l 0)) 2 true true true) :: some z17 :: noH) + 0, off := 0 }) (Ls.N l 1) 0, Value.slice (some { block := List.length (lsG l 3 ++ some z18 :: some (AObj.row (ints (Ls.zs l 0)) 2 true true true) :: some (AObj.row (acs (Ls.ks l 0)) 2 true true true) :: some z17 :: noH) + 1, off := 0 }) (Ls.K l 1) 0] atom && List.all [Value.string (Ls.nm l 2), Value.slice (some { block := List.length (lsG l 3 ++ some (AObj.row [Value.string (Ls.nm l 0), Value.slice (some ⟨8, 0, none⟩) (Ls.N l 0) 0, Value.slice (some ⟨9, 0, none⟩) (Ls.K l 0) 0, Value.string (Ls.nm l 1), Value.slice (some ⟨10, 0, none⟩) (Ls.N l 1) 0, Value.slice (some ⟨11, 0, none⟩) (Ls.K l 1) 0] 3 true true (List.all [Value.string (Ls.nm l 0), Value.slice (some { block := List.length (lsG l 3 ++ some z16 :: noH) + 0, off := 0 }) (Ls.N l 0) 0, Value.slice (some { block := List.length (lsG l 3 ++ some z16 :: noH) + 1, off := 0 }) (Ls.K l 0) 0] atom && List.all [Value.string (Ls.nm l 1), Value.slice (some { block := List.length (lsG l 3 ++ some z18 :: some (AObj.row (ints (Ls.zs l 0)) 2 true true true) :: some (AObj.row (acs (Ls.ks l 0)) 2 true true true) :: some z17 :: noH) + 0, off := 0 }) (Ls.N l 1) 0, Value.slice (some { block := List.length (lsG l 3 ++ some z18 :: some (AObj.row (ints (Ls.zs l 0)) 2 true true true) :: some (AObj.row (acs (Ls.ks l 0)) 2 true true true) :: some z17 :: noH) + 1, off := 0 }) (Ls.K l 1) 0] atom)) :: some (AObj.row (ints (Ls.zs l 0)) 2 true true true) :: some (AObj.row (acs (Ls.ks l 0)) 2 true true true) :: some (AObj.row (ints (Ls.zs l 1)) 2 true true true) :: some (AObj.row (acs (Ls.ks l 1)) 2 true true true) :: some (AObj.row [Value.string (Ls.nm l 2), Value.slice (some ⟨5, 0, none⟩) (Ls.N l 2) 18446744073709551616, Value.slice (some ⟨6, 0, none⟩) (Ls.K l 2) 18446744073709551616] 0 false true false) :: noH) + 0, off := 0 }) (Ls.N l 2) 0, Value.slice (some { block := List.length (lsG l 3 ++ some (AObj.row [Value.string (Ls.nm l 0), Value.slice (some ⟨8, 0, none⟩) (Ls.N l 0) 0, Value.slice (some ⟨9, 0, none⟩) (Ls.K l 0) 0, Value.string (Ls.nm l 1), Value.slice (some ⟨10, 0, none⟩) (Ls.N l 1) 0, Value.slice (some ⟨11, 0, none⟩) (Ls.K l 1) 0] 3 true true (List.all [Value.string (Ls.nm l 0), Value.slice (some { block := List.length (lsG l 3 ++ some z16 :: noH) + 0, off := 0 }) (Ls.N l 0) 0, Value.slice (some { block := List.length (lsG l 3 ++ some z16 :: noH) + 1, off := 0 }) (Ls.K l 0) 0] atom && List.all [Value.string (Ls.nm l 1), Value.slice (some { block := List.length (lsG l 3 ++ some z18 :: some (AObj.row (ints (Ls.zs l 0)) 2 true true true) :: some (AObj.row (acs (Ls.ks l 0)) 2 true true true) :: some z17 :: noH) + 0, off := 0 }) (Ls.N l 1) 0, Value.slice (some { block := List.length (lsG l 3 ++ some z18 :: some (AObj.row (ints (Ls.zs l 0)) 2 true true true) :: some (AObj.row (acs (Ls.ks l 0)) 2 true true true) :: some z17 :: noH) + 1, off := 0 }) (Ls.K l 1) 0] atom)) :: some (AObj.row (ints (Ls.zs l 0)) 2 true true true) :: some (AObj.row (acs (Ls.ks l 0)) 2 true true true) :: some (AObj.row (ints (Ls.zs l 1)) 2 true true true) :: some (AObj.row (acs (Ls.ks l 1)) 2 true true true) :: some (AObj.row [Value.string (Ls.nm l 2), Value.slice (some ⟨5, 0, none⟩) (Ls.N l 2) 18446744073709551616, Value.slice (some ⟨6, 0, none⟩) (Ls.K l 2) 18446744073709551616] 0 false true false) :: noH) + 1, off := 0 }) (Ls.K l 2) 0] atom)) :: some (AObj.row (ints (Ls.zs l 0)) 2 true true true) :: some (AObj.row (acs (Ls.ks l 0)) 2 true true true) :: some (AObj.row (ints (Ls.zs l 1)) 2 true true true) :: some (AObj.row (acs (Ls.ks l 1)) 2 true true true) :: some (AObj.row (ints (Ls.zs l 2)) 2 true true true) :: some (AObj.row (acs (Ls.ks l 2)) 2 true true true) :: noH = lsG l 3 ++ some (AObj.row [Value.string (Ls.nm l 0), Value.slice (some ⟨8, 0, none⟩) (Ls.N l 0) 0, Value.slice (some ⟨9, 0, none⟩) (Ls.K l 0) 0, Value.string (Ls.nm l 1), Value.slice (some ⟨10, 0, none⟩) (Ls.N l 1) 0, Value.slice (some ⟨11, 0, none⟩) (Ls.K l 1) 0, Value.string (Ls.nm l 2), Value.slice (some ⟨12, 0, none⟩) (Ls.N l 2) 0, Value.slice (some ⟨13, 0, none⟩) (Ls.K l 2) 0] 3 true true false) :: some (AObj.row (ints (Ls.zs l 0)) 2 true true true) :: some (AObj.row (acs (Ls.ks l 0)) 2 true true true) :: some (AObj.row (ints (Ls.zs l 1)) 2 true true true) :: some (AObj.row (acs (Ls.ks l 1)) 2 true true true) :: some (AObj.row (ints (Ls.zs l 2)) 2 true true true) :: some (AObj.row (acs (Ls.ks l 2)) 2 true true true) :: noH) ∧ ∀ (s : Nat), Is (s = 0) → Is (rkIs l 3 x O oc 3 0 (IntKind.wrap .i64 x) (some (AObj.row [Value.string (Ls.nm l 0), Value.slice (some ⟨1, 0, none⟩) (Ls.N l 0) 0, Value.slice (some ⟨2, 0, none⟩) (Ls.K l 0) 0, Value.string (Ls.nm l 1), Value.slice (some ⟨3, 0, none⟩) (Ls.N l 1) 0, Value.slice (some ⟨4, 0, none⟩) (Ls.K l 1) 0, Value.string (Ls.nm l 2), Value.slice (some ⟨5, 0, none⟩) (Ls.N l 2) 0, Value.slice (some ⟨6, 0, none⟩) (Ls.K l 2) 0] 3 true true false) :: some (AObj.row (ints (Ls.zs l 0)) 2 true true true) :: some (AObj.row (acs (Ls.ks l 0)) 2 true true true) :: some (AObj.row (ints (Ls.zs l 1)) 2 true true true) :: some (AObj.row (acs (Ls.ks l 1)) 2 true true true) :: some (AObj.row (ints (Ls.zs l 2)) 2 true true true) :: some (AObj.row (acs (Ls.ks l 2)) 2 true true true) :: noH)) ∧ Is (false = false) ∧ Is True ∧ ((∃ (s : Nat), Is (s ≤ 3) ∧ (q1 ∧ q5 ∧ q3 ∧ q0 ∧ q4 ∧ Value.bool false = Value.bool (decide (N < s)) ∧ q2 ∧ q6 ∧ Value.int .i64 0 = Value.int .i64 (s : Int) ∧ True) ∧ lsG l 3 ++ some (AObj.row [Value.slice (some ⟨8, 0, none⟩) 0 0, Value.slice (some ⟨9, 0, none⟩) 0 0] 0 false true false) :: some (AObj.row [] 5 true true true) :: some (AObj.row [] 4 true true true) :: some (AObj.imap []) :: some (AObj.row oc 1 true true true) :: noH = lsG l 3 ++ some (AObj.row [Value.slice (some ⟨8, 0, none⟩) (mJ N s) 0, Value.slice (some ⟨9, 0, none⟩) (mJ N s) 0] 0 false true false) :: some (AObj.row (seC (nmJ O) (dJ l x O) (4 : Int) (mJ N s)) 5 true true true) :: some (AObj.row (shC (dJ l x O) 0 (mJ N s)) 4 true true true) :: some (AObj.imap (knO O s)) :: some (AObj.row oc 1 true true true) :: noH) ∧ ∀ (s : Nat), Is (s ≤ 3) → br (decide ((s : Int) < (3 : Int))) (Is ((0 : Int) ≤ (s : Int) ∧ (s : Int) < (3 : Int)) ∧ Is (oc[0 + Int.toNat (s : Int) * 1]? = some (Value.int .i64 (↑(O (0 + Int.toNat (s : Int) * 1)) : Int))) ∧ br ((↑(O (0 + Int.toNat (s : Int) * 1)) : Int) == (0 : Int)) (Is (allI (knO O s) ∧ hasI (0 : Int) (knO O s) = false) ∧ Is (allI (knO O s) ∧ hasI (0 : Int) (knO O s) = false) ∧ ∃ (p : Nat), (Is (secIs (Ls.N l 0) (Ls.K l 0) (ints (Ls.zs l 0)) (acs (Ls.ks l 0))) ∧ Is (rcIs l x 0 (Ls.N l 0) (Ls.K l 0) (Ls.nm l 0) (↑(Ls.K l 0) : Int) (IntKind.wrap .i64 x) (ints (Ls.zs l 0)) (acs (Ls.ks l 0))) ∧ ∃ (s_1 : Nat), Is (p < 3) ∧ (q1 ∧ q5 ∧ q3 ∧ q0 ∧ q4 ∧ Value.bool (decide (N < s)) = Value.bool (decide (N < p)) ∧ Value.int .i64 0 = Value.int .i64 (↑(O p) : Int) ∧ Value.int .i64 (dyI l x 0) = Value.int .i64 (dJ l x O p) ∧ Value.int .i64 (eI l x 0) = Value.int .i64 (eJ l x O p) ∧ q2 ∧ q6 ∧ Value.int .i64 (s : Int) = Value.int .i64 (p : Int) ∧ True) ∧ lsG l 3 ++ some (AObj.row [Value.slice (some ⟨8, 0, none⟩) (mJ N s) 0, Value.slice (some ⟨9, 0, none⟩) (mJ N s) 0] 0 false true false) :: some (AObj.row (seC (nmJ O) (dJ l x O) (4 : Int) (mJ N s)) 5 true true true) :: some (AObj.row (shC (dJ l x O) 0 (mJ N s)) 4 true true true) :: some (AObj.imap (knO O s ++ [((0 : Int), Value.bool true)])) :: some (AObj.row oc 1 true true true) :: noH = lsG l 3 ++ some (AObj.row [Value.slice (some ⟨8, 0, none⟩) (mJ N p) 0, Value.slice (some ⟨9, 0, none⟩) (mJ N p) 0] 0 false true false) :: some (AObj.row (seC (nmJ O) (dJ l x O) (4 : Int) (mJ N p)) 5 true true true) :: some (AObj.row (shC (dJ l x O) 0 (mJ N p)) 4 true true true) :: some (AObj.imap (knO O (p + 1))) :: some (AObj.row oc 1 true true true) :: noH) ∧ ∀ (s_1 : Nat), Is (p < 3) → br (eJ l x O p == (7 : Int)) (∃ (s' : Nat), Is (s' ≤ 3) ∧ Is (3 - s' < 3 - s) ∧ (q1 ∧ q5 ∧ q3 ∧ q0 ∧ q4 ∧ Value.bool true = Value.bool (decide (N < s')) ∧ q2 ∧ q6 ∧ Value.int .i64 (IntKind.wrap .i64 ((p : Int) + (1 : Int))) = Value.int .i64 (↑s' : Int) ∧ True) ∧ lsG l 3 ++ some (AObj.row [Value.slice (some ⟨8, 0, none⟩) (mJ N p) 0, Value.slice (some ⟨9, 0, none⟩) (mJ N p) 0] 0 false true false) :: some (AObj.row (seC (nmJ O) (dJ l x O) (4 : Int) (mJ N p)) 5 true true true) :: some (AObj.row (shC (dJ l x O) 0 (mJ N p)) 4 true true true) :: some (AObj.imap (knO O (p + 1))) :: some (AObj.row oc 1 true true true) :: noH = lsG l 3 ++ some (AObj.row [Value.slice (some ⟨8, 0, none⟩) (mJ N s') 0, Value.slice (some ⟨9, 0, none⟩) (mJ N s') 0] 0 false true false) :: some (AObj.row (seC (nmJ O) (dJ l x O) (4 : Int) (mJ N s')) 5 true true true) :: some (AObj.row (shC (dJ l x O) 0 (mJ N s')) 4 true true true) :: some (AObj.imap (knO O s')) :: some (AObj.row oc 1 true true true) :: noH) (br (eJ l x O p == (16 : Int)) (∃ (s' : Nat), Is (s' ≤ 3) ∧ Is (3 - s' < 3 - s) ∧ (q1 ∧ q5 ∧ q3 ∧ q0 ∧ q4 ∧ Value.bool true = Value.bool (decide (N < s')) ∧ q2 ∧ q6 ∧ Value.int .i64 (IntKind.wrap .i64 ((p : Int) + (1 : Int))) = Value.int .i64 (↑s' : Int) ∧ True) ∧ lsG l 3 ++ some (AObj.row [Value.slice (some ⟨8, 0, none⟩) (mJ N p) 0, Value.slice (some ⟨9, 0, none⟩) (mJ N p) 0] 0 false true false) :: some (AObj.row (seC (nmJ O) (dJ l x O) (4 : Int) (mJ N p)) 5 true true true) :: some (AObj.row (shC (dJ l x O) 0 (mJ N p)) 4 true true true) :: some (AObj.imap (knO O (p + 1))) :: some (AObj.row oc 1 true true true) :: noH = lsG l 3 ++ some (AObj.row [Value.slice (some ⟨8, 0, none⟩) (mJ N s') 0, Value.slice (some ⟨9, 0, none⟩) (mJ N s') 0] 0 false true false) :: some (AObj.row (seC (nmJ O) (dJ l x O) (4 : Int) (mJ N s')) 5 true true true) :: some (AObj.row (shC (dJ l x O) 0 (mJ N s')) 4 true true true) :: some (AObj.imap (knO O s')) :: some (AObj.row oc 1 true true true) :: noH) (∃ (p_1 : Nat), (Is ((eJ l x O p != (0 : Int)) = false) ∧ br (decide (N < p)) (K (Value.bool false) (lsG l 3 ++ noH)) (∃ (s : Nat), Is (p_1 < 3 ∧ p_1 < N) ∧ (q1 ∧ q5 ∧ q3 ∧ q0 ∧ q4 ∧ Value.bool (decide (N < p)) = Value.bool false ∧ Value.int .i64 (↑(O p) : Int) = Value.int .i64 (↑(O p_1) : Int) ∧ Value.int .i64 (dJ l x O p) = Value.int .i64 (dJ l x O p_1) ∧ q2 ∧ q6 ∧ Value.int .i64 (p : Int) = Value.int .i64 (p_1 : Int) ∧ True) ∧ lsG l 3 ++ some (AObj.row [Value.slice (some ⟨8, 0, none⟩) (mJ N p) 0, Value.slice (some ⟨9, 0, none⟩) (mJ N p) 0] 0 false true false) :: some (AObj.row (seC (nmJ O) (dJ l x O) (4 : Int) (mJ N p)) 5 true true true) :: some (AObj.row (shC (dJ l x O) 0 (mJ N p)) 4 true true true) :: some (AObj.imap (knO O (p + 1))) :: some (AObj.row oc 1 true true true) :: noH = lsG l 3 ++ some (AObj.row [Value.slice (some ⟨8, 0, none⟩) p_1 0, Value.slice (some ⟨9, 0, none⟩) p_1 0] 0 false true false) :: some (AObj.row (seC (nmJ O) (dJ l x O) (4 : Int) p_1) 5 true true true) :: some (AObj.row (shC (dJ l x O) 0 p_1) 4 true true true) :: some (AObj.imap (knO O (p_1 + 1))) :: some (AObj.row oc 1 true true true) :: noH)) ∧ ∀ (s_2 : Nat), Is (p_1 < 3 ∧ p_1 < N) → br (decide ((0 : Int) < (p_1 : Int))) (Is ((0 : Int) ≤ IntKind.wrap .i64 ((p_1 : Int) - (1 : Int)) ∧ IntKind.wrap .i64 ((p_1 : Int) - (1 : Int)) < (p_1 : Int)) ∧ Is ((shC (dJ l x O) 0 p_1)[0 + Int.toNat (IntKind.wrap .i64 ((p_1 : Int) - (1 : Int))) * 4 + 0]? = some (Value.int .i64 (dAt (dJ l x O) (0 + (0 + Int.toNat (IntKind.wrap .i64 ((p_1 : Int) - (1 : Int))) * 4 + 0) / 4)))) ∧ Is (decide (dJ l x O p_1 < dAt (dJ l x O) (0 + (0 + Int.toNat (IntKind.wrap .i64 ((p_1 : Int) - (1 : Int))) * 4 + 0) / 4)) = false) ∧ Is ((0 : Int) ≤ (↑(O p_1) : Int) ∧ (↑(O p_1) : Int) ≤ (2 : Int)) ∧ Is (1 + ByteArray.size (txS (Int.toNat (↑(O p_1) : Int))) ≤ 9223372036854775807) ∧ Is (List.length (seC (nmJ O) (dJ l x O) (4 : Int) p_1) = p_1 * 5 ∧ (p_1 + 1) * 48 ≤ 140737488355328 ∧ p_1 + 1 ≤ 9223372036854775807) ∧ Is (List.length (shC (dJ l x O) 0 p_1) = p_1 * 4 ∧ (p_1 + 1) * 32 ≤ 140737488355328 ∧ p_1 + 1 ≤ 9223372036854775807) ∧ ∃ (s' : Nat), Is (s' ≤ 3) ∧ Is (3 - s' < 3 - s) ∧ (q1 ∧ q5 ∧ q3 ∧ q0 ∧ q4 ∧ Value.bool false = Value.bool (decide (N < s')) ∧ q2 ∧ q6 ∧ Value.int .i64 (IntKind.wrap .i64 ((p_1 : Int) + (1 : Int))) = Value.int .i64 (↑s' : Int) ∧ True) ∧ lsG l 3 ++ some (AObj.row [Value.slice (some ⟨8, 0, none⟩) (p_1 + 1) 0, Value.slice (some ⟨9, 0, none⟩) (p_1 + 1) 0] 0 false true false) :: some (AObj.row (seC (nmJ O) (dJ l x O) (4 : Int) p_1 ++ [Value.string (cat { data := #[(115 : UInt8)] } (txS (Int.toNat (↑(O p_1) : Int)))), Value.int .i64 (dJ l x O p_1), Value.int .i64 1, Value.int .i64 0, Value.int .i64 4]) 5 true true true) :: some (AObj.row (shC (dJ l x O) 0 p_1 ++ [Value.int .i64 (dJ l x O p_1), Value.int .i64 1, Value.int .i64 0, Value.int .i64 0]) 4 true true true) :: some (AObj.imap (knO O (p_1 + 1))) :: some (AObj.row oc 1 true true true) :: noH = lsG l 3 ++ some (AObj.row [Value.slice (some ⟨8, 0, none⟩) (mJ N s') 0, Value.slice (some ⟨9, 0, none⟩) (mJ N s') 0] 0 false true false) :: some (AObj.row (seC (nmJ O) (dJ l x O) (4 : Int) (mJ N s')) 5 true true true) :: some (AObj.row (shC (dJ l x O) 0 (mJ N s')) 4 true true true) :: some (AObj.imap (knO O s')) :: some (AObj.row oc 1 true true true) :: noH) (Is ((0 : Int) ≤ (↑(O p_1) : Int) ∧ (↑(O p_1) : Int) ≤ (2 : Int)) ∧ Is (1 + ByteArray.size (txS (Int.toNat (↑(O p_1) : Int))) ≤ 9223372036854775807) ∧ Is (List.length (seC (nmJ O) (dJ l x O) (4 : Int) p_1) = p_1 * 5 ∧ (p_1 + 1) * 48 ≤ 140737488355328 ∧ p_1 + 1 ≤ 9223372036854775807) ∧ Is (List.length (shC (dJ l x O) 0 p_1) = p_1 * 4 ∧ (p_1 + 1) * 32 ≤ 140737488355328 ∧ p_1 + 1 ≤ 9223372036854775807) ∧ ∃ (s' : Nat), Is (s' ≤ 3) ∧ Is (3 - s' < 3 - s) ∧ (q1 ∧ q5 ∧ q3 ∧ q0 ∧ q4 ∧ Value.bool false = Value.bool (decide (N < s')) ∧ q2 ∧ q6 ∧ Value.int .i64 (IntKind.wrap .i64 ((p_1 : Int) + (1 : Int))) = Value.int .i64 (↑s' : Int) ∧ True) ∧ lsG l 3 ++ some (AObj.row [Value.slice (some ⟨8, 0, none⟩) (p_1 + 1) 0, Value.slice (some ⟨9, 0, none⟩) (p_1 + 1) 0] 0 false true false) :: some (AObj.row (seC (nmJ O) (dJ l x O) (4 : Int) p_1 ++ [Value.string (cat { data := #[(115 : UInt8)] } (txS (Int.toNat (↑(O p_1) : Int)))), Value.int .i64 (dJ l x O p_1), Value.int .i64 1, Value.int .i64 0, Value.int .i64 4]) 5 true true true) :: some (AObj.row (shC (dJ l x O) 0 p_1 ++ [Value.int .i64 (dJ l x O p_1), Value.int .i64 1, Value.int .i64 0, Value.int .i64 0]) 4 true true true) :: some (AObj.imap (knO O (p_1 + 1))) :: some (AObj.row oc 1 true true true) :: noH = lsG l 3 ++ some (AObj.row [Value.slice (some ⟨8, 0, none⟩) (mJ N s') 0, Value.slice (some ⟨9, 0, none⟩) (mJ N s') 0] 0 false true false) :: some (AObj.row (seC (nmJ O) (dJ l x O) (4 : Int) (mJ N s')) 5 true true true) :: some (AObj.row (shC (dJ l x O) 0 (mJ N s')) 4 true true true) :: some (AObj.imap (knO O s')) :: some (AObj.row oc 1 true true true) :: noH)))) (br ((↑(O (0 + Int.toNat (s : Int) * 1)) : Int) == (1 : Int)) (Is (allI (knO O s) ∧ hasI (1 : Int) (knO O s) = false) ∧ Is (allI (knO O s) ∧ hasI (1 : Int) (knO O s) = false) ∧ ∃ (p : Nat), (Is (secIs (Ls.N l 1) (Ls.K l 1) (ints (Ls.zs l 1)) (acs (Ls.ks l 1))) ∧ Is (rcIs l x 1 (Ls.N l 1) (Ls.K l 1) (Ls.nm l 1) (↑(Ls.K l 1) : Int) (IntKind.wrap .i64 x) (ints (Ls.zs l 1)) (acs (Ls.ks l 1))) ∧ ∃ (s_1 : Nat), Is (p < 3) ∧ (q1 ∧ q5 ∧ q3 ∧ q0 ∧ q4 ∧ Value.bool (decide (N < s)) = Value.bool (decide (N < p)) ∧ Value.int .i64 1 = Value.int .i64 (↑(O p) : Int) ∧ Value.int .i64 (dyI l x 1) = Value.int .i64 (dJ l x O p) ∧ Value.int .i64 (eI l x 1) = Value.int .i64 (eJ l x O p) ∧ q2 ∧ q6 ∧ Value.int .i64 (s : Int) = Value.int .i64 (p : Int) ∧ True) ∧ lsG l 3 ++ some (AObj.row [Value.slice (some ⟨8, 0, none⟩) (mJ N s) 0, Value.slice (some ⟨9, 0, none⟩) (mJ N s) 0] 0 false true false) :: some (AObj.row (seC (nmJ O) (dJ l x O) (4 : Int) (mJ N s)) 5 true true true) :: some (AObj.row (shC (dJ l x O) 0 (mJ N s)) 4 true true true) :: some (AObj.imap (knO O s ++ [((1 : Int), Value.bool true)])) :: some (AObj.row oc 1 true true true) :: noH = lsG l 3 ++ some (AObj.row [Value.slice (some ⟨8, 0, none⟩) (mJ N p) 0, Value.slice (some ⟨9, 0, none⟩) (mJ N p) 0] 0 false true false) :: some (AObj.row (seC (nmJ O) (dJ l x O) (4 : Int) (mJ N p)) 5 true true true) :: some (AObj.row (shC (dJ l x O) 0 (mJ N p)) 4 true true true) :: some (AObj.imap (knO O (p + 1))) :: some (AObj.row oc 1 true true true) :: noH) ∧ ∀ (s_1 : Nat), Is (p < 3) → br (eJ l x O p == (7 : Int)) (∃ (s' : Nat), Is (s' ≤ 3) ∧ Is (3 - s' < 3 - s) ∧ (q1 ∧ q5 ∧ q3 ∧ q0 ∧ q4 ∧ Value.bool true = Value.bool (decide (N < s')) ∧ q2 ∧ q6 ∧ Value.int .i64 (IntKind.wrap .i64 ((p : Int) + (1 : Int))) = Value.int .i64 (↑s' : Int) ∧ True) ∧ lsG l 3 ++ some (AObj.row [Value.slice (some ⟨8, 0, none⟩) (mJ N p) 0, Value.slice (some ⟨9, 0, none⟩) (mJ N p) 0] 0 false true false) :: some (AObj.row (seC (nmJ O) (dJ l x O) (4 : Int) (mJ N p)) 5 true true true) :: some (AObj.row (shC (dJ l x O) 0 (mJ N p)) 4 true true true) :: some (AObj.imap (knO O (p + 1))) :: some (AObj.row oc 1 true true true) :: noH = lsG l 3 ++ some (AObj.row [Value.slice (some ⟨8, 0, none⟩) (mJ N s') 0, Value.slice (some ⟨9, 0, none⟩) (mJ N s') 0] 0 false true false) :: some (AObj.row (seC (nmJ O) (dJ l x O) (4 : Int) (mJ N s')) 5 true true true) :: some (AObj.row (shC (dJ l x O) 0 (mJ N s')) 4 true true true) :: some (AObj.imap (knO O s')) :: some (AObj.row oc 1 true true true) :: noH) (br (eJ l x O p == (16 : Int)) (∃ (s' : Nat), Is (s' ≤ 3) ∧ Is (3 - s' < 3 - s) ∧ (q1 ∧ q5 ∧ q3 ∧ q0 ∧ q4 ∧ Value.bool true = Value.bool (decide (N < s')) ∧ q2 ∧ q6 ∧ Value.int .i64 (IntKind.wrap .i64 ((p : Int) + (1 : Int))) = Value.int .i64 (↑s' : Int) ∧ True) ∧ lsG l 3 ++ some (AObj.row [Value.slice (some ⟨8, 0, none⟩) (mJ N p) 0, Value.slice (some ⟨9, 0, none⟩) (mJ N p) 0] 0 false true false) :: some (AObj.row (seC (nmJ O) (dJ l x O) (4 : Int) (mJ N p)) 5 true true true) :: some (AObj.row (shC (dJ l x O) 0 (mJ N p)) 4 true true true) :: some (AObj.imap (knO O (p + 1))) :: some (AObj.row oc 1 true true true) :: noH = lsG l 3 ++ some (AObj.row [Value.slice (some ⟨8, 0, none⟩) (mJ N s') 0, Value.slice (some ⟨9, 0, none⟩) (mJ N s') 0] 0 false true false) :: some (AObj.row (seC (nmJ O) (dJ l x O) (4 : Int) (mJ N s')) 5 true true true) :: some (AObj.row (shC (dJ l x O) 0 (mJ N s')) 4 true true true) :: some (AObj.imap (knO O s')) :: some (AObj.row oc 1 true true true) :: noH) (∃ (p_1 : Nat), (Is ((eJ l x O p != (0 : Int)) = false) ∧ br (decide (N < p)) (K (Value.bool false) (lsG l 3 ++ noH)) (∃ (s : Nat), Is (p_1 < 3 ∧ p_1 < N) ∧ (q1 ∧ q5 ∧ q3 ∧ q0 ∧ q4 ∧ Value.bool (decide (N < p)) = Value.bool false ∧ Value.int .i64 (↑(O p) : Int) = Value.int .i64 (↑(O p_1) : Int) ∧ Value.int .i64 (dJ l x O p) = Value.int .i64 (dJ l x O p_1) ∧ q2 ∧ q6 ∧ Value.int .i64 (p : Int) = Value.int .i64 (p_1 : Int) ∧ True) ∧ lsG l 3 ++ some (AObj.row [Value.slice (some ⟨8, 0, none⟩) (mJ N p) 0, Value.slice (some ⟨9, 0, none⟩) (mJ N p) 0] 0 false true false) :: some (AObj.row (seC (nmJ O) (dJ l x O) (4 : Int) (mJ N p)) 5 true true true) :: some (AObj.row (shC (dJ l x O) 0 (mJ N p)) 4 true true true) :: some (AObj.imap (knO O (p + 1))) :: some (AObj.row oc 1 true true true) :: noH = lsG l 3 ++ some (AObj.row [Value.slice (some ⟨8, 0, none⟩) p_1 0, Value.slice (some ⟨9, 0, none⟩) p_1 0] 0 false true false) :: some (AObj.row (seC (nmJ O) (dJ l x O) (4 : Int) p_1) 5 true true true) :: some (AObj.row (shC (dJ l x O) 0 p_1) 4 true true true) :: some (AObj.imap (knO O (p_1 + 1))) :: some (AObj.row oc 1 true true true) :: noH)) ∧ ∀ (s_2 : Nat), Is (p_1 < 3 ∧ p_1 < N) → br (decide ((0 : Int) < (p_1 : Int))) (Is ((0 : Int) ≤ IntKind.wrap .i64 ((p_1 : Int) - (1 : Int)) ∧ IntKind.wrap .i64 ((p_1 : Int) - (1 : Int)) < (p_1 : Int)) ∧ Is ((shC (dJ l x O) 0 p_1)[0 + Int.toNat (IntKind.wrap .i64 ((p_1 : Int) - (1 : Int))) * 4 + 0]? = some (Value.int .i64 (dAt (dJ l x O) (0 + (0 + Int.toNat (IntKind.wrap .i64 ((p_1 : Int) - (1 : Int))) * 4 + 0) / 4)))) ∧ Is (decide (dJ l x O p_1 < dAt (dJ l x O) (0 + (0 + Int.toNat (IntKind.wrap .i64 ((p_1 : Int) - (1 : Int))) * 4 + 0) / 4)) = false) ∧ Is ((0 : Int) ≤ (↑(O p_1) : Int) ∧ (↑(O p_1) : Int) ≤ (2 : Int)) ∧ Is (1 + ByteArray.size (txS (Int.toNat (↑(O p_1) : Int))) ≤ 9223372036854775807) ∧ Is (List.length (seC (nmJ O) (dJ l x O) (4 : Int) p_1) = p_1 * 5 ∧ (p_1 + 1) * 48 ≤ 140737488355328 ∧ p_1 + 1 ≤ 9223372036854775807) ∧ Is (List.length (shC (dJ l x O) 0 p_1) = p_1 * 4 ∧ (p_1 + 1) * 32 ≤ 140737488355328 ∧ p_1 + 1 ≤ 9223372036854775807) ∧ ∃ (s' : Nat), Is (s' ≤ 3) ∧ Is (3 - s' < 3 - s) ∧ (q1 ∧ q5 ∧ q3 ∧ q0 ∧ q4 ∧ Value.bool false = Value.bool (decide (N < s')) ∧ q2 ∧ q6 ∧ Value.int .i64 (IntKind.wrap .i64 ((p_1 : Int) + (1 : Int))) = Value.int .i64 (↑s' : Int) ∧ True) ∧ lsG l 3 ++ some (AObj.row [Value.slice (some ⟨8, 0, none⟩) (p_1 + 1) 0, Value.slice (some ⟨9, 0, none⟩) (p_1 + 1) 0] 0 false true false) :: some (AObj.row (seC (nmJ O) (dJ l x O) (4 : Int) p_1 ++ [Value.string (cat { data := #[(115 : UInt8)] } (txS (Int.toNat (↑(O p_1) : Int)))), Value.int .i64 (dJ l x O p_1), Value.int .i64 1, Value.int .i64 0, Value.int .i64 4]) 5 true true true) :: some (AObj.row (shC (dJ l x O) 0 p_1 ++ [Value.int .i64 (dJ l x O p_1), Value.int .i64 1, Value.int .i64 0, Value.int .i64 0]) 4 true true true) :: some (AObj.imap (knO O (p_1 + 1))) :: some (AObj.row oc 1 true true true) :: noH = lsG l 3 ++ some (AObj.row [Value.slice (some ⟨8, 0, none⟩) (mJ N s') 0, Value.slice (some ⟨9, 0, none⟩) (mJ N s') 0] 0 false true false) :: some (AObj.row (seC (nmJ O) (dJ l x O) (4 : Int) (mJ N s')) 5 true true true) :: some (AObj.row (shC (dJ l x O) 0 (mJ N s')) 4 true true true) :: some (AObj.imap (knO O s')) :: some (AObj.row oc 1 true true true) :: noH) (Is ((0 : Int) ≤ (↑(O p_1) : Int) ∧ (↑(O p_1) : Int) ≤ (2 : Int)) ∧ Is (1 + ByteArray.size (txS (Int.toNat (↑(O p_1) : Int))) ≤ 9223372036854775807) ∧ Is (List.length (seC (nmJ O) (dJ l x O) (4 : Int) p_1) = p_1 * 5 ∧ (p_1 + 1) * 48 ≤ 140737488355328 ∧ p_1 + 1 ≤ 9223372036854775807) ∧ Is (List.length (shC (dJ l x O) 0 p_1) = p_1 * 4 ∧ (p_1 + 1) * 32 ≤ 140737488355328 ∧ p_1 + 1 ≤ 9223372036854775807) ∧ ∃ (s' : Nat), Is (s' ≤ 3) ∧ Is (3 - s' < 3 - s) ∧ (q1 ∧ q5 ∧ q3 ∧ q0 ∧ q4 ∧ Value.bool false = Value.bool (decide (N < s')) ∧ q2 ∧ q6 ∧ Value.int .i64 (IntKind.wrap .i64 ((p_1 : Int) + (1 : Int))) = Value.int .i64 (↑s' : Int) ∧ True) ∧ lsG l 3 ++ some (AObj.row [Value.slice (some ⟨8, 0, none⟩) (p_1 + 1) 0, Value.slice (some ⟨9, 0, none⟩) (p_1 + 1) 0] 0 false true false) :: some (AObj.row (seC (nmJ O) (dJ l x O) (4 : Int) p_1 ++ [Value.string (cat { data := #[(115 : UInt8)] } (txS (Int.toNat (↑(O p_1) : Int)))), Value.int .i64 (dJ l x O p_1), Value.int .i64 1, Value.int .i64 0, Value.int .i64 4]) 5 true true true) :: some (AObj.row (shC (dJ l x O) 0 p_1 ++ [Value.int .i64 (dJ l x O p_1), Value.int .i64 1, Value.int .i64 0, Value.int .i64 0]) 4 true true true) :: some (AObj.imap (knO O (p_1 + 1))) :: some (AObj.row oc 1 true true true) :: noH = lsG l 3 ++ some (AObj.row [Value.slice (some ⟨8, 0, none⟩) (mJ N s') 0, Value.slice (some ⟨9, 0, none⟩) (mJ N s') 0] 0 false true false) :: some (AObj.row (seC (nmJ O) (dJ l x O) (4 : Int) (mJ N s')) 5 true true true) :: some (AObj.row (shC (dJ l x O) 0 (mJ N s')) 4 true true true) :: some (AObj.imap (knO O s')) :: some (AObj.row oc 1 true true true) :: noH)))) (Is ((↑(O (0 + Int.toNat (s : Int) * 1)) : Int) = (2 : Int)) ∧ Is (allI (knO O s) ∧ hasI (2 : Int) (knO O s) = false) ∧ Is (allI (knO O s) ∧ hasI (2 : Int) (knO O s) = false) ∧ ∃ (p : Nat), (Is (secIs (Ls.N l 2) (Ls.K l 2) (ints (Ls.zs l 2)) (acs (Ls.ks l 2))) ∧ Is (rcIs l x 2 (Ls.N l 2) (Ls.K l 2) (Ls.nm l 2) (↑(Ls.K l 2) : Int) (IntKind.wrap .i64 x) (ints (Ls.zs l 2)) (acs (Ls.ks l 2))) ∧ ∃ (s_1 : Nat), Is (p < 3) ∧ (q1 ∧ q5 ∧ q3 ∧ q0 ∧ q4 ∧ Value.bool (decide (N < s)) = Value.bool (decide (N < p)) ∧ Value.int .i64 2 = Value.int .i64 (↑(O p) : Int) ∧ Value.int .i64 (dyI l x 2) = Value.int .i64 (dJ l x O p) ∧ Value.int .i64 (eI l x 2) = Value.int .i64 (eJ l x O p) ∧ q2 ∧ q6 ∧ Value.int .i64 (s : Int) = Value.int .i64 (p : Int) ∧ True) ∧ lsG l 3 ++ some (AObj.row [Value.slice (some ⟨8, 0, none⟩) (mJ N s) 0, Value.slice (some ⟨9, 0, none⟩) (mJ N s) 0] 0 false true false) :: some (AObj.row (seC (nmJ O) (dJ l x O) (4 : Int) (mJ N s)) 5 true true true) :: some (AObj.row (shC (dJ l x O) 0 (mJ N s)) 4 true true true) :: some (AObj.imap (knO O s ++ [((2 : Int), Value.bool true)])) :: some (AObj.row oc 1 true true true) :: noH = lsG l 3 ++ some (AObj.row [Value.slice (some ⟨8, 0, none⟩) (mJ N p) 0, Value.slice (some ⟨9, 0, none⟩) (mJ N p) 0] 0 false true false) :: some (AObj.row (seC (nmJ O) (dJ l x O) (4 : Int) (mJ N p)) 5 true true true) :: some (AObj.row (shC (dJ l x O) 0 (mJ N p)) 4 true true true) :: some (AObj.imap (knO O (p + 1))) :: some (AObj.row oc 1 true true true) :: noH) ∧ ∀ (s_1 : Nat), Is (p < 3) → br (eJ l x O p == (7 : Int)) (∃ (s' : Nat), Is (s' ≤ 3) ∧ Is (3 - s' < 3 - s) ∧ (q1 ∧ q5 ∧ q3 ∧ q0 ∧ q4 ∧ Value.bool true = Value.bool (decide (N < s')) ∧ q2 ∧ q6 ∧ Value.int .i64 (IntKind.wrap .i64 ((p : Int) + (1 : Int))) = Value.int .i64 (↑s' : Int) ∧ True) ∧ lsG l 3 ++ some (AObj.row [Value.slice (some ⟨8, 0, none⟩) (mJ N p) 0, Value.slice (some ⟨9, 0, none⟩) (mJ N p) 0] 0 false true false) :: some (AObj.row (seC (nmJ O) (dJ l x O) (4 : Int) (mJ N p)) 5 true true true) :: some (AObj.row (shC (dJ l x O) 0 (mJ N p)) 4 true true true) :: some (AObj.imap (knO O (p + 1))) :: some (AObj.row oc 1 true true true) :: noH = lsG l 3 ++ some (AObj.row [Value.slice (some ⟨8, 0, none⟩) (mJ N s') 0, Value.slice (some ⟨9, 0, none⟩) (mJ N s') 0] 0 false true false) :: some (AObj.row (seC (nmJ O) (dJ l x O) (4 : Int) (mJ N s')) 5 true true true) :: some (AObj.row (shC (dJ l x O) 0 (mJ N s')) 4 true true true) :: some (AObj.imap (knO O s')) :: some (AObj.row oc 1 true true true) :: noH) (br (eJ l x O p == (16 : Int)) (∃ (s' : Nat), Is (s' ≤ 3) ∧ Is (3 - s' < 3 - s) ∧ (q1 ∧ q5 ∧ q3 ∧ q0 ∧ q4 ∧ Value.bool true = Value.bool (decide (N < s')) ∧ q2 ∧ q6 ∧ Value.int .i64 (IntKind.wrap .i64 ((p : Int) + (1 : Int))) = Value.int .i64 (↑s' : Int) ∧ True) ∧ lsG l 3 ++ some (AObj.row [Value.slice (some ⟨8, 0, none⟩) (mJ N p) 0, Value.slice (some ⟨9, 0, none⟩) (mJ N p) 0] 0 false true false) :: some (AObj.row (seC (nmJ O) (dJ l x O) (4 : Int) (mJ N p)) 5 true true true) :: some (AObj.row (shC (dJ l x O) 0 (mJ N p)) 4 true true true) :: some (AObj.imap (knO O (p + 1))) :: some (AObj.row oc 1 true true true) :: noH = lsG l 3 ++ some (AObj.row [Value.slice (some ⟨8, 0, none⟩) (mJ N s') 0, Value.slice (some ⟨9, 0, none⟩) (mJ N s') 0] 0 false true false) :: some (AObj.row (seC (nmJ O) (dJ l x O) (4 : Int) (mJ N s')) 5 true true true) :: some (AObj.row (shC (dJ l x O) 0 (mJ N s')) 4 true true true) :: some (AObj.imap (knO O s')) :: some (AObj.row oc 1 true true true) :: noH) (∃ (p_1 : Nat), (Is ((eJ l x O p != (0 : Int)) = false) ∧ br (decide (N < p)) (K (Value.bool false) (lsG l 3 ++ noH)) (∃ (s : Nat), Is (p_1 < 3 ∧ p_1 < N) ∧ (q1 ∧ q5 ∧ q3 ∧ q0 ∧ q4 ∧ Value.bool (decide (N < p)) = Value.bool false ∧ Value.int .i64 (↑(O p) : Int) = Value.int .i64 (↑(O p_1) : Int) ∧ Value.int .i64 (dJ l x O p) = Value.int .i64 (dJ l x O p_1) ∧ q2 ∧ q6 ∧ Value.int .i64 (p : Int) = Value.int .i64 (p_1 : Int) ∧ True) ∧ lsG l 3 ++ some (AObj.row [Value.slice (some ⟨8, 0, none⟩) (mJ N p) 0, Value.slice (some ⟨9, 0, none⟩) (mJ N p) 0] 0 false true false) :: some (AObj.row (seC (nmJ O) (dJ l x O) (4 : Int) (mJ N p)) 5 true true true) :: some (AObj.row (shC (dJ l x O) 0 (mJ N p)) 4 true true true) :: some (AObj.imap (knO O (p + 1))) :: some (AObj.row oc 1 true true true) :: noH = lsG l 3 ++ some (AObj.row [Value.slice (some ⟨8, 0, none⟩) p_1 0, Value.slice (some ⟨9, 0, none⟩) p_1 0] 0 false true false) :: some (AObj.row (seC (nmJ O) (dJ l x O) (4 : Int) p_1) 5 true true true) :: some (AObj.row (shC (dJ l x O) 0 p_1) 4 true true true) :: some (AObj.imap (knO O (p_1 + 1))) :: some (AObj.row oc 1 true true true) :: noH)) ∧ ∀ (s_2 : Nat), Is (p_1 < 3 ∧ p_1 < N) → br (decide ((0 : Int) < (p_1 : Int))) (Is ((0 : Int) ≤ IntKind.wrap .i64 ((p_1 : Int) - (1 : Int)) ∧ IntKind.wrap .i64 ((p_1 : Int) - (1 : Int)) < (p_1 : Int)) ∧ Is ((shC (dJ l x O) 0 p_1)[0 + Int.toNat (IntKind.wrap .i64 ((p_1 : Int) - (1 : Int))) * 4 + 0]? = some (Value.int .i64 (dAt (dJ l x O) (0 + (0 + Int.toNat (IntKind.wrap .i64 ((p_1 : Int) - (1 : Int))) * 4 + 0) / 4)))) ∧ Is (decide (dJ l x O p_1 < dAt (dJ l x O) (0 + (0 + Int.toNat (IntKind.wrap .i64 ((p_1 : Int) - (1 : Int))) * 4 + 0) / 4)) = false) ∧ Is ((0 : Int) ≤ (↑(O p_1) : Int) ∧ (↑(O p_1) : Int) ≤ (2 : Int)) ∧ Is (1 + ByteArray.size (txS (Int.toNat (↑(O p_1) : Int))) ≤ 9223372036854775807) ∧ Is (List.length (seC (nmJ O) (dJ l x O) (4 : Int) p_1) = p_1 * 5 ∧ (p_1 + 1) * 48 ≤ 140737488355328 ∧ p_1 + 1 ≤ 9223372036854775807) ∧ Is (List.length (shC (dJ l x O) 0 p_1) = p_1 * 4 ∧ (p_1 + 1) * 32 ≤ 140737488355328 ∧ p_1 + 1 ≤ 9223372036854775807) ∧ ∃ (s' : Nat), Is (s' ≤ 3) ∧ Is (3 - s' < 3 - s) ∧ (q1 ∧ q5 ∧ q3 ∧ q0 ∧ q4 ∧ Value.bool false = Value.bool (decide (N < s')) ∧ q2 ∧ q6 ∧ Value.int .i64 (IntKind.wrap .i64 ((p_1 : Int) + (1 : Int))) = Value.int .i64 (↑s' : Int) ∧ True) ∧ lsG l 3 ++ some (AObj.row [Value.slice (some ⟨8, 0, none⟩) (p_1 + 1) 0, Value.slice (some ⟨9, 0, none⟩) (p_1 + 1) 0] 0 false true false) :: some (AObj.row (seC (nmJ O) (dJ l x O) (4 : Int) p_1 ++ [Value.string (cat { data := #[(115 : UInt8)] } (txS (Int.toNat (↑(O p_1) : Int)))), Value.int .i64 (dJ l x O p_1), Value.int .i64 1, Value.int .i64 0, Value.int .i64 4]) 5 true true true) :: some (AObj.row (shC (dJ l x O) 0 p_1 ++ [Value.int .i64 (dJ l x O p_1), Value.int .i64 1, Value.int .i64 0, Value.int .i64 0]) 4 true true true) :: some (AObj.imap (knO O (p_1 + 1))) :: some (AObj.row oc 1 true true true) :: noH = lsG l 3 ++ some (AObj.row [Value.slice (some ⟨8, 0, none⟩) (mJ N s') 0, Value.slice (some ⟨9, 0, none⟩) (mJ N s') 0] 0 false true false) :: some (AObj.row (seC (nmJ O) (dJ l x O) (4 : Int) (mJ N s')) 5 true true true) :: some (AObj.row (shC (dJ l x O) 0 (mJ N s')) 4 true true true) :: some (AObj.imap (knO O s')) :: some (AObj.row oc 1 true true true) :: noH) (Is ((0 : Int) ≤ (↑(O p_1) : Int) ∧ (↑(O p_1) : Int) ≤ (2 : Int)) ∧ Is (1 + ByteArray.size (txS (Int.toNat (↑(O p_1) : Int))) ≤ 9223372036854775807) ∧ Is (List.length (seC (nmJ O) (dJ l x O) (4 : Int) p_1) = p_1 * 5 ∧ (p_1 + 1) * 48 ≤ 140737488355328 ∧ p_1 + 1 ≤ 9223372036854775807) ∧ Is (List.length (shC (dJ l x O) 0 p_1) = p_1 * 4 ∧ (p_1 + 1) * 32 ≤ 140737488355328 ∧ p_1 + 1 ≤ 9223372036854775807) ∧ ∃ (s' : Nat), Is (s' ≤ 3) ∧ Is (3 - s' < 3 - s) ∧ (q1 ∧ q5 ∧ q3 ∧ q0 ∧ q4 ∧ Value.bool false = Value.bool (decide (N < s')) ∧ q2 ∧ q6 ∧ Value.int .i64 (IntKind.wrap .i64 ((p_1 : Int) + (1 : Int))) = Value.int .i64 (↑s' : Int) ∧ True) ∧ lsG l 3 ++ some (AObj.row [Value.slice (some ⟨8, 0, none⟩) (p_1 + 1) 0, Value.slice (some ⟨9, 0, none⟩) (p_1 + 1) 0] 0 false true false) :: some (AObj.row (seC (nmJ O) (dJ l x O) (4 : Int) p_1 ++ [Value.string (cat { data := #[(115 : UInt8)] } (txS (Int.toNat (↑(O p_1) : Int)))), Value.int .i64 (dJ l x O p_1), Value.int .i64 1, Value.int .i64 0, Value.int .i64 4]) 5 true true true) :: some (AObj.row (shC (dJ l x O) 0 p_1 ++ [Value.int .i64 (dJ l x O p_1), Value.int .i64 1, Value.int .i64 0, Value.int .i64 0]) 4 true true true) :: some (AObj.imap (knO O (p_1 + 1))) :: some (AObj.row oc 1 true true true) :: noH = lsG l 3 ++ some (AObj.row [Value.slice (some ⟨8, 0, none⟩) (mJ N s') 0, Value.slice (some ⟨9, 0, none⟩) (mJ N s') 0] 0 false true false) :: some (AObj.row (seC (nmJ O) (dJ l x O) (4 : Int) (mJ N s')) 5 true true true) :: some (AObj.row (shC (dJ l x O) 0 (mJ N s')) 4 true true true) :: some (AObj.imap (knO O s')) :: some (AObj.row oc 1 true true true) :: noH)))))) (∃ (s_1 : Nat), Is (s_1 = 0) ∧ (q3 ∧ q0 ∧ True) ∧ lsG l 3 ++ some (AObj.row [Value.slice (some ⟨8, 0, none⟩) (mJ N s) 0, Value.slice (some ⟨9, 0, none⟩) (mJ N s) 0] 0 false true false) :: some (AObj.row (seC (nmJ O) (dJ l x O) (4 : Int) (mJ N s)) 5 true true true) :: some (AObj.row (shC (dJ l x O) 0 (mJ N s)) 4 true true true) :: noH = lsG l 3 ++ some z12 :: some z11 :: some (AObj.row (shC (dJ l x O) 0 N) 4 true true true) :: noH)) ∧ ∀ (s : Nat), Is (s = 0) → br ((N : Int) == (0 : Int)) (Is True ∧ K (Value.bool true) (lsG l 3 ++ noH)) (Is (List.length (seC (nmJ O) (dJ l x O) (4 : Int) N) = N * 5 ∧ (∀ (v : Value), v ∈ seC (nmJ O) (dJ l x O) (4 : Int) N → atom v = true) ∧ N * 48 ≤ 140737488355328 ∧ N ≤ 9223372036854775807) ∧ Is (List.length (shC (dJ l x O) 0 N) = N * 4 ∧ (∀ (v : Value), v ∈ shC (dJ l x O) 0 N → atom v = true) ∧ N * 32 ≤ 140737488355328 ∧ N ≤ 9223372036854775807) ∧ Is (ofs (nmJ O) (dJ l x O) (4 : Int) N 0 N (seC (nmJ O) (dJ l x O) (4 : Int) N) (shC (dJ l x O) 0 N) ∧ OfOk (nmJ O) (dJ l x O) (4 : Int) N 0 N) ∧ Is (List.length (seC (nmJ O) (dJ l x O) (4 : Int) N) = N * 5 ∧ (∀ (v : Value), v ∈ seC (nmJ O) (dJ l x O) (4 : Int) N → atom v = true) ∧ N * 48 ≤ 140737488355328 ∧ N ≤ 9223372036854775807) ∧ Is (List.length (shC (dJ l x O) 0 N) = N * 4 ∧ (∀ (v : Value), v ∈ shC (dJ l x O) 0 N → atom v = true) ∧ N * 32 ≤ 140737488355328 ∧ N ≤ 9223372036854775807) ∧ Is (isOf (nmJ O) (dJ l x O) (4 : Int) N 0 N (seC (nmJ O) (dJ l x O) (4 : Int) N) (shC (dJ l x O) 0 N) ∧ OfOk (nmJ O) (dJ l x O) (4 : Int) N 0 N ∧ ltIs (dJ l x O) 0 N N false ∧ 0 < N) ∧ Is (((4 : Int) * (N : Int) != IntKind.wrap .i64 ((4 : Int) * (N : Int))) = false) ∧ Is (decide ((0 : Int) < (↑(ltN false N) : Int)) = false) ∧ (Is (List.length (seC (nmJ O) (dJ l x O) (4 : Int) N) = N * 5 ∧ (∀ (v : Value), v ∈ seC (nmJ O) (dJ l x O) (4 : Int) N → atom v = true) ∧ N * 48 ≤ 140737488355328 ∧ N ≤ 9223372036854775807) ∧ Is ((0 : Int) ≤ (1 : Int) ∧ (1 : Int) ≤ (N : Int) ∧ (N : Int) ≤ (N : Int)) ∧ Is (4 + (Int.toNat (N : Int) - 1) * 4 ≤ List.length (shC (dJ l x O) 0 N) ∧ (∀ (v : Value), v ∈ shC (dJ l x O) 0 N → atom v = true) ∧ (Int.toNat (N : Int) - 1) * 32 ≤ 140737488355328 ∧ Int.toNat (N : Int) - 1 ≤ 9223372036854775807) ∧ ∃ (s : Nat), Is (s = 0 ∧ 0 < N) ∧ (q3 ∧ q0 ∧ q7 ∧ q8 ∧ True) ∧ lsG l 3 ++ some z12 :: some z11 :: some (AObj.row (shC (dJ l x O) 0 N) 4 true true true) :: some z14 :: some (AObj.row [Value.slice (some ⟨12, 0, none⟩) N 0, Value.slice (some ⟨13, 0, none⟩) (Int.toNat (N : Int) - 1) 0] 0 false true false) :: some z11 :: some (AObj.row (List.take ((Int.toNat (N : Int) - 1) * 4) (List.drop 4 (shC (dJ l x O) 0 N))) 4 true true true) :: noH = lsG l 3 ++ some z12 :: some z11 :: some (AObj.row (shC (dJ l x O) 0 N) 4 true true true) :: some z14 :: some z13 :: some z11 :: some (AObj.row (shC (dJ l x O) 1 (N - 1)) 4 true true true) :: noH) ∧ ∀ (s : Nat), Is (s = 0 ∧ 0 < N) → Is (ofs (nmJ O) (dJ l x O) (4 : Int) N 1 (N - 1) (seC (nmJ O) (dJ l x O) (4 : Int) N) (shC (dJ l x O) 1 (N - 1)) ∧ OfOk (nmJ O) (dJ l x O) (4 : Int) N 1 (N - 1)) ∧ Is (isOf (nmJ O) (dJ l x O) (4 : Int) N 1 (N - 1) (seC (nmJ O) (dJ l x O) (4 : Int) N) (shC (dJ l x O) 1 (N - 1)) ∧ OfOk (nmJ O) (dJ l x O) (4 : Int) N 1 (N - 1) ∧ ltIs (dJ l x O) 1 N (N - 1) (altB (dJ l x O) N) ∧ 0 < N) ∧ br ((N : Int) == (1 : Int)) (Is (((4 : Int) * (↑(N - 1) : Int) != IntKind.wrap .i64 ((4 : Int) * IntKind.wrap .i64 ((N : Int) - (1 : Int)))) = false) ∧ Is ((!true == ((↑(ltN (altB (dJ l x O) N) N) : Int) == (1 : Int))) = false) ∧ Is (decide ((1 : Int) < (↑(ltN (altB (dJ l x O) N) N) : Int)) = false) ∧ Is ((0 : Int) ≤ (0 : Int) ∧ (0 : Int) < (↑(ltN (altB (dJ l x O) N) N) : Int)) ∧ Is ((if 2 ≤ List.length (ltC (altB (dJ l x O) N) N) then some (Value.agg (List.toArray (List.take 2 (List.drop 0 (ltC (altB (dJ l x O) N) N))))) else none) = some (Value.agg #[Value.int .i64 0, Value.string sDay])) ∧ Is (True ∧ false = false) ∧ (∃ (s : Nat), Is (s ≤ N ∧ 0 < N) ∧ (q3 ∧ q0 ∧ q7 ∧ q8 ∧ q9 ∧ Value.slice (some ⟨15, 0, none⟩) 0 0 = Value.slice (some ⟨15, 0, none⟩) s 0 ∧ q10 ∧ Value.int .i64 0 = Value.int .i64 (s : Int) ∧ True) ∧ lsG l 3 ++ some z12 :: some z11 :: some (AObj.row (shC (dJ l x O) 0 N) 4 true true true) :: some z14 :: some z13 :: some z11 :: some (AObj.row (shC (dJ l x O) 1 (N - 1)) 4 true true true) :: some z15 :: some (AObj.row [] 2 true true true) :: noH = lsG l 3 ++ some z12 :: some z11 :: some (AObj.row (shC (dJ l x O) 0 N) 4 true true true) :: some z14 :: some z13 :: some z11 :: some (AObj.row (shC (dJ l x O) 1 (N - 1)) 4 true true true) :: some z15 :: some (AObj.row (prC (lowN pr (10 : Int)) (lowD pr (10 : Int)) s) 2 true true true) :: noH) ∧ ∀ (s : Nat), Is (s ≤ N ∧ 0 < N) → br (decide ((s : Int) < (N : Int))) (Is ((0 : Int) < (10 : Int) ∧ (10 : Int) < (9223372036854775808 : Int) ∧ (-9223372036854775808 : Int) < IntKind.wrap .i64 pr ∧ IntKind.wrap .i64 pr < (9223372036854775808 : Int)) ∧ Is (List.length (prC (lowN pr (10 : Int)) (lowD pr (10 : Int)) s) = s * 2 ∧ (s + 1) * 16 ≤ 140737488355328 ∧ s + 1 ≤ 9223372036854775807) ∧ ∃ (s' : Nat), Is (s' ≤ N ∧ 0 < N) ∧ Is (N - s' < N - s) ∧ (q3 ∧ q0 ∧ q7 ∧ q8 ∧ q9 ∧ Value.slice (some ⟨15, 0, none⟩) (s + 1) 0 = Value.slice (some ⟨15, 0, none⟩) s' 0 ∧ q10 ∧ Value.int .i64 (IntKind.wrap .i64 ((s : Int) + (1 : Int))) = Value.int .i64 (↑s' : Int) ∧ True) ∧ lsG l 3 ++ some z12 :: some z11 :: some (AObj.row (shC (dJ l x O) 0 N) 4 true true true) :: some z14 :: some z13 :: some z11 :: some (AObj.row (shC (dJ l x O) 1 (N - 1)) 4 true true true) :: some z15 :: some (AObj.row (prC (lowN pr (10 : Int)) (lowD pr (10 : Int)) s ++ [Value.int .i64 (lowN (IntKind.wrap .i64 pr) (10 : Int)), Value.int .i64 (lowD (IntKind.wrap .i64 pr) (10 : Int))]) 2 true true true) :: noH = lsG l 3 ++ some z12 :: some z11 :: some (AObj.row (shC (dJ l x O) 0 N) 4 true true true) :: some z14 :: some z13 :: some z11 :: some (AObj.row (shC (dJ l x O) 1 (N - 1)) 4 true true true) :: some z15 :: some (AObj.row (prC (lowN pr (10 : Int)) (lowD pr (10 : Int)) s') 2 true true true) :: noH) (Is (List.length (prC (lowN pr (10 : Int)) (lowD pr (10 : Int)) s) = s * 2 ∧ (∀ (v : Value), v ∈ prC (lowN pr (10 : Int)) (lowD pr (10 : Int)) s → atom v = true) ∧ s * 16 ≤ 140737488355328 ∧ s ≤ 9223372036854775807) ∧ Is ((isOf (nmJ O) (dJ l x O) (4 : Int) N 0 N (seC (nmJ O) (dJ l x O) (4 : Int) N) (shC (dJ l x O) 0 N) ∧ prC (lowN pr (10 : Int)) (lowD pr (10 : Int)) s = prC (lowN pr (10 : Int)) (lowD pr (10 : Int)) N ∧ s = N) ∧ OfOk (nmJ O) (dJ l x O) (4 : Int) N 0 N ∧ prOk (lowN pr (10 : Int)) (lowD pr (10 : Int))) ∧ Is ((0 : Int) ≤ (1 : Int) ∧ (1 : Int) ≤ (s : Int) ∧ (s : Int) ≤ (s : Int)) ∧ Is (2 + (Int.toNat (s : Int) - 1) * 2 ≤ List.length (prC (lowN pr (10 : Int)) (lowD pr (10 : Int)) s) ∧ (∀ (v : Value), v ∈ prC (lowN pr (10 : Int)) (lowD pr (10 : Int)) s → atom v = true) ∧ (Int.toNat (s : Int) - 1) * 16 ≤ 140737488355328 ∧ Int.toNat (s : Int) - 1 ≤ 9223372036854775807) ∧ Is ((isOf (nmJ O) (dJ l x O) (4 : Int) N 1 (N - 1) (seC (nmJ O) (dJ l x O) (4 : Int) N) (shC (dJ l x O) 1 (N - 1)) ∧ List.take ((Int.toNat (s : Int) - 1) * 2) (List.drop 2 (prC (lowN pr (10 : Int)) (lowD pr (10 : Int)) s)) = prC (lowN pr (10 : Int)) (lowD pr (10 : Int)) (N - 1) ∧ Int.toNat (s : Int) - 1 = N - 1) ∧ OfOk (nmJ O) (dJ l x O) (4 : Int) N 1 (N - 1) ∧ prOk (lowN pr (10 : Int)) (lowD pr (10 : Int))) ∧ Is (decide ((4 : Int) * (N : Int) ≤ bdV (dJ l x O) 0 N N (4 : Int) (coP (lowN pr (10 : Int)) (lowD pr (10 : Int)))) = true) ∧ Is (decide ((4 : Int) * (↑(N - 1) : Int) ≤ bdV (dJ l x O) 1 N (N - 1) (4 : Int) (coP (lowN pr (10 : Int)) (lowD pr (10 : Int)))) = true) ∧ Is True ∧ K (Value.bool true) (lsG l 3 ++ noH))) (Is ((0 : Int) ≤ (1 : Int) ∧ (1 : Int) < (N : Int)) ∧ Is ((shC (dJ l x O) 0 N)[4]? = some (Value.int .i64 (dAt (dJ l x O) 1))) ∧ Is ((0 : Int) ≤ (0 : Int) ∧ (0 : Int) < (N : Int)) ∧ Is ((shC (dJ l x O) 0 N)[0]? = some (Value.int .i64 (dAt (dJ l x O) 0))) ∧ Is (((4 : Int) * (↑(N - 1) : Int) != IntKind.wrap .i64 ((4 : Int) * IntKind.wrap .i64 ((N : Int) - (1 : Int)))) = false) ∧ Is ((!decide (dAt (dJ l x O) 0 < dAt (dJ l x O) 1) == ((↑(ltN (altB (dJ l x O) N) N) : Int) == (1 : Int))) = false) ∧ Is (decide ((1 : Int) < (↑(ltN (altB (dJ l x O) N) N) : Int)) = false) ∧ br (decide (dAt (dJ l x O) 0 < dAt (dJ l x O) 1)) (Is ((0 : Int) ≤ (0 : Int) ∧ (0 : Int) < (↑(ltN (altB (dJ l x O) N) N) : Int)) ∧ Is ((if 2 ≤ List.length (ltC (altB (dJ l x O) N) N) then some (Value.agg (List.toArray (List.take 2 (List.drop 0 (ltC (altB (dJ l x O) N) N))))) else none) = some (Value.agg #[Value.int .i64 0, Value.string sDay])) ∧ Is (True ∧ false = false) ∧ (∃ (s : Nat), Is (s ≤ N ∧ 0 < N) ∧ (q3 ∧ q0 ∧ q7 ∧ q8 ∧ q9 ∧ Value.slice (some ⟨15, 0, none⟩) 0 0 = Value.slice (some ⟨15, 0, none⟩) s 0 ∧ q10 ∧ Value.int .i64 0 = Value.int .i64 (s : Int) ∧ True) ∧ lsG l 3 ++ some z12 :: some z11 :: some (AObj.row (shC (dJ l x O) 0 N) 4 true true true) :: some z14 :: some z13 :: some z11 :: some (AObj.row (shC (dJ l x O) 1 (N - 1)) 4 true true true) :: some z15 :: some (AObj.row [] 2 true true true) :: noH = lsG l 3 ++ some z12 :: some z11 :: some (AObj.row (shC (dJ l x O) 0 N) 4 true true true) :: some z14 :: some z13 :: some z11 :: some (AObj.row (shC (dJ l x O) 1 (N - 1)) 4 true true true) :: some z15 :: some (AObj.row (prC (lowN pr (10 : Int)) (lowD pr (10 : Int)) s) 2 true true true) :: noH) ∧ ∀ (s : Nat), Is (s ≤ N ∧ 0 < N) → br (decide ((s : Int) < (N : Int))) (Is ((0 : Int) < (10 : Int) ∧ (10 : Int) < (9223372036854775808 : Int) ∧ (-9223372036854775808 : Int) < IntKind.wrap .i64 pr ∧ IntKind.wrap .i64 pr < (9223372036854775808 : Int)) ∧ Is (List.length (prC (lowN pr (10 : Int)) (lowD pr (10 : Int)) s) = s * 2 ∧ (s + 1) * 16 ≤ 140737488355328 ∧ s + 1 ≤ 9223372036854775807) ∧ ∃ (s' : Nat), Is (s' ≤ N ∧ 0 < N) ∧ Is (N - s' < N - s) ∧ (q3 ∧ q0 ∧ q7 ∧ q8 ∧ q9 ∧ Value.slice (some ⟨15, 0, none⟩) (s + 1) 0 = Value.slice (some ⟨15, 0, none⟩) s' 0 ∧ q10 ∧ Value.int .i64 (IntKind.wrap .i64 ((s : Int) + (1 : Int))) = Value.int .i64 (↑s' : Int) ∧ True) ∧ lsG l 3 ++ some z12 :: some z11 :: some (AObj.row (shC (dJ l x O) 0 N) 4 true true true) :: some z14 :: some z13 :: some z11 :: some (AObj.row (shC (dJ l x O) 1 (N - 1)) 4 true true true) :: some z15 :: some (AObj.row (prC (lowN pr (10 : Int)) (lowD pr (10 : Int)) s ++ [Value.int .i64 (lowN (IntKind.wrap .i64 pr) (10 : Int)), Value.int .i64 (lowD (IntKind.wrap .i64 pr) (10 : Int))]) 2 true true true) :: noH = lsG l 3 ++ some z12 :: some z11 :: some (AObj.row (shC (dJ l x O) 0 N) 4 true true true) :: some z14 :: some z13 :: some z11 :: some (AObj.row (shC (dJ l x O) 1 (N - 1)) 4 true true true) :: some z15 :: some (AObj.row (prC (lowN pr (10 : Int)) (lowD pr (10 : Int)) s') 2 true true true) :: noH) (Is (List.length (prC (lowN pr (10 : Int)) (lowD pr (10 : Int)) s) = s * 2 ∧ (∀ (v : Value), v ∈ prC (lowN pr (10 : Int)) (lowD pr (10 : Int)) s → atom v = true) ∧ s * 16 ≤ 140737488355328 ∧ s ≤ 9223372036854775807) ∧ Is ((isOf (nmJ O) (dJ l x O) (4 : Int) N 0 N (seC (nmJ O) (dJ l x O) (4 : Int) N) (shC (dJ l x O) 0 N) ∧ prC (lowN pr (10 : Int)) (lowD pr (10 : Int)) s = prC (lowN pr (10 : Int)) (lowD pr (10 : Int)) N ∧ s = N) ∧ OfOk (nmJ O) (dJ l x O) (4 : Int) N 0 N ∧ prOk (lowN pr (10 : Int)) (lowD pr (10 : Int))) ∧ Is ((0 : Int) ≤ (1 : Int) ∧ (1 : Int) ≤ (s : Int) ∧ (s : Int) ≤ (s : Int)) ∧ Is (2 + (Int.toNat (s : Int) - 1) * 2 ≤ List.length (prC (lowN pr (10 : Int)) (lowD pr (10 : Int)) s) ∧ (∀ (v : Value), v ∈ prC (lowN pr (10 : Int)) (lowD pr (10 : Int)) s → atom v = true) ∧ (Int.toNat (s : Int) - 1) * 16 ≤ 140737488355328 ∧ Int.toNat (s : Int) - 1 ≤ 9223372036854775807) ∧ Is ((isOf (nmJ O) (dJ l x O) (4 : Int) N 1 (N - 1) (seC (nmJ O) (dJ l x O) (4 : Int) N) (shC (dJ l x O) 1 (N - 1)) ∧ List.take ((Int.toNat (s : Int) - 1) * 2) (List.drop 2 (prC (lowN pr (10 : Int)) (lowD pr (10 : Int)) s)) = prC (lowN pr (10 : Int)) (lowD pr (10 : Int)) (N - 1) ∧ Int.toNat (s : Int) - 1 = N - 1) ∧ OfOk (nmJ O) (dJ l x O) (4 : Int) N 1 (N - 1) ∧ prOk (lowN pr (10 : Int)) (lowD pr (10 : Int))) ∧ Is (decide ((4 : Int) * (N : Int) ≤ bdV (dJ l x O) 0 N N (4 : Int) (coP (lowN pr (10 : Int)) (lowD pr (10 : Int)))) = true) ∧ Is (decide ((4 : Int) * (↑(N - 1) : Int) ≤ bdV (dJ l x O) 1 N (N - 1) (4 : Int) (coP (lowN pr (10 : Int)) (lowD pr (10 : Int)))) = true) ∧ Is True ∧ K (Value.bool true) (lsG l 3 ++ noH))) ((∃ (s : Nat), Is (s ≤ N ∧ 0 < N) ∧ (q3 ∧ q0 ∧ q7 ∧ q8 ∧ q9 ∧ Value.slice (some ⟨15, 0, none⟩) 0 0 = Value.slice (some ⟨15, 0, none⟩) s 0 ∧ q10 ∧ Value.int .i64 0 = Value.int .i64 (s : Int) ∧ True) ∧ lsG l 3 ++ some z12 :: some z11 :: some (AObj.row (shC (dJ l x O) 0 N) 4 true true true) :: some z14 :: some z13 :: some z11 :: some (AObj.row (shC (dJ l x O) 1 (N - 1)) 4 true true true) :: some z15 :: some (AObj.row [] 2 true true true) :: noH = lsG l 3 ++ some z12 :: some z11 :: some (AObj.row (shC (dJ l x O) 0 N) 4 true true true) :: some z14 :: some z13 :: some z11 :: some (AObj.row (shC (dJ l x O) 1 (N - 1)) 4 true true true) :: some z15 :: some (AObj.row (prC (lowN pr (10 : Int)) (lowD pr (10 : Int)) s) 2 true true true) :: noH) ∧ ∀ (s : Nat), Is (s ≤ N ∧ 0 < N) → br (decide ((s : Int) < (N : Int))) (Is ((0 : Int) < (10 : Int) ∧ (10 : Int) < (9223372036854775808 : Int) ∧ (-9223372036854775808 : Int) < IntKind.wrap .i64 pr ∧ IntKind.wrap .i64 pr < (9223372036854775808 : Int)) ∧ Is (List.length (prC (lowN pr (10 : Int)) (lowD pr (10 : Int)) s) = s * 2 ∧ (s + 1) * 16 ≤ 140737488355328 ∧ s + 1 ≤ 9223372036854775807) ∧ ∃ (s' : Nat), Is (s' ≤ N ∧ 0 < N) ∧ Is (N - s' < N - s) ∧ (q3 ∧ q0 ∧ q7 ∧ q8 ∧ q9 ∧ Value.slice (some ⟨15, 0, none⟩) (s + 1) 0 = Value.slice (some ⟨15, 0, none⟩) s' 0 ∧ q10 ∧ Value.int .i64 (IntKind.wrap .i64 ((s : Int) + (1 : Int))) = Value.int .i64 (↑s' : Int) ∧ True) ∧ lsG l 3 ++ some z12 :: some z11 :: some (AObj.row (shC (dJ l x O) 0 N) 4 true true true) :: some z14 :: some z13 :: some z11 :: some (AObj.row (shC (dJ l x O) 1 (N - 1)) 4 true true true) :: some z15 :: some (AObj.row (prC (lowN pr (10 : Int)) (lowD pr (10 : Int)) s ++ [Value.int .i64 (lowN (IntKind.wrap .i64 pr) (10 : Int)), Value.int .i64 (lowD (IntKind.wrap .i64 pr) (10 : Int))]) 2 true true true) :: noH = lsG l 3 ++ some z12 :: some z11 :: some (AObj.row (shC (dJ l x O) 0 N) 4 true true true) :: some z14 :: some z13 :: some z11 :: some (AObj.row (shC (dJ l x O) 1 (N - 1)) 4 true true true) :: some z15 :: some (AObj.row (prC (lowN pr (10 : Int)) (lowD pr (10 : Int)) s') 2 true true true) :: noH) (Is (List.length (prC (lowN pr (10 : Int)) (lowD pr (10 : Int)) s) = s * 2 ∧ (∀ (v : Value), v ∈ prC (lowN pr (10 : Int)) (lowD pr (10 : Int)) s → atom v = true) ∧ s * 16 ≤ 140737488355328 ∧ s ≤ 9223372036854775807) ∧ Is ((isOf (nmJ O) (dJ l x O) (4 : Int) N 0 N (seC (nmJ O) (dJ l x O) (4 : Int) N) (shC (dJ l x O) 0 N) ∧ prC (lowN pr (10 : Int)) (lowD pr (10 : Int)) s = prC (lowN pr (10 : Int)) (lowD pr (10 : Int)) N ∧ s = N) ∧ OfOk (nmJ O) (dJ l x O) (4 : Int) N 0 N ∧ prOk (lowN pr (10 : Int)) (lowD pr (10 : Int))) ∧ Is ((0 : Int) ≤ (1 : Int) ∧ (1 : Int) ≤ (s : Int) ∧ (s : Int) ≤ (s : Int)) ∧ Is (2 + (Int.toNat (s : Int) - 1) * 2 ≤ List.length (prC (lowN pr (10 : Int)) (lowD pr (10 : Int)) s) ∧ (∀ (v : Value), v ∈ prC (lowN pr (10 : Int)) (lowD pr (10 : Int)) s → atom v = true) ∧ (Int.toNat (s : Int) - 1) * 16 ≤ 140737488355328 ∧ Int.toNat (s : Int) - 1 ≤ 9223372036854775807) ∧ Is ((isOf (nmJ O) (dJ l x O) (4 : Int) N 1 (N - 1) (seC (nmJ O) (dJ l x O) (4 : Int) N) (shC (dJ l x O) 1 (N - 1)) ∧ List.take ((Int.toNat (s : Int) - 1) * 2) (List.drop 2 (prC (lowN pr (10 : Int)) (lowD pr (10 : Int)) s)) = prC (lowN pr (10 : Int)) (lowD pr (10 : Int)) (N - 1) ∧ Int.toNat (s : Int) - 1 = N - 1) ∧ OfOk (nmJ O) (dJ l x O) (4 : Int) N 1 (N - 1) ∧ prOk (lowN pr (10 : Int)) (lowD pr (10 : Int))) ∧ Is (decide ((4 : Int) * (N : Int) ≤ bdV (dJ l x O) 0 N N (4 : Int) (coP (lowN pr (10 : Int)) (lowD pr (10 : Int)))) = true) ∧ Is (decide ((4 : Int) * (↑(N - 1) : Int) ≤ bdV (dJ l x O) 1 N (N - 1) (4 : Int) (coP (lowN pr (10 : Int)) (lowD pr (10 : Int)))) = true) ∧ Is True ∧ K (Value.bool true) (lsG l 3 ++ noH))))))) := by kernel_rfl
end
end Qq
end
section
/- The law: 3 sections. -/
open Go Go.Vm Go.Proofs Sp
namespace Qq
noncomputable section
set_option maxRecDepth 100000 in
theorem lw3_ok {l : Ls} {x pr : Int} {O : Nat → Nat} {oc : List Value} {N c : Nat} (h : Jr l 3 x O oc N) (hp : 0 ≤ pr ∧ pr ≤ 255) (hj : jsRes true 3 c (lsG l 3)) : SmallRes Tryz.prog 3 [.slice (some ⟨0, 0, none⟩) 3 c, .int .u16 x, .int .u8 pr] (lsG l 3) (.bool true) (lsG l 3) := by
  refine fnP_res hm c0_ok (hs := hsJ l 3 x pr O oc N c 999) ?_
  rw [lw3_t]
  have nN := h.Nn
  have x1 := h.x1
  have wp : IntKind.wrap .i64 pr = pr := W_in (by omega)
  have hpo := price hp
  refine ⟨⟨hj⟩, ⟨decide_eq_false (by omega)⟩, ⟨⟨sec_is h.ht (by decide)⟩, ⟨sec_is h.ht (by decide)⟩, ⟨sec_is h.ht (by decide)⟩, (0 : Nat), ⟨rfl⟩, ?_, by first | trivial | rfl⟩, fun _ _ => ?_⟩
  · repeat (first | exact trivial | refine ⟨by first | trivial | rfl | (rw [decide_eq_false (by omega)]) | (rw [decide_eq_true (by omega)]) | (rw [ho]) | (rw [dJ, hoN]) | (rw [eJ, hoN]), ?_⟩)
  refine ⟨⟨h.rkI rfl⟩, ⟨rfl⟩, ⟨trivial⟩, ⟨⟨(0 : Nat), ⟨Nat.zero_le _⟩, ?_, by rw [mJ_in (Nat.zero_le N)] <;> rfl⟩, fun s hs => br_of (fun hd => ?_) (fun hd => ?_)⟩, fun _ _ => ?_⟩
  · repeat (first | exact trivial | refine ⟨by first | trivial | rfl | (rw [decide_eq_false (by omega)]) | (rw [decide_eq_true (by omega)]) | (rw [ho]) | (rw [dJ, hoN]) | (rw [eJ, hoN]), ?_⟩)
  · have hd : s < 3 := by have := of_decide_eq_true hd; omega
    rw [show (0 : Nat) + Int.toNat (s : Int) * 1 = s by omega]
    have ea := h.at_ hd
    rw [show 0 + s * 1 = s by omega] at ea
    have ol := h.lt s hd
    refine ⟨⟨by omega, by omega⟩, ⟨ea⟩, ?_⟩
    refine br_of (fun ho => ?_) (fun ho0 => ?_)
    · have ho : (O s : Int) = 0 := eq_of_beq ho
      have hoN : O s = 0 := by omega
      have hn := h.no hd ho
      refine ⟨⟨hn⟩, ⟨hn⟩, s, ⟨⟨sec_is h.ht (by decide)⟩, ⟨h.rcI (by decide)⟩, s, ⟨hd⟩, ?_, ?_⟩, fun _ _ => ?_⟩
      · repeat (first | exact trivial | refine ⟨by first | trivial | rfl | (rw [decide_eq_false (by omega)]) | (rw [decide_eq_true (by omega)]) | (rw [ho]) | (rw [dJ, hoN]) | (rw [eJ, hoN]), ?_⟩)
      · rw [knO_succ, ho]
      refine br_of (fun h7 => ?_) (fun h7 => br_of (fun h16 => ?_) (fun h16 => ?_))
      · have hl : N ≤ s := h.late hd (by intro e; rw [e] at h7; cases h7)
        rw [mJ_out hl]
        refine ⟨s + 1, ⟨by omega⟩, ⟨by omega⟩, ?_, by rw [mJ_out (show N ≤ s + 1 by omega)]⟩
        rw [up1 hd (by decide)]
        repeat (first | exact trivial | refine ⟨by first | trivial | rfl | (rw [decide_eq_false (by omega)]) | (rw [decide_eq_true (by omega)]) | (rw [ho]) | (rw [dJ, hoN]) | (rw [eJ, hoN]), ?_⟩)
      · have hl : N ≤ s := h.late hd (by intro e; rw [e] at h16; cases h16)
        rw [mJ_out hl]
        refine ⟨s + 1, ⟨by omega⟩, ⟨by omega⟩, ?_, by rw [mJ_out (show N ≤ s + 1 by omega)]⟩
        rw [up1 hd (by decide)]
        repeat (first | exact trivial | refine ⟨by first | trivial | rfl | (rw [decide_eq_false (by omega)]) | (rw [decide_eq_true (by omega)]) | (rw [ho]) | (rw [dJ, hoN]) | (rw [eJ, hoN]), ?_⟩)
      · obtain ⟨he, hN⟩ := h.soon hd h7 h16
        refine ⟨s, ⟨⟨by rw [he] <;> rfl⟩, br_of (fun hx => absurd (of_decide_eq_true hx) (by omega)) (fun _ => ⟨s, ⟨hd, hN⟩, ?_, by rw [mJ_in (show s ≤ N by omega)]⟩)⟩, fun _ _ => br_of (fun h0 => ?_) (fun h0 => ?_)⟩
        · repeat (first | exact trivial | refine ⟨by first | trivial | rfl | (rw [decide_eq_false (by omega)]) | (rw [decide_eq_true (by omega)]) | (rw [ho]) | (rw [dJ, hoN]) | (rw [eJ, hoN]), ?_⟩)
        · have h0 : 0 < s := by have := of_decide_eq_true h0; omega
          have e1 : IntKind.wrap .i64 ((s : Int) - 1) = ((s - 1 : Nat) : Int) := by rw [W_in (by omega)]; omega
          have e2 : 0 + (s - 1) * 4 + 0 = (s - 1) * 4 := by omega
          have e3 : (s - 1) * 4 / 4 = s - 1 := by omega
          have o3 := h.O3 hd
          rw [e1, Int.toNat_natCast, Int.toNat_natCast, e2, e3, txS_sz, h.nm hd]
          refine ⟨⟨by omega, by omega⟩, ⟨(sh_at (by omega)).1⟩, ⟨decide_eq_false ?_⟩, ⟨by omega, by omega⟩, ⟨by decide⟩, ⟨se_len _ _ _ _, by omega, by omega⟩, ⟨sh_len _ _ _, by omega, by omega⟩, s + 1, ⟨by omega⟩, ⟨by omega⟩, ?_, ?_⟩
          · have := h.up (s - 1) (by omega)
            rw [show s - 1 + 1 = s by omega] at this
            show ¬ dJ l x O s < dJ l x O (0 + (s - 1))
            rw [Nat.zero_add]; omega
          · rw [up1 hd (by decide)]
            repeat (first | exact trivial | refine ⟨by first | trivial | rfl | (rw [decide_eq_false (by omega)]) | (rw [decide_eq_true (by omega)]) | (rw [ho]) | (rw [dJ, hoN]) | (rw [eJ, hoN]), ?_⟩)
          · rw [mJ_in (show s + 1 ≤ N by omega), se_succ, sh_succ, show (0 : Nat) + s = s from Nat.zero_add s] <;> rfl
        · have o3 := h.O3 hd
          rw [Int.toNat_natCast, txS_sz, h.nm hd]
          refine ⟨⟨by omega, by omega⟩, ⟨by decide⟩, ⟨se_len _ _ _ _, by omega, by omega⟩, ⟨sh_len _ _ _, by omega, by omega⟩, s + 1, ⟨by omega⟩, ⟨by omega⟩, ?_, ?_⟩
          · rw [up1 hd (by decide)]
            repeat (first | exact trivial | refine ⟨by first | trivial | rfl | (rw [decide_eq_false (by omega)]) | (rw [decide_eq_true (by omega)]) | (rw [ho]) | (rw [dJ, hoN]) | (rw [eJ, hoN]), ?_⟩)
          · rw [mJ_in (show s + 1 ≤ N by omega), se_succ, sh_succ, show (0 : Nat) + s = s from Nat.zero_add s] <;> rfl
    refine br_of (fun ho => ?_) (fun ho1 => ?_)
    · have ho : (O s : Int) = 1 := eq_of_beq ho
      have hoN : O s = 1 := by omega
      have hn := h.no hd ho
      refine ⟨⟨hn⟩, ⟨hn⟩, s, ⟨⟨sec_is h.ht (by decide)⟩, ⟨h.rcI (by decide)⟩, s, ⟨hd⟩, ?_, ?_⟩, fun _ _ => ?_⟩
      · repeat (first | exact trivial | refine ⟨by first | trivial | rfl | (rw [decide_eq_false (by omega)]) | (rw [decide_eq_true (by omega)]) | (rw [ho]) | (rw [dJ, hoN]) | (rw [eJ, hoN]), ?_⟩)
      · rw [knO_succ, ho]
      refine br_of (fun h7 => ?_) (fun h7 => br_of (fun h16 => ?_) (fun h16 => ?_))
      · have hl : N ≤ s := h.late hd (by intro e; rw [e] at h7; cases h7)
        rw [mJ_out hl]
        refine ⟨s + 1, ⟨by omega⟩, ⟨by omega⟩, ?_, by rw [mJ_out (show N ≤ s + 1 by omega)]⟩
        rw [up1 hd (by decide)]
        repeat (first | exact trivial | refine ⟨by first | trivial | rfl | (rw [decide_eq_false (by omega)]) | (rw [decide_eq_true (by omega)]) | (rw [ho]) | (rw [dJ, hoN]) | (rw [eJ, hoN]), ?_⟩)
      · have hl : N ≤ s := h.late hd (by intro e; rw [e] at h16; cases h16)
        rw [mJ_out hl]
        refine ⟨s + 1, ⟨by omega⟩, ⟨by omega⟩, ?_, by rw [mJ_out (show N ≤ s + 1 by omega)]⟩
        rw [up1 hd (by decide)]
        repeat (first | exact trivial | refine ⟨by first | trivial | rfl | (rw [decide_eq_false (by omega)]) | (rw [decide_eq_true (by omega)]) | (rw [ho]) | (rw [dJ, hoN]) | (rw [eJ, hoN]), ?_⟩)
      · obtain ⟨he, hN⟩ := h.soon hd h7 h16
        refine ⟨s, ⟨⟨by rw [he] <;> rfl⟩, br_of (fun hx => absurd (of_decide_eq_true hx) (by omega)) (fun _ => ⟨s, ⟨hd, hN⟩, ?_, by rw [mJ_in (show s ≤ N by omega)]⟩)⟩, fun _ _ => br_of (fun h0 => ?_) (fun h0 => ?_)⟩
        · repeat (first | exact trivial | refine ⟨by first | trivial | rfl | (rw [decide_eq_false (by omega)]) | (rw [decide_eq_true (by omega)]) | (rw [ho]) | (rw [dJ, hoN]) | (rw [eJ, hoN]), ?_⟩)
        · have h0 : 0 < s := by have := of_decide_eq_true h0; omega
          have e1 : IntKind.wrap .i64 ((s : Int) - 1) = ((s - 1 : Nat) : Int) := by rw [W_in (by omega)]; omega
          have e2 : 0 + (s - 1) * 4 + 0 = (s - 1) * 4 := by omega
          have e3 : (s - 1) * 4 / 4 = s - 1 := by omega
          have o3 := h.O3 hd
          rw [e1, Int.toNat_natCast, Int.toNat_natCast, e2, e3, txS_sz, h.nm hd]
          refine ⟨⟨by omega, by omega⟩, ⟨(sh_at (by omega)).1⟩, ⟨decide_eq_false ?_⟩, ⟨by omega, by omega⟩, ⟨by decide⟩, ⟨se_len _ _ _ _, by omega, by omega⟩, ⟨sh_len _ _ _, by omega, by omega⟩, s + 1, ⟨by omega⟩, ⟨by omega⟩, ?_, ?_⟩
          · have := h.up (s - 1) (by omega)
            rw [show s - 1 + 1 = s by omega] at this
            show ¬ dJ l x O s < dJ l x O (0 + (s - 1))
            rw [Nat.zero_add]; omega
          · rw [up1 hd (by decide)]
            repeat (first | exact trivial | refine ⟨by first | trivial | rfl | (rw [decide_eq_false (by omega)]) | (rw [decide_eq_true (by omega)]) | (rw [ho]) | (rw [dJ, hoN]) | (rw [eJ, hoN]), ?_⟩)
          · rw [mJ_in (show s + 1 ≤ N by omega), se_succ, sh_succ, show (0 : Nat) + s = s from Nat.zero_add s] <;> rfl
        · have o3 := h.O3 hd
          rw [Int.toNat_natCast, txS_sz, h.nm hd]
          refine ⟨⟨by omega, by omega⟩, ⟨by decide⟩, ⟨se_len _ _ _ _, by omega, by omega⟩, ⟨sh_len _ _ _, by omega, by omega⟩, s + 1, ⟨by omega⟩, ⟨by omega⟩, ?_, ?_⟩
          · rw [up1 hd (by decide)]
            repeat (first | exact trivial | refine ⟨by first | trivial | rfl | (rw [decide_eq_false (by omega)]) | (rw [decide_eq_true (by omega)]) | (rw [ho]) | (rw [dJ, hoN]) | (rw [eJ, hoN]), ?_⟩)
          · rw [mJ_in (show s + 1 ≤ N by omega), se_succ, sh_succ, show (0 : Nat) + s = s from Nat.zero_add s] <;> rfl
    have g0 : (O s : Int) ≠ 0 := ne_of_beq_false ho0
    have g1 : (O s : Int) ≠ 1 := ne_of_beq_false ho1
    have ho : (O s : Int) = 2 := by omega
    refine ⟨⟨ho⟩, ?_⟩
    have hoN : O s = 2 := by omega
    have hn := h.no hd ho
    refine ⟨⟨hn⟩, ⟨hn⟩, s, ⟨⟨sec_is h.ht (by decide)⟩, ⟨h.rcI (by decide)⟩, s, ⟨hd⟩, ?_, ?_⟩, fun _ _ => ?_⟩
    · repeat (first | exact trivial | refine ⟨by first | trivial | rfl | (rw [decide_eq_false (by omega)]) | (rw [decide_eq_true (by omega)]) | (rw [ho]) | (rw [dJ, hoN]) | (rw [eJ, hoN]), ?_⟩)
    · rw [knO_succ, ho]
    refine br_of (fun h7 => ?_) (fun h7 => br_of (fun h16 => ?_) (fun h16 => ?_))
    · have hl : N ≤ s := h.late hd (by intro e; rw [e] at h7; cases h7)
      rw [mJ_out hl]
      refine ⟨s + 1, ⟨by omega⟩, ⟨by omega⟩, ?_, by rw [mJ_out (show N ≤ s + 1 by omega)]⟩
      rw [up1 hd (by decide)]
      repeat (first | exact trivial | refine ⟨by first | trivial | rfl | (rw [decide_eq_false (by omega)]) | (rw [decide_eq_true (by omega)]) | (rw [ho]) | (rw [dJ, hoN]) | (rw [eJ, hoN]), ?_⟩)
    · have hl : N ≤ s := h.late hd (by intro e; rw [e] at h16; cases h16)
      rw [mJ_out hl]
      refine ⟨s + 1, ⟨by omega⟩, ⟨by omega⟩, ?_, by rw [mJ_out (show N ≤ s + 1 by omega)]⟩
      rw [up1 hd (by decide)]
      repeat (first | exact trivial | refine ⟨by first | trivial | rfl | (rw [decide_eq_false (by omega)]) | (rw [decide_eq_true (by omega)]) | (rw [ho]) | (rw [dJ, hoN]) | (rw [eJ, hoN]), ?_⟩)
    · obtain ⟨he, hN⟩ := h.soon hd h7 h16
      refine ⟨s, ⟨⟨by rw [he] <;> rfl⟩, br_of (fun hx => absurd (of_decide_eq_true hx) (by omega)) (fun _ => ⟨s, ⟨hd, hN⟩, ?_, by rw [mJ_in (show s ≤ N by omega)]⟩)⟩, fun _ _ => br_of (fun h0 => ?_) (fun h0 => ?_)⟩
      · repeat (first | exact trivial | refine ⟨by first | trivial | rfl | (rw [decide_eq_false (by omega)]) | (rw [decide_eq_true (by omega)]) | (rw [ho]) | (rw [dJ, hoN]) | (rw [eJ, hoN]), ?_⟩)
      · have h0 : 0 < s := by have := of_decide_eq_true h0; omega
        have e1 : IntKind.wrap .i64 ((s : Int) - 1) = ((s - 1 : Nat) : Int) := by rw [W_in (by omega)]; omega
        have e2 : 0 + (s - 1) * 4 + 0 = (s - 1) * 4 := by omega
        have e3 : (s - 1) * 4 / 4 = s - 1 := by omega
        have o3 := h.O3 hd
        rw [e1, Int.toNat_natCast, Int.toNat_natCast, e2, e3, txS_sz, h.nm hd]
        refine ⟨⟨by omega, by omega⟩, ⟨(sh_at (by omega)).1⟩, ⟨decide_eq_false ?_⟩, ⟨by omega, by omega⟩, ⟨by decide⟩, ⟨se_len _ _ _ _, by omega, by omega⟩, ⟨sh_len _ _ _, by omega, by omega⟩, s + 1, ⟨by omega⟩, ⟨by omega⟩, ?_, ?_⟩
        · have := h.up (s - 1) (by omega)
          rw [show s - 1 + 1 = s by omega] at this
          show ¬ dJ l x O s < dJ l x O (0 + (s - 1))
          rw [Nat.zero_add]; omega
        · rw [up1 hd (by decide)]
          repeat (first | exact trivial | refine ⟨by first | trivial | rfl | (rw [decide_eq_false (by omega)]) | (rw [decide_eq_true (by omega)]) | (rw [ho]) | (rw [dJ, hoN]) | (rw [eJ, hoN]), ?_⟩)
        · rw [mJ_in (show s + 1 ≤ N by omega), se_succ, sh_succ, show (0 : Nat) + s = s from Nat.zero_add s] <;> rfl
      · have o3 := h.O3 hd
        rw [Int.toNat_natCast, txS_sz, h.nm hd]
        refine ⟨⟨by omega, by omega⟩, ⟨by decide⟩, ⟨se_len _ _ _ _, by omega, by omega⟩, ⟨sh_len _ _ _, by omega, by omega⟩, s + 1, ⟨by omega⟩, ⟨by omega⟩, ?_, ?_⟩
        · rw [up1 hd (by decide)]
          repeat (first | exact trivial | refine ⟨by first | trivial | rfl | (rw [decide_eq_false (by omega)]) | (rw [decide_eq_true (by omega)]) | (rw [ho]) | (rw [dJ, hoN]) | (rw [eJ, hoN]), ?_⟩)
        · rw [mJ_in (show s + 1 ≤ N by omega), se_succ, sh_succ, show (0 : Nat) + s = s from Nat.zero_add s] <;> rfl
  · have hd : 3 ≤ s := by have := of_decide_eq_false hd; omega
    refine ⟨(0 : Nat), ⟨rfl⟩, ?_, by rw [mJ_out (show N ≤ s by omega)]⟩
    repeat (first | exact trivial | refine ⟨by first | trivial | rfl | (rw [decide_eq_false (by omega)]) | (rw [decide_eq_true (by omega)]) | (rw [ho]) | (rw [dJ, hoN]) | (rw [eJ, hoN]), ?_⟩)
  · refine br_of (fun _ => ⟨⟨trivial⟩, rfl, rfl⟩) (fun h0 => ?_)
    have h0 : 0 < N := by have := ne_of_beq_false h0; omega
    have s1 := h.seIs (Nat.le_refl N)
    have s2 := h.shIs (Nat.le_refl N)
    have w1 : IntKind.wrap .i64 ((N : Int) - 1) = ((N - 1 : Nat) : Int) := by rw [W_in (by omega)]; omega
    have f0 : ltN false N = 0 := if_neg (by simp)
    simp only [Int.toNat_natCast, w1, f0]
    refine ⟨⟨s1⟩, ⟨s2⟩, ⟨⟨⟨rfl, rfl⟩, by omega, by decide, h0, by omega⟩, h.of0⟩, ⟨s1⟩, ⟨s2⟩, ⟨⟨rfl, rfl⟩, h.of0, h.lt0, h0⟩, ⟨by rw [W_in (by omega)]; exact bne_self_eq_false _⟩, ⟨rfl⟩, ⟨⟨s1⟩, ⟨by decide, by omega, by omega⟩, ⟨by rw [sh_len]; omega, sh_atom, by omega, by omega⟩, (0 : Nat), ⟨rfl, h0⟩, ?_, by rw [sh_tail h0] <;> rfl⟩, fun _ _ => ?_⟩
    · repeat (first | exact trivial | refine ⟨by first | trivial | rfl | (rw [decide_eq_false (by omega)]) | (rw [decide_eq_true (by omega)]) | (rw [ho]) | (rw [dJ, hoN]) | (rw [eJ, hoN]), ?_⟩)
    refine ⟨⟨⟨⟨rfl, rfl⟩, by omega, by decide, h0, by omega⟩, h.of1⟩, ⟨⟨rfl, rfl⟩, h.of1, h.lt1, h0⟩, br_of (fun h1 => ?_) (fun h1 => ?_)⟩
    · have h1 : N = 1 := by have := eq_of_beq h1; omega
      have f1 : ltN true N = 1 := if_pos ⟨rfl, h0⟩
      have f2 : ltC true N = [.int .i64 0, .string sDay] := if_pos ⟨rfl, h0⟩
      rw [altB_one h1, f1, f2]
      refine ⟨⟨by rw [W_in (by omega)]; exact bne_self_eq_false _⟩, ⟨rfl⟩, ⟨rfl⟩, ⟨by decide⟩, ⟨rfl⟩, ⟨trivial, by first | trivial | rfl⟩, ?_⟩
      refine ⟨⟨(0 : Nat), ⟨Nat.zero_le _, h0⟩, ?_, by first | trivial | rfl⟩, fun k hk => br_of (fun hd => ?_) (fun hd => ?_)⟩
      · repeat (first | exact trivial | refine ⟨by first | trivial | rfl | (rw [decide_eq_false (by omega)]) | (rw [decide_eq_true (by omega)]) | (rw [ho]) | (rw [dJ, hoN]) | (rw [eJ, hoN]), ?_⟩)
      · have hd := lt_of_dec hd
        rw [wp]
        refine ⟨⟨by decide, by decide, by omega, by omega⟩, ⟨pr_len _ _ _, by omega, by omega⟩, k + 1, ⟨hd, h0⟩, ⟨by omega⟩, ?_, by rw [pr_succ] <;> rfl⟩
        rw [up1 hd (by omega)]
        repeat (first | exact trivial | refine ⟨by first | trivial | rfl | (rw [decide_eq_false (by omega)]) | (rw [decide_eq_true (by omega)]) | (rw [ho]) | (rw [dJ, hoN]) | (rw [eJ, hoN]), ?_⟩)
      · obtain rfl : N = k := by have := ge_of_dec hd; have := hk.out.1; omega
        exact ⟨⟨pr_len _ _ _, pr_atom, by omega, by omega⟩, ⟨⟨⟨rfl, rfl⟩, rfl, rfl⟩, h.of0, hpo⟩, ⟨by decide, by omega, by omega⟩, ⟨by rw [pr_len]; omega, pr_atom, by omega, by omega⟩, ⟨⟨⟨rfl, rfl⟩, pr_tail h0, rfl⟩, h.of1, hpo⟩, ⟨h.bd0 hpo⟩, ⟨h.bd1 hpo h0⟩, ⟨trivial⟩, by first | trivial | rfl, by first | trivial | rfl⟩
    · have h1 : N ≠ 1 := by have := ne_of_beq_false h1; omega
      have hb : altB (dJ l x O) N = decide (dAt (dJ l x O) 0 < dAt (dJ l x O) 1) := altB_no h1
      refine ⟨⟨by decide, by omega⟩, ⟨(sh_at (i := 1) (by omega)).1⟩, ⟨by decide, by omega⟩, ⟨(sh_at (i := 0) (by omega)).1⟩, ⟨by rw [W_in (by omega)]; exact bne_self_eq_false _⟩, ?_⟩
      rw [hb]
      cases decide (dAt (dJ l x O) 0 < dAt (dJ l x O) 1) with
      | false =>
        rw [f0]
        refine ⟨⟨rfl⟩, ⟨rfl⟩, br_of (fun hd => by cases hd) (fun _ => ?_)⟩
        refine ⟨⟨(0 : Nat), ⟨Nat.zero_le _, h0⟩, ?_, by first | trivial | rfl⟩, fun k hk => br_of (fun hd => ?_) (fun hd => ?_)⟩
        · repeat (first | exact trivial | refine ⟨by first | trivial | rfl | (rw [decide_eq_false (by omega)]) | (rw [decide_eq_true (by omega)]) | (rw [ho]) | (rw [dJ, hoN]) | (rw [eJ, hoN]), ?_⟩)
        · have hd := lt_of_dec hd
          rw [wp]
          refine ⟨⟨by decide, by decide, by omega, by omega⟩, ⟨pr_len _ _ _, by omega, by omega⟩, k + 1, ⟨hd, h0⟩, ⟨by omega⟩, ?_, by rw [pr_succ] <;> rfl⟩
          rw [up1 hd (by omega)]
          repeat (first | exact trivial | refine ⟨by first | trivial | rfl | (rw [decide_eq_false (by omega)]) | (rw [decide_eq_true (by omega)]) | (rw [ho]) | (rw [dJ, hoN]) | (rw [eJ, hoN]), ?_⟩)
        · obtain rfl : N = k := by have := ge_of_dec hd; have := hk.out.1; omega
          exact ⟨⟨pr_len _ _ _, pr_atom, by omega, by omega⟩, ⟨⟨⟨rfl, rfl⟩, rfl, rfl⟩, h.of0, hpo⟩, ⟨by decide, by omega, by omega⟩, ⟨by rw [pr_len]; omega, pr_atom, by omega, by omega⟩, ⟨⟨⟨rfl, rfl⟩, pr_tail h0, rfl⟩, h.of1, hpo⟩, ⟨h.bd0 hpo⟩, ⟨h.bd1 hpo h0⟩, ⟨trivial⟩, by first | trivial | rfl, by first | trivial | rfl⟩
      | true =>
        have f1 : ltN true N = 1 := if_pos ⟨rfl, h0⟩
        have f2 : ltC true N = [.int .i64 0, .string sDay] := if_pos ⟨rfl, h0⟩
        rw [f1, f2]
        refine ⟨⟨rfl⟩, ⟨rfl⟩, br_of (fun _ => ⟨⟨by decide⟩, ⟨rfl⟩, ⟨trivial, by first | trivial | rfl⟩, ?_⟩) (fun hd => by cases hd)⟩
        refine ⟨⟨(0 : Nat), ⟨Nat.zero_le _, h0⟩, ?_, by first | trivial | rfl⟩, fun k hk => br_of (fun hd => ?_) (fun hd => ?_)⟩
        · repeat (first | exact trivial | refine ⟨by first | trivial | rfl | (rw [decide_eq_false (by omega)]) | (rw [decide_eq_true (by omega)]) | (rw [ho]) | (rw [dJ, hoN]) | (rw [eJ, hoN]), ?_⟩)
        · have hd := lt_of_dec hd
          rw [wp]
          refine ⟨⟨by decide, by decide, by omega, by omega⟩, ⟨pr_len _ _ _, by omega, by omega⟩, k + 1, ⟨hd, h0⟩, ⟨by omega⟩, ?_, by rw [pr_succ] <;> rfl⟩
          rw [up1 hd (by omega)]
          repeat (first | exact trivial | refine ⟨by first | trivial | rfl | (rw [decide_eq_false (by omega)]) | (rw [decide_eq_true (by omega)]) | (rw [ho]) | (rw [dJ, hoN]) | (rw [eJ, hoN]), ?_⟩)
        · obtain rfl : N = k := by have := ge_of_dec hd; have := hk.out.1; omega
          exact ⟨⟨pr_len _ _ _, pr_atom, by omega, by omega⟩, ⟨⟨⟨rfl, rfl⟩, rfl, rfl⟩, h.of0, hpo⟩, ⟨by decide, by omega, by omega⟩, ⟨by rw [pr_len]; omega, pr_atom, by omega, by omega⟩, ⟨⟨⟨rfl, rfl⟩, pr_tail h0, rfl⟩, h.of1, hpo⟩, ⟨h.bd0 hpo⟩, ⟨h.bd1 hpo h0⟩, ⟨trivial⟩, by first | trivial | rfl, by first | trivial | rfl⟩
end
end Qq
end
section
/- The law, walked: no section, or none that are asked. -/
open Go Go.Vm Go.Proofs Sp
namespace Qq
noncomputable section
noncomputable def hsJ0 (l : Ls) (x pr : Int) (O : Nat → Nat) (oc : List Value) (c : Nat) : Hs Tryz.prog :=
  { hsJ l 0 x pr O oc 0 c 999 with lp := fun _ => none, cut := fun y => if y = 9 then some (lpJ9 l 0 x pr c) else none }
theorem lw0_t (l : Ls) (x : Int) (pr : Int) (O : Nat → Nat) (oc : List Value) (c : Nat) (K : Value → Heap → Prop) :
    (fnP Tryz.prog c0 (hsJ0 l x pr O oc c) (3 : FuncId) [Value.slice (some { block := (0 : Nat), off := (0 : Nat) }) (0 : Nat) c, Value.int IntKind.u16 x, Value.int IntKind.u8 pr] (lsG l (0 : Nat)) K) =
    (Is (jsRes true 0 c (some (AObj.row [] 3 false false false) :: noH)) ∧ Is (decide ((10000 : Int) < x) = false) ∧ (∃ (s : Nat), Is (s = 0) ∧ (Value.slice (some ⟨0, 0, none⟩) 0 c = Value.slice (some ⟨0, 0, none⟩) 0 c ∧ Value.int .u16 x = Value.int .u16 x ∧ Value.int .u8 pr = Value.int .u8 pr ∧ Value.slice (some ⟨1, 0, none⟩) 0 0 = Value.slice (some ⟨1, 0, none⟩) 0 0 ∧ True) ∧ some (AObj.row [] 3 false false false) :: some (AObj.row [] 3 true true true) :: noH = some (AObj.row [] 3 false false false) :: some (AObj.row [] 3 true true true) :: noH) ∧ ∀ (s : Nat), Is (s = 0) → Is (rkIs l 0 x O oc 0 0 (IntKind.wrap .i64 x) (some (AObj.row [] 3 true true true) :: noH)) ∧ Is (false = false) ∧ Is True ∧ Is True ∧ K (Value.bool true) (some (AObj.row [] 3 false false false) :: noH)) := by kernel_rfl
theorem lgf_t (l : Ls) (x : Int) (pr : Int) (n : Nat) (c : Nat) (T : Heap) (K : Value → Heap → Prop) :
    (fnP Tryz.prog c0 (hsGj l n T false) (3 : FuncId) [Value.slice (some { block := (0 : Nat), off := (0 : Nat) }) n c, Value.int IntKind.u16 x, Value.int IntKind.u8 pr] (lsR l n :: T) K) =
    (Is (CiOK (some (AObj.row (lsC l n) 3 false false false) :: T) [Value.slice (some ⟨0, 0, none⟩) n c, Value.int .i64 3] (List.range (2 * n + 1)) [Value.slice (some ⟨0, 0, none⟩) n c, Value.int .i64 3] (some (AObj.row (lsC l n) 3 false false false) :: T) (Value.bool false) ∧ n = n ∧ jsGen l n c T false) ∧ Is True ∧ K (Value.bool true) (some (AObj.row (lsC l n) 3 false false false) :: T)) := by kernel_rfl
theorem lgt_t (l : Ls) (x : Int) (pr : Int) (n : Nat) (c : Nat) (T : Heap) (K : Value → Heap → Prop) :
    (fnP Tryz.prog c0 (hsGj l n T true) (3 : FuncId) [Value.slice (some { block := (0 : Nat), off := (0 : Nat) }) n c, Value.int IntKind.u16 x, Value.int IntKind.u8 pr] (lsR l n :: T) K) =
    (Is (CiOK (some (AObj.row (lsC l n) 3 false false false) :: T) [Value.slice (some ⟨0, 0, none⟩) n c, Value.int .i64 3] (List.range (2 * n + 1)) [Value.slice (some ⟨0, 0, none⟩) n c, Value.int .i64 3] (some (AObj.row (lsC l n) 3 false false false) :: T) (Value.bool true) ∧ n = n ∧ jsGen l n c T true) ∧ Is (decide ((10000 : Int) < x) = true) ∧ Is True ∧ K (Value.bool true) (some (AObj.row (lsC l n) 3 false false false) :: T)) := by kernel_rfl
end
end Qq
end
section
/- The law answers true. -/
open Go Go.Vm Go.Proofs Sp
namespace Qq
noncomputable section
theorem ls_arg3 (l : Ls) (n c : Nat) (y : Int) : [Value.slice (some ⟨0, 0, none⟩) n c, .int .i64 y].map (renV (pos (List.range (lsG l n).length)) 4) = [.slice (some ⟨0, 0, none⟩) n c, .int .i64 y] := by
  have h := ls_arg l n n c
  rw [List.map_cons, List.map_nil] at h
  rw [List.map_cons, (List.cons.inj h).1] <;> rfl
theorem ci_ls3 (l : Ls) (n c : Nat) (y : Int) {r : Value} (hr : atom r = true) : CiOK (lsR l n :: lsT l n) [Value.slice (some ⟨0, 0, none⟩) n c, .int .i64 y] (List.range (2 * n + 1)) [Value.slice (some ⟨0, 0, none⟩) n c, .int .i64 y] (lsR l n :: lsT l n) r := by
  have hc := ci_pre (X := []) (still_ls l n) (ls_arg3 l n c y) (ret := r) hr
  rw [List.append_nil, lsG_len] at hc
  exact hc
section
variable {l : Ls} {n c : Nat} {x pr : Int}
theorem lw_no (hj : SmallRes Tryz.prog 4 [.slice (some ⟨0, 0, none⟩) n c, .int .i64 3] (lsG l n) (.bool false) (lsG l n)) : SmallRes Tryz.prog 3 [.slice (some ⟨0, 0, none⟩) n c, .int .u16 x, .int .u8 pr] (lsG l n) (.bool true) (lsG l n) := by
  refine fnP_res hm c0_ok (hs := hsGj l n (lsT l n) false) ?_
  show fnP Tryz.prog c0 (hsGj l n (lsT l n) false) 3 _ (lsR l n :: lsT l n) _
  rw [lgf_t]
  exact ⟨⟨ci_ls3 l n c 3 rfl, rfl, hj⟩, ⟨trivial⟩, rfl, rfl⟩
theorem lw_far (hj : SmallRes Tryz.prog 4 [.slice (some ⟨0, 0, none⟩) n c, .int .i64 3] (lsG l n) (.bool true) (lsG l n)) (hx : 10000 < x) : SmallRes Tryz.prog 3 [.slice (some ⟨0, 0, none⟩) n c, .int .u16 x, .int .u8 pr] (lsG l n) (.bool true) (lsG l n) := by
  refine fnP_res hm c0_ok (hs := hsGj l n (lsT l n) true) ?_
  show fnP Tryz.prog c0 (hsGj l n (lsT l n) true) 3 _ (lsR l n :: lsT l n) _
  rw [lgt_t]
  exact ⟨⟨ci_ls3 l n c 3 rfl, rfl, hj⟩, ⟨decide_eq_true hx⟩, ⟨trivial⟩, rfl, rfl⟩
theorem lw_none (hj : SmallRes Tryz.prog 4 [.slice (some ⟨0, 0, none⟩) 0 c, .int .i64 3] (lsG l 0) (.bool true) (lsG l 0)) (hc : csE l 0 = 0) (hx : 0 ≤ x ∧ x ≤ 10000) : SmallRes Tryz.prog 3 [.slice (some ⟨0, 0, none⟩) 0 c, .int .u16 x, .int .u8 pr] (lsG l 0) (.bool true) (lsG l 0) := by
  refine fnP_res hm c0_ok (hs := hsJ0 l x pr id [] c) ?_
  rw [lw0_t]
  have hE : rkE l 0 x = 0 := by
    rw [← rkE_fi (by omega), hc, wi_in (n := x) (lo := 0) (hi := 100000) (by omega)] <;> rfl
  refine ⟨⟨hj⟩, ⟨decide_eq_false (by omega)⟩, ⟨(0 : Nat), ⟨rfl⟩, ?_, by first | trivial | rfl⟩, fun _ _ => ⟨⟨⟨rfl, rfl, W_in (by omega), rfl⟩, fun i hi => absurd hi (by omega), by omega, hE, rfl, rfl⟩, ⟨rfl⟩, ⟨trivial⟩, ⟨trivial⟩, rfl, rfl⟩⟩
  repeat (first | exact trivial | refine ⟨by first | trivial | rfl, ?_⟩)
theorem law3 (hs : okLs l n) (hx : 0 ≤ x) (hp : 0 ≤ pr ∧ pr ≤ 255) : SmallRes Tryz.prog 3 [.slice (some ⟨0, 0, none⟩) n c, .int .u16 x, .int .u8 pr] (lsG l n) (.bool true) (lsG l n) := by
  by_cases h3 : 3 < n
  · exact lw_no (js_big h3)
  have h3 : n ≤ 3 := by omega
  cases h : shL l n with
  | false => exact lw_no (js_short h3 hs h)
  | true =>
    have ht := (sh_lt hs h).1
    by_cases hc : csE l n = 0
    · have hj := js_ok (c := c) h3 hs ht h hc
      cases ha : jsA l n with
      | false => rw [ha] at hj; exact lw_no hj
      | true =>
        rw [ha] at hj
        by_cases hx2 : 10000 < x
        · exact lw_far hj hx2
        have hx2 : 0 ≤ x ∧ x ≤ 10000 := by omega
        by_cases h0 : n = 0
        · subst h0; exact lw_none hj hc hx2
        obtain ⟨O, oc, N, hr⟩ := jr_of (by omega) h3 ht hx2 hc
        match n, h0, h3, hr, hj with
        | 1, _, _, hr, hj => exact lw1_ok hr hp hj
        | 2, _, _, hr, hj => exact lw2_ok hr hp hj
        | 3, _, _, hr, hj => exact lw3_ok hr hp hj
        | 0, h0, _, _, _ => exact absurd rfl h0
        | n + 4, _, h3, _, _ => exact absurd h3 (by omega)
    · exact lw_no (js_bad h3 hs ht h hc)
end
end
end Qq
end
