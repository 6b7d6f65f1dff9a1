/- Parts of the proof: XP, XR, XQ. -/
import Derived.Test.YtkajlfaeecaegaaZAH
section
/- What the law asks: plain facts. -/
open Go Go.Vm Go.Proofs Sp
namespace Qq
noncomputable section
section
variable {L : Int} {ds : List Int} {m : Nat}
/-- Numbers of one byte, few threes of them. -/
structure okD (ds : List Int) (m : Nat) : Prop where
  len : ds.length = 3 * m
  lo : 1 ≤ m
  hi : m ≤ 12
  b : ∀ d ∈ ds, -128 ≤ d ∧ d ≤ 127
theorem okD.x (h : okD ds m) (p : Nat) : -128 ≤ dX ds p ∧ dX ds p ≤ 127 := by
  rw [dX, List.getD_eq_getElem?_getD]
  by_cases hp : p < ds.length
  · rw [List.getElem?_eq_getElem hp]; exact h.b _ (List.getElem_mem _)
  · rw [List.getElem?_eq_none (by omega)]; decide
theorem okD.okX (h : okD ds m) : okX 3 (dX ds) m := ⟨by decide, h.hi, h.x⟩
theorem okD.okXr (h : okD ds m) : Sp.okX 4 (dXr ds m) m := ⟨by decide, h.hi, fun p => h.x _⟩
theorem okD.ls (h : okD ds m) : okLs (sPs L ds m) 3 := by
  have hm := h.hi
  have hl : (sPs L ds m).length = (kl (kpB L) m).length := mkPs_len
  refine ⟨mkPs_ok h.okX, fun i hi => ?_, fun i hi => ?_, fun i hi => ?_, by decide⟩
  · rw [sPs, mkPs_at (by omega)]
    exact ⟨rfl, (sm_bits (h.x _).1 (h.x _).2).2.2.2, (sm_bits (h.x _).1 (h.x _).2).2.2.2, (sm_bits (h.x _).1 (h.x _).2).2.2.2⟩
  · rw [sPs, cAt_mk (by omega), cAt_mk (by omega)]
    have : kat (kpB L) m i < kat (kpB L) m (i + 1) := (kl_next m i (by omega)).1
    omega
  · rw [sPs, cAt_mk (by omega)]
    have := (kat_kp (kp := kpB L) (m := m) (i := i) (by omega)).1
    omega
theorem kat_all {i : Nat} (h : i < (kl (kpB L) m).length) : kat (kpr L m) m i = m - 1 - kat (kpB L) m ((kl (kpB L) m).length - 1 - i) := by
  have e := kl_turn (kpr_rev L m)
  have hl := kl_turn_len (kpr_rev L m)
  have h0 : ((kl (kpr L m) m).map (m - 1 - ·))[i]? = ((kl (kpB L) m).reverse)[i]? := by rw [e]
  rw [List.getElem?_map, List.getElem?_eq_getElem (by omega), List.getElem?_reverse h, List.getElem?_eq_getElem (by omega)] at h0
  have h0 : m - 1 - (kl (kpr L m) m)[i] = (kl (kpB L) m)[(kl (kpB L) m).length - 1 - i] := by simpa using h0
  have e1 : kat (kpr L m) m i = (kl (kpr L m) m)[i] := by rw [kat, List.getD_eq_getElem?_getD, List.getElem?_eq_getElem (by omega)]; rfl
  have e2 : kat (kpB L) m ((kl (kpB L) m).length - 1 - i) = (kl (kpB L) m)[(kl (kpB L) m).length - 1 - i] := by rw [kat, List.getD_eq_getElem?_getD, List.getElem?_eq_getElem (by omega)]; rfl
  have k1 := (kat_kp (kp := kpr L m) (m := m) (i := i) (by omega)).1
  rw [e1] at k1 ⊢
  rw [e2, ← h0]
  omega
/-- The readings of what is received. -/
theorem at_kR {s : Int} {kp : Nat → Bool} {X : Nat → Int} (h : Sp.okX s X m) {i j : Nat} (hj : j < sjN kp m i) : atR (sjX kp X m i) (sjH kp X m i) j = kR kp X (3 * kat kp m 0) j := by
  rw [atR, sjX, sjH, fxs_flts, ihs_ints]
  exact mk_back (kR_ok h _ _) hj
/-- Facts on a stream of which something comes. -/
structure Fc (L : Int) (m n f la : Nat) : Prop where
  en : n = (kl (kpB L) m).length
  pos : 0 < n
  ef : f = kat (kpB L) m 0
  el : la = kat (kpB L) m (n - 1)
  fl : f ≤ la
  lm : la < m
  sf : sjF (kpB L) m n = 3 * (f : Int)
  sn : sjN (kpB L) m n = 3 * (la + 1) - 3 * f
  rf : sjF (kpr L m) m n = 3 * ((m : Int) - 1 - la)
  rn : sjN (kpr L m) m n = 3 * (la + 1) - 3 * f
  k0 : kat (kpr L m) m 0 = m - 1 - la
theorem fc_of (h : 0 < (kl (kpB L) m).length) : Fc L m (kl (kpB L) m).length (kat (kpB L) m 0) (kat (kpB L) m ((kl (kpB L) m).length - 1)) := by
  have h1 := kat_up (kp := kpB L) (m := m) (i := (kl (kpB L) m).length - 1) (by omega)
  have h2 := (kat_kp (kp := kpB L) (m := m) (i := (kl (kpB L) m).length - 1) (by omega)).1
  have h3 := kat_all (L := L) (m := m) (i := 0) h
  have h4 := kat_all (L := L) (m := m) (i := (kl (kpB L) m).length - 1) (by omega)
  rw [Nat.sub_zero] at h3
  rw [Nat.sub_self] at h4
  refine ⟨rfl, h, rfl, rfl, by omega, h2, by rw [sjF, if_neg (by omega)], by rw [sjN, if_neg (by omega)], ?_, ?_, h3⟩
  · rw [sjF, if_neg (by omega), h3]; omega
  · rw [sjN, if_neg (by omega), h3, h4]; omega
/-- The run from the other end is the reversed one. -/
theorem rev_eq (hd : okD ds m) {n f la : Nat} (F : Fc L m n f la) :
    rvX (sjN (kpB L) m n) (sjX (kpB L) (dX ds) m n) (sjH (kpB L) (dX ds) m n) = sjX (kpr L m) (dXr ds m) m n ∧ rvH (sjN (kpB L) m n) (sjX (kpB L) (dX ds) m n) (sjH (kpB L) (dX ds) m n) = sjH (kpr L m) (dXr ds m) m n ∧
      rvK (sjN (kpB L) m n) (sjX (kpB L) (dX ds) m n) (sjH (kpB L) (dX ds) m n) = sjK (kpr L m) (dXr ds m) m n := by
  have h1 := F.fl
  have h2 := F.lm
  have ej : ∀ j, j < sjN (kpB L) m n → rvA (sjN (kpB L) m n) (rdF (fxs (sjX (kpB L) (dX ds) m n)) (knB (ihs (sjH (kpB L) (dX ds) m n)))) j = kR (kpr L m) (dXr ds m) (3 * kat (kpr L m) m 0) j := fun j hj => by
    have hn := F.sn
    rw [rvA]
    have := at_kR (kp := kpB L) hd.okX (i := n) (j := sjN (kpB L) m n - 1 - j) (by omega)
    rw [atR] at this
    rw [this, kR, kR, F.k0, ← F.ef, kpr, dXr]
    have e1 : m - 1 - (3 * (m - 1 - la) + j) / 3 = (3 * f + (sjN (kpB L) m n - 1 - j)) / 3 := by rw [hn] at hj ⊢; omega
    have e2 : 3 * m - 1 - (3 * (m - 1 - la) + j) = 3 * f + (sjN (kpB L) m n - 1 - j) := by rw [hn] at hj ⊢; omega
    rw [e1, e2]
  have en : sjN (kpr L m) m n = sjN (kpB L) m n := by rw [F.rn, F.sn]
  refine ⟨?_, ?_, ?_⟩
  · rw [rvX, mkX_congr ej, show sjX (kpr L m) (dXr ds m) m n = flts (mkX (kR (kpr L m) (dXr ds m) (3 * kat (kpr L m) m 0)) (sjN (kpr L m) m n)) from rfl, en]
  · rw [rvH, mkB_congr ej, show sjH (kpr L m) (dXr ds m) m n = ints (mkS (mkB (kR (kpr L m) (dXr ds m) (3 * kat (kpr L m) m 0))) (sjN (kpr L m) m n)) from rfl, en]
  · rw [rvK, mkK_congr ej, show sjK (kpr L m) (dXr ds m) m n = mkK (mkB (kR (kpr L m) (dXr ds m) (3 * kat (kpr L m) m 0))) (sjN (kpr L m) m n) from rfl, en]
/-- A sample of what is received. -/
theorem at_place (hd : okD ds m) {n f la s r : Nat} (F : Fc L m n f la) (h1 : f ≤ s) (h2 : s ≤ la) (hr : r < 3) :
    atB (sjX (kpB L) (dX ds) m n) (sjH (kpB L) (dX ds) m n) (3 * s + r - 3 * f) = kpB L s ∧ (kpB L s = true → atX (sjX (kpB L) (dX ds) m n) (sjH (kpB L) (dX ds) m n) (3 * s + r - 3 * f) = smO (dX ds (3 * s + r))) := by
  have hn := F.sn
  have hl := F.lm
  have e := at_kR (kp := kpB L) hd.okX (i := n) (j := 3 * s + r - 3 * f) (by rw [hn]; omega)
  rw [atB, atX, e, kR, ← F.ef, show 3 * f + (3 * s + r - 3 * f) = 3 * s + r by omega, show (3 * s + r) / 3 = s by omega]
  cases hk : kpB L s
  · exact ⟨rfl, fun h => by cases h⟩
  · exact ⟨rfl, fun _ => rfl⟩
end
end
end Qq
end
section
/- The law's loops: plain facts. -/
open Go Go.Vm Go.Proofs Sp
namespace Qq
noncomputable section
theorem land_one (x : Int) : land .u16 x 1 = 0 ∨ land .u16 x 1 = 1 := by
  have e2 : (BitVec.ofInt 16 (1 : Int)).toNat = 1 := rfl
  have e4 : land .u16 x 1 = ((BitVec.ofInt 16 x &&& BitVec.ofInt 16 (1 : Int)).toNat : Int) % 65536 := rfl
  rw [e4, BitVec.toNat_and, e2, Nat.and_one_is_mod]
  omega
theorem land_eq (x : Int) : (land .u16 x 1 == 1) = !(land .u16 x 1 == 0) := by
  rcases land_one x with h | h <;> rw [h] <;> rfl
section
variable {L : Int} {ds : List Int} {m : Nat}
theorem fs_yes {i : Nat} (h : kpB L i = true) : fsI L (i + 1) = (if fsI L i < 0 then (i : Int) else fsI L i) ∧ laI L (i + 1) = i := by
  have e : kl (kpB L) (i + 1) = kl (kpB L) i ++ [i] := by rw [kl, if_pos h]
  have hl : (kl (kpB L) (i + 1)).length = (kl (kpB L) i).length + 1 := by rw [e, List.length_append]; rfl
  refine ⟨?_, ?_⟩
  · rw [fsI, fsI, if_neg (by omega)]
    by_cases h0 : (kl (kpB L) i).length = 0
    · have : kl (kpB L) i = [] := List.eq_nil_of_length_eq_zero h0
      rw [if_pos h0, if_pos (by decide), kat, e, this]; rfl
    · rw [if_neg h0, if_neg (by omega)]
      have : kat (kpB L) (i + 1) 0 = kat (kpB L) i 0 := by
        rw [kat, kat, e, List.getD_eq_getElem?_getD, List.getD_eq_getElem?_getD, List.getElem?_append_left (by omega)]
      rw [this]
  · rw [laI, if_neg (by omega)]
    have : kat (kpB L) (i + 1) ((kl (kpB L) (i + 1)).length - 1) = i := by
      rw [kat, hl, e, List.getD_eq_getElem?_getD, List.getElem?_append_right (by omega)]
      simp
    rw [this]
theorem fs_no {i : Nat} (h : kpB L i = false) : fsI L (i + 1) = fsI L i ∧ laI L (i + 1) = laI L i := by
  have e : kl (kpB L) (i + 1) = kl (kpB L) i := by rw [kl, h]; rfl
  refine ⟨?_, ?_⟩
  · rw [fsI, fsI, kat, kat, e]
  · rw [laI, laI, kat, kat, e]
theorem fs_neg {i : Nat} : fsI L i < 0 ↔ (kl (kpB L) i).length = 0 := by
  rw [fsI]
  by_cases h0 : (kl (kpB L) i).length = 0
  · rw [if_pos h0]; exact ⟨fun _ => h0, fun _ => by decide⟩
  · rw [if_neg h0]; exact ⟨fun h => by omega, fun h => absurd h h0⟩
theorem i8s_len : (i8s ds).length = ds.length := List.length_map ..
theorem i8_ld {s : Nat} (hl : ds.length = 3 * m) (h : s < m) : (if 0 + s * 3 + 3 ≤ (i8s ds).length then some (Value.agg (((i8s ds).drop (0 + s * 3)).take 3).toArray) else none) = some (gD3 ds (0 + s * 3)) := by
  rw [i8s_len, if_pos (by omega), gD3, dA, dA, dA]
  have e : ((i8s ds).drop (0 + s * 3)).take 3 = [.int .i8 (ds.getD (0 + s * 3 + 0) 0), .int .i8 (ds.getD (0 + s * 3 + 1) 0), .int .i8 (ds.getD (0 + s * 3 + 2) 0)] := by
    apply List.ext_getElem
    · rw [List.length_take, List.length_drop, i8s_len]; simp only [List.length_cons, List.length_nil]; omega
    · intro k h1 h2
      have hk : k < 3 := by simpa using h2
      rw [List.getElem_take, List.getElem_drop]
      have eg : ∀ k, (h : 0 + s * 3 + k < ds.length) → (i8s ds)[0 + s * 3 + k]'(by rw [i8s_len]; exact h) = .int .i8 (ds.getD (0 + s * 3 + k) 0) := fun k h => by
        simp only [i8s, List.getElem_map]
        rw [List.getD_eq_getElem?_getD, List.getElem?_eq_getElem h]; rfl
      match k, hk with
      | 0, _ => exact eg 0 (by omega)
      | 1, _ => exact eg 1 (by omega)
      | 2, _ => exact eg 2 (by omega)
  rw [e]
theorem dA_at {s k : Nat} : dA ds (0 + s * 3) k = dX ds (3 * s + k) := by rw [dA, dX, show 0 + s * 3 + k = 3 * s + k by omega]
theorem wX_len {s : Nat} (hl : ds.length = 3 * m) (h : s ≤ m) : (wX ds s).length = 3 * s := by
  rw [wX, flts_len, List.length_map, List.length_take]; omega
theorem wX_succ {s : Nat} (hl : ds.length = 3 * m) (h : s < m) : wX ds (s + 1) = wX ds s ++ [.float .f32 (smO (dX ds (3 * s))), .float .f32 (smO (dX ds (3 * s + 1))), .float .f32 (smO (dX ds (3 * s + 2)))] := by
  have e : ds.take (3 * (s + 1)) = ds.take (3 * s) ++ [dX ds (3 * s), dX ds (3 * s + 1), dX ds (3 * s + 2)] := by
    have t1 : ∀ k, k < ds.length → ds.take (k + 1) = ds.take k ++ [dX ds k] := fun k hk => by
      rw [List.take_add_one, List.getElem?_eq_getElem hk, dX, List.getD_eq_getElem?_getD, List.getElem?_eq_getElem hk]; rfl
    rw [show 3 * (s + 1) = 3 * s + 1 + 1 + 1 by omega, t1 _ (by omega), t1 _ (by omega), t1 _ (by omega)]
    simp
  rw [wX, e, List.map_append, flts, List.map_append]; rfl
theorem wX_at {j : Nat} (hl : ds.length = 3 * m) (h : j < 3 * m) : (wX ds m)[j]? = some (.float .f32 (smO (ds.getD j 0))) := by
  rw [wX, List.take_of_length_le (by omega), flts, List.getElem?_map, List.getElem?_map, List.getElem?_eq_getElem (by omega), List.getD_eq_getElem?_getD, List.getElem?_eq_getElem (by omega)]; rfl
theorem st_succ {i : Nat} (h : kpB L i = true) : stN L ds (i + 1) = stN L ds i + 20 ∧ stB L ds (i + 1) = stB L ds i ++ bys (frm ⟨3, (i : Int), smO (dX ds (3 * i)), smO (dX ds (3 * i + 1)), smO (dX ds (3 * i + 2))⟩) := by
  refine ⟨?_, ?_⟩
  · rw [stN, stN, sPs_succ, if_pos h, List.length_append]
    simp only [List.length_cons, List.length_nil]; omega
  · rw [stB, stB, sPs_succ, if_pos h, frs_app, frs_one, bys_app]
theorem st_sme {i : Nat} (h : kpB L i = false) : stN L ds (i + 1) = stN L ds i ∧ stB L ds (i + 1) = stB L ds i := by
  rw [stN, stN, stB, stB, sPs_succ, h]; exact ⟨rfl, rfl⟩
theorem bk_succ {i : Nat} (h : kpB L i = true) : bkN L ds m (i + 1) = 20 + bkN L ds m i ∧ bkB L ds m (i + 1) = bys (frm ⟨4, (m : Int) - 1 - (i : Int), smO (dX ds (3 * i + 2)), smO (dX ds (3 * i + 1)), smO (dX ds (3 * i))⟩) ++ bkB L ds m i := by
  refine ⟨?_, ?_⟩
  · rw [bkN, bkN, bPs_succ, if_pos h, List.length_cons]; omega
  · rw [bkB, bkB, bPs_succ, if_pos h, frs, List.flatMap_cons, bys_app]; rfl
theorem bk_same {i : Nat} (h : kpB L i = false) : bkN L ds m (i + 1) = bkN L ds m i ∧ bkB L ds m (i + 1) = bkB L ds m i := by
  rw [bkN, bkN, bkB, bkB, bPs_succ, h]; exact ⟨rfl, rfl⟩
theorem st_len {i : Nat} : (stB L ds i).length = stN L ds i := by rw [stB, bys_len, frs_len, stN]
theorem bk_len {i : Nat} : (bkB L ds m i).length = bkN L ds m i := by rw [bkB, bys_len, frs_len, bkN]
theorem bys_atom (l : List Int) : ∀ v ∈ bys l, atom v = true := fun v hv => by
  rw [bys] at hv
  obtain ⟨b, _, rfl⟩ := List.mem_map.1 hv
  rfl
theorem bkN_nil {i : Nat} (h : bkN L ds m i = 0) : bkB L ds m i = [] := List.eq_nil_of_length_eq_zero (by rw [bk_len, h])
theorem few_s {i : Nat} (h : i ≤ 12) : stN L ds i ≤ 240 ∧ bkN L ds m i ≤ 240 := by
  have h1 : (sPs L ds i).length ≤ i := by rw [sPs, mkPs_len]; exact kl_len i
  have h2 : (bPs L ds m i).length ≤ i := by rw [bPs, List.length_map, List.length_reverse]; exact kl_len i
  rw [stN, bkN]; omega
end
end
end Qq
end
section
/- The law of packets that are sent: it answers true. -/
open Go Go.Vm Go.Proofs Sp
namespace Qq
noncomputable section
set_option maxRecDepth 100000 in
set_option maxHeartbeats 8000000 in
theorem law3 {ds : List Int} {m c : Nat} {L : Int} (hl : ds.length = 3 * m) (hb : ∀ d ∈ ds, -128 ≤ d ∧ d ≤ 127) : SmallRes Try.prog 3 [.slice (some ⟨0, 0, none⟩) m c, .int .u16 L] [dr ds] (.bool true) [dr ds] := by
  refine fnP_res hm c0_ok (hs := hsLw ds m c L (kat (kpB L) m 0) (0 < (kl (kpB L) m).length)) ?_
  show fnP Try.prog c0 _ 3 _ _ _
  rw [sentL_t]
  refine br_of (fun _ => ⟨⟨trivial⟩, rfl, rfl⟩) (fun h1 => br_of (fun _ => ⟨⟨trivial⟩, rfl, rfl⟩) (fun h12 => ?_))
  have h1 : 1 ≤ m := by have := of_decide_eq_false h1; omega
  have h12 : m ≤ 12 := by have := of_decide_eq_false h12; omega
  have hd : okD ds m := ⟨hl, h1, h12, hb⟩
  refine ⟨⟨(0 : Nat), ⟨rfl, trivial⟩, by (repeat' refine And.intro ?_ ?_) <;> first | exact rfl | trivial, by (repeat' refine And.intro ?_ ?_) <;> first | exact rfl | trivial⟩, fun _ _ => ?_⟩
  refine ⟨⟨⟨(0 : Nat), ⟨Nat.zero_le _⟩, by (repeat' refine And.intro ?_ ?_) <;> first | exact rfl | trivial, by (repeat' refine And.intro ?_ ?_) <;> first | exact rfl | trivial⟩, fun s hs => br_of (fun hc => ?_) (fun hc => ?_)⟩, fun _ _ => ?_⟩
  · have hc := lt_of_dec hc
    have hld := i8_ld hl hc
    rw [gD3] at hld
    have x0 := hd.x (3 * s)
    have x1 := hd.x (3 * s + 1)
    have x2 := hd.x (3 * s + 2)
    have w : IntKind.wrap .i64 (IntKind.wrap .i64 ((m : Int) - 1) - (s : Int)) = (m : Int) - 1 - s := by rw [wrap_eq (x := (m : Int) - 1) (by omega) (by omega), wrap_eq (by omega) (by omega)]
    have d0 : dA ds (0 + s * 3) 0 = dX ds (3 * s) := dA_at
    have d1 : dA ds (0 + s * 3) 1 = dX ds (3 * s + 1) := dA_at
    have d2 : dA ds (0 + s * 3) 2 = dX ds (3 * s + 2) := dA_at
    obtain ⟨f1, f2⟩ := few_s (L := L) (ds := ds) (m := m) (i := s) (by omega)
    simp only [Int.toNat_natCast]
    rw [d0, d1, d2] at hld
    rw [d0, d1, d2, w]
    refine ⟨⟨by omega, by omega⟩, ⟨hld⟩, ⟨trivial⟩, ⟨(Fl.sm_ok (by omega)).1⟩, ⟨trivial⟩, ⟨(Fl.sm_ok (by omega)).1⟩, ⟨trivial⟩, ⟨(Fl.sm_ok (by omega)).1⟩, ⟨by rw [wX_len hl (by omega)]; omega, by omega, by omega⟩, ⟨sm_pkt (by decide) (by omega) x0 x1 x2⟩, ⟨sm_pkt (by decide) (by omega) x2 x1 x0⟩, ⟨by omega⟩, ⟨trivial⟩, br_of (fun hk => ?_) (fun hk => ?_)⟩
    · have hk : kpB L s = true := hk
      obtain ⟨s1, s2⟩ := st_succ (ds := ds) hk
      obtain ⟨b1, b2⟩ := bk_succ (ds := ds) (m := m) hk
      refine ⟨⟨by rw [st_len]; omega, by omega, by omega⟩, br_of (fun h0 => ?_) (fun h0 => ?_)⟩
      · have h0 := Nat.eq_of_beq_eq_true h0
        refine ⟨s + 1, ⟨hc⟩, ⟨by omega⟩, by rw [s1, b1, h0, up1 hc (by omega)]; ((repeat' refine And.intro ?_ ?_) <;> first | exact rfl | trivial), ?_⟩
        rw [wX_succ hl hc, s2, b2, bkN_nil h0, List.append_nil]; rfl
      · have h0 : bkN L ds m s ≠ 0 := fun e => by rw [e] at h0; cases h0
        refine ⟨⟨by omega, trivial, by rw [bk_len]; omega, by rw [bkB]; exact bys_atom _, by omega, by omega⟩, s + 1, ⟨hc⟩, ⟨by omega⟩, by rw [s1, b1, up1 hc (by omega)]; ((repeat' refine And.intro ?_ ?_) <;> first | exact rfl | trivial), ?_⟩
        rw [wX_succ hl hc, s2, b2]; rfl
    · have hk : kpB L s = false := hk
      obtain ⟨s1, s2⟩ := st_sme (ds := ds) hk
      obtain ⟨b1, b2⟩ := bk_same (ds := ds) (m := m) hk
      refine ⟨s + 1, ⟨hc⟩, ⟨by omega⟩, by rw [s1, b1, up1 hc (by omega)]; ((repeat' refine And.intro ?_ ?_) <;> first | exact rfl | trivial), ?_⟩
      rw [wX_succ hl hc, s2, b2]; rfl
  · have hc := ge_of_dec hc
    have : m = s := by have := hs.out; omega
    subst this
    exact ⟨(0 : Nat), ⟨rfl, trivial⟩, by (repeat' refine And.intro ?_ ?_) <;> first | exact rfl | trivial, by (repeat' refine And.intro ?_ ?_) <;> first | exact rfl | trivial⟩
  obtain ⟨f1, f2⟩ := few_s (L := L) (ds := ds) (m := m) (i := m) (by omega)
  have hps := mkPs_ok (kp := kpB L) hd.okX
  have hls := hd.ls (L := L)
  have hcn := cnt_eq L ds m
  have hcr := cntr_eq L ds m
  refine ⟨⟨rfl, rfl, hd.okX⟩, ⟨by rw [bkN, bPs_eq], by rw [bkB, bPs_eq], hd.okXr⟩, ⟨(0 : Nat), ⟨rfl, trivial⟩, by (repeat' refine And.intro ?_ ?_) <;> first | exact rfl | trivial, by (repeat' refine And.intro ?_ ?_) <;> first | exact rfl | trivial⟩, fun _ _ => ?_⟩
  refine ⟨⟨by rw [st_len]; omega, by rw [stB]; exact bys_atom _, by omega, by omega⟩, ⟨rfl, rfl, hps⟩, ⟨rfl, rfl, hls⟩, ⟨(0 : Nat), ⟨rfl, trivial⟩, by (repeat' refine And.intro ?_ ?_) <;> first | exact rfl | trivial, by (repeat' refine And.intro ?_ ?_) <;> first | exact rfl | trivial⟩, fun _ _ => ?_⟩
  refine ⟨⟨(0 : Nat), ⟨Nat.zero_le _⟩, by (repeat' refine And.intro ?_ ?_) <;> first | exact rfl | trivial, by (repeat' refine And.intro ?_ ?_) <;> first | exact rfl | trivial⟩, fun s hs => br_of (fun hc => ?_) (fun hc => ?_)⟩
  · have hc := lt_of_dec hc
    refine ⟨⟨by omega⟩, ⟨trivial⟩, br_of (fun hk => ?_) (fun hk => ?_)⟩
    · have hk : kpB L s = true := hk
      obtain ⟨q1, q2⟩ := fs_yes hk
      refine br_of (fun hf => ?_) (fun hf => ?_)
      · rw [if_pos (of_decide_eq_true hf)] at q1
        exact ⟨s + 1, ⟨hc⟩, ⟨by omega⟩, by rw [q1, q2, up1 hc (by omega)]; ((repeat' refine And.intro ?_ ?_) <;> first | exact rfl | trivial), by (repeat' refine And.intro ?_ ?_) <;> first | exact rfl | trivial⟩
      · rw [if_neg (of_decide_eq_false hf)] at q1
        exact ⟨s + 1, ⟨hc⟩, ⟨by omega⟩, by rw [q1, q2, up1 hc (by omega)]; ((repeat' refine And.intro ?_ ?_) <;> first | exact rfl | trivial), by (repeat' refine And.intro ?_ ?_) <;> first | exact rfl | trivial⟩
    · have hk : kpB L s = false := hk
      obtain ⟨q1, q2⟩ := fs_no hk
      exact ⟨s + 1, ⟨hc⟩, ⟨by omega⟩, by rw [q1, q2, up1 hc (by omega)]; ((repeat' refine And.intro ?_ ?_) <;> first | exact rfl | trivial), by (repeat' refine And.intro ?_ ?_) <;> first | exact rfl | trivial⟩
  have hc := ge_of_dec hc
  have : m = s := by have := hs.out; omega
  subst this
  refine br_of (fun hf => ?_) (fun hf => ?_)
  · have h0 := fs_neg.1 (of_decide_eq_true hf)
    have e1 : cnt L ds m = 0 := by rw [hcn, h0]
    have e2 : cntr L ds m = 0 := by rw [hcr, e1]
    rw [e1, e2]
    exact br_of (fun _ => br_of (fun _ => br_of (fun _ => ⟨⟨trivial⟩, rfl, rfl⟩) (fun h => by cases h)) (fun h => by cases h)) (fun h => by cases h)
  have hp : 0 < (kl (kpB L) m).length := by
    have := of_decide_eq_false hf
    rw [fs_neg] at this; omega
  have F := fc_of hp
  obtain ⟨n, hn⟩ : ∃ n, n = (kl (kpB L) m).length := ⟨_, rfl⟩
  obtain ⟨f, hf0⟩ : ∃ f, f = kat (kpB L) m 0 := ⟨_, rfl⟩
  obtain ⟨la, hla⟩ : ∃ la, la = kat (kpB L) m ((kl (kpB L) m).length - 1) := ⟨_, rfl⟩
  have efs : fsI L m = f := by rw [fsI, if_neg (by omega), hf0]
  have ela : laI L m = la := by rw [laI, if_neg (by omega), hla]
  rw [← hf0, ← hla, ← hn] at F
  have hcn : cnt L ds m = n := hcn.trans hn.symm
  have hcr : cntr L ds m = n := hcr.trans hcn
  have F1 := F.fl
  have F2 := F.lm
  have F3 := F.sf
  have F4 := F.sn
  have F5 := F.rf
  have F6 := F.rn
  have wf : IntKind.wrap .i64 (3 * (f : Int)) = 3 * (f : Int) := wrap_eq (by omega) (by omega)
  have wl : IntKind.wrap .i64 (3 * IntKind.wrap .i64 (IntKind.wrap .i64 ((la : Int) + 1) - (f : Int))) = 3 * ((la : Int) + 1 - f) := by
    rw [wrap_eq (x := (la : Int) + 1) (by omega) (by omega), wrap_eq (x := (la : Int) + 1 - f) (by omega) (by omega), wrap_eq (by omega) (by omega)]
  simp only [hcn, hcr, efs, ela, ← hf0]
  have hr := sj_run (kp := kpB L) hd.okX (i := n) (by omega)
  refine br_of (fun h => ?_) (fun _ => br_of (fun h => ?_) (fun _ => ⟨⟨(0 : Nat), ⟨rfl, hp⟩, by (repeat' refine And.intro ?_ ?_) <;> first | exact rfl | trivial, by (repeat' refine And.intro ?_ ?_) <;> first | exact rfl | trivial⟩, fun _ _ => ?_⟩))
  · rw [F3, wf] at h; simp at h
  · rw [F4, wl] at h
    have : ((3 * (la + 1) - 3 * f : Nat) : Int) = 3 * ((la : Int) + 1 - f) := by omega
    rw [this] at h; simp at h
  have hrr := sj_run (kp := kpr L m) hd.okXr (i := n) (by rw [hn, kl_turn_len (kpr_rev L m)]; omega)
  have w0 : wnt L f f = [] := wnt_low L f f (Nat.le_refl _)
  have w00 : wnN L f f = 0 := by rw [wnN, w0]; rfl
  have w9 : ∀ s, wnN L f s ≤ s := fun s => by
    rw [wnN, wnt, List.length_map]
    exact Nat.le_trans (List.length_filter_le _ _) (by rw [List.length_range]; omega)
  refine ⟨⟨⟨f, ⟨⟨Nat.le_refl _, by omega⟩, hp⟩, by rw [w00]; ((repeat' refine And.intro ?_ ?_) <;> first | exact rfl | trivial), by rw [w0]; ((repeat' refine And.intro ?_ ?_) <;> first | exact rfl | trivial)⟩, fun s hs => br_of (fun hc => ?_) (fun hc => ?_)⟩, fun _ _ => ?_⟩
  · have hc := of_decide_eq_true hc
    have hs1 : f ≤ s := hs.out.1.1
    have w3 : IntKind.wrap .i64 (3 * (s : Int)) = 3 * (s : Int) := wrap_eq (by omega) (by omega)
    have w4 : IntKind.wrap .i64 (3 * (s : Int) + 3) = 3 * (s : Int) + 3 := wrap_eq (by omega) (by omega)
    have w5 : IntKind.wrap .i64 ((s : Int) + 1) = ((s + 1 : Nat) : Int) := (wrap_eq (by omega) (by omega)).trans (by omega)
    have w6 : IntKind.wrap .i64 (3 * (s : Int)) = 3 * (s : Int) + ((0 : Nat) : Int) := w3.trans (by omega)
    refine ⟨⟨by omega⟩, ⟨trivial⟩, br_of (fun hk => ?_) (fun hk => ?_)⟩
    · rw [land_eq] at hk
      have hk : kpB L s = false := by have : (!kpB L s) = true := hk; cases h : kpB L s; rfl; rw [h] at this; cases this
      have u1 : wnt L f (s + 1) = wnt L f s ++ [(s : Int)] := by rw [wnt_succ, hk, decide_eq_true hs1]; rfl
      have u2 : wnN L f (s + 1) = wnN L f s + 1 := by rw [wnN, u1, List.length_append]; rfl
      have u1m : ints (wnt L f (s + 1)) = ints (wnt L f s) ++ [.int .i64 (s : Int)] := by rw [u1, ints, ints, List.map_append]; rfl
      have u3 := w9 s
      refine ⟨⟨by rw [ints, List.length_map, wnN]; omega, by omega, by omega⟩, s, ⟨0, ⟨⟨⟨hs1, hc⟩, hp⟩, by omega⟩, by rw [u2, w6]; ((repeat' refine And.intro ?_ ?_) <;> first | exact rfl | trivial), by rw [u1m]; ((repeat' refine And.intro ?_ ?_) <;> first | exact rfl | trivial)⟩, fun r hq => br_of (fun hj => ?_) (fun hj => ?_)⟩
      · have hj := of_decide_eq_true hj
        rw [w3, w4] at hj
        have hr3 : r < 3 := by omega
        have et : (3 * (s : Int) + (r : Int) - sjF (kpB L) m n).toNat = 3 * s + r - 3 * f := by rw [F3]; omega
        have ej : 0 + (3 * (s : Int) + (r : Int)).toNat * 1 = 3 * s + r := by omega
        have ew : IntKind.wrap .i64 (3 * (s : Int) + (r : Int) + 1) = 3 * (s : Int) + ((r + 1 : Nat) : Int) := (wrap_eq (by omega) (by omega)).trans (by omega)
        obtain ⟨p1, p2⟩ := at_place hd F hs1 (show s ≤ la by omega) hr3
        rw [et, p1, ej]
        refine ⟨⟨hr.1⟩, ⟨hr, by omega, by omega⟩, ⟨by omega⟩, ⟨trivial⟩, br_of (fun h => ?_) (fun _ => br_of (fun hb => ?_) (fun hb => ?_))⟩
        · have h : (!kpB L s == kpB L s) = true := h
          rw [hk] at h; cases h
        · have xb := hd.x (3 * s + r)
          have hz := (Fl.lev_sm (n := dX ds (3 * s + r)) (by omega)).2
          refine ⟨⟨by omega, by omega⟩, ⟨wX_at hl (by omega)⟩, ⟨trivial⟩, br_of (fun h => ?_) (fun _ => ⟨r + 1, ⟨⟨⟨hs1, hc⟩, hp⟩, by omega⟩, ⟨by omega⟩, by rw [ew]; ((repeat' refine And.intro ?_ ?_) <;> first | exact rfl | trivial), by (repeat' refine And.intro ?_ ?_) <;> first | exact rfl | trivial⟩)⟩
          rw [p2 hb] at h
          have h : fNe (smO (dX ds (3 * s + r))) (smO (dX ds (3 * s + r))) = true := h
          rw [Fl.ne_lev (Fl.smp hz) (Fl.smp hz)] at h
          exact absurd rfl (of_decide_eq_true h)
        · exact ⟨r + 1, ⟨⟨⟨hs1, hc⟩, hp⟩, by omega⟩, ⟨by omega⟩, by rw [ew]; ((repeat' refine And.intro ?_ ?_) <;> first | exact rfl | trivial), by (repeat' refine And.intro ?_ ?_) <;> first | exact rfl | trivial⟩
      · have hj := of_decide_eq_false hj
        rw [w3, w4] at hj
        exact ⟨s + 1, ⟨⟨by omega, by omega⟩, hp⟩, ⟨by omega⟩, by rw [w5]; ((repeat' refine And.intro ?_ ?_) <;> first | exact rfl | trivial), by (repeat' refine And.intro ?_ ?_) <;> first | exact rfl | trivial⟩
    · rw [land_eq] at hk
      have hk : kpB L s = true := by have : (!kpB L s) = false := hk; cases h : kpB L s; rw [h] at this; cases this; rfl
      have u1 : wnt L f (s + 1) = wnt L f s := by rw [wnt_succ, hk]; simp
      have u2 : wnN L f (s + 1) = wnN L f s := by rw [wnN, u1, wnN]
      refine ⟨s, ⟨0, ⟨⟨⟨hs1, hc⟩, hp⟩, by omega⟩, by rw [u2, w6]; ((repeat' refine And.intro ?_ ?_) <;> first | exact rfl | trivial), by rw [u1]⟩, fun r hq => br_of (fun hj => ?_) (fun hj => ?_)⟩
      · have hj := of_decide_eq_true hj
        rw [w3, w4] at hj
        have hr3 : r < 3 := by omega
        have et : (3 * (s : Int) + (r : Int) - sjF (kpB L) m n).toNat = 3 * s + r - 3 * f := by rw [F3]; omega
        have ej : 0 + (3 * (s : Int) + (r : Int)).toNat * 1 = 3 * s + r := by omega
        have ew : IntKind.wrap .i64 (3 * (s : Int) + (r : Int) + 1) = 3 * (s : Int) + ((r + 1 : Nat) : Int) := (wrap_eq (by omega) (by omega)).trans (by omega)
        obtain ⟨p1, p2⟩ := at_place hd F hs1 (show s ≤ la by omega) hr3
        rw [et, p1, ej]
        refine ⟨⟨hr.1⟩, ⟨hr, by omega, by omega⟩, ⟨by omega⟩, ⟨trivial⟩, br_of (fun h => ?_) (fun _ => br_of (fun hb => ?_) (fun hb => ?_))⟩
        · have h : (!kpB L s == kpB L s) = true := h
          rw [hk] at h; cases h
        · have xb := hd.x (3 * s + r)
          have hz := (Fl.lev_sm (n := dX ds (3 * s + r)) (by omega)).2
          refine ⟨⟨by omega, by omega⟩, ⟨wX_at hl (by omega)⟩, ⟨trivial⟩, br_of (fun h => ?_) (fun _ => ⟨r + 1, ⟨⟨⟨hs1, hc⟩, hp⟩, by omega⟩, ⟨by omega⟩, by rw [ew]; ((repeat' refine And.intro ?_ ?_) <;> first | exact rfl | trivial), by (repeat' refine And.intro ?_ ?_) <;> first | exact rfl | trivial⟩)⟩
          rw [p2 hb] at h
          have h : fNe (smO (dX ds (3 * s + r))) (smO (dX ds (3 * s + r))) = true := h
          rw [Fl.ne_lev (Fl.smp hz) (Fl.smp hz)] at h
          exact absurd rfl (of_decide_eq_true h)
        · exact ⟨r + 1, ⟨⟨⟨hs1, hc⟩, hp⟩, by omega⟩, ⟨by omega⟩, by rw [ew]; ((repeat' refine And.intro ?_ ?_) <;> first | exact rfl | trivial), by (repeat' refine And.intro ?_ ?_) <;> first | exact rfl | trivial⟩
      · have hj := of_decide_eq_false hj
        rw [w3, w4] at hj
        exact ⟨s + 1, ⟨⟨by omega, by omega⟩, hp⟩, ⟨by omega⟩, by rw [w5]; ((repeat' refine And.intro ?_ ?_) <;> first | exact rfl | trivial), by (repeat' refine And.intro ?_ ?_) <;> first | exact rfl | trivial⟩
  · have hc := of_decide_eq_false hc
    have e1 : ((la : Int) + 1).toNat = s := by have := hs.out.1.2; omega
    exact ⟨(0 : Nat), ⟨rfl, hp⟩, by rw [e1]; ((repeat' refine And.intro ?_ ?_) <;> first | exact rfl | trivial), by rw [e1]⟩
  have e1 : ((la : Int) + 1).toNat = la + 1 := by omega
  have eW : lsN (sPs L ds m) n = wnt L f (la + 1) := by
    have := lsN_wnt (L := L) (ds := ds) (m := m) (n - 1) (by omega)
    rw [show n - 1 + 1 = n by omega, ← hf0] at this
    rw [this, hla, hn]
  have u3 := w9 (la + 1)
  obtain ⟨v1, v2, v3⟩ := rev_eq hd F
  rw [e1, v1, v2, v3]
  refine ⟨⟨hr.1⟩, ⟨hr⟩, ⟨by rw [eW], by rw [wnN, lnN, eW], by rw [ihs_ints], by rw [ihs_ints]; rfl, by rw [lnN, eW]; show wnN L f (la + 1) ≤ 100000; omega⟩, ⟨by first | trivial | rfl, by rw [F6, F4], ?_, ?_, hr.1.2.2.2.1, ?_⟩, ⟨by first | trivial | rfl, by first | trivial | rfl, hrr.1.2.2.2.2.2, ⟨_, hrr.1.2.1, hrr.1.2.2.2.2.1⟩⟩, br_of (fun _ => ⟨⟨trivial⟩, by first | trivial | rfl, by first | trivial | rfl⟩) (fun h => ?_)⟩
  · rw [sjX, fxs_flts]
  · rw [sjX, fxs_flts, mkX_len, F6, F4]
  · rw [sjX, fxs_flts]; exact mkX_fi (fun i h => (kR_ok hd.okXr _ _).few i h)
  · rw [F5, wrap_eq (x := (m : Int) - 1) (by omega) (by omega), wrap_eq (x := (m : Int) - 1 - la) (by omega) (by omega), wrap_eq (by omega) (by omega)] at h
    simp at h
end
end Qq
end
