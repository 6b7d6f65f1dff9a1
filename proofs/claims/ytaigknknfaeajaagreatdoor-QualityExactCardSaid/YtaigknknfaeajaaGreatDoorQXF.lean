/- The law about exact lines. -/
import Derived.Test.YtaigknknfaeajaaGreatDoorQXC
import Derived.Test.YtaigknknfaeajaaGreatDoorQXE
open Go Go.Vm Go.Proofs Sp
namespace Qq
noncomputable section
theorem st_first (zs : List Int) (ks : List (Int × ByteArray)) (n k : Nat) : sttN zs ks n k 0 = 0 := by
  rw [sttN, if_pos (Nat.zero_le _)]; rfl
theorem st_at {zs : List Int} {ks : List (Int × ByteArray)} {n k j : Nat} (h : j ≤ k) : sttN zs ks n k j = frm zs ks j := if_pos h
theorem st_next {zs : List Int} {ks : List (Int × ByteArray)} {n k j : Nat} (h : j ≤ k) : sttN zs ks n k (j + 1) = upto zs ks n k j := by
  by_cases hk : j < k
  · rw [sttN, if_pos (by omega), upto, if_pos hk]
  · rw [sttN, if_neg (by omega), upto, if_neg hk]
theorem mx_form {p : Nat} (h0 : 0 < p) (h : p ≤ 1000) : (if IntKind.wrap .i64 ((p : Int) - 1) > 0 then IntKind.wrap .i64 ((p : Int) - 1) else 0) = ((p - 1 : Nat) : Int) := by
  rw [wrap_eq (by omega) (by omega)]
  split <;> omega
theorem mn_form {p k : Nat} (h : p < k) (hk : k ≤ 1000) : (if IntKind.wrap .i64 ((k : Int) - 1) < (p : Int) then IntKind.wrap .i64 ((k : Int) - 1) else (p : Int)) = (p : Int) := by
  rw [wrap_eq (by omega) (by omega), if_neg (by omega)]
theorem ldz {zs : List Int} {i : Nat} (h : i + 2 ≤ zs.length) : (if i + 2 ≤ (ints zs).length then some (Value.agg (List.toArray (List.take 2 (List.drop i (ints zs))))) else none) =
    some (.agg #[.int .i64 (zs.getD i 0), .int .i64 (zs.getD (i + 1) 0)]) := by
  rw [ints_len, if_pos h, ints_pair h]
theorem dy_form {zs : List Int} {ks : List (Int × ByteArray)} {j : Nat} {x0 : Int} (z0 : 0 ≤ p0D zs ks (j : Int)) (z1 : p0D zs ks (j : Int) ≤ 100000) (h0 : 0 ≤ x0) (h1 : x0 < 65536) :
    (if 99999 < IntKind.wrap .i64 (gz 0 (p0D zs ks (j : Int)) + Int.tmod (IntKind.wrap .i64 x0) 1001) then 99999 else IntKind.wrap .i64 (gz 0 (p0D zs ks (j : Int)) + Int.tmod (IntKind.wrap .i64 x0) 1001)) = dyX zs ks j x0 ∧
      0 ≤ dyX zs ks j x0 ∧ dyX zs ks j x0 ≤ 99999 ∧ -1 ≤ dyX zs ks j x0 - p0D zs ks (j : Int) ∧ dyX zs ks j x0 - p0D zs ks (j : Int) ≤ 1000 := by
  obtain ⟨t0, t1⟩ := tmod_in (x := x0) (m := 1001) h0 (by decide)
  have e : zs.getD (frm zs ks j * 2) 0 = p0D zs ks (j : Int) := rfl
  rw [wrap_eq (x := x0) (by omega) (by omega), gz0, dyX, e, wrap_eq (by omega) (by omega)]
  constructor
  · split <;> split <;> omega
  · split <;> omega
theorem lv_form {x : Int} (h0 : 0 ≤ x) (h1 : x < 65536) : Int.tmod (IntKind.wrap .i64 x) 401 = lvD x ∧ 0 ≤ lvD x ∧ lvD x ≤ 400 := by
  obtain ⟨t0, t1⟩ := tmod_in (x := x) (m := 401) h0 (by decide)
  rw [wrap_eq (x := x) (by omega) (by omega), lvD]
  exact ⟨rfl, t0, by omega⟩
theorem sl_form {x : Int} (h0 : 0 ≤ x) (h1 : x < 65536) : Int.tmod (IntKind.wrap .i64 x) 101 = slD x ∧ 0 ≤ slD x ∧ slD x ≤ 100 := by
  obtain ⟨t0, t1⟩ := tmod_in (x := x) (m := 101) h0 (by decide)
  rw [wrap_eq (x := x) (by omega) (by omega), slD]
  exact ⟨rfl, t0, by omega⟩
set_option maxRecDepth 100000 in
set_option maxHeartbeats 0 in
theorem law11 (hl : ∀ p ∈ l11, Ok Tryz.prog p.1 p.2) {nm : ByteArray} {zs : List Int} {ks : List (Int × ByteArray)} {n c k d : Nat} {x0 x1 x2 x3 : Int} (a0 : 0 ≤ x0) (b0 : x0 < 65536) (a1 : 0 ≤ x1) (b1 : x1 < 65536) (a2 : 0 ≤ x2) (b2 : x2 < 65536) (a3 : 0 ≤ x3) (b3 : x3 < 65536)
    (hz : zs.length = n * 2) (hk : ks.length = k) (hn : n ≤ 9223372036854775807) (hk2 : k ≤ 9223372036854775807) :
    SmallRes Tryz.prog 11 [.agg (secA nm 0 n c 1 k d).toArray, .agg (arrU x0 x1 x2 x3).toArray] (hp2 zs ks false false false false []) (.bool true) (hp2 zs ks false false false false []) := by
  refine fnP_res hm (ctx_ok hm hl) (hs := hsX1 nm zs ks n c k d x0 x1 x2 x3) ?_
  show fnP Tryz.prog cl11 (hsX1 nm zs ks n c k d x0 x1 x2 x3) 11 _ _ _
  rw [law11_t]
  refine ⟨⟨rfl, rfl, hz, hk, hn, hk2⟩, br_of (fun _ => ⟨by first | trivial | rfl, by first | trivial | rfl⟩) (fun h => ?_)⟩
  have hS : NearS nm zs n ks k := nearB_ok (by simpa using h)
  have hn8 := hS.n8
  have hk6 := hS.k6
  have hi : isSec zs ks n k (ints zs) (acs ks) := ⟨rfl, rfl, hz, hk, by omega, by omega⟩
  have e0 : secE nm zs n ks k = 0 := hS.ok
  have ep : perN (secE nm zs n ks k) k = k + 1 := if_pos e0
  have el : perL (secE nm zs n ks k) (spans zs ks n k) = spans zs ks n k := if_pos e0
  refine ⟨⟨hi⟩, ⟨hi⟩, br_of (fun h => ?_) (fun _ => br_of (fun h => ?_) (fun _ => ⟨(0 : Nat), ⟨rfl⟩, ?_, ?_⟩)), fun _ _ => ⟨⟨(0 : Nat), ⟨by omega⟩, ?_, by first | trivial | rfl⟩, fun j hj => br_of (fun hlt => ?_) (fun hge => ?_)⟩⟩
  · rw [e0] at h; simp at h
  · rw [ep, wrap_eq (by omega) (by omega)] at h; simp at h
  · rw [ep]
    and_intros <;> first | trivial | rfl
  · rw [el]; first | trivial | rfl
  · rw [st_first]
    and_intros <;> first | trivial | rfl
  · have hjk : j ≤ k := by have := of_decide_eq_true hlt; omega
    obtain ⟨h1, h2⟩ := secE_ok e0
    obtain ⟨u1, u2⟩ := upto_le (n := n) hz hk h2 hjk
    have hp := xp_per hS hz hk hjk
    have hpt := (per_part hp).1
    have e2 : (0 + Int.toNat (j : Int) * 2) / 2 = j := by omega
    have hsp := spans_len zs ks n k
    obtain ⟨g1, g2⟩ := spans_get zs ks n k hjk
    refine ⟨j, ⟨⟨by omega, by omega⟩, ⟨?_⟩, br_of (fun h => ?_) (fun _ => br_of (fun h => ?_) (fun _ => br_of (fun h => ?_) (fun _ => ⟨j, ⟨⟨?_⟩, (0 : Nat), ⟨rfl, trivial⟩, ?_, by first | trivial | rfl⟩, fun _ _ => ?_⟩)))⟩, fun _ _ => ?_⟩
    · rw [e2]
      have : 0 + Int.toNat (j : Int) * 2 = j * 2 := by omega
      rw [this, ldz (by omega), g1, g2]
    · rw [e2, st_at hjk] at h; simp at h
    · rw [e2] at h
      have := of_decide_eq_true h; omega
    · rw [e2] at h
      have := of_decide_eq_true h; omega
    · rw [e2]; omega
    · rw [e2]
      have e3 : 0 + Int.toNat ((frm zs ks j : Nat) : Int) * 2 = frm zs ks j * 2 := by omega
      rw [e3, Int.toNat_natCast, Int.toNat_natCast]
      and_intros <;> first | trivial | rfl
    · refine ⟨j, ⟨j, ⟨(0 : Nat), ⟨Nat.zero_le _⟩, (by and_intros <;> first | trivial | rfl), (by first | trivial | rfl)⟩, fun i hi' => br_of (fun hlt => ?_) (fun hge => ⟨(0 : Nat), ⟨rfl, trivial⟩, (by and_intros <;> first | trivial | rfl), (by first | trivial | rfl)⟩)⟩, fun _ _ => ?_⟩
      · have hiM : i < upto zs ks n k j - frm zs ks j := by have := of_decide_eq_true hlt; omega
        rw [show Int.toNat (i : Int) = i from Int.toNat_natCast i]
        refine ⟨⟨by omega, by omega⟩, ⟨ldz (by omega)⟩, br_of (fun hp0 => ?_) (fun hp0 => ?_)⟩
        · have j0 : 0 < j := by have := of_decide_eq_true hp0; omega
          rw [mx_form j0 (by omega)]
          have e5 : (0 + Int.toNat ((j - 1 : Nat) : Int) * 2 + 0) / 2 = j - 1 := by omega
          refine ⟨⟨by omega, by omega⟩, ⟨?_⟩, br_of (fun h => ?_) (fun _ => ?_)⟩
          · rw [e5, show 0 + Int.toNat ((j - 1 : Nat) : Int) * 2 + 0 = (j - 1) * 2 by omega]
            exact acs_day (by omega)
          · rw [e5] at h
            have := of_decide_eq_true h
            have := xp_behind hS hz hk hjk hiM j0
            omega
          · refine br_of (fun hk0 => ?_) (fun hk0 => ⟨i + 1, ⟨by omega⟩, ⟨by omega⟩, ?_, (by first | trivial | rfl)⟩)
            · have hjk' : j < k := by have := of_decide_eq_true hk0; omega
              rw [mn_form hjk' (by omega)]
              have e6 : (0 + Int.toNat (j : Int) * 2 + 0) / 2 = j := by omega
              refine ⟨⟨by omega, by omega⟩, ⟨?_⟩, br_of (fun h => ?_) (fun _ => ⟨i + 1, ⟨by omega⟩, ⟨by omega⟩, ?_, (by first | trivial | rfl)⟩)⟩
              · rw [e6, show 0 + Int.toNat (j : Int) * 2 + 0 = j * 2 by omega]
                exact acs_day (by omega)
              · rw [e6] at h
                have := of_decide_eq_true h
                have := xp_before hS hz hk hjk' hiM
                omega
              · rw [up1 (n := 1000) (by omega) (by omega)]
                exact (by and_intros <;> first | trivial | rfl)
            · rw [up1 (n := 1000) (by omega) (by omega)]
              exact (by and_intros <;> first | trivial | rfl)
        · refine br_of (fun hk0 => ?_) (fun hk0 => ⟨i + 1, ⟨by omega⟩, ⟨by omega⟩, ?_, (by first | trivial | rfl)⟩)
          · have hjk' : j < k := by have := of_decide_eq_true hk0; omega
            rw [mn_form hjk' (by omega)]
            have e6 : (0 + Int.toNat (j : Int) * 2 + 0) / 2 = j := by omega
            refine ⟨⟨by omega, by omega⟩, ⟨?_⟩, br_of (fun h => ?_) (fun _ => ⟨i + 1, ⟨by omega⟩, ⟨by omega⟩, ?_, (by first | trivial | rfl)⟩)⟩
            · rw [e6, show 0 + Int.toNat (j : Int) * 2 + 0 = j * 2 by omega]
              exact acs_day (by omega)
            · rw [e6] at h
              have := of_decide_eq_true h
              have := xp_before hS hz hk hjk' hiM
              omega
            · rw [up1 (n := 1000) (by omega) (by omega)]
              exact (by and_intros <;> first | trivial | rfl)
          · rw [up1 (n := 1000) (by omega) (by omega)]
            exact (by and_intros <;> first | trivial | rfl)
      · refine ⟨⟨hi⟩, ⟨hi⟩, br_of (fun hm => br_of (fun h => ?_) (fun _ => ⟨(0 : Nat), ⟨rfl, trivial⟩, (by and_intros <;> first | trivial | rfl), (by first | trivial | rfl)⟩)) (fun hm => ?_)⟩
        · rw [xp_short hS hjk (by have := of_decide_eq_true hm; omega)] at h
          simp at h
        have hM : 2 ≤ upto zs ks n k j - frm zs ks j := by have := of_decide_eq_false hm; omega
        have ef := xp_fe hS hjk hM
        obtain ⟨⟨l0, l1⟩, ⟨s0, s1⟩, d0', d1'⟩ := xp_line hS hz hk hjk hM
        obtain ⟨⟨X0, X1⟩, ⟨Y0, Y1⟩, ⟨P0, P1⟩, ⟨Q0, Q1⟩⟩ := (xp_near hS hz hk hjk).sums (Nat.le_refl _)
        have hM8 := (xp_near hS hz hk hjk).few
        obtain ⟨z0, z1⟩ := xp_first hS hz hk hjk (by omega)
        obtain ⟨y0, y1⟩ := xp_last hS hz hk hjk (by omega)
        have ep0 : p0D zs ks (j : Int) = zs.getD (frm zs ks j * 2) 0 := rfl
        rw [ef]
        simp only [gz0]
        refine ⟨j, br_of (fun h => ?_) (fun _ => ⟨⟨by omega, by omega⟩, ⟨?_⟩, br_of (fun h => ?_) (fun _ => br_of (fun h => ?_) (fun _ => br_of (fun h => ?_) (fun _ => ⟨(0 : Nat), ⟨rfl, hM⟩, (by and_intros <;> first | trivial | rfl), (by first | trivial | rfl)⟩)))⟩), fun _ _ => ?_⟩
        · simp at h
        · exact zint_at (by omega)
        · rw [ep0] at h
          simp at h
        · rw [snd_ok d0' (by omega) (by omega) (by omega)] at h
          cases h
        · rw [snd_ok d0' (by omega) (by omega) (by omega)] at h
          cases h
        refine ⟨j, ⟨j, ⟨(0 : Nat), ⟨Nat.zero_le _⟩, (by and_intros <;> first | trivial | rfl), (by first | trivial | rfl)⟩, fun i hi' => br_of (fun hlt => ?_) (fun hge => ?_)⟩, fun _ _ => ?_⟩
        · have hiM : i < upto zs ks n k j - frm zs ks j := by have := of_decide_eq_true hlt; omega
          rw [show Int.toNat (i : Int) = i from Int.toNat_natCast i]
          have hpt' : Part zs (frm zs ks j * 2) (upto zs ks n k j - frm zs ks j) := hpt
          obtain ⟨t1, t2, t3, t4⟩ := hpt'.step hiM
          simp only [Sp.W] at t1 t2 t3 t4
          refine ⟨⟨by omega, by omega⟩, ⟨ldz (by omega)⟩, i + 1, ⟨by omega⟩, ⟨by omega⟩, ?_, (by first | trivial | rfl)⟩
          rw [ep0, t1, t2, t3, t4, up1 (n := 1000) (by omega) (by omega)]
          exact (by and_intros <;> first | trivial | rfl)
        · have him : i = upto zs ks n k j - frm zs ks j := by
            have := of_decide_eq_false hge
            have := hi'.out
            omega
          subst him
          exact ⟨(0 : Nat), ⟨rfl, hM⟩, (by and_intros <;> first | trivial | rfl), (by first | trivial | rfl)⟩
        obtain ⟨c1, c2, c3, c4⟩ := two_low (m := ((upto zs ks n k j - frm zs ks j : Nat) : Int)) (X := sX zs (frm zs ks j * 2) (upto zs ks n k j - frm zs ks j)) (Y := sY zs (frm zs ks j * 2) (upto zs ks n k j - frm zs ks j)) d0' d1' l0 l1 s0 s1 (by omega) (by omega) X0 (by omega) Y0 (by omega) (sum_line zs (frm zs ks j * 2) (upto zs ks n k j - frm zs ks j))
        obtain ⟨g1', g2', g3', g4'⟩ := two_low (m := sX zs (frm zs ks j * 2) (upto zs ks n k j - frm zs ks j)) (X := sXX zs (frm zs ks j * 2) (upto zs ks n k j - frm zs ks j)) (Y := sXY zs (frm zs ks j * 2) (upto zs ks n k j - frm zs ks j)) d0' d1' l0 l1 s0 s1 X0 X1 P0 P1 Q0 Q1 (sum_prod zs (frm zs ks j * 2) (upto zs ks n k j - frm zs ks j))
        refine ⟨j, ⟨⟨c1⟩, ⟨c2⟩, ⟨trivial⟩, br_of (fun h => ?_) (fun _ => ⟨⟨g1'⟩, ⟨g2'⟩, ⟨trivial⟩, br_of (fun h => ?_) (fun _ => ⟨(0 : Nat), ⟨rfl, hM⟩, (by and_intros <;> first | trivial | rfl), (by first | trivial | rfl)⟩)⟩)⟩, fun _ _ => ?_⟩
        · rw [c3, c4] at h
          simp at h
        · rw [g3', g4'] at h
          simp at h
        obtain ⟨dy1, dy2, dy3, dy4, dy5⟩ := dy_form (zs := zs) (ks := ks) (j := j) z0 z1 a0 b0
        rw [gz0] at dy1
        refine ⟨j, ⟨⟨by decide⟩, (0 : Nat), ⟨rfl, hM⟩, ?_, (by first | trivial | rfl)⟩, fun _ _ => ?_⟩
        · rw [dy1]
          exact (by and_intros <;> first | trivial | rfl)
        have w1 : IntKind.wrap .i64 (dyX zs ks j x0 + 1) = dyX zs ks j x0 + 1 := wrap_eq (by omega) (by omega)
        have q1 := xp_pr hS hjk hM (x := dyX zs ks j x0) dy2 (by omega)
        have q2 := xp_pr hS hjk hM (x := dyX zs ks j x0 + 1) (by omega) (by omega)
        have q3 := xp_pr hS hjk hM (x := p0D zs ks (j : Int)) z0 z1
        refine ⟨⟨hi⟩, ⟨hi⟩, ⟨hi⟩, ⟨hi⟩, j, ⟨⟨hi⟩, ⟨hi⟩, (0 : Nat), ⟨rfl, hM⟩, ?_, ?_⟩, fun _ _ => ?_⟩
        · rw [w1, q1, q2, q3]
          exact (by and_intros <;> first | trivial | rfl)
        · rw [w1, q1, q2, q3]
          simp only [gz0]
          first | done | trivial | rfl
        have t1 := xp_at hS hz hk hjk hM (x := dyX zs ks j x0) (by omega) (by omega)
        have t2 := xp_at hS hz hk hjk hM (x := dyX zs ks j x0 + 1) (by omega) (by omega)
        have en := pA_next (zs := zs) (n := n) (ks := ks) (k := k) j (dyX zs ks j x0)
        have ea := pA_first (zs := zs) (n := n) (ks := ks) (k := k) j
        rw [en] at t2
        obtain ⟨r1, r2, r3⟩ := step_low d0' d1' t1.1 t1.2 t2.1 t2.2 s0 s1
        rw [en, ea]
        refine ⟨j, ⟨⟨trivial⟩, br_of (fun h => ?_) (fun _ => br_of (fun h => ?_) (fun _ => br_of (fun h => ?_) (fun _ => ⟨⟨r1⟩, ⟨trivial⟩, br_of (fun h => ?_) (fun _ => ⟨(0 : Nat), ⟨rfl, hM⟩, (by and_intros <;> first | trivial | rfl), (by first | trivial | rfl)⟩)⟩)))⟩, fun _ _ => ?_⟩
        · simp at h
        · rw [snd_ok d0' (by omega) (by omega) (by omega)] at h
          cases h
        · rw [snd_ok d0' (by omega) (by omega) (by omega)] at h
          cases h
        · rw [r2, r3] at h
          simp at h
        obtain ⟨lv1, lv2, lv3⟩ := lv_form a1 b1
        have wm : IntKind.wrap .i64 (((upto zs ks n k j - frm zs ks j : Nat) : Int) - 1) = ((upto zs ks n k j - frm zs ks j - 1 : Nat) : Int) := by
          rw [wrap_eq (by omega) (by omega)]; omega
        have em : frm zs ks j * 2 + Int.toNat (IntKind.wrap .i64 (((upto zs ks n k j - frm zs ks j : Nat) : Int) - 1)) * 2 + 0 = frm zs ks j * 2 + (upto zs ks n k j - frm zs ks j - 1) * 2 := by rw [wm]; omega
        refine ⟨⟨by decide⟩, ⟨hi⟩, ⟨hi⟩, j, ⟨⟨?_⟩, ⟨?_⟩, (0 : Nat), ⟨rfl, hM⟩, ?_, (by first | trivial | rfl)⟩, fun _ _ => ?_⟩
        · rw [wm]; omega
        · rw [em]; exact zint_at (by omega)
        · rw [lv1, em]
          exact (by and_intros <;> first | trivial | rfl)
        have er := xp_re hS hjk hM lv2 lv3
        refine ⟨j, ?_, fun _ _ => ?_⟩
        · cases hB : rdB zs ks n k (j : Int) (lvD x1) with
          | false =>
            have er' : reE nm zs n ks k (j : Int) (lvD x1) = 7 := by rw [er, hB]; rfl
            have qz := xp_pr hS hjk hM (x := pZ zs ks n k (j : Int)) (by omega) y1
            obtain ⟨f0, f1⟩ := xp_far hS hz hk hjk hM (x := pZ zs ks n k (j : Int)) (by omega) y1
            obtain ⟨k1, k2', k3, k4⟩ := cmp_low d0' d1' f0 f1 lv2 lv3
            obtain ⟨o1, o2⟩ := low_one (a := lvD x1) (by omega) (by omega)
            rw [er', qz]
            refine br_of (fun _ => ⟨⟨hi⟩, ⟨hi⟩, br_of (fun h => ?_) (fun _ => br_of (fun h => ?_) (fun _ => ⟨⟨by omega, by omega, by omega, by omega⟩, br_of (fun h => ?_) (fun _ => ⟨(0 : Nat), ⟨rfl, trivial⟩, (by and_intros <;> first | trivial | rfl), (by first | trivial | rfl)⟩)⟩))⟩) (fun h => ?_)
            · simp at h
            · simp at h
            · simp only [gz0] at h
              rw [o1, o2, Int.mul_one, k1, k4] at h
              have h3 := of_decide_eq_true h
              have h4 : ¬ lvD x1 * lowD (pA zs ks n k (j : Int) (pZ zs ks n k (j : Int))) (pD zs ks n k (j : Int)) ≤ lowN (pA zs ks n k (j : Int) (pZ zs ks n k (j : Int))) (pD zs ks n k (j : Int)) := fun hh => rd_no hB (k3.1 hh)
              have h5 := sgn_lt.2 (Int.not_le.1 h4)
              omega
            · simp at h
          | true =>
            have er' : reE nm zs n ks k (j : Int) (lvD x1) = 0 := by rw [er, hB]; rfl
            obtain ⟨v1, v2, v3⟩ := rd_yes hB
            have v4 := rd_late hB y1
            have qz := xp_pr hS hjk hM (x := rdN zs ks n k (j : Int) (lvD x1)) (by omega) v4
            obtain ⟨f0, f1⟩ := xp_far hS hz hk hjk hM (x := rdN zs ks n k (j : Int) (lvD x1)) (by omega) v4
            obtain ⟨k1, k2', k3, k4⟩ := cmp_low d0' d1' f0 f1 lv2 lv3
            rw [er']
            simp only [gz0]
            rw [qz]
            simp only [gz0]
            refine br_of (fun h => ?_) (fun _ => ⟨⟨hi⟩, ⟨hi⟩, br_of (fun h => ?_) (fun _ => br_of (fun h => ?_) (fun _ => br_of (fun h => ?_) (fun _ => br_of (fun h => ?_) (fun _ => br_of (fun hlt => ?_) (fun _ => ⟨(0 : Nat), ⟨rfl, trivial⟩, (by and_intros <;> first | trivial | rfl), (by first | trivial | rfl)⟩)))))⟩)
            · simp at h
            · simp at h
            · have := of_decide_eq_true h; omega
            · have := of_decide_eq_true h; omega
            · rw [k1] at h
              have := of_decide_eq_true h
              have := k3.2 v1
              omega
            · have hlt := of_decide_eq_true hlt
              have wr : IntKind.wrap .i64 (rdN zs ks n k (j : Int) (lvD x1) - 1) = rdN zs ks n k (j : Int) (lvD x1) - 1 := wrap_eq (by omega) (by omega)
              have qy := xp_pr hS hjk hM (x := rdN zs ks n k (j : Int) (lvD x1) - 1) (by omega) (by omega)
              obtain ⟨f2, f3⟩ := xp_far hS hz hk hjk hM (x := rdN zs ks n k (j : Int) (lvD x1) - 1) (by omega) (by omega)
              obtain ⟨n1, n2, n3, n4⟩ := cmp_low d0' d1' f2 f3 lv2 lv3
              rw [wr, qy]
              simp only [gz0]
              refine ⟨⟨hi⟩, ⟨hi⟩, br_of (fun h => ?_) (fun _ => br_of (fun h => ?_) (fun _ => br_of (fun h => ?_) (fun _ => ⟨(0 : Nat), ⟨rfl, trivial⟩, (by and_intros <;> first | trivial | rfl), (by first | trivial | rfl)⟩)))⟩
              · simp at h
              · have := of_decide_eq_true h; omega
              · rw [n1] at h
                have h3 := n3.1 (of_decide_eq_true h)
                have := v3 hlt
                omega
        refine br_of (fun hj0 => ?_) (fun _ => ⟨(0 : Nat), ⟨rfl, trivial⟩, (by and_intros <;> first | trivial | rfl), (by first | trivial | rfl)⟩)
        have j0 : 0 < j := by have := of_decide_eq_true hj0; omega
        have wj : IntKind.wrap .i64 ((j : Int) - 1) = ((j - 1 : Nat) : Int) := by
          rw [wrap_eq (by omega) (by omega)]; omega
        rw [wj]
        refine ⟨⟨hi⟩, ⟨hi⟩, br_of (fun hL => ?_) (fun _ => ⟨(0 : Nat), ⟨rfl, trivial⟩, (by and_intros <;> first | trivial | rfl), (by first | trivial | rfl)⟩)⟩
        have hL : lfE nm zs n ks k ((j - 1 : Nat) : Int) = 0 := by simpa using hL
        have e5 : (0 + Int.toNat ((j - 1 : Nat) : Int) * 2 + 0) / 2 = j - 1 := by omega
        have e6 : 0 + Int.toNat ((j - 1 : Nat) : Int) * 2 + 0 = (j - 1) * 2 := by omega
        have ej : ((j - 1 : Nat) : Int) + 1 = (j : Int) := by omega
        obtain ⟨m1, m2⟩ := fw_zero (sel_zero.1 hL).2
        have m1 : 2 ≤ upto zs ks n k (j - 1) - frm zs ks (j - 1) := m1
        obtain ⟨w0, w1'⟩ := achk_all ks (-1) h2 (j - 1) (by omega)
        have qa := xp_pr hS hjk hM (x := (ks.getD (j - 1) (0, ⟨#[]⟩)).1) w0 w1'
        have qb := xp_pr hS (j := j - 1) (by omega) m1 (x := (ks.getD (j - 1) (0, ⟨#[]⟩)).1) w0 w1'
        have eD : aD ks ((j - 1 : Nat) : Int) = (ks.getD (j - 1) (0, ⟨#[]⟩)).1 := rfl
        rw [e5, e6, qa, qb, hL, ej, eD]
        refine ⟨⟨hi⟩, ⟨by omega, by omega⟩, ⟨acs_day (by omega)⟩, ⟨hi⟩, ⟨hi⟩, ⟨by omega, by omega⟩, ⟨acs_day (by omega)⟩, ⟨hi⟩, br_of (fun h => ?_) (fun _ => br_of (fun h => ?_) (fun _ => ⟨⟨trivial⟩, br_of (fun h => ?_) (fun _ => ⟨(0 : Nat), ⟨rfl, trivial⟩, (by and_intros <;> first | trivial | rfl), (by first | trivial | rfl)⟩)⟩))⟩
        · simp at h
        · simp at h
        · simp at h
    · refine ⟨j + 1, ⟨by omega⟩, ⟨by omega⟩, ?_, by first | trivial | rfl⟩
      rw [st_next hjk, up1 (n := 1000) (by omega) (by omega)]
      and_intros <;> first | trivial | rfl
  · have hjk : j = k + 1 := by
      have := of_decide_eq_false hge
      have := hj.out
      omega
    obtain ⟨v2, lo2, hi2⟩ := lv_form a2 b2
    obtain ⟨v3, lo3, hi3⟩ := sl_form a3 b3
    have en : sttN zs ks n k j = n := by rw [hjk, st_next (Nat.le_refl _), upto, if_neg (by omega)]
    obtain ⟨h1, h2⟩ := secE_ok e0
    refine br_of (fun h => ?_) (fun _ => ⟨⟨by decide⟩, ⟨by decide⟩, ⟨hi⟩, ⟨(0 : Nat), ⟨rfl⟩, ?_, (by first | trivial | rfl)⟩, fun _ _ => ⟨⟨(0 : Nat), ⟨Nat.zero_le _⟩, (by and_intros <;> first | trivial | rfl), ?_⟩, fun i hi' => br_of (fun hlt => ?_) (fun hge => ?_)⟩⟩)
    · rw [en] at h
      simp at h
    · rw [v2, v3]
      exact (by and_intros <;> first | trivial | rfl)
    · (rw [linL_zero]) <;> first | trivial | rfl
    · have hin : i < n := by have := of_decide_eq_true hlt; omega
      have hlen := linL_len hz (i := i) (by omega) (lvD x2) (slD x3)
      have e5 : 0 + Int.toNat (i : Int) * 2 + 0 = i * 2 := by omega
      have e6 : 0 + Int.toNat (i : Int) * 2 + 1 = i * 2 + 1 := by omega
      have e7 : (i * 2 + 1) / 2 + 1 = i + 1 := by omega
      have hall := (hS.all i (by omega)).2
      have h0i : zs.getD 0 0 ≤ zs.getD (i * 2) 0 := by
        rcases Nat.eq_zero_or_pos i with h | h
        · rw [h]; exact Int.le_refl _
        · have := mchk_up zs (-1) h1 0 i h (by omega)
          rw [Nat.zero_mul] at this; omega
      obtain ⟨_, p0, p1, _⟩ := mchk_all zs (-1) h1 i (by omega)
      obtain ⟨_, p2, p3, _⟩ := mchk_all zs (-1) h1 0 (by omega)
      rw [Nat.zero_mul] at p2 p3
      have hm := mul_in (a := slD x3) (b := zs.getD (i * 2) 0 - zs.getD 0 0) (A := 100) (B := 400) lo3 hi3 (by omega) (by omega)
      have w1 : IntKind.wrap .i64 (zs.getD (i * 2) 0 - zs.getD 0 0) = zs.getD (i * 2) 0 - zs.getD 0 0 := wrap_eq (by omega) (by omega)
      have w2 : IntKind.wrap .i64 (slD x3 * (zs.getD (i * 2) 0 - zs.getD 0 0)) = slD x3 * (zs.getD (i * 2) 0 - zs.getD 0 0) := wrap_eq (by omega) (by omega)
      have w3 : IntKind.wrap .i64 (lvD x2 + slD x3 * (zs.getD (i * 2) 0 - zs.getD 0 0)) = lvD x2 + slD x3 * (zs.getD (i * 2) 0 - zs.getD 0 0) := wrap_eq (by omega) (by omega)
      rw [e5, e6, e7, w1, w2, w3]
      refine ⟨⟨by omega, by omega⟩, ⟨?_⟩, ⟨by omega, by omega⟩, ⟨?_⟩, ⟨by omega, by omega⟩, ⟨by rw [ints_len, hlen]; simp only [List.length_cons, List.length_nil]; omega, linL_step hz hin _ _⟩, i + 1, ⟨by omega⟩, ⟨by omega⟩, ?_, (by first | trivial | rfl)⟩
      · rw [zint_at (by omega), linL_day hz (by omega) (Nat.le_refl _)]
      · rw [zint_at (by omega), linL_first hz (by omega)]
      · rw [up1 (n := 1000) (by omega) (by omega)]
        exact (by and_intros <;> first | trivial | rfl)
    · have hin : i = n := by
        have := of_decide_eq_false hge
        have := hi'.out
        omega
      subst hin
      refine br_of (fun _ => ⟨by first | trivial | rfl, by first | trivial | rfl⟩) (fun h2' => ?_)
      have hn2 : 2 ≤ i := by have := of_decide_eq_false h2'; omega
      have hlen := linL_len hz (Nat.le_refl _) (lvD x2) (slD x3)
      have hiL : isSec (linL (lvD x2) (slD x3) zs i) [] i 0 (ints (linL (lvD x2) (slD x3) zs i)) [] := ⟨rfl, rfl, hlen, rfl, by omega, by omega⟩
      have hf := lin_fe hS hz lo2 hi2 lo3 hi3 hn2
      obtain ⟨g0, D, g1, g2, g3, g4, g5⟩ := lin_line hS hz (lvD x2) (slD x3) hn2
      obtain ⟨u1, u2⟩ := low_mul g1 g2 lo2 hi2
      obtain ⟨u3, u4⟩ := low_mul g1 g2 lo3 (by omega)
      rw [hf]
      refine ⟨⟨hiL⟩, ⟨hiL⟩, br_of (fun _ => ⟨⟨by omega, by omega⟩, ⟨?_⟩, ⟨trivial⟩, ?_, by first | trivial | rfl⟩) (fun h => ?_)⟩
      · rw [zint_at (by omega), linL_first hz (Nat.le_refl _)]
      · simp only [gz0]
        rw [g0, g3, g4, g5, u1, u2, u3, u4]
        simp
      · simp at h
end
end Qq
