/- Spans above a limit: the reference; numbers held against each other; the law about windows. -/
import Derived.Test.YtaigknknfaeajaaGreatDoorRM
import Derived.Test.YtaigknknfaeajaaGreatDoorRG
open Go Go.Vm Go.Proofs Sp
namespace Qq
noncomputable section
set_option maxRecDepth 100000 in
theorem abR_ok {nm : ByteArray} {f : Int} {n c k d : Nat} {xs : List Nat} {hs : List Int} {z : Nat} {lim : Int} (hr : isRun xs hs n k (flts xs) (ints hs)) (h1 : runE nm f xs n hs = 0) (h3 : 0 < z) (h4 : z ≤ 256) :
    SmallRes Tryz.prog 32 [.agg (runA nm f 0 n c 1 k d).toArray, .int .i64 (z : Int), .int .i64 lim] (hp2r xs hs false false false false []) (.slice (some ⟨2, 0, none⟩) ((abL xs hs f n z lim).length / 2) 0) (hp2r xs hs false false false false [lst2o (abL xs hs f n z lim)]) := by
  refine fnP_res hm c0_ok (hs := hsAR nm f n c k d xs hs z lim (ixL xs hs z (n / z))) ?_
  rw [abR_t]
  obtain ⟨_, hf, hn4, _⟩ := run_zero h1
  have hdz : n / z ≤ n := Nat.div_le_self n z
  have hlz := ixL_len xs hs z (n / z)
  have hL : abL xs hs f n z lim = abF f (z : Int) lim (ixL xs hs z (n / z)) 0 [] := rfl
  rw [hL]
  refine ⟨⟨(0 : Nat), ⟨rfl⟩, by first | trivial | rfl, by first | trivial | rfl⟩, fun _ _ => ⟨⟨hr, h1, rfl, h3, h4⟩, ?_⟩⟩
  generalize ixL xs hs z (n / z) = l at *
  refine ⟨⟨((0 : Nat), []), ⟨abI_zero⟩, by first | trivial | rfl, by first | trivial | rfl⟩, fun s hs' => br_of (fun hc => ?_) (fun hc => ?_)⟩
  · have hc := lt_of_dec hc
    have hI := hs'.out
    have hI' := ab_more hI (by omega)
    obtain ⟨i1, i2, i3, i4⟩ := hI
    have hw := win_in h3 hc
    have hiz : (s.1 + 1) * z = s.1 * z + z := by rw [Nat.add_mul, Nat.one_mul]
    have hkz : (s.1 : Int) * (z : Int) = ((s.1 * z : Nat) : Int) := (Int.natCast_mul _ _).symm
    have u0 : IntKind.wrap .i64 ((s.1 : Int) + 1) = ((s.1 + 1 : Nat) : Int) := up1 hc (by omega)
    have u1 : IntKind.wrap .i64 ((s.1 : Int) * (z : Int)) = (s.1 : Int) * (z : Int) := by rw [hkz, wrap_eq (by omega) (by omega)]
    have u2 : IntKind.wrap .i64 (f + (s.1 : Int) * (z : Int)) = f + (s.1 : Int) * (z : Int) := by rw [hkz, wrap_eq (by omega) (by omega)]
    have hkz1 : ((s.1 + 1 : Nat) : Int) * (z : Int) = (s.1 : Int) * (z : Int) + z := by rw [← Int.natCast_mul, hiz, Int.natCast_add, Int.natCast_mul]
    have u4 : IntKind.wrap .i64 (((s.1 + 1 : Nat) : Int) * (z : Int)) = (s.1 : Int) * (z : Int) + z := by rw [hkz1, hkz, wrap_eq (by omega) (by omega)]
    have u5 : IntKind.wrap .i64 (f + ((s.1 : Int) * (z : Int) + z)) = f + (s.1 : Int) * (z : Int) + z := by rw [hkz, wrap_eq (by omega) (by omega)]; omega
    have hm2 : s.2.length = s.2.length / 2 * 2 := by omega
    generalize hm : s.2.length / 2 = m at *
    simp only [u0, u1, u2, u4, u5, Nat.zero_add, Nat.mul_one, Int.toNat_natCast]
    have next : ∀ {out : List Int}, abS f z lim s.2 s.1 (l.getD s.1 0) = out → abI f z lim l (s.1 + 1, out) := fun h => by rw [← h]; exact hI'
    refine ⟨⟨by omega, by omega⟩, ⟨zint_at (by omega)⟩, br_of (fun hv => ⟨(s.1 + 1, s.2), ⟨next (abS_le (of_decide_eq_true hv))⟩, ⟨by simp only; omega⟩, by (rw [hm]), by first | trivial | rfl⟩) (fun hv => ?_)⟩
    have hv := of_decide_eq_false hv
    refine br_of (fun hp => ?_) (fun hp => ?_)
    · have hp : 0 < m := by have := of_decide_eq_true hp; omega
      have w1 : IntKind.wrap .i64 ((m : Int) - 1) = ((m - 1 : Nat) : Int) := by rw [wrap_eq (by omega) (by omega)]; omega
      simp only [w1, Int.toNat_natCast]
      have hlast : (m - 1) * 2 + 1 < s.2.length := by omega
      have el : (m - 1) * 2 + 1 = s.2.length - 1 := by omega
      rw [iAt_ints hlast]
      have b1 : 0 ≤ ((m - 1 : Nat) : Int) ∧ ((m - 1 : Nat) : Int) < (m : Int) := by omega
      refine ⟨⟨b1⟩, ⟨zint_at hlast⟩, br_of (fun he => ?_) (fun he => ?_)⟩
      · have he : s.2.getD (s.2.length - 1) 0 = f + (s.1 : Int) * (z : Int) := by rw [← el]; simpa using he
        refine ⟨⟨b1⟩, ⟨by rw [ints_len]; simp only [List.length_cons, List.length_nil]; omega⟩, (s.1 + 1, s.2.take (s.2.length - 1) ++ [f + (s.1 : Int) * (z : Int) + z]), ⟨next (abS_join hv (by omega) he)⟩, ⟨by simp only; omega⟩, ?_, ?_⟩
        · rw [join_len (by omega), hm]
        · rw [putL_last hm2 hp]
          first | done | trivial | rfl
      · have he : ¬ (0 < s.2.length ∧ s.2.getD (s.2.length - 1) 0 = f + (s.1 : Int) * (z : Int)) := fun hh => by
          rw [el, hh.2] at he; simp at he
        refine ⟨⟨by rw [ints_len]; exact hm2, by omega, by omega⟩, (s.1 + 1, _), ⟨next (abS_new hv he)⟩, ⟨by simp only; omega⟩, ?_, ?_⟩
        · rw [new_len, hm]
        · rw [← ints_app]
          first | done | trivial | rfl
    · have hp : ¬ 0 < m := by have := of_decide_eq_false hp; omega
      refine ⟨⟨by rw [ints_len]; exact hm2, by omega, by omega⟩, (s.1 + 1, _), ⟨next (abS_new hv (fun hh => by omega))⟩, ⟨by simp only; omega⟩, ?_, ?_⟩
      · rw [new_len, hm]
      · rw [← ints_app]
        first | done | trivial | rfl
  · have hc := ge_of_dec hc
    obtain ⟨i1, i2, i3, i4⟩ := hs'.out
    rw [List.drop_eq_nil_of_le (by omega), abF] at i4
    rw [← i4]
    exact ⟨by first | trivial | rfl, by first | trivial | rfl⟩
noncomputable def abE (nm : ByteArray) (f : Int) (xs : List Nat) (n : Nat) (hs : List Int) (y lim : Int) : Int := fi [cwE nm f xs n hs y, wi lim 0 268435456]
noncomputable def abO (nm : ByteArray) (f : Int) (xs : List Nat) (n : Nat) (hs : List Int) (y lim : Int) : List Int := if abE nm f xs n hs y lim = 0 then abL xs hs f n y.toNat lim else []
theorem abP_ok {nm : ByteArray} {f : Int} {n c k d : Nat} {xs : List Nat} {hs : List Int} {y lim : Int} (hr : isRun xs hs n k (flts xs) (ints hs)) :
    SmallRes Tryz.prog 27 [.agg (runA nm f 0 n c 1 k d).toArray, .int .i64 y, .int .i64 lim] (hp2r xs hs true true true true []) (.tuple #[.slice (some ⟨2, 0, none⟩) ((abO nm f xs n hs y lim).length / 2) 0, .int .i64 (abE nm f xs n hs y lim)]) (hp2r xs hs true true true true [lst2o (abO nm f xs n hs y lim)]) := by
  by_cases h0 : abE nm f xs n hs y lim = 0
  · have h1 := fi_zero.1 h0 (cwE nm f xs n hs y) (by simp)
    have h2 := fi_zero.1 h0 (wi lim 0 268435456) (by simp)
    obtain ⟨_, hy, _⟩ := cw_zero h1
    rw [abO, if_pos h0, h0, hy]
    rw [hy] at h1
    exact ab_ok hr h1 h2
  · rw [abO, if_neg h0]
    refine SmallRes.nil (H' := hp2r xs hs true true true true []) (rest := [.int .i64 (abE nm f xs n hs y lim)]) ?_ 2
    refine fnP_res hm c2_ok (hs := hsAbE xs hs) ?_
    rw [abE_t]
    have h0' : ¬ fi [cwE nm f xs n hs y, wi lim 0 268435456] = 0 := h0
    exact ⟨⟨⟨hr⟩, br_of (fun _ => ⟨by first | trivial | rfl, by first | trivial | rfl⟩) (fun h => absurd (by simpa using h) h0')⟩, fun s hs => hs.out.elim⟩
noncomputable def orcAbV (xs : List Nat) (hs : List Int) : OrcV
  | [.agg ⟨[.string nm, .int .i64 f, .slice (some ⟨0, 0, none⟩) n _, .slice (some ⟨1, 0, none⟩) k _]⟩, .int .i64 y, .int .i64 lim], [some (.row e1 1 true true true), some (.row e2 2 true true true)] =>
    some (.tuple #[.slice (some ⟨2, 0, none⟩) ((abO nm f xs n hs y lim).length / 2) 0, .int .i64 (abE nm f xs n hs y lim)], [some (.row e1 1 true true true), some (.row e2 2 true true true), lst2o (abO nm f xs n hs y lim)], isRun xs hs n k e1 e2)
  | _, _ => none
theorem okAbV (xs : List Nat) (hs : List Int) : OkV Tryz.prog 27 (orcAbV xs hs) := by
  intro args H ret H' vc h hv
  unfold orcAbV at h
  split at h
  · cases h
    obtain ⟨rfl, rfl, h1⟩ := hv
    exact abP_ok ⟨rfl, rfl, h1⟩
  · cases h
noncomputable def orcAbR (xs : List Nat) (hs : List Int) (z : Nat) : OrcV
  | [.agg ⟨[.string nm, .int .i64 f, .slice (some ⟨0, 0, none⟩) n _, .slice (some ⟨1, 0, none⟩) k _]⟩, .int .i64 y, .int .i64 lim], [some (.row e1 1 false false true), some (.row e2 2 false false true)] =>
    some (.slice (some ⟨2, 0, none⟩) ((abL xs hs f n z lim).length / 2) 0, [some (.row e1 1 false false true), some (.row e2 2 false false true), lst2o (abL xs hs f n z lim)], isRun xs hs n k e1 e2 ∧ runE nm f xs n hs = 0 ∧ y = (z : Int) ∧ 0 < z ∧ z ≤ 256)
  | _, _ => none
theorem okAbR (xs : List Nat) (hs : List Int) (z : Nat) : OkV Tryz.prog 32 (orcAbR xs hs z) := by
  intro args H ret H' vc h hv
  unfold orcAbR at h
  split at h
  · cases h
    obtain ⟨⟨rfl, rfl, h1⟩, h2, rfl, h3, h4⟩ := hv
    exact abR_ok ⟨rfl, rfl, h1⟩ h2 h3 h4
  · cases h
/- Lists of integers that are the same. -/
noncomputable def lpSm (l : List Int) (n c d : Nat) : Lp where
  σ := Nat
  E s := slots 26 [(0, .slice (some ⟨0, 0, none⟩) n c), (1, .slice (some ⟨1, 0, none⟩) n d), (5, .int .i64 (Int.ofNat s))]
  Hp _ := [oneR l, oneR l]
  I s := s ≤ n
  m s := n - s
noncomputable def hsSm (l : List Int) (n c d : Nat) : Hs Tryz.prog where
  op y := if [602, 606].contains y then some (hIa Tryz.prog) else if [603, 607].contains y then some (hLd Tryz.prog (zI l)) else none
  lp _ := some (lpSm l n c d)
  cl _ := keep 26 [0, 1, 5]
  au := au0 Tryz.prog
theorem sm_t (l : List Int) (n : Nat) (c : Nat) (d : Nat) (K : Value → Heap → Prop) :
    (fnP Tryz.prog c0 (hsSm l n c d) (104 : FuncId) [Value.slice (some { block := (0 : Nat), off := (0 : Nat) }) n c, Value.slice (some { block := (1 : Nat), off := (0 : Nat) }) n d] [oneR l, oneR l] K) =
    (br ((↑n : Int) != (↑n : Int)) (K (Value.bool false) (some (AObj.row (ints l) (1 : Nat) true true true) :: some (AObj.row (ints l) (1 : Nat) true true true) :: noH)) ((∃ (s : Nat), Is (s ≤ n) ∧ [Value.slice (some { block := (0 : Nat), off := (0 : Nat) }) n c, Value.slice (some { block := (1 : Nat), off := (0 : Nat) }) n d, poi, poi, poi, Value.int IntKind.i64 (0 : Int), poi, poi, poi, poi, poi, poi, poi, poi, poi, poi, poi, poi, poi, poi, poi, poi, poi, poi, poi, poi] = [Value.slice (some { block := (0 : Nat), off := (0 : Nat) }) n c, Value.slice (some { block := (1 : Nat), off := (0 : Nat) }) n d, poi, poi, poi, Value.int IntKind.i64 (↑s : Int), poi, poi, poi, poi, poi, poi, poi, poi, poi, poi, poi, poi, poi, poi, poi, poi, poi, poi, poi, poi] ∧ some (AObj.row (ints l) (1 : Nat) true true true) :: some (AObj.row (ints l) (1 : Nat) true true true) :: noH = some (AObj.row (ints l) (1 : Nat) true true true) :: some (AObj.row (ints l) (1 : Nat) true true true) :: noH) ∧ ∀ (s : Nat), Is (s ≤ n) → br (decide ((↑s : Int) < (↑n : Int))) (Is ((0 : Int) ≤ (↑s : Int) ∧ (↑s : Int) < (↑n : Int)) ∧ Is ((ints l)[(0 : Nat) + Int.toNat (↑s : Int) * (1 : Nat)]? = some (Value.int IntKind.i64 (List.getD l ((0 : Nat) + Int.toNat (↑s : Int) * (1 : Nat)) (0 : Int)))) ∧ Is ((0 : Int) ≤ (↑s : Int) ∧ (↑s : Int) < (↑n : Int)) ∧ Is ((ints l)[(0 : Nat) + Int.toNat (↑s : Int) * (1 : Nat)]? = some (Value.int IntKind.i64 (List.getD l ((0 : Nat) + Int.toNat (↑s : Int) * (1 : Nat)) (0 : Int)))) ∧ br (List.getD l ((0 : Nat) + Int.toNat (↑s : Int) * (1 : Nat)) (0 : Int) != List.getD l ((0 : Nat) + Int.toNat (↑s : Int) * (1 : Nat)) (0 : Int)) (K (Value.bool false) (some (AObj.row (ints l) (1 : Nat) true true true) :: some (AObj.row (ints l) (1 : Nat) true true true) :: noH)) (∃ (s' : Nat), Is (s' ≤ n) ∧ Is (n - s' < n - s) ∧ [Value.slice (some { block := (0 : Nat), off := (0 : Nat) }) n c, Value.slice (some { block := (1 : Nat), off := (0 : Nat) }) n d, poi, poi, poi, Value.int IntKind.i64 (IntKind.wrap IntKind.i64 ((↑s : Int) + (1 : Int))), poi, poi, poi, poi, poi, poi, poi, poi, poi, poi, poi, poi, poi, poi, poi, poi, poi, poi, poi, poi] = [Value.slice (some { block := (0 : Nat), off := (0 : Nat) }) n c, Value.slice (some { block := (1 : Nat), off := (0 : Nat) }) n d, poi, poi, poi, Value.int IntKind.i64 (↑s' : Int), poi, poi, poi, poi, poi, poi, poi, poi, poi, poi, poi, poi, poi, poi, poi, poi, poi, poi, poi, poi] ∧ some (AObj.row (ints l) (1 : Nat) true true true) :: some (AObj.row (ints l) (1 : Nat) true true true) :: noH = some (AObj.row (ints l) (1 : Nat) true true true) :: some (AObj.row (ints l) (1 : Nat) true true true) :: noH)) (K (Value.bool true) (some (AObj.row (ints l) (1 : Nat) true true true) :: some (AObj.row (ints l) (1 : Nat) true true true) :: noH)))) := by kernel_rfl
noncomputable def isSmI (l : List Int) (n m : Nat) (e1 e2 : List Value) : Prop := e1 = ints l ∧ e2 = ints l ∧ n = m ∧ l.length = n ∧ n ≤ 100000
noncomputable def orcSmI (l : List Int) : OrcV
  | [.slice (some ⟨0, 0, none⟩) n _, .slice (some ⟨1, 0, none⟩) m _], [some (.row e1 1 true true true), some (.row e2 1 true true true)] => some (.bool true, [some (.row e1 1 true true true), some (.row e2 1 true true true)], isSmI l n m e1 e2)
  | _, _ => none
set_option maxRecDepth 100000 in
theorem okSmI (l : List Int) : OkV Tryz.prog 104 (orcSmI l) := by
  intro args H ret H' vc h hv
  unfold orcSmI at h
  split at h
  · rename_i n c m d e1 e2
    cases h
    obtain ⟨rfl, rfl, rfl, hn, h9⟩ := hv
    refine fnP_res hm c0_ok (hs := hsSm l n c d) ?_
    show fnP Tryz.prog c0 (hsSm l n c d) 104 _ [oneR l, oneR l] _
    rw [sm_t]
    refine br_of (fun h => by simp at h) (fun _ => ⟨⟨(0 : Nat), ⟨Nat.zero_le _⟩, by first | trivial | rfl, by first | trivial | rfl⟩, fun s hs => br_of (fun hc => ?_) (fun hc => ⟨by first | trivial | rfl, by first | trivial | rfl⟩)⟩)
    have hc := lt_of_dec hc
    simp only [Nat.zero_add, Nat.mul_one, Int.toNat_natCast]
    refine ⟨⟨by omega, by omega⟩, ⟨zint_at (by omega)⟩, ⟨by omega, by omega⟩, ⟨zint_at (by omega)⟩, br_of (fun h => by simp at h) (fun _ => ⟨s + 1, ⟨hc⟩, ⟨by omega⟩, by rw [up1 hc (by omega)], by first | trivial | rfl⟩)⟩
  · cases h
noncomputable def hsNu (l : List Int) : Hs Tryz.prog where
  au := auCalls [(104, hCa Tryz.prog 104 (orcSmI l) (okSmI l))]
theorem nu_t (l : List Int) (n : Nat) (c : Nat) (m : Nat) (d : Nat) (e : Int) (b : Int) (l2 : List Int) (K : Value → Heap → Prop) :
    (fnP Tryz.prog c0 (hsNu l) (33 : FuncId) [Value.slice (some { block := (0 : Nat), off := (0 : Nat) }) n c, Value.int IntKind.i64 e, Value.int IntKind.i64 b, Value.slice (some { block := (1 : Nat), off := (0 : Nat) }) m d] [oneR l, oneR l2] K) =
    (br (e == b) (br (b != (0 : Int)) (br ((↑n : Int) == (0 : Int)) (K (Value.bool true) (some (AObj.row (ints l) (1 : Nat) true true true) :: some (AObj.row (ints l2) (1 : Nat) true true true) :: noH)) (br (b == (0 : Int)) (Is (isSmI l n m (ints l) (ints l2)) ∧ K (Value.bool true) (some (AObj.row (ints l) (1 : Nat) true true true) :: some (AObj.row (ints l2) (1 : Nat) true true true) :: noH)) (K (Value.bool false) (some (AObj.row (ints l) (1 : Nat) true true true) :: some (AObj.row (ints l2) (1 : Nat) true true true) :: noH)))) (br (b == (0 : Int)) (Is (isSmI l n m (ints l) (ints l2)) ∧ K (Value.bool true) (some (AObj.row (ints l) (1 : Nat) true true true) :: some (AObj.row (ints l2) (1 : Nat) true true true) :: noH)) (K (Value.bool false) (some (AObj.row (ints l) (1 : Nat) true true true) :: some (AObj.row (ints l2) (1 : Nat) true true true) :: noH)))) (K (Value.bool false) (some (AObj.row (ints l) (1 : Nat) true true true) :: some (AObj.row (ints l2) (1 : Nat) true true true) :: noH))) := by kernel_rfl
end
end Qq
