/- Sections that are near; ratios that are small: contracts. -/
import Derived.Test.YtaigknknfaeajaaGreatDoorZQ
import Derived.Test.YtaigknknfaeajaaGreatDoorQOW
open Go Go.Vm Go.Proofs Sp
namespace Sp
noncomputable section
noncomputable def nearL (z : Int) : List Int → Bool
  | d :: x :: r => !(decide (400 < x) || decide (z + 400 < d)) && nearL z r
  | _ => true
noncomputable def sndB (a b : Int) : Bool := decide (1 ≤ b) && (decide (b ≤ 16777216) && (decide (-68719476736 ≤ a) && decide (a ≤ 68719476736)))
end
end Sp
namespace Qq
noncomputable section
noncomputable def nearB (nm : ByteArray) (zs : List Int) (n : Nat) (ks : List (Int × ByteArray)) (k : Nat) : Bool := shortS nm n ks k && (secE nm zs n ks k == 0) && !decide (8 < n) && !decide (6 < k) && nearL (zs.getD 0 0) zs
theorem snd_t (a : Int) (b : Int) (K : Value → Heap → Prop) :
    (fnP Tryz.prog c0 h0 (71 : FuncId) [Value.agg #[Value.int IntKind.i64 a, Value.int IntKind.i64 b]] [] K) =
    (br (decide ((1 : Int) ≤ b)) (br (decide (b ≤ (16777216 : Int))) (br (decide ((-68719476736 : Int) ≤ a)) (K (Value.bool (decide (a ≤ (68719476736 : Int)))) noH) (K (Value.bool false) noH)) (K (Value.bool false) noH)) (K (Value.bool false) noH)) := by kernel_rfl
noncomputable def orcSnd : Orc
  | [.agg ⟨[.int .i64 a, .int .i64 b]⟩], [] => some (.bool (sndB a b), [])
  | _, _ => none
noncomputable def lpNr (nm : ByteArray) (zs : List Int) (ks : List (Int × ByteArray)) (n c k d : Nat) : Lp where
  σ := Nat
  E i := slots 47 [(1, .pointer (some ⟨2, 0, none⟩)), (26, .slice (some ⟨0, 0, none⟩) n c), (27, .int .i64 (Int.ofNat n)), (28, .int .i64 (Int.ofNat i))]
  Hp _ := hp2 zs ks false false false false [secR nm n c k d]
  I i := i ≤ n ∧ nearL (zs.getD 0 0) (zs.drop (i * 2)) = nearL (zs.getD 0 0) zs
  m i := n - i
noncomputable def hsNr (nm : ByteArray) (zs : List Int) (ks : List (Int × ByteArray)) (n c k d : Nat) : Hs Tryz.prog where
  op y := if [500, 608].contains y then some (hIa Tryz.prog) else if y = 501 then some (hLd Tryz.prog (z2 zs)) else if y = 610 then some (hLd Tryz.prog (zI zs)) else none
  lp _ := some (lpNr nm zs ks n c k d)
  cl _ := keep 47 [1, 26, 27, 28]
  au := auCalls [(35, hCa Tryz.prog 35 (orcShV zs ks) (short_okV zs ks)), (38, hCa Tryz.prog 38 (orcCkV zs ks) (ckR_okV zs ks))]
theorem near_t (nm : ByteArray) (zs : List Int) (ks : List (Int × ByteArray)) (n : Nat) (c : Nat) (k : Nat) (d : Nat) (K : Value → Heap → Prop) :
    (fnP Tryz.prog c0 (hsNr nm zs ks n c k d) (70 : FuncId) [Value.agg (List.toArray (secA nm (0 : Nat) n c (1 : Nat) k d))] (hp2 zs ks false false false false []) K) =
    (Is (ints zs = ints zs ∧ acs ks = acs ks ∧ List.length ks = k ∧ n ≤ (9223372036854775807 : Nat) ∧ k ≤ (9223372036854775807 : Nat)) ∧ br (!shortS nm n ks k) (K (Value.bool false) (some (AObj.row (ints zs) (2 : Nat) false false true) :: some (AObj.row (acs ks) (2 : Nat) false false true) :: noH)) (Is (isSec zs ks n k (ints zs) (acs ks)) ∧ br (secE nm zs n ks k != (0 : Int)) (K (Value.bool false) (some (AObj.row (ints zs) (2 : Nat) false false true) :: some (AObj.row (acs ks) (2 : Nat) false false true) :: noH)) (br (decide ((8 : Int) < (↑n : Int))) (K (Value.bool false) (some (AObj.row (ints zs) (2 : Nat) false false true) :: some (AObj.row (acs ks) (2 : Nat) false false true) :: noH)) (br (decide ((6 : Int) < (↑k : Int))) (K (Value.bool false) (some (AObj.row (ints zs) (2 : Nat) false false true) :: some (AObj.row (acs ks) (2 : Nat) false false true) :: noH)) ((∃ (s : Nat), Is (s ≤ n ∧ nearL (List.getD zs (0 : Nat) (0 : Int)) (List.drop (s * (2 : Nat)) zs) = nearL (List.getD zs (0 : Nat) (0 : Int)) zs) ∧ [poi, Value.pointer (some { block := (2 : Nat), off := (0 : Nat) }), poi, poi, poi, poi, poi, poi, poi, poi, poi, poi, poi, poi, poi, poi, poi, poi, poi, poi, poi, poi, poi, poi, poi, poi, Value.slice (some { block := (0 : Nat), off := (0 : Nat) }) n c, Value.int IntKind.i64 (↑n : Int), Value.int IntKind.i64 (0 : Int), poi, poi, poi, poi, poi, poi, poi, poi, poi, poi, poi, poi, poi, poi, poi, poi, poi, poi] = [poi, Value.pointer (some { block := (2 : Nat), off := (0 : Nat) }), poi, poi, poi, poi, poi, poi, poi, poi, poi, poi, poi, poi, poi, poi, poi, poi, poi, poi, poi, poi, poi, poi, poi, poi, Value.slice (some { block := (0 : Nat), off := (0 : Nat) }) n c, Value.int IntKind.i64 (↑n : Int), Value.int IntKind.i64 (↑s : Int), poi, poi, poi, poi, poi, poi, poi, poi, poi, poi, poi, poi, poi, poi, poi, poi, poi, poi] ∧ some (AObj.row (ints zs) (2 : Nat) false false true) :: some (AObj.row (acs ks) (2 : Nat) false false true) :: some (AObj.row [Value.string nm, Value.slice (some { block := (0 : Nat), off := (0 : Nat) }) n c, Value.slice (some { block := (1 : Nat), off := (0 : Nat) }) k d] (0 : Nat) false true (List.all [Value.string nm, Value.slice (some { block := (0 : Nat), off := (0 : Nat) }) n c, Value.slice (some { block := (1 : Nat), off := (0 : Nat) }) k d] atom)) :: noH = some (AObj.row (ints zs) (2 : Nat) false false true) :: some (AObj.row (acs ks) (2 : Nat) false false true) :: some (AObj.row [Value.string nm, Value.slice (some { block := (0 : Nat), off := (0 : Nat) }) n c, Value.slice (some { block := (1 : Nat), off := (0 : Nat) }) k d] (0 : Nat) false true false) :: noH) ∧ ∀ (s : Nat), Is (s ≤ n ∧ nearL (List.getD zs (0 : Nat) (0 : Int)) (List.drop (s * (2 : Nat)) zs) = nearL (List.getD zs (0 : Nat) (0 : Int)) zs) → br (decide ((↑s : Int) < (↑n : Int))) (Is ((0 : Int) ≤ (↑s : Int) ∧ (↑s : Int) < (↑n : Int)) ∧ Is ((if (0 : Nat) + Int.toNat (↑s : Int) * (2 : Nat) + (2 : Nat) ≤ List.length (ints zs) then some (Value.agg (List.toArray (List.take (2 : Nat) (List.drop ((0 : Nat) + Int.toNat (↑s : Int) * (2 : Nat)) (ints zs))))) else none) = some (Value.agg #[Value.int IntKind.i64 (List.getD zs ((0 : Nat) + Int.toNat (↑s : Int) * (2 : Nat)) (0 : Int)), Value.int IntKind.i64 (List.getD zs ((0 : Nat) + Int.toNat (↑s : Int) * (2 : Nat) + (1 : Nat)) (0 : Int))])) ∧ br (decide ((400 : Int) < List.getD zs ((0 : Nat) + Int.toNat (↑s : Int) * (2 : Nat) + (1 : Nat)) (0 : Int))) (K (Value.bool false) (some (AObj.row (ints zs) (2 : Nat) false false true) :: some (AObj.row (acs ks) (2 : Nat) false false true) :: noH)) (Is ((0 : Int) ≤ (0 : Int) ∧ (0 : Int) < (↑n : Int)) ∧ Is ((ints zs)[(0 : Nat)]? = some (Value.int IntKind.i64 (List.getD zs (0 : Nat) (0 : Int)))) ∧ br (decide (IntKind.wrap IntKind.i64 (List.getD zs (0 : Nat) (0 : Int) + (400 : Int)) < List.getD zs ((0 : Nat) + Int.toNat (↑s : Int) * (2 : Nat)) (0 : Int))) (K (Value.bool false) (some (AObj.row (ints zs) (2 : Nat) false false true) :: some (AObj.row (acs ks) (2 : Nat) false false true) :: noH)) (∃ (s' : Nat), Is (s' ≤ n ∧ nearL (List.getD zs (0 : Nat) (0 : Int)) (List.drop (s' * (2 : Nat)) zs) = nearL (List.getD zs (0 : Nat) (0 : Int)) zs) ∧ Is (n - s' < n - s) ∧ [poi, Value.pointer (some { block := (2 : Nat), off := (0 : Nat) }), poi, poi, poi, poi, poi, poi, poi, poi, poi, poi, poi, poi, poi, poi, poi, poi, poi, poi, poi, poi, poi, poi, poi, poi, Value.slice (some { block := (0 : Nat), off := (0 : Nat) }) n c, Value.int IntKind.i64 (↑n : Int), Value.int IntKind.i64 (IntKind.wrap IntKind.i64 ((↑s : Int) + (1 : Int))), poi, poi, poi, poi, poi, poi, poi, poi, poi, poi, poi, poi, poi, poi, poi, poi, poi, poi] = [poi, Value.pointer (some { block := (2 : Nat), off := (0 : Nat) }), poi, poi, poi, poi, poi, poi, poi, poi, poi, poi, poi, poi, poi, poi, poi, poi, poi, poi, poi, poi, poi, poi, poi, poi, Value.slice (some { block := (0 : Nat), off := (0 : Nat) }) n c, Value.int IntKind.i64 (↑n : Int), Value.int IntKind.i64 (↑s' : Int), poi, poi, poi, poi, poi, poi, poi, poi, poi, poi, poi, poi, poi, poi, poi, poi, poi, poi] ∧ some (AObj.row (ints zs) (2 : Nat) false false true) :: some (AObj.row (acs ks) (2 : Nat) false false true) :: some (AObj.row [Value.string nm, Value.slice (some { block := (0 : Nat), off := (0 : Nat) }) n c, Value.slice (some { block := (1 : Nat), off := (0 : Nat) }) k d] (0 : Nat) false true false) :: noH = some (AObj.row (ints zs) (2 : Nat) false false true) :: some (AObj.row (acs ks) (2 : Nat) false false true) :: some (AObj.row [Value.string nm, Value.slice (some { block := (0 : Nat), off := (0 : Nat) }) n c, Value.slice (some { block := (1 : Nat), off := (0 : Nat) }) k d] (0 : Nat) false true false) :: noH))) (K (Value.bool true) (some (AObj.row (ints zs) (2 : Nat) false false true) :: some (AObj.row (acs ks) (2 : Nat) false false true) :: noH))))))) := by kernel_rfl
theorem okSnd : Ok Tryz.prog 71 orcSnd := by
  intro args H ret H' h
  unfold orcSnd at h
  split at h
  · rename_i a b
    cases h
    refine fnP_res hm c0_ok (hs := h0) ?_
    show fnP Tryz.prog c0 h0 71 [.agg #[.int .i64 a, .int .i64 b]] [] _
    rw [snd_t]
    refine br_of (fun h1 => br_of (fun h2 => br_of (fun h3 => ?_) (fun h3 => ?_)) (fun h2 => ?_)) (fun h1 => ?_)
    · rw [sndB, h1, h2, h3]; exact ⟨by first | trivial | rfl, by first | trivial | rfl⟩
    · rw [sndB, h1, h2, h3]; exact ⟨by first | trivial | rfl, by first | trivial | rfl⟩
    · rw [sndB, h1, h2]; exact ⟨by first | trivial | rfl, by first | trivial | rfl⟩
    · rw [sndB, h1]; exact ⟨by first | trivial | rfl, by first | trivial | rfl⟩
  · cases h
theorem drop_two {zs : List Int} {i : Nat} (h : i * 2 + 2 ≤ zs.length) : zs.drop (i * 2) = zs.getD (i * 2) 0 :: zs.getD (i * 2 + 1) 0 :: zs.drop ((i + 1) * 2) := by
  rw [drop_getD 0 (show i * 2 < zs.length by omega), drop_getD 0 (show i * 2 + 1 < zs.length by omega), show i * 2 + 1 + 1 = (i + 1) * 2 by omega]
noncomputable def isNr (zs : List Int) (ks : List (Int × ByteArray)) (n k : Nat) (e1 e2 : List Value) : Prop := e1 = ints zs ∧ e2 = acs ks ∧ zs.length = n * 2 ∧ ks.length = k ∧ n ≤ 9223372036854775807 ∧ k ≤ 9223372036854775807
noncomputable def orcNrV (zs : List Int) (ks : List (Int × ByteArray)) : OrcV
  | [.agg ⟨[.string nm, .slice (some ⟨0, 0, none⟩) n _, .slice (some ⟨1, 0, none⟩) k _]⟩], [some (.row e1 2 false false true), some (.row e2 2 false false true)] => some (.bool (nearB nm zs n ks k), [some (.row e1 2 false false true), some (.row e2 2 false false true)], isNr zs ks n k e1 e2)
  | _, _ => none
set_option maxRecDepth 100000 in
theorem near_okV (zs : List Int) (ks : List (Int × ByteArray)) : OkV Tryz.prog 70 (orcNrV zs ks) := by
  intro args H ret H' vc h hv
  unfold orcNrV at h
  split at h
  · rename_i nm n c k d e1 e2
    cases h
    obtain ⟨rfl, rfl, hz, hk, hn, hk2⟩ := hv
    refine fnP_res hm c0_ok (hs := hsNr nm zs ks n c k d) ?_
    show fnP Tryz.prog c0 (hsNr nm zs ks n c k d) 70 [.agg (secA nm 0 n c 1 k d).toArray] (hp2 zs ks false false false false []) _
    rw [near_t]
    refine ⟨⟨rfl, rfl, hk, hn, hk2⟩, br_of (fun h1 => ?_) (fun h1 => ?_)⟩
    · rw [nearB, show shortS nm n ks k = false by simpa using h1]
      exact ⟨by first | trivial | rfl, by first | trivial | rfl⟩
    have h1' : shortS nm n ks k = true := by simpa using h1
    obtain ⟨b1, b2⟩ := shortS_ok h1'
    have hi : isSec zs ks n k (ints zs) (acs ks) := ⟨rfl, rfl, hz, hk, by omega, by omega⟩
    refine ⟨⟨hi⟩, br_of (fun h2 => ?_) (fun h2 => br_of (fun h3 => ?_) (fun h3 => br_of (fun h4 => ?_) (fun h4 => ?_)))⟩
    · have h2' : (secE nm zs n ks k == 0) = false := by simpa using h2
      rw [nearB, h1', h2']
      exact ⟨by first | trivial | rfl, by first | trivial | rfl⟩
    · have h2' : (secE nm zs n ks k == 0) = true := by simpa using h2
      have h3' : decide (8 < n) = true := by have := of_decide_eq_true h3; exact decide_eq_true (by omega)
      rw [nearB, h1', h2', h3']
      exact ⟨by first | trivial | rfl, by first | trivial | rfl⟩
    · have h2' : (secE nm zs n ks k == 0) = true := by simpa using h2
      have h3' : decide (8 < n) = false := by have := of_decide_eq_false h3; exact decide_eq_false (by omega)
      have h4' : decide (6 < k) = true := by have := of_decide_eq_true h4; exact decide_eq_true (by omega)
      rw [nearB, h1', h2', h3', h4']
      exact ⟨by first | trivial | rfl, by first | trivial | rfl⟩
    · have h2' : (secE nm zs n ks k == 0) = true := by simpa using h2
      have h3' : decide (8 < n) = false := by have := of_decide_eq_false h3; exact decide_eq_false (by omega)
      have h4' : decide (6 < k) = false := by have := of_decide_eq_false h4; exact decide_eq_false (by omega)
      have hb : nearB nm zs n ks k = nearL (zs.getD 0 0) zs := by rw [nearB, h1', h2', h3', h4']; rfl
      have hmm := (secE_ok (by simpa using h2' : secE nm zs n ks k = 0)).1
      have hall := mchk_all zs (-1) hmm
      rw [hb]
      refine ⟨⟨(0 : Nat), ⟨by omega, by rw [Nat.zero_mul, List.drop_zero]⟩, by first | trivial | rfl, by first | trivial | rfl⟩, fun s hs => br_of (fun hc => ?_) (fun hc => ?_)⟩
      · have hc : s < n := by have := of_decide_eq_true hc; omega
        obtain ⟨i1, i2⟩ := hs.out
        have hl : s * 2 + 2 ≤ zs.length := by omega
        obtain ⟨_, z0, z1, y0, y1⟩ := hall s hl
        obtain ⟨_, u0, u1, _, _⟩ := hall 0 (by omega)
        rw [drop_two hl, nearL] at i2
        rw [Nat.zero_mul] at u0 u1
        have ew : IntKind.wrap .i64 (zs.getD 0 0 + 400) = zs.getD 0 0 + 400 := wrap_eq (by omega) (by omega)
        simp only [Int.toNat_natCast, Nat.zero_add, ew]
        refine ⟨⟨by omega, by omega⟩, ⟨ldm hl⟩, br_of (fun h5 => ?_) (fun h5 => ⟨⟨by omega, by omega⟩, ⟨ints_at (by omega)⟩, br_of (fun h6 => ?_) (fun h6 => ⟨s + 1, ⟨by omega, ?_⟩, ⟨by omega⟩, ?_, by first | trivial | rfl⟩)⟩)⟩
        · rw [h5] at i2
          rw [← i2]
          exact ⟨by first | trivial | rfl, by first | trivial | rfl⟩
        · rw [h6, Bool.or_true] at i2
          rw [← i2]
          exact ⟨by first | trivial | rfl, by first | trivial | rfl⟩
        · rw [h5, h6] at i2
          exact i2
        · rw [up1 hc (by omega)]
      · obtain ⟨i1, i2⟩ := hs.out
        have hc : s = n := by have := of_decide_eq_false hc; omega
        rw [List.drop_eq_nil_of_le (by omega)] at i2
        rw [← i2]
        exact ⟨by first | trivial | rfl, by first | trivial | rfl⟩
  · cases h
theorem nearL_all {z : Int} : ∀ (zs : List Int), nearL z zs = true → ∀ i, i * 2 + 2 ≤ zs.length → zs.getD (i * 2 + 1) 0 ≤ 400 ∧ zs.getD (i * 2) 0 ≤ z + 400
  | [], _, i, h => by simp at h
  | [_], _, i, h => by simp only [List.length_cons, List.length_nil] at h; omega
  | a :: b :: r, hm, i, h => by
    simp only [nearL, Bool.and_eq_true, Bool.not_eq_true', Bool.or_eq_false_iff, decide_eq_false_iff_not] at hm
    match i with
    | 0 => simp only [Nat.zero_mul, Nat.zero_add, List.getD_cons_zero, List.getD_cons_succ]; omega
    | i + 1 =>
      have := nearL_all r hm.2 i (by simp only [List.length_cons] at h; omega)
      rw [show (i + 1) * 2 = i * 2 + 1 + 1 by omega]
      simpa using this
/-- A section that is near. -/
structure NearS (nm : ByteArray) (zs : List Int) (n : Nat) (ks : List (Int × ByteArray)) (k : Nat) : Prop where
  ok : secE nm zs n ks k = 0
  n8 : n ≤ 8
  k6 : k ≤ 6
  all : ∀ i, i * 2 + 2 ≤ zs.length → zs.getD (i * 2 + 1) 0 ≤ 400 ∧ zs.getD (i * 2) 0 ≤ zs.getD 0 0 + 400
theorem nearB_ok {nm : ByteArray} {zs : List Int} {n : Nat} {ks : List (Int × ByteArray)} {k : Nat} (h : nearB nm zs n ks k = true) : NearS nm zs n ks k := by
  simp only [nearB, Bool.and_eq_true, Bool.not_eq_true', decide_eq_false_iff_not, beq_iff_eq] at h
  obtain ⟨⟨⟨⟨h1, h2⟩, h3⟩, h4⟩, h5⟩ := h
  exact ⟨h2, by omega, by omega, nearL_all zs h5⟩
end
end Qq
