/- Parts of the proof: QRA, QRB, QRC, QRE. -/
import Derived.Test.YtaigknknfaeajaaGreatDoorZP
import Derived.Test.YtaigknknfaeajaaGreatDoorQKK
import Derived.Test.YtaigknknfaeajaaGreatDoorQDD
section
/- Range, Earliest, Latest: contracts. -/
open Go Go.Vm Go.Proofs Sp
namespace Sp
noncomputable section
noncomputable def ixN (pr : Ln → Bool) : List Ln → Nat → Int
  | [], _ => -1
  | l :: r, i => if pr l = true then (i : Int) else ixN pr r (i + 1)
end
end Sp
namespace Qq
noncomputable section
noncomputable def koL (zs : List Int) (ks : List (Int × ByteArray)) (n k : Nat) (p w : Int) : List Ln := outP (ptP zs (pf zs ks p * 2) (pm zs ks n k p)) w (pm zs ks n k p)
noncomputable def koE (zs : List Int) (ks : List (Int × ByteArray)) (n k : Nat) (p w : Int) : Int := sel (wh (decide (pm zs ks n k p < 2)) 16) (wh ((((koL zs ks n k p w).length : Nat) : Int) == 0) 18)
noncomputable def orcKoV (zs : List Int) (ks : List (Int × ByteArray)) : OrcV
  | [.agg ⟨[.string _, .slice (some ⟨0, 0, none⟩) n _, .slice (some ⟨1, 0, none⟩) k _]⟩, .int .i64 p, .int .i64 w], [some (.row e1 2 true true true), some (.row e2 2 true true true)] =>
    some (.tuple #[.slice (some ⟨2, 0, none⟩) (koL zs ks n k p w).length 0, .int .i64 (koE zs ks n k p w)], [some (.row e1 2 true true true), some (.row e2 2 true true true), lst4 (koL zs ks n k p w)], isPer zs ks n k p e1 e2 ∧ 0 ≤ w ∧ w ≤ 100000)
  | _, _ => none
theorem ko_short {nm : ByteArray} {zs : List Int} {ks : List (Int × ByteArray)} {n c k d : Nat} {p w : Int} (hp : isPer zs ks n k p (ints zs) (acs ks)) (hm2 : pm zs ks n k p < 2) :
    SmallRes Tryz.prog 145 [.agg (secA nm 0 n c 1 k d).toArray, .int .i64 p, .int .i64 w] (hp2 zs ks true true true true []) (.tuple #[.slice none 0 0, .int .i64 16]) (hp2 zs ks true true true true []) := by
  refine fnP_res hm c2_ok (hs := hsKo zs ks (pf zs ks p * 2) (pm zs ks n k p) w) ?_
  rw [ko_t]
  exact ⟨⟨hp⟩, br_of (fun _ => ⟨by first | trivial | rfl, by first | trivial | rfl⟩) (fun h => by have := of_decide_eq_false h; omega)⟩
theorem ko_okV (zs : List Int) (ks : List (Int × ByteArray)) : OkV Tryz.prog 145 (orcKoV zs ks) := by
  intro args H ret H' vc h hv
  unfold orcKoV at h
  split at h
  · rename_i nm n c k d p w e1 e2
    cases h
    obtain ⟨⟨⟨rfl, rfl, h1⟩, h2⟩, w0, w1⟩ := hv
    by_cases hm2 : pm zs ks n k p < 2
    · have e1 : koL zs ks n k p w = [] := outP_short _ _ _ hm2
      have e2 : koE zs ks n k p w = 16 := by rw [koE, decide_eq_true hm2]; rfl
      rw [e2, e1]
      exact SmallRes.nil (rest := [.int .i64 16]) (ko_short ⟨⟨rfl, rfl, h1⟩, h2⟩ hm2) 4
    · have e2 : koE zs ks n k p w = wh ((((koL zs ks n k p w).length : Nat) : Int) == 0) 18 := by rw [koE, decide_eq_false hm2]; rfl
      rw [e2]
      exact ko_ok ⟨⟨rfl, rfl, h1⟩, h2⟩ w0 w1 (by omega)
  · cases h
theorem outP_len (L : List Int) (w : Int) (m : Nat) (h : m ≤ 32) : (outP L w m).length ≤ 4096 := rows_len L w m h
theorem koL_in {zs : List Int} {ks : List (Int × ByteArray)} {n k : Nat} {p w x : Int} {e1 e2 : List Value} (hp : isPer zs ks n k p e1 e2) (w0 : 0 ≤ w) (w1 : w ≤ 100000) (x0 : 0 ≤ x) (x1 : x ≤ 100000) : ∀ l ∈ koL zs ks n k p w, LnIn l x := fun l hl => by
  obtain ⟨kk, hk, i, hi, j, hj, _, _, rfl⟩ := mem_outP.1 hl
  have hpt := per_pts hp
  generalize pf zs ks p * 2 = off at *
  generalize pm zs ks n k p = m at *
  obtain ⟨s1, s2⟩ := sgP_one hj
  obtain ⟨z0, z1⟩ := hpt.part.pts i (by omega)
  obtain ⟨z2, z3⟩ := hpt.part.pts kk (by omega)
  obtain ⟨y0, y1⟩ := hpt.part.idx i (by omega)
  obtain ⟨y2, y3⟩ := hpt.part.idx kk (by omega)
  obtain ⟨_, _, _, _, _, _, _, g1, g2, g3, g4⟩ := cr_wraps s1 s2 w0 w1 z0 (hpt.up i kk hi hk) z3 y0 y1 y2 y3
  have hlt := hpt.up i kk hi hk
  rw [crn_part w _ _ (by omega) (by omega)]
  exact ⟨z0, z1, by simp only; omega, by simp only; omega, by simp only; omega, by simp only; omega, by simp only; omega, by simp only; omega, x0, x1⟩
noncomputable def ccE0 (nm : ByteArray) (zs : List Int) (n : Nat) (ks : List (Int × ByteArray)) (k : Nat) (p w l : Int) : Int := fi [perE nm zs n ks k p, wi w 0 100000, wi l 0 100000]
noncomputable def ccE (nm : ByteArray) (zs : List Int) (n : Nat) (ks : List (Int × ByteArray)) (k : Nat) (p w l : Int) : Int := sel (ccE0 nm zs n ks k p w l) (koE zs ks n k p w)
noncomputable def ccL (nm : ByteArray) (zs : List Int) (n : Nat) (ks : List (Int × ByteArray)) (k : Nat) (p w l : Int) : List Ln := if ccE0 nm zs n ks k p w l = 0 then koL zs ks n k p w else []
noncomputable def hsCc (zs : List Int) (ks : List (Int × ByteArray)) : Hs Tryz.prog where
  au := auCalls [(129, hCa Tryz.prog 129 (orcCpV zs ks) (cp_okV zs ks)), (145, hCa Tryz.prog 145 (orcKoV zs ks) (ko_okV zs ks))]
theorem cc_t (nm : ByteArray) (zs : List Int) (ks : List (Int × ByteArray)) (n : Nat) (c : Nat) (k : Nat) (d : Nat) (p : Int) (w : Int) (l : Int) (K : Value → Heap → Prop) :
    (fnP Tryz.prog c21 (hsCc zs ks) (151 : FuncId) [Value.agg (List.toArray (secA nm (0 : Nat) n c (1 : Nat) k d)), Value.int IntKind.i64 p, Value.int IntKind.i64 w, Value.int IntKind.i64 l] (hp2 zs ks true true true true []) K) =
    (Is (isSec zs ks n k (ints zs) (acs ks)) ∧ br (fi [perE nm zs n ks k p, wi w (0 : Int) (100000 : Int), wi l (0 : Int) (100000 : Int)] != (0 : Int)) (K (Value.tuple #[Value.slice none (0 : Nat) (0 : Nat), Value.int IntKind.i64 (fi [perE nm zs n ks k p, wi w (0 : Int) (100000 : Int), wi l (0 : Int) (100000 : Int)])]) (some (AObj.row (ints zs) (2 : Nat) true true true) :: some (AObj.row (acs ks) (2 : Nat) true true true) :: noH)) (Is (isPer zs ks n k p (ints zs) (acs ks) ∧ (0 : Int) ≤ w ∧ w ≤ (100000 : Int)) ∧ K (Value.tuple #[Value.slice (some { block := (2 : Nat), off := (0 : Nat) }) (List.length (koL zs ks n k p w)) (0 : Nat), Value.int IntKind.i64 (koE zs ks n k p w)]) (some (AObj.row (ints zs) (2 : Nat) true true true) :: some (AObj.row (acs ks) (2 : Nat) true true true) :: some (AObj.row (ints (fl4 (koL zs ks n k p w))) (4 : Nat) true true true) :: noH))) := by kernel_rfl
noncomputable def orcCcV (zs : List Int) (ks : List (Int × ByteArray)) : OrcV
  | [.agg ⟨[.string nm, .slice (some ⟨0, 0, none⟩) n _, .slice (some ⟨1, 0, none⟩) k _]⟩, .int .i64 p, .int .i64 w, .int .i64 l], [some (.row e1 2 true true true), some (.row e2 2 true true true)] =>
    some (.tuple #[.slice (some ⟨2, 0, none⟩) (ccL nm zs n ks k p w l).length 0, .int .i64 (ccE nm zs n ks k p w l)], [some (.row e1 2 true true true), some (.row e2 2 true true true), lst4 (ccL nm zs n ks k p w l)], isSec zs ks n k e1 e2)
  | _, _ => none
theorem cc_nil {nm : ByteArray} {zs : List Int} {ks : List (Int × ByteArray)} {n c k d : Nat} {p w l : Int} (hi : isSec zs ks n k (ints zs) (acs ks)) (h : ccE0 nm zs n ks k p w l ≠ 0) :
    SmallRes Tryz.prog 151 [.agg (secA nm 0 n c 1 k d).toArray, .int .i64 p, .int .i64 w, .int .i64 l] (hp2 zs ks true true true true []) (.tuple #[.slice none 0 0, .int .i64 (ccE0 nm zs n ks k p w l)]) (hp2 zs ks true true true true []) := by
  refine fnP_res hm c21_ok (hs := hsCc zs ks) ?_
  rw [cc_t]
  exact ⟨⟨hi⟩, br_of (fun _ => ⟨by first | trivial | rfl, by first | trivial | rfl⟩) (fun h2 => absurd (show ccE0 nm zs n ks k p w l = 0 by simp only [ccE0]; simpa using h2) h)⟩
theorem cc_ok {nm : ByteArray} {zs : List Int} {ks : List (Int × ByteArray)} {n c k d : Nat} {p w l : Int} (hi : isSec zs ks n k (ints zs) (acs ks)) (h : ccE0 nm zs n ks k p w l = 0) :
    SmallRes Tryz.prog 151 [.agg (secA nm 0 n c 1 k d).toArray, .int .i64 p, .int .i64 w, .int .i64 l] (hp2 zs ks true true true true []) (.tuple #[.slice (some ⟨2, 0, none⟩) (koL zs ks n k p w).length 0, .int .i64 (koE zs ks n k p w)]) (hp2 zs ks true true true true [lst4 (koL zs ks n k p w)]) := by
  refine fnP_res hm c21_ok (hs := hsCc zs ks) ?_
  rw [cc_t]
  have hp := perE_ok hi (fi_zero.1 h (perE nm zs n ks k p) (by simp))
  have hw := wi_zero.1 (fi_zero.1 h (wi w 0 100000) (by simp))
  exact ⟨⟨hi⟩, br_of (fun h2 => absurd h (show ccE0 nm zs n ks k p w l ≠ 0 by simp only [ccE0]; simpa using h2)) (fun _ => ⟨⟨hp, hw.1, hw.2⟩, by first | trivial | rfl, by first | trivial | rfl⟩)⟩
theorem cc_okV (zs : List Int) (ks : List (Int × ByteArray)) : OkV Tryz.prog 151 (orcCcV zs ks) := by
  intro args H ret H' vc h hv
  unfold orcCcV at h
  split at h
  · rename_i nm n c k d p w l e1 e2
    cases h
    obtain ⟨rfl, rfl, h1⟩ := hv
    by_cases h0 : ccE0 nm zs n ks k p w l = 0
    · rw [ccL, ccE, if_pos h0, sel, if_pos h0]
      exact cc_ok ⟨rfl, rfl, h1⟩ h0
    · rw [ccL, ccE, if_neg h0, sel, if_neg h0]
      exact SmallRes.nil (rest := [.int .i64 (ccE0 nm zs n ks k p w l)]) (cc_nil ⟨rfl, rfl, h1⟩ h0) 4
  · cases h
/- Below a limit on a day. -/
theorem l1_t (a : Int) (b : Int) (s : Int) (d : Int) (x : Int) (l : Int) (K : Value → Heap → Prop) :
    (fnP Tryz.prog c0 h0 (155 : FuncId) [Value.agg (List.toArray (lnC a b s d)), Value.pointer (some { block := (0 : Nat), off := (0 : Nat) }), Value.pointer (some { block := (1 : Nat), off := (0 : Nat) })] [bx1 x, bx1 l] K) =
    (K (Value.bool (decide (IntKind.wrap IntKind.i64 (b + IntKind.wrap IntKind.i64 (s * IntKind.wrap IntKind.i64 (x - a))) < IntKind.wrap IntKind.i64 (l * d)))) (some (AObj.row [Value.int IntKind.i64 x] (0 : Nat) false true true) :: some (AObj.row [Value.int IntKind.i64 l] (0 : Nat) false true true) :: noH)) := by kernel_rfl
noncomputable def orcL1 : OrcV
  | [.agg ⟨[.int .i64 a, .int .i64 b, .int .i64 s, .int .i64 d]⟩, .pointer (some ⟨0, 0, none⟩), .pointer (some ⟨1, 0, none⟩)], [some (.row [.int .i64 x] 0 false true true), some (.row [.int .i64 l] 0 false true true)] =>
    some (.bool (belowB l x (a, b, s, d)), [some (.row [.int .i64 x] 0 false true true), some (.row [.int .i64 l] 0 false true true)], LnIn (a, b, s, d) x ∧ 0 ≤ l ∧ l ≤ 100000)
  | _, _ => none
theorem okL1 : OkV Tryz.prog 155 orcL1 := by
  intro args H ret H' vc h hv
  unfold orcL1 at h
  split at h
  · rename_i a b s d x l
    cases h
    obtain ⟨v1, v2, v3⟩ := hv
    refine fnP_res hm c0_ok (hs := h0) ?_
    show fnP Tryz.prog c0 h0 155 [.agg (lnC a b s d).toArray, _, _] [bx1 x, bx1 l] _
    rw [l1_t]
    have e := v1.at.1
    simp only at e
    have d0 := v1.d0
    have d1 := v1.d1
    simp only at d0 d1
    have p := mul_in v2 v3 (show 0 ≤ d by omega) d1
    rw [e, wrap_eq (x := l * d) (by omega) (by omega)]
    exact ⟨by first | trivial | rfl, by first | trivial | rfl⟩
  · cases h
noncomputable def cloL : Value := .func (.func 155) #[] #[.pointer (some ⟨1, 0, none⟩), .pointer (some ⟨2, 0, none⟩)]
noncomputable def lpIx (Q : List Ln) (n c : Nat) (x l : Int) : Lp where
  σ := Nat
  E i := slots 19 [(0, .slice (some ⟨0, 0, none⟩) n c), (1, cloL), (7, .int .i64 (Int.ofNat n)), (8, .int .i64 (Int.ofNat i))]
  Hp _ := [lst4 Q, bx1 x, bx1 l]
  I i := i ≤ n ∧ ixN (belowB l x) (Q.drop i) i = ixN (belowB l x) Q 0
  m i := n - i
noncomputable def hsIx (Q : List Ln) (n c : Nat) (x l : Int) : Hs Tryz.prog where
  op y := if y = 403 then some (hIa Tryz.prog) else if y = 404 then some (hLd Tryz.prog (z4 (fl4 Q))) else if y = 405 then some (hCa Tryz.prog 155 orcL1 okL1) else none
  lp _ := some (lpIx Q n c x l)
  cl _ := keep 19 [0, 1, 7, 8]
  au := au0 Tryz.prog
theorem ix_t (Q : List Ln) (n : Nat) (c : Nat) (x : Int) (l : Int) (K : Value → Heap → Prop) :
    (fnP Tryz.prog c0 (hsIx Q n c x l) (209 : FuncId) [Value.slice (some { block := (0 : Nat), off := (0 : Nat) }) n c, cloL] [lst4 Q, bx1 x, bx1 l] K) =
    ((∃ (s : Nat), Is (s ≤ n ∧ ixN (belowB l x) (List.drop s Q) s = ixN (belowB l x) Q (0 : Nat)) ∧ [Value.slice (some { block := (0 : Nat), off := (0 : Nat) }) n c, Value.func (Fn.func (155 : Nat)) #[] #[Value.pointer (some { block := (1 : Nat), off := (0 : Nat) }), Value.pointer (some { block := (2 : Nat), off := (0 : Nat) })], poi, poi, poi, poi, poi, Value.int IntKind.i64 (↑n : Int), Value.int IntKind.i64 (0 : Int), poi, poi, poi, poi, poi, poi, poi, poi, poi, poi] = [Value.slice (some { block := (0 : Nat), off := (0 : Nat) }) n c, Value.func (Fn.func (155 : Nat)) #[] #[Value.pointer (some { block := (1 : Nat), off := (0 : Nat) }), Value.pointer (some { block := (2 : Nat), off := (0 : Nat) })], poi, poi, poi, poi, poi, Value.int IntKind.i64 (↑n : Int), Value.int IntKind.i64 (↑s : Int), poi, poi, poi, poi, poi, poi, poi, poi, poi, poi] ∧ some (AObj.row (ints (fl4 Q)) (4 : Nat) true true true) :: some (AObj.row [Value.int IntKind.i64 x] (0 : Nat) false true true) :: some (AObj.row [Value.int IntKind.i64 l] (0 : Nat) false true true) :: noH = some (AObj.row (ints (fl4 Q)) (4 : Nat) true true true) :: some (AObj.row [Value.int IntKind.i64 x] (0 : Nat) false true true) :: some (AObj.row [Value.int IntKind.i64 l] (0 : Nat) false true true) :: noH) ∧ ∀ (s : Nat), Is (s ≤ n ∧ ixN (belowB l x) (List.drop s Q) s = ixN (belowB l x) Q (0 : Nat)) → br (decide ((↑s : Int) < (↑n : Int))) (Is ((0 : Int) ≤ (↑s : Int) ∧ (↑s : Int) < (↑n : Int)) ∧ Is ((if (0 : Nat) + Int.toNat (↑s : Int) * (4 : Nat) + (4 : Nat) ≤ List.length (ints (fl4 Q)) then some (Value.agg (List.toArray (List.take (4 : Nat) (List.drop ((0 : Nat) + Int.toNat (↑s : Int) * (4 : Nat)) (ints (fl4 Q)))))) else none) = some (Value.agg #[Value.int IntKind.i64 (List.getD (fl4 Q) ((0 : Nat) + Int.toNat (↑s : Int) * (4 : Nat)) (0 : Int)), Value.int IntKind.i64 (List.getD (fl4 Q) ((0 : Nat) + Int.toNat (↑s : Int) * (4 : Nat) + (1 : Nat)) (0 : Int)), Value.int IntKind.i64 (List.getD (fl4 Q) ((0 : Nat) + Int.toNat (↑s : Int) * (4 : Nat) + (2 : Nat)) (0 : Int)), Value.int IntKind.i64 (List.getD (fl4 Q) ((0 : Nat) + Int.toNat (↑s : Int) * (4 : Nat) + (3 : Nat)) (0 : Int))])) ∧ Is (LnIn (List.getD (fl4 Q) ((0 : Nat) + Int.toNat (↑s : Int) * (4 : Nat)) (0 : Int), List.getD (fl4 Q) ((0 : Nat) + Int.toNat (↑s : Int) * (4 : Nat) + (1 : Nat)) (0 : Int), List.getD (fl4 Q) ((0 : Nat) + Int.toNat (↑s : Int) * (4 : Nat) + (2 : Nat)) (0 : Int), List.getD (fl4 Q) ((0 : Nat) + Int.toNat (↑s : Int) * (4 : Nat) + (3 : Nat)) (0 : Int)) x ∧ (0 : Int) ≤ l ∧ l ≤ (100000 : Int)) ∧ br (belowB l x (List.getD (fl4 Q) ((0 : Nat) + Int.toNat (↑s : Int) * (4 : Nat)) (0 : Int), List.getD (fl4 Q) ((0 : Nat) + Int.toNat (↑s : Int) * (4 : Nat) + (1 : Nat)) (0 : Int), List.getD (fl4 Q) ((0 : Nat) + Int.toNat (↑s : Int) * (4 : Nat) + (2 : Nat)) (0 : Int), List.getD (fl4 Q) ((0 : Nat) + Int.toNat (↑s : Int) * (4 : Nat) + (3 : Nat)) (0 : Int))) (K (Value.int IntKind.i64 (↑s : Int)) (some (AObj.row (ints (fl4 Q)) (4 : Nat) true true true) :: some (AObj.row [Value.int IntKind.i64 x] (0 : Nat) false true true) :: some (AObj.row [Value.int IntKind.i64 l] (0 : Nat) false true true) :: noH)) (∃ (s' : Nat), Is (s' ≤ n ∧ ixN (belowB l x) (List.drop s' Q) s' = ixN (belowB l x) Q (0 : Nat)) ∧ Is (n - s' < n - s) ∧ [Value.slice (some { block := (0 : Nat), off := (0 : Nat) }) n c, Value.func (Fn.func (155 : Nat)) #[] #[Value.pointer (some { block := (1 : Nat), off := (0 : Nat) }), Value.pointer (some { block := (2 : Nat), off := (0 : Nat) })], poi, poi, poi, poi, poi, Value.int IntKind.i64 (↑n : Int), Value.int IntKind.i64 (IntKind.wrap IntKind.i64 ((↑s : Int) + (1 : Int))), poi, poi, poi, poi, poi, poi, poi, poi, poi, poi] = [Value.slice (some { block := (0 : Nat), off := (0 : Nat) }) n c, Value.func (Fn.func (155 : Nat)) #[] #[Value.pointer (some { block := (1 : Nat), off := (0 : Nat) }), Value.pointer (some { block := (2 : Nat), off := (0 : Nat) })], poi, poi, poi, poi, poi, Value.int IntKind.i64 (↑n : Int), Value.int IntKind.i64 (↑s' : Int), poi, poi, poi, poi, poi, poi, poi, poi, poi, poi] ∧ some (AObj.row (ints (fl4 Q)) (4 : Nat) true true true) :: some (AObj.row [Value.int IntKind.i64 x] (0 : Nat) false true true) :: some (AObj.row [Value.int IntKind.i64 l] (0 : Nat) false true true) :: noH = some (AObj.row (ints (fl4 Q)) (4 : Nat) true true true) :: some (AObj.row [Value.int IntKind.i64 x] (0 : Nat) false true true) :: some (AObj.row [Value.int IntKind.i64 l] (0 : Nat) false true true) :: noH)) (K (Value.int IntKind.i64 (-1 : Int)) (some (AObj.row (ints (fl4 Q)) (4 : Nat) true true true) :: some (AObj.row [Value.int IntKind.i64 x] (0 : Nat) false true true) :: some (AObj.row [Value.int IntKind.i64 l] (0 : Nat) false true true) :: noH))) := by kernel_rfl
/- The reference's Earliest and Latest. -/
set_option maxRecDepth 100000 in
theorem ix_ok {Q : List Ln} {n c : Nat} {x l : Int} (hn : Q.length = n) (hlt : n ≤ 100000) (hq : ∀ q ∈ Q, LnIn q x) (l0 : 0 ≤ l) (l1 : l ≤ 100000) :
    SmallRes Tryz.prog 209 [.slice (some ⟨0, 0, none⟩) n c, cloL] [lst4 Q, bx1 x, bx1 l] (.int .i64 (ixN (belowB l x) Q 0)) [lst4 Q, bx1 x, bx1 l] := by
  refine fnP_res hm c0_ok (hs := hsIx Q n c x l) ?_
  rw [ix_t]
  refine ⟨⟨(0 : Nat), ⟨by omega, by rw [List.drop_zero]⟩, by first | trivial | rfl, by first | trivial | rfl⟩, fun s hs => br_of (fun hc => ?_) (fun hc => ?_)⟩
  · have hc := lt_of_dec hc
    obtain ⟨i1, i2⟩ := hs.out
    have ld := ld4 (Q := Q) (i := s) (by omega)
    obtain ⟨k1, k2, k3, k4⟩ := fl4_at Q s (by omega)
    have hx := getD_mem (l := Q) (i := s) (z := (0, 0, 0, 0)) (by omega)
    rw [drop_getD (0, 0, 0, 0) (show s < Q.length by omega), ixN] at i2
    generalize Q.getD s (0, 0, 0, 0) = q at *
    simp only [Int.toNat_natCast, Nat.zero_add, k1, k2, k3, k4, ld]
    refine ⟨⟨by omega, by omega⟩, ⟨by first | trivial | rfl⟩, ⟨hq q hx, l0, l1⟩, br_of (fun hb => ?_) (fun hb => ⟨s + 1, ⟨hc, ?_⟩, ⟨by omega⟩, by rw [up1 hc (by omega)], by first | trivial | rfl⟩)⟩
    · have hb : belowB l x q = true := hb
      rw [if_pos hb] at i2
      rw [← i2]
      exact ⟨by first | trivial | rfl, by first | trivial | rfl⟩
    · have hb : belowB l x q = false := hb
      rw [if_neg (by rw [hb]; decide)] at i2
      exact i2
  · have hc := ge_of_dec hc
    obtain ⟨i1, i2⟩ := hs.out
    rw [List.drop_eq_nil_of_le (by omega), ixN] at i2
    rw [← i2]
    exact ⟨by first | trivial | rfl, by first | trivial | rfl⟩
theorem CqIn.day {q : Ln} {x y : Int} (h : CqIn q x) (y0 : 0 ≤ y) (y1 : y ≤ 100000) : CqIn q y :=
  ⟨⟨h.ln.a0, h.ln.a1, h.ln.b0, h.ln.b1, h.ln.s0, h.ln.s1, h.ln.d0, h.ln.d1, y0, y1⟩, h.u1, h.b0, h.b1, h.v0, h.v1⟩
end
end Qq
end
section
/- Range, Earliest, Latest: the program's. -/
open Go Go.Vm Go.Proofs Sp
namespace Sp
noncomputable section
noncomputable def allLn (Q : List Ln) (x : Int) : Prop := ∀ q ∈ Q, Qq.LnIn q x
noncomputable def allRat (rs : List (Int × Int)) : Prop := ∀ r ∈ rs, Qq.RatIn r
noncomputable def mnL (rs : List (Int × Int)) : Int × Int := Qq.mnF (rs.getD 0 (0, 0)) (rs.drop 1)
noncomputable def mxR (rs : List (Int × Int)) : Int × Int := Qq.mxF (rs.getD 0 (0, 0)) (rs.drop 1)
end
end Sp
namespace Qq
noncomputable section
noncomputable def orcMpV (Q : List Ln) : OrcV
  | [.slice (some ⟨0, 0, none⟩) n _, .func (.func 147) ⟨[]⟩ ⟨[.pointer (some ⟨1, 0, none⟩)]⟩], [some (.row e1 4 true true true), some (.row [.int .i64 x] 0 false true true)] =>
    some (.slice (some ⟨2, 0, none⟩) n 0, [some (.row e1 4 true true true), some (.row [.int .i64 x] 0 false true true), lst2r (vals Q x)], e1 = ints (fl4 Q) ∧ Q.length = n ∧ n ≤ 100000 ∧ allLn Q x)
  | _, _ => none
theorem mp_okV (Q : List Ln) : OkV Tryz.prog 146 (orcMpV Q) := by
  intro args H ret H' vc h hv
  unfold orcMpV at h
  split at h
  · cases h
    obtain ⟨rfl, h1, h2, h3⟩ := hv
    exact mp_ok h1 h2 h3
  · cases h
noncomputable def orcMnV (rs : List (Int × Int)) : OrcV
  | [.slice (some ⟨0, 0, none⟩) n _, .func (.func 149) ⟨[]⟩ ⟨[]⟩], [some (.row e1 2 m1 w1 true)] =>
    some (.agg #[.int .i64 (mnL rs).1, .int .i64 (mnL rs).2], [some (.row e1 2 m1 w1 true)], e1 = ints (fl2 rs) ∧ rs.length = n ∧ 0 < n ∧ n ≤ 100000 ∧ allRat rs)
  | _, _ => none
theorem mn_okV (rs : List (Int × Int)) : OkV Tryz.prog 148 (orcMnV rs) := by
  intro args H ret H' vc h hv
  unfold orcMnV at h
  split at h
  · cases h
    obtain ⟨rfl, h1, h2, h3, h4⟩ := hv
    exact mn_ok h1 h2 h3 h4
  · cases h
noncomputable def orcMxV (rs : List (Int × Int)) : OrcV
  | [.slice (some ⟨0, 0, none⟩) n _, .func (.func 149) ⟨[]⟩ ⟨[]⟩], [some (.row e1 2 m1 w1 true)] =>
    some (.agg #[.int .i64 (mxR rs).1, .int .i64 (mxR rs).2], [some (.row e1 2 m1 w1 true)], e1 = ints (fl2 rs) ∧ rs.length = n ∧ 0 < n ∧ n ≤ 100000 ∧ allRat rs)
  | _, _ => none
theorem mx_okV (rs : List (Int × Int)) : OkV Tryz.prog 150 (orcMxV rs) := by
  intro args H ret H' vc h hv
  unfold orcMxV at h
  split at h
  · cases h
    obtain ⟨rfl, h1, h2, h3, h4⟩ := hv
    exact mx_ok h1 h2 h3 h4
  · cases h
noncomputable def hsRn (zs : List Int) (ks : List (Int × ByteArray)) (Q : List Ln) (x : Int) : Hs Tryz.prog where
  au := auCalls [(129, hCa Tryz.prog 129 (orcCpV zs ks) (cp_okV zs ks)), (145, hCa Tryz.prog 145 (orcKoV zs ks) (ko_okV zs ks)), (146, hCa Tryz.prog 146 (orcMpV Q) (mp_okV Q)), (148, hCa Tryz.prog 148 (orcMnV (vals Q x)) (mn_okV _)), (150, hCa Tryz.prog 150 (orcMxV (vals Q x)) (mx_okV _))]
theorem rn_t (nm : ByteArray) (zs : List Int) (ks : List (Int × ByteArray)) (n : Nat) (c : Nat) (k : Nat) (d : Nat) (p : Int) (w : Int) (x : Int) (K : Value → Heap → Prop) :
    (fnP Tryz.prog c21 (hsRn zs ks (koL zs ks n k p w) x) (58 : FuncId) [Value.agg (List.toArray (secA nm (0 : Nat) n c (1 : Nat) k d)), Value.int IntKind.i64 p, Value.int IntKind.i64 w, Value.int IntKind.i64 x] (hp2 zs ks true true true true []) K) =
    (Is (isSec zs ks n k (ints zs) (acs ks)) ∧ br (fi [perE nm zs n ks k p, wi w (0 : Int) (100000 : Int), wi x (0 : Int) (100000 : Int)] != (0 : Int)) (K (Value.tuple #[Value.agg #[Value.int IntKind.i64 (0 : Int), Value.int IntKind.i64 (0 : Int), Value.int IntKind.i64 (0 : Int), Value.int IntKind.i64 (0 : Int)], Value.int IntKind.i64 (fi [perE nm zs n ks k p, wi w (0 : Int) (100000 : Int), wi x (0 : Int) (100000 : Int)])]) (some (AObj.row (ints zs) (2 : Nat) true true true) :: some (AObj.row (acs ks) (2 : Nat) true true true) :: noH)) (Is (isPer zs ks n k p (ints zs) (acs ks) ∧ (0 : Int) ≤ w ∧ w ≤ (100000 : Int)) ∧ br (koE zs ks n k p w != (0 : Int)) (K (Value.tuple #[Value.agg #[Value.int IntKind.i64 (0 : Int), Value.int IntKind.i64 (0 : Int), Value.int IntKind.i64 (0 : Int), Value.int IntKind.i64 (0 : Int)], Value.int IntKind.i64 (koE zs ks n k p w)]) (some (AObj.row (ints zs) (2 : Nat) true true true) :: some (AObj.row (acs ks) (2 : Nat) true true true) :: noH)) (Is (ints (fl4 (koL zs ks n k p w)) = ints (fl4 (koL zs ks n k p w)) ∧ List.length (koL zs ks n k p w) = List.length (koL zs ks n k p w) ∧ List.length (koL zs ks n k p w) ≤ (100000 : Nat) ∧ allLn (koL zs ks n k p w) x) ∧ Is (ints (fl2 (vals (koL zs ks n k p w) x)) = ints (fl2 (vals (koL zs ks n k p w) x)) ∧ List.length (vals (koL zs ks n k p w) x) = List.length (koL zs ks n k p w) ∧ (0 : Nat) < List.length (koL zs ks n k p w) ∧ List.length (koL zs ks n k p w) ≤ (100000 : Nat) ∧ allRat (vals (koL zs ks n k p w) x)) ∧ Is (ints (fl2 (vals (koL zs ks n k p w) x)) = ints (fl2 (vals (koL zs ks n k p w) x)) ∧ List.length (vals (koL zs ks n k p w) x) = List.length (koL zs ks n k p w) ∧ (0 : Nat) < List.length (koL zs ks n k p w) ∧ List.length (koL zs ks n k p w) ≤ (100000 : Nat) ∧ allRat (vals (koL zs ks n k p w) x)) ∧ K (Value.tuple #[Value.agg #[Value.int IntKind.i64 (Prod.fst (mnL (vals (koL zs ks n k p w) x))), Value.int IntKind.i64 (Prod.snd (mnL (vals (koL zs ks n k p w) x))), Value.int IntKind.i64 (Prod.fst (mxR (vals (koL zs ks n k p w) x))), Value.int IntKind.i64 (Prod.snd (mxR (vals (koL zs ks n k p w) x)))], Value.int IntKind.i64 (0 : Int)]) (some (AObj.row (ints zs) (2 : Nat) true true true) :: some (AObj.row (acs ks) (2 : Nat) true true true) :: noH)))) := by kernel_rfl
/- Any line below a limit. -/
noncomputable def orcIxV (Q : List Ln) : OrcV
  | [.slice (some ⟨0, 0, none⟩) n _, .func (.func 155) ⟨[]⟩ ⟨[.pointer (some ⟨1, 0, none⟩), .pointer (some ⟨2, 0, none⟩)]⟩], [some (.row e1 4 true true true), some (.row [.int .i64 x] 0 false true true), some (.row [.int .i64 l] 0 false true true)] =>
    some (.int .i64 (ixN (belowB l x) Q 0), [some (.row e1 4 true true true), some (.row [.int .i64 x] 0 false true true), some (.row [.int .i64 l] 0 false true true)], e1 = ints (fl4 Q) ∧ Q.length = n ∧ n ≤ 100000 ∧ allLn Q x ∧ 0 ≤ l ∧ l ≤ 100000)
  | _, _ => none
theorem ix_okV (Q : List Ln) : OkV Tryz.prog 209 (orcIxV Q) := by
  intro args H ret H' vc h hv
  unfold orcIxV at h
  split at h
  · cases h
    obtain ⟨rfl, h1, h2, h3, h4, h5⟩ := hv
    exact ix_ok h1 h2 h3 h4 h5
  · cases h
noncomputable def hsCtn (Q : List Ln) : Hs Tryz.prog where
  au := auCalls [(209, hCa Tryz.prog 209 (orcIxV Q) (ix_okV Q))]
theorem ctn_t (Q : List Ln) (n : Nat) (c : Nat) (x : Int) (l : Int) (K : Value → Heap → Prop) :
    (fnP Tryz.prog c0 (hsCtn Q) (154 : FuncId) [Value.slice (some { block := (0 : Nat), off := (0 : Nat) }) n c, cloL] [lst4 Q, bx1 x, bx1 l] K) =
    (Is (ints (fl4 Q) = ints (fl4 Q) ∧ List.length Q = n ∧ n ≤ (100000 : Nat) ∧ allLn Q x ∧ (0 : Int) ≤ l ∧ l ≤ (100000 : Int)) ∧ K (Value.bool (decide ((0 : Int) ≤ ixN (belowB l x) Q (0 : Nat)))) (some (AObj.row (ints (fl4 Q)) (4 : Nat) true true true) :: some (AObj.row [Value.int IntKind.i64 x] (0 : Nat) false true true) :: some (AObj.row [Value.int IntKind.i64 l] (0 : Nat) false true true) :: noH)) := by kernel_rfl
noncomputable def orcCtnV (Q : List Ln) : OrcV
  | [.slice (some ⟨0, 0, none⟩) n _, .func (.func 155) ⟨[]⟩ ⟨[.pointer (some ⟨1, 0, none⟩), .pointer (some ⟨2, 0, none⟩)]⟩], [some (.row e1 4 true true true), some (.row [.int .i64 x] 0 false true true), some (.row [.int .i64 l] 0 false true true)] =>
    some (.bool (Q.any (belowB l x)), [some (.row e1 4 true true true), some (.row [.int .i64 x] 0 false true true), some (.row [.int .i64 l] 0 false true true)], e1 = ints (fl4 Q) ∧ Q.length = n ∧ n ≤ 100000 ∧ allLn Q x ∧ 0 ≤ l ∧ l ≤ 100000)
  | _, _ => none
theorem ixN_any (pr : Ln → Bool) : ∀ (Q : List Ln) (i : Nat), decide (0 ≤ ixN pr Q i) = Q.any pr
  | [], i => by simp [ixN]
  | q :: r, i => by
    simp only [ixN, List.any_cons]
    split
    · rename_i h; rw [h, decide_eq_true (by omega)]; rfl
    · rename_i h
      simp only [Bool.not_eq_true] at h
      rw [h, ixN_any pr r (i + 1)]; rfl
set_option maxRecDepth 100000 in
theorem ctn_okV (Q : List Ln) : OkV Tryz.prog 154 (orcCtnV Q) := by
  intro args H ret H' vc h hv
  unfold orcCtnV at h
  split at h
  · rename_i n c e1 x l
    cases h
    obtain ⟨rfl, h1, h2, h3, h4, h5⟩ := hv
    refine fnP_res hm c0_ok (hs := hsCtn Q) ?_
    show fnP Tryz.prog c0 (hsCtn Q) 154 [.slice (some ⟨0, 0, none⟩) n c, cloL] [lst4 Q, bx1 x, bx1 l] _
    rw [ctn_t]
    refine ⟨⟨by first | trivial | rfl, h1, h2, h3, h4, h5⟩, ?_, by first | trivial | rfl⟩
    rw [ixN_any]
  · cases h
/- Earliest. -/
noncomputable def lpEa (zs : List Int) (ks : List (Int × ByteArray)) (Q : List Ln) (f l : Int) : Lp where
  σ := Nat × Int × Bool
  E s := slots 63 [(3, .int .i64 l), (12, .int .i64 f), (13, .int .i64 s.2.1), (14, .bool s.2.2), (34, .slice (some ⟨2, 0, none⟩) Q.length 0), (35, .int .i64 (Int.ofNat Q.length)), (36, .int .i64 (Int.ofNat s.1))]
  Hp _ := hp2 zs ks true true true true [lst4 Q]
  I s := s.1 ≤ Q.length ∧ eaG l f (Q.drop s.1) s.2.1 s.2.2 = eaG l f Q 0 false
  m s := Q.length - s.1
noncomputable def hsEa (zs : List Int) (ks : List (Int × ByteArray)) (Q : List Ln) (f l : Int) : Hs Tryz.prog where
  op y := if y = 800 then some (hIa Tryz.prog) else if y = 801 then some (hLd Tryz.prog (z4 (fl4 Q))) else none
  lp _ := some (lpEa zs ks Q f l)
  cl _ := keep 63 [3, 12, 13, 14, 34, 35, 36]
  au := auCalls [(151, hCa Tryz.prog 151 (orcCcV zs ks) (cc_okV zs ks)), (142, hCa Tryz.prog 142 (orcPdV zs ks) (pd_okV zs ks)), (152, hCa Tryz.prog 152 (orcLaV zs) (la_okV zs)), (153, hCa Tryz.prog 153 orcRc okRc)]
theorem ea_t (nm : ByteArray) (zs : List Int) (ks : List (Int × ByteArray)) (n : Nat) (c : Nat) (k : Nat) (d : Nat) (p : Int) (w : Int) (l : Int) (K : Value → Heap → Prop) :
    (fnP Tryz.prog c2 (hsEa zs ks (ccL nm zs n ks k p w l) (pZ zs ks n k p) l) (59 : FuncId) [Value.agg (List.toArray (secA nm (0 : Nat) n c (1 : Nat) k d)), Value.int IntKind.i64 p, Value.int IntKind.i64 w, Value.int IntKind.i64 l] (hp2 zs ks true true true true []) K) =
    (Is (isSec zs ks n k (ints zs) (acs ks)) ∧ br (ccE nm zs n ks k p w l != (0 : Int)) (K (Value.tuple #[Value.int IntKind.i64 (0 : Int), Value.int IntKind.i64 (ccE nm zs n ks k p w l)]) (some (AObj.row (ints zs) (2 : Nat) true true true) :: some (AObj.row (acs ks) (2 : Nat) true true true) :: noH)) (Is (isPer zs ks n k p (ints zs) (acs ks)) ∧ Is (ints zs = ints zs ∧ (0 : Nat) < pm zs ks n k p ∧ pm zs ks n k p ≤ (1000 : Nat) ∧ pf zs ks p * (2 : Nat) + pm zs ks n k p * (2 : Nat) ≤ List.length zs) ∧ (∃ (s : Nat × Int × Bool), Is (Prod.fst s ≤ List.length (ccL nm zs n ks k p w l) ∧ eaG l (pZ zs ks n k p) (List.drop (Prod.fst s) (ccL nm zs n ks k p w l)) (Prod.fst (Prod.snd s)) (Prod.snd (Prod.snd s)) = eaG l (pZ zs ks n k p) (ccL nm zs n ks k p w l) (0 : Int) false) ∧ [poi, poi, poi, Value.int IntKind.i64 l, poi, poi, poi, poi, poi, poi, poi, poi, Value.int IntKind.i64 (List.getD zs (pf zs ks p * (2 : Nat) + (pm zs ks n k p - (1 : Nat)) * (2 : Nat)) (0 : Int)), Value.int IntKind.i64 (0 : Int), Value.bool false, poi, poi, poi, poi, poi, poi, poi, poi, poi, poi, poi, poi, poi, poi, poi, poi, poi, poi, poi, Value.slice (some { block := (2 : Nat), off := (0 : Nat) }) (List.length (ccL nm zs n ks k p w l)) (0 : Nat), Value.int IntKind.i64 (↑(List.length (ccL nm zs n ks k p w l)) : Int), Value.int IntKind.i64 (0 : Int), poi, poi, poi, poi, poi, poi, poi, poi, poi, poi, poi, poi, poi, poi, poi, poi, poi, poi, poi, poi, poi, poi, poi, poi, poi, poi] = [poi, poi, poi, Value.int IntKind.i64 l, poi, poi, poi, poi, poi, poi, poi, poi, Value.int IntKind.i64 (pZ zs ks n k p), Value.int IntKind.i64 (Prod.fst (Prod.snd s)), Value.bool (Prod.snd (Prod.snd s)), poi, poi, poi, poi, poi, poi, poi, poi, poi, poi, poi, poi, poi, poi, poi, poi, poi, poi, poi, Value.slice (some { block := (2 : Nat), off := (0 : Nat) }) (List.length (ccL nm zs n ks k p w l)) (0 : Nat), Value.int IntKind.i64 (↑(List.length (ccL nm zs n ks k p w l)) : Int), Value.int IntKind.i64 (↑(Prod.fst s) : Int), poi, poi, poi, poi, poi, poi, poi, poi, poi, poi, poi, poi, poi, poi, poi, poi, poi, poi, poi, poi, poi, poi, poi, poi, poi, poi] ∧ some (AObj.row (ints zs) (2 : Nat) true true true) :: some (AObj.row (acs ks) (2 : Nat) true true true) :: some (AObj.row (ints (fl4 (ccL nm zs n ks k p w l))) (4 : Nat) true true true) :: noH = some (AObj.row (ints zs) (2 : Nat) true true true) :: some (AObj.row (acs ks) (2 : Nat) true true true) :: some (AObj.row (ints (fl4 (ccL nm zs n ks k p w l))) (4 : Nat) true true true) :: noH) ∧ ∀ (s : Nat × Int × Bool), Is (Prod.fst s ≤ List.length (ccL nm zs n ks k p w l) ∧ eaG l (pZ zs ks n k p) (List.drop (Prod.fst s) (ccL nm zs n ks k p w l)) (Prod.fst (Prod.snd s)) (Prod.snd (Prod.snd s)) = eaG l (pZ zs ks n k p) (ccL nm zs n ks k p w l) (0 : Int) false) → br (decide ((↑(Prod.fst s) : Int) < (↑(List.length (ccL nm zs n ks k p w l)) : Int))) (Is ((0 : Int) ≤ (↑(Prod.fst s) : Int) ∧ (↑(Prod.fst s) : Int) < (↑(List.length (ccL nm zs n ks k p w l)) : Int)) ∧ Is ((if (0 : Nat) + Int.toNat (↑(Prod.fst s) : Int) * (4 : Nat) + (4 : Nat) ≤ List.length (ints (fl4 (ccL nm zs n ks k p w l))) then some (Value.agg (List.toArray (List.take (4 : Nat) (List.drop ((0 : Nat) + Int.toNat (↑(Prod.fst s) : Int) * (4 : Nat)) (ints (fl4 (ccL nm zs n ks k p w l))))))) else none) = some (Value.agg #[Value.int IntKind.i64 (List.getD (fl4 (ccL nm zs n ks k p w l)) ((0 : Nat) + Int.toNat (↑(Prod.fst s) : Int) * (4 : Nat)) (0 : Int)), Value.int IntKind.i64 (List.getD (fl4 (ccL nm zs n ks k p w l)) ((0 : Nat) + Int.toNat (↑(Prod.fst s) : Int) * (4 : Nat) + (1 : Nat)) (0 : Int)), Value.int IntKind.i64 (List.getD (fl4 (ccL nm zs n ks k p w l)) ((0 : Nat) + Int.toNat (↑(Prod.fst s) : Int) * (4 : Nat) + (2 : Nat)) (0 : Int)), Value.int IntKind.i64 (List.getD (fl4 (ccL nm zs n ks k p w l)) ((0 : Nat) + Int.toNat (↑(Prod.fst s) : Int) * (4 : Nat) + (3 : Nat)) (0 : Int))])) ∧ Is (RcOK (List.getD (fl4 (ccL nm zs n ks k p w l)) ((0 : Nat) + Int.toNat (↑(Prod.fst s) : Int) * (4 : Nat)) (0 : Int)) (List.getD (fl4 (ccL nm zs n ks k p w l)) ((0 : Nat) + Int.toNat (↑(Prod.fst s) : Int) * (4 : Nat) + (1 : Nat)) (0 : Int)) (List.getD (fl4 (ccL nm zs n ks k p w l)) ((0 : Nat) + Int.toNat (↑(Prod.fst s) : Int) * (4 : Nat) + (2 : Nat)) (0 : Int)) (List.getD (fl4 (ccL nm zs n ks k p w l)) ((0 : Nat) + Int.toNat (↑(Prod.fst s) : Int) * (4 : Nat) + (3 : Nat)) (0 : Int)) l (pZ zs ks n k p)) ∧ br (rcB (List.getD (fl4 (ccL nm zs n ks k p w l)) ((0 : Nat) + Int.toNat (↑(Prod.fst s) : Int) * (4 : Nat)) (0 : Int)) (List.getD (fl4 (ccL nm zs n ks k p w l)) ((0 : Nat) + Int.toNat (↑(Prod.fst s) : Int) * (4 : Nat) + (1 : Nat)) (0 : Int)) (List.getD (fl4 (ccL nm zs n ks k p w l)) ((0 : Nat) + Int.toNat (↑(Prod.fst s) : Int) * (4 : Nat) + (2 : Nat)) (0 : Int)) (List.getD (fl4 (ccL nm zs n ks k p w l)) ((0 : Nat) + Int.toNat (↑(Prod.fst s) : Int) * (4 : Nat) + (3 : Nat)) (0 : Int)) l (pZ zs ks n k p)) (br (!Prod.snd (Prod.snd s)) (∃ (s' : Nat × Int × Bool), Is (Prod.fst s' ≤ List.length (ccL nm zs n ks k p w l) ∧ eaG l (pZ zs ks n k p) (List.drop (Prod.fst s') (ccL nm zs n ks k p w l)) (Prod.fst (Prod.snd s')) (Prod.snd (Prod.snd s')) = eaG l (pZ zs ks n k p) (ccL nm zs n ks k p w l) (0 : Int) false) ∧ Is (List.length (ccL nm zs n ks k p w l) - Prod.fst s' < List.length (ccL nm zs n ks k p w l) - Prod.fst s) ∧ [poi, poi, poi, Value.int IntKind.i64 l, poi, poi, poi, poi, poi, poi, poi, poi, Value.int IntKind.i64 (pZ zs ks n k p), Value.int IntKind.i64 (rcN (List.getD (fl4 (ccL nm zs n ks k p w l)) ((0 : Nat) + Int.toNat (↑(Prod.fst s) : Int) * (4 : Nat)) (0 : Int)) (List.getD (fl4 (ccL nm zs n ks k p w l)) ((0 : Nat) + Int.toNat (↑(Prod.fst s) : Int) * (4 : Nat) + (1 : Nat)) (0 : Int)) (List.getD (fl4 (ccL nm zs n ks k p w l)) ((0 : Nat) + Int.toNat (↑(Prod.fst s) : Int) * (4 : Nat) + (2 : Nat)) (0 : Int)) (List.getD (fl4 (ccL nm zs n ks k p w l)) ((0 : Nat) + Int.toNat (↑(Prod.fst s) : Int) * (4 : Nat) + (3 : Nat)) (0 : Int)) l (pZ zs ks n k p)), Value.bool true, poi, poi, poi, poi, poi, poi, poi, poi, poi, poi, poi, poi, poi, poi, poi, poi, poi, poi, poi, Value.slice (some { block := (2 : Nat), off := (0 : Nat) }) (List.length (ccL nm zs n ks k p w l)) (0 : Nat), Value.int IntKind.i64 (↑(List.length (ccL nm zs n ks k p w l)) : Int), Value.int IntKind.i64 (IntKind.wrap IntKind.i64 ((↑(Prod.fst s) : Int) + (1 : Int))), poi, poi, poi, poi, poi, poi, poi, poi, poi, poi, poi, poi, poi, poi, poi, poi, poi, poi, poi, poi, poi, poi, poi, poi, poi, poi] = [poi, poi, poi, Value.int IntKind.i64 l, poi, poi, poi, poi, poi, poi, poi, poi, Value.int IntKind.i64 (pZ zs ks n k p), Value.int IntKind.i64 (Prod.fst (Prod.snd s')), Value.bool (Prod.snd (Prod.snd s')), poi, poi, poi, poi, poi, poi, poi, poi, poi, poi, poi, poi, poi, poi, poi, poi, poi, poi, poi, Value.slice (some { block := (2 : Nat), off := (0 : Nat) }) (List.length (ccL nm zs n ks k p w l)) (0 : Nat), Value.int IntKind.i64 (↑(List.length (ccL nm zs n ks k p w l)) : Int), Value.int IntKind.i64 (↑(Prod.fst s') : Int), poi, poi, poi, poi, poi, poi, poi, poi, poi, poi, poi, poi, poi, poi, poi, poi, poi, poi, poi, poi, poi, poi, poi, poi, poi, poi] ∧ some (AObj.row (ints zs) (2 : Nat) true true true) :: some (AObj.row (acs ks) (2 : Nat) true true true) :: some (AObj.row (ints (fl4 (ccL nm zs n ks k p w l))) (4 : Nat) true true true) :: noH = some (AObj.row (ints zs) (2 : Nat) true true true) :: some (AObj.row (acs ks) (2 : Nat) true true true) :: some (AObj.row (ints (fl4 (ccL nm zs n ks k p w l))) (4 : Nat) true true true) :: noH) (br (decide (rcN (List.getD (fl4 (ccL nm zs n ks k p w l)) ((0 : Nat) + Int.toNat (↑(Prod.fst s) : Int) * (4 : Nat)) (0 : Int)) (List.getD (fl4 (ccL nm zs n ks k p w l)) ((0 : Nat) + Int.toNat (↑(Prod.fst s) : Int) * (4 : Nat) + (1 : Nat)) (0 : Int)) (List.getD (fl4 (ccL nm zs n ks k p w l)) ((0 : Nat) + Int.toNat (↑(Prod.fst s) : Int) * (4 : Nat) + (2 : Nat)) (0 : Int)) (List.getD (fl4 (ccL nm zs n ks k p w l)) ((0 : Nat) + Int.toNat (↑(Prod.fst s) : Int) * (4 : Nat) + (3 : Nat)) (0 : Int)) l (pZ zs ks n k p) < Prod.fst (Prod.snd s))) (∃ (s' : Nat × Int × Bool), Is (Prod.fst s' ≤ List.length (ccL nm zs n ks k p w l) ∧ eaG l (pZ zs ks n k p) (List.drop (Prod.fst s') (ccL nm zs n ks k p w l)) (Prod.fst (Prod.snd s')) (Prod.snd (Prod.snd s')) = eaG l (pZ zs ks n k p) (ccL nm zs n ks k p w l) (0 : Int) false) ∧ Is (List.length (ccL nm zs n ks k p w l) - Prod.fst s' < List.length (ccL nm zs n ks k p w l) - Prod.fst s) ∧ [poi, poi, poi, Value.int IntKind.i64 l, poi, poi, poi, poi, poi, poi, poi, poi, Value.int IntKind.i64 (pZ zs ks n k p), Value.int IntKind.i64 (rcN (List.getD (fl4 (ccL nm zs n ks k p w l)) ((0 : Nat) + Int.toNat (↑(Prod.fst s) : Int) * (4 : Nat)) (0 : Int)) (List.getD (fl4 (ccL nm zs n ks k p w l)) ((0 : Nat) + Int.toNat (↑(Prod.fst s) : Int) * (4 : Nat) + (1 : Nat)) (0 : Int)) (List.getD (fl4 (ccL nm zs n ks k p w l)) ((0 : Nat) + Int.toNat (↑(Prod.fst s) : Int) * (4 : Nat) + (2 : Nat)) (0 : Int)) (List.getD (fl4 (ccL nm zs n ks k p w l)) ((0 : Nat) + Int.toNat (↑(Prod.fst s) : Int) * (4 : Nat) + (3 : Nat)) (0 : Int)) l (pZ zs ks n k p)), Value.bool true, poi, poi, poi, poi, poi, poi, poi, poi, poi, poi, poi, poi, poi, poi, poi, poi, poi, poi, poi, Value.slice (some { block := (2 : Nat), off := (0 : Nat) }) (List.length (ccL nm zs n ks k p w l)) (0 : Nat), Value.int IntKind.i64 (↑(List.length (ccL nm zs n ks k p w l)) : Int), Value.int IntKind.i64 (IntKind.wrap IntKind.i64 ((↑(Prod.fst s) : Int) + (1 : Int))), poi, poi, poi, poi, poi, poi, poi, poi, poi, poi, poi, poi, poi, poi, poi, poi, poi, poi, poi, poi, poi, poi, poi, poi, poi, poi] = [poi, poi, poi, Value.int IntKind.i64 l, poi, poi, poi, poi, poi, poi, poi, poi, Value.int IntKind.i64 (pZ zs ks n k p), Value.int IntKind.i64 (Prod.fst (Prod.snd s')), Value.bool (Prod.snd (Prod.snd s')), poi, poi, poi, poi, poi, poi, poi, poi, poi, poi, poi, poi, poi, poi, poi, poi, poi, poi, poi, Value.slice (some { block := (2 : Nat), off := (0 : Nat) }) (List.length (ccL nm zs n ks k p w l)) (0 : Nat), Value.int IntKind.i64 (↑(List.length (ccL nm zs n ks k p w l)) : Int), Value.int IntKind.i64 (↑(Prod.fst s') : Int), poi, poi, poi, poi, poi, poi, poi, poi, poi, poi, poi, poi, poi, poi, poi, poi, poi, poi, poi, poi, poi, poi, poi, poi, poi, poi] ∧ some (AObj.row (ints zs) (2 : Nat) true true true) :: some (AObj.row (acs ks) (2 : Nat) true true true) :: some (AObj.row (ints (fl4 (ccL nm zs n ks k p w l))) (4 : Nat) true true true) :: noH = some (AObj.row (ints zs) (2 : Nat) true true true) :: some (AObj.row (acs ks) (2 : Nat) true true true) :: some (AObj.row (ints (fl4 (ccL nm zs n ks k p w l))) (4 : Nat) true true true) :: noH) (∃ (s' : Nat × Int × Bool), Is (Prod.fst s' ≤ List.length (ccL nm zs n ks k p w l) ∧ eaG l (pZ zs ks n k p) (List.drop (Prod.fst s') (ccL nm zs n ks k p w l)) (Prod.fst (Prod.snd s')) (Prod.snd (Prod.snd s')) = eaG l (pZ zs ks n k p) (ccL nm zs n ks k p w l) (0 : Int) false) ∧ Is (List.length (ccL nm zs n ks k p w l) - Prod.fst s' < List.length (ccL nm zs n ks k p w l) - Prod.fst s) ∧ [poi, poi, poi, Value.int IntKind.i64 l, poi, poi, poi, poi, poi, poi, poi, poi, Value.int IntKind.i64 (pZ zs ks n k p), Value.int IntKind.i64 (Prod.fst (Prod.snd s)), Value.bool (Prod.snd (Prod.snd s)), poi, poi, poi, poi, poi, poi, poi, poi, poi, poi, poi, poi, poi, poi, poi, poi, poi, poi, poi, Value.slice (some { block := (2 : Nat), off := (0 : Nat) }) (List.length (ccL nm zs n ks k p w l)) (0 : Nat), Value.int IntKind.i64 (↑(List.length (ccL nm zs n ks k p w l)) : Int), Value.int IntKind.i64 (IntKind.wrap IntKind.i64 ((↑(Prod.fst s) : Int) + (1 : Int))), poi, poi, poi, poi, poi, poi, poi, poi, poi, poi, poi, poi, poi, poi, poi, poi, poi, poi, poi, poi, poi, poi, poi, poi, poi, poi] = [poi, poi, poi, Value.int IntKind.i64 l, poi, poi, poi, poi, poi, poi, poi, poi, Value.int IntKind.i64 (pZ zs ks n k p), Value.int IntKind.i64 (Prod.fst (Prod.snd s')), Value.bool (Prod.snd (Prod.snd s')), poi, poi, poi, poi, poi, poi, poi, poi, poi, poi, poi, poi, poi, poi, poi, poi, poi, poi, poi, Value.slice (some { block := (2 : Nat), off := (0 : Nat) }) (List.length (ccL nm zs n ks k p w l)) (0 : Nat), Value.int IntKind.i64 (↑(List.length (ccL nm zs n ks k p w l)) : Int), Value.int IntKind.i64 (↑(Prod.fst s') : Int), poi, poi, poi, poi, poi, poi, poi, poi, poi, poi, poi, poi, poi, poi, poi, poi, poi, poi, poi, poi, poi, poi, poi, poi, poi, poi] ∧ some (AObj.row (ints zs) (2 : Nat) true true true) :: some (AObj.row (acs ks) (2 : Nat) true true true) :: some (AObj.row (ints (fl4 (ccL nm zs n ks k p w l))) (4 : Nat) true true true) :: noH = some (AObj.row (ints zs) (2 : Nat) true true true) :: some (AObj.row (acs ks) (2 : Nat) true true true) :: some (AObj.row (ints (fl4 (ccL nm zs n ks k p w l))) (4 : Nat) true true true) :: noH))) (∃ (s' : Nat × Int × Bool), Is (Prod.fst s' ≤ List.length (ccL nm zs n ks k p w l) ∧ eaG l (pZ zs ks n k p) (List.drop (Prod.fst s') (ccL nm zs n ks k p w l)) (Prod.fst (Prod.snd s')) (Prod.snd (Prod.snd s')) = eaG l (pZ zs ks n k p) (ccL nm zs n ks k p w l) (0 : Int) false) ∧ Is (List.length (ccL nm zs n ks k p w l) - Prod.fst s' < List.length (ccL nm zs n ks k p w l) - Prod.fst s) ∧ [poi, poi, poi, Value.int IntKind.i64 l, poi, poi, poi, poi, poi, poi, poi, poi, Value.int IntKind.i64 (pZ zs ks n k p), Value.int IntKind.i64 (Prod.fst (Prod.snd s)), Value.bool (Prod.snd (Prod.snd s)), poi, poi, poi, poi, poi, poi, poi, poi, poi, poi, poi, poi, poi, poi, poi, poi, poi, poi, poi, Value.slice (some { block := (2 : Nat), off := (0 : Nat) }) (List.length (ccL nm zs n ks k p w l)) (0 : Nat), Value.int IntKind.i64 (↑(List.length (ccL nm zs n ks k p w l)) : Int), Value.int IntKind.i64 (IntKind.wrap IntKind.i64 ((↑(Prod.fst s) : Int) + (1 : Int))), poi, poi, poi, poi, poi, poi, poi, poi, poi, poi, poi, poi, poi, poi, poi, poi, poi, poi, poi, poi, poi, poi, poi, poi, poi, poi] = [poi, poi, poi, Value.int IntKind.i64 l, poi, poi, poi, poi, poi, poi, poi, poi, Value.int IntKind.i64 (pZ zs ks n k p), Value.int IntKind.i64 (Prod.fst (Prod.snd s')), Value.bool (Prod.snd (Prod.snd s')), poi, poi, poi, poi, poi, poi, poi, poi, poi, poi, poi, poi, poi, poi, poi, poi, poi, poi, poi, Value.slice (some { block := (2 : Nat), off := (0 : Nat) }) (List.length (ccL nm zs n ks k p w l)) (0 : Nat), Value.int IntKind.i64 (↑(List.length (ccL nm zs n ks k p w l)) : Int), Value.int IntKind.i64 (↑(Prod.fst s') : Int), poi, poi, poi, poi, poi, poi, poi, poi, poi, poi, poi, poi, poi, poi, poi, poi, poi, poi, poi, poi, poi, poi, poi, poi, poi, poi] ∧ some (AObj.row (ints zs) (2 : Nat) true true true) :: some (AObj.row (acs ks) (2 : Nat) true true true) :: some (AObj.row (ints (fl4 (ccL nm zs n ks k p w l))) (4 : Nat) true true true) :: noH = some (AObj.row (ints zs) (2 : Nat) true true true) :: some (AObj.row (acs ks) (2 : Nat) true true true) :: some (AObj.row (ints (fl4 (ccL nm zs n ks k p w l))) (4 : Nat) true true true) :: noH)) (K (Value.tuple #[Value.int IntKind.i64 (Prod.fst (Prod.snd s)), Value.int IntKind.i64 (wh (!Prod.snd (Prod.snd s)) (7 : Int))]) (some (AObj.row (ints zs) (2 : Nat) true true true) :: some (AObj.row (acs ks) (2 : Nat) true true true) :: noH)))) := by kernel_rfl
/- Latest. -/
noncomputable def lpLt (zs : List Int) (ks : List (Int × ByteArray)) (Q : List Ln) (f l : Int) : Lp where
  σ := Nat × Int
  E s := slots 57 [(7, .pointer (some ⟨2, 0, none⟩)), (10, .slice (some ⟨3, 0, none⟩) Q.length 0), (12, .pointer (some ⟨4, 0, none⟩)), (13, .int .i64 f), (34, .slice (some ⟨3, 0, none⟩) Q.length 0), (35, .int .i64 (Int.ofNat Q.length)), (36, .int .i64 (Int.ofNat s.1))]
  Hp s := hp2 zs ks true true true true [bx1 l, lst4 Q, bx1 s.2]
  I s := s.1 ≤ Q.length ∧ (Q.take s.1).all (fun q => lnB q l f) = true ∧ (f ≤ s.2 ∧ s.2 ≤ 100000) ∧ laG (fun q => lnN q l f) (Q.drop s.1) s.2 = laG (fun q => lnN q l f) Q f
  m s := Q.length - s.1
noncomputable def hsLt (zs : List Int) (ks : List (Int × ByteArray)) (Q : List Ln) (f l : Int) : Hs Tryz.prog where
  op y := if y = 800 then some (hIa Tryz.prog) else if y = 801 then some (hLd Tryz.prog (z4 (fl4 Q))) else none
  lp _ := some (lpLt zs ks Q f l)
  cl _ := keep 57 [7, 10, 12, 13, 34, 35, 36]
  au := auCalls [(151, hCa Tryz.prog 151 (orcCcV zs ks) (cc_okV zs ks)), (142, hCa Tryz.prog 142 (orcPdV zs ks) (pd_okV zs ks)), (152, hCa Tryz.prog 152 (orcLaV zs) (la_okV zs)), (153, hCa Tryz.prog 153 orcRc okRc), (154, hCa Tryz.prog 154 (orcCtnV Q) (ctn_okV Q))]
theorem lt_t (nm : ByteArray) (zs : List Int) (ks : List (Int × ByteArray)) (n : Nat) (c : Nat) (k : Nat) (d : Nat) (p : Int) (w : Int) (l : Int) (K : Value → Heap → Prop) :
    (fnP Tryz.prog c2 (hsLt zs ks (ccL nm zs n ks k p w l) (pZ zs ks n k p) l) (60 : FuncId) [Value.agg (List.toArray (secA nm (0 : Nat) n c (1 : Nat) k d)), Value.int IntKind.i64 p, Value.int IntKind.i64 w, Value.int IntKind.i64 l] (hp2 zs ks true true true true []) K) =
    (Is (isSec zs ks n k (ints zs) (acs ks)) ∧ br (ccE nm zs n ks k p w l != (0 : Int)) (K (Value.tuple #[Value.int IntKind.i64 (0 : Int), Value.int IntKind.i64 (ccE nm zs n ks k p w l)]) (some (AObj.row (ints zs) (2 : Nat) true true true) :: some (AObj.row (acs ks) (2 : Nat) true true true) :: noH)) (Is (isPer zs ks n k p (ints zs) (acs ks)) ∧ Is (ints zs = ints zs ∧ (0 : Nat) < pm zs ks n k p ∧ pm zs ks n k p ≤ (1000 : Nat) ∧ pf zs ks p * (2 : Nat) + pm zs ks n k p * (2 : Nat) ≤ List.length zs) ∧ (∃ (s : Nat × Int), Is (Prod.fst s ≤ List.length (ccL nm zs n ks k p w l) ∧ (List.all (List.take (Prod.fst s) (ccL nm zs n ks k p w l)) fun (q : Ln) => lnB q l (pZ zs ks n k p)) = true ∧ (pZ zs ks n k p ≤ Prod.snd s ∧ Prod.snd s ≤ (100000 : Int)) ∧ laG (fun (q : Ln) => lnN q l (pZ zs ks n k p)) (List.drop (Prod.fst s) (ccL nm zs n ks k p w l)) (Prod.snd s) = laG (fun (q : Ln) => lnN q l (pZ zs ks n k p)) (ccL nm zs n ks k p w l) (pZ zs ks n k p)) ∧ [poi, poi, poi, poi, poi, poi, poi, Value.pointer (some { block := (2 : Nat), off := (0 : Nat) }), poi, poi, Value.slice (some { block := (3 : Nat), off := (0 : Nat) }) (List.length (ccL nm zs n ks k p w l)) (0 : Nat), poi, Value.pointer (some { block := (4 : Nat), off := (0 : Nat) }), Value.int IntKind.i64 (List.getD zs (pf zs ks p * (2 : Nat) + (pm zs ks n k p - (1 : Nat)) * (2 : Nat)) (0 : Int)), poi, poi, poi, poi, poi, poi, poi, poi, poi, poi, poi, poi, poi, poi, poi, poi, poi, poi, poi, poi, Value.slice (some { block := (3 : Nat), off := (0 : Nat) }) (List.length (ccL nm zs n ks k p w l)) (0 : Nat), Value.int IntKind.i64 (↑(List.length (ccL nm zs n ks k p w l)) : Int), Value.int IntKind.i64 (0 : Int), poi, poi, poi, poi, poi, poi, poi, poi, poi, poi, poi, poi, poi, poi, poi, poi, poi, poi, poi, poi] = [poi, poi, poi, poi, poi, poi, poi, Value.pointer (some { block := (2 : Nat), off := (0 : Nat) }), poi, poi, Value.slice (some { block := (3 : Nat), off := (0 : Nat) }) (List.length (ccL nm zs n ks k p w l)) (0 : Nat), poi, Value.pointer (some { block := (4 : Nat), off := (0 : Nat) }), Value.int IntKind.i64 (pZ zs ks n k p), poi, poi, poi, poi, poi, poi, poi, poi, poi, poi, poi, poi, poi, poi, poi, poi, poi, poi, poi, poi, Value.slice (some { block := (3 : Nat), off := (0 : Nat) }) (List.length (ccL nm zs n ks k p w l)) (0 : Nat), Value.int IntKind.i64 (↑(List.length (ccL nm zs n ks k p w l)) : Int), Value.int IntKind.i64 (↑(Prod.fst s) : Int), poi, poi, poi, poi, poi, poi, poi, poi, poi, poi, poi, poi, poi, poi, poi, poi, poi, poi, poi, poi] ∧ some (AObj.row (ints zs) (2 : Nat) true true true) :: some (AObj.row (acs ks) (2 : Nat) true true true) :: some (AObj.row [Value.int IntKind.i64 l] (0 : Nat) false true (List.all [Value.int IntKind.i64 l] atom)) :: some (AObj.row (ints (fl4 (ccL nm zs n ks k p w l))) (4 : Nat) true true true) :: some (AObj.row [Value.int IntKind.i64 (List.getD zs (pf zs ks p * (2 : Nat) + (pm zs ks n k p - (1 : Nat)) * (2 : Nat)) (0 : Int))] (0 : Nat) false true (true && List.all [Value.int IntKind.i64 (List.getD zs (pf zs ks p * (2 : Nat) + (pm zs ks n k p - (1 : Nat)) * (2 : Nat)) (0 : Int))] atom)) :: noH = some (AObj.row (ints zs) (2 : Nat) true true true) :: some (AObj.row (acs ks) (2 : Nat) true true true) :: some (AObj.row [Value.int IntKind.i64 l] (0 : Nat) false true true) :: some (AObj.row (ints (fl4 (ccL nm zs n ks k p w l))) (4 : Nat) true true true) :: some (AObj.row [Value.int IntKind.i64 (Prod.snd s)] (0 : Nat) false true true) :: noH) ∧ ∀ (s : Nat × Int), Is (Prod.fst s ≤ List.length (ccL nm zs n ks k p w l) ∧ (List.all (List.take (Prod.fst s) (ccL nm zs n ks k p w l)) fun (q : Ln) => lnB q l (pZ zs ks n k p)) = true ∧ (pZ zs ks n k p ≤ Prod.snd s ∧ Prod.snd s ≤ (100000 : Int)) ∧ laG (fun (q : Ln) => lnN q l (pZ zs ks n k p)) (List.drop (Prod.fst s) (ccL nm zs n ks k p w l)) (Prod.snd s) = laG (fun (q : Ln) => lnN q l (pZ zs ks n k p)) (ccL nm zs n ks k p w l) (pZ zs ks n k p)) → br (decide ((↑(Prod.fst s) : Int) < (↑(List.length (ccL nm zs n ks k p w l)) : Int))) (Is ((0 : Int) ≤ (↑(Prod.fst s) : Int) ∧ (↑(Prod.fst s) : Int) < (↑(List.length (ccL nm zs n ks k p w l)) : Int)) ∧ Is ((if (0 : Nat) + Int.toNat (↑(Prod.fst s) : Int) * (4 : Nat) + (4 : Nat) ≤ List.length (ints (fl4 (ccL nm zs n ks k p w l))) then some (Value.agg (List.toArray (List.take (4 : Nat) (List.drop ((0 : Nat) + Int.toNat (↑(Prod.fst s) : Int) * (4 : Nat)) (ints (fl4 (ccL nm zs n ks k p w l))))))) else none) = some (Value.agg #[Value.int IntKind.i64 (List.getD (fl4 (ccL nm zs n ks k p w l)) ((0 : Nat) + Int.toNat (↑(Prod.fst s) : Int) * (4 : Nat)) (0 : Int)), Value.int IntKind.i64 (List.getD (fl4 (ccL nm zs n ks k p w l)) ((0 : Nat) + Int.toNat (↑(Prod.fst s) : Int) * (4 : Nat) + (1 : Nat)) (0 : Int)), Value.int IntKind.i64 (List.getD (fl4 (ccL nm zs n ks k p w l)) ((0 : Nat) + Int.toNat (↑(Prod.fst s) : Int) * (4 : Nat) + (2 : Nat)) (0 : Int)), Value.int IntKind.i64 (List.getD (fl4 (ccL nm zs n ks k p w l)) ((0 : Nat) + Int.toNat (↑(Prod.fst s) : Int) * (4 : Nat) + (3 : Nat)) (0 : Int))])) ∧ Is (RcOK (List.getD (fl4 (ccL nm zs n ks k p w l)) ((0 : Nat) + Int.toNat (↑(Prod.fst s) : Int) * (4 : Nat)) (0 : Int)) (List.getD (fl4 (ccL nm zs n ks k p w l)) ((0 : Nat) + Int.toNat (↑(Prod.fst s) : Int) * (4 : Nat) + (1 : Nat)) (0 : Int)) (List.getD (fl4 (ccL nm zs n ks k p w l)) ((0 : Nat) + Int.toNat (↑(Prod.fst s) : Int) * (4 : Nat) + (2 : Nat)) (0 : Int)) (List.getD (fl4 (ccL nm zs n ks k p w l)) ((0 : Nat) + Int.toNat (↑(Prod.fst s) : Int) * (4 : Nat) + (3 : Nat)) (0 : Int)) l (pZ zs ks n k p)) ∧ br (!rcB (List.getD (fl4 (ccL nm zs n ks k p w l)) ((0 : Nat) + Int.toNat (↑(Prod.fst s) : Int) * (4 : Nat)) (0 : Int)) (List.getD (fl4 (ccL nm zs n ks k p w l)) ((0 : Nat) + Int.toNat (↑(Prod.fst s) : Int) * (4 : Nat) + (1 : Nat)) (0 : Int)) (List.getD (fl4 (ccL nm zs n ks k p w l)) ((0 : Nat) + Int.toNat (↑(Prod.fst s) : Int) * (4 : Nat) + (2 : Nat)) (0 : Int)) (List.getD (fl4 (ccL nm zs n ks k p w l)) ((0 : Nat) + Int.toNat (↑(Prod.fst s) : Int) * (4 : Nat) + (3 : Nat)) (0 : Int)) l (pZ zs ks n k p)) (K (Value.tuple #[Value.int IntKind.i64 (0 : Int), Value.int IntKind.i64 (7 : Int)]) (some (AObj.row (ints zs) (2 : Nat) true true true) :: some (AObj.row (acs ks) (2 : Nat) true true true) :: noH)) (∃ (s' : Nat × Int), Is (Prod.fst s' ≤ List.length (ccL nm zs n ks k p w l) ∧ (List.all (List.take (Prod.fst s') (ccL nm zs n ks k p w l)) fun (q : Ln) => lnB q l (pZ zs ks n k p)) = true ∧ (pZ zs ks n k p ≤ Prod.snd s' ∧ Prod.snd s' ≤ (100000 : Int)) ∧ laG (fun (q : Ln) => lnN q l (pZ zs ks n k p)) (List.drop (Prod.fst s') (ccL nm zs n ks k p w l)) (Prod.snd s') = laG (fun (q : Ln) => lnN q l (pZ zs ks n k p)) (ccL nm zs n ks k p w l) (pZ zs ks n k p)) ∧ Is (List.length (ccL nm zs n ks k p w l) - Prod.fst s' < List.length (ccL nm zs n ks k p w l) - Prod.fst s) ∧ [poi, poi, poi, poi, poi, poi, poi, Value.pointer (some { block := (2 : Nat), off := (0 : Nat) }), poi, poi, Value.slice (some { block := (3 : Nat), off := (0 : Nat) }) (List.length (ccL nm zs n ks k p w l)) (0 : Nat), poi, Value.pointer (some { block := (4 : Nat), off := (0 : Nat) }), Value.int IntKind.i64 (pZ zs ks n k p), poi, poi, poi, poi, poi, poi, poi, poi, poi, poi, poi, poi, poi, poi, poi, poi, poi, poi, poi, poi, Value.slice (some { block := (3 : Nat), off := (0 : Nat) }) (List.length (ccL nm zs n ks k p w l)) (0 : Nat), Value.int IntKind.i64 (↑(List.length (ccL nm zs n ks k p w l)) : Int), Value.int IntKind.i64 (IntKind.wrap IntKind.i64 ((↑(Prod.fst s) : Int) + (1 : Int))), poi, poi, poi, poi, poi, poi, poi, poi, poi, poi, poi, poi, poi, poi, poi, poi, poi, poi, poi, poi] = [poi, poi, poi, poi, poi, poi, poi, Value.pointer (some { block := (2 : Nat), off := (0 : Nat) }), poi, poi, Value.slice (some { block := (3 : Nat), off := (0 : Nat) }) (List.length (ccL nm zs n ks k p w l)) (0 : Nat), poi, Value.pointer (some { block := (4 : Nat), off := (0 : Nat) }), Value.int IntKind.i64 (pZ zs ks n k p), poi, poi, poi, poi, poi, poi, poi, poi, poi, poi, poi, poi, poi, poi, poi, poi, poi, poi, poi, poi, Value.slice (some { block := (3 : Nat), off := (0 : Nat) }) (List.length (ccL nm zs n ks k p w l)) (0 : Nat), Value.int IntKind.i64 (↑(List.length (ccL nm zs n ks k p w l)) : Int), Value.int IntKind.i64 (↑(Prod.fst s') : Int), poi, poi, poi, poi, poi, poi, poi, poi, poi, poi, poi, poi, poi, poi, poi, poi, poi, poi, poi, poi] ∧ some (AObj.row (ints zs) (2 : Nat) true true true) :: some (AObj.row (acs ks) (2 : Nat) true true true) :: some (AObj.row [Value.int IntKind.i64 l] (0 : Nat) false true true) :: some (AObj.row (ints (fl4 (ccL nm zs n ks k p w l))) (4 : Nat) true true true) :: some (AObj.row [Value.int IntKind.i64 (if rcN (List.getD (fl4 (ccL nm zs n ks k p w l)) ((0 : Nat) + Int.toNat (↑(Prod.fst s) : Int) * (4 : Nat)) (0 : Int)) (List.getD (fl4 (ccL nm zs n ks k p w l)) ((0 : Nat) + Int.toNat (↑(Prod.fst s) : Int) * (4 : Nat) + (1 : Nat)) (0 : Int)) (List.getD (fl4 (ccL nm zs n ks k p w l)) ((0 : Nat) + Int.toNat (↑(Prod.fst s) : Int) * (4 : Nat) + (2 : Nat)) (0 : Int)) (List.getD (fl4 (ccL nm zs n ks k p w l)) ((0 : Nat) + Int.toNat (↑(Prod.fst s) : Int) * (4 : Nat) + (3 : Nat)) (0 : Int)) l (pZ zs ks n k p) > Prod.snd s then rcN (List.getD (fl4 (ccL nm zs n ks k p w l)) ((0 : Nat) + Int.toNat (↑(Prod.fst s) : Int) * (4 : Nat)) (0 : Int)) (List.getD (fl4 (ccL nm zs n ks k p w l)) ((0 : Nat) + Int.toNat (↑(Prod.fst s) : Int) * (4 : Nat) + (1 : Nat)) (0 : Int)) (List.getD (fl4 (ccL nm zs n ks k p w l)) ((0 : Nat) + Int.toNat (↑(Prod.fst s) : Int) * (4 : Nat) + (2 : Nat)) (0 : Int)) (List.getD (fl4 (ccL nm zs n ks k p w l)) ((0 : Nat) + Int.toNat (↑(Prod.fst s) : Int) * (4 : Nat) + (3 : Nat)) (0 : Int)) l (pZ zs ks n k p) else Prod.snd s)] (0 : Nat) false true (true && List.all [Value.int IntKind.i64 (if rcN (List.getD (fl4 (ccL nm zs n ks k p w l)) ((0 : Nat) + Int.toNat (↑(Prod.fst s) : Int) * (4 : Nat)) (0 : Int)) (List.getD (fl4 (ccL nm zs n ks k p w l)) ((0 : Nat) + Int.toNat (↑(Prod.fst s) : Int) * (4 : Nat) + (1 : Nat)) (0 : Int)) (List.getD (fl4 (ccL nm zs n ks k p w l)) ((0 : Nat) + Int.toNat (↑(Prod.fst s) : Int) * (4 : Nat) + (2 : Nat)) (0 : Int)) (List.getD (fl4 (ccL nm zs n ks k p w l)) ((0 : Nat) + Int.toNat (↑(Prod.fst s) : Int) * (4 : Nat) + (3 : Nat)) (0 : Int)) l (pZ zs ks n k p) > Prod.snd s then rcN (List.getD (fl4 (ccL nm zs n ks k p w l)) ((0 : Nat) + Int.toNat (↑(Prod.fst s) : Int) * (4 : Nat)) (0 : Int)) (List.getD (fl4 (ccL nm zs n ks k p w l)) ((0 : Nat) + Int.toNat (↑(Prod.fst s) : Int) * (4 : Nat) + (1 : Nat)) (0 : Int)) (List.getD (fl4 (ccL nm zs n ks k p w l)) ((0 : Nat) + Int.toNat (↑(Prod.fst s) : Int) * (4 : Nat) + (2 : Nat)) (0 : Int)) (List.getD (fl4 (ccL nm zs n ks k p w l)) ((0 : Nat) + Int.toNat (↑(Prod.fst s) : Int) * (4 : Nat) + (3 : Nat)) (0 : Int)) l (pZ zs ks n k p) else Prod.snd s)] atom)) :: noH = some (AObj.row (ints zs) (2 : Nat) true true true) :: some (AObj.row (acs ks) (2 : Nat) true true true) :: some (AObj.row [Value.int IntKind.i64 l] (0 : Nat) false true true) :: some (AObj.row (ints (fl4 (ccL nm zs n ks k p w l))) (4 : Nat) true true true) :: some (AObj.row [Value.int IntKind.i64 (Prod.snd s')] (0 : Nat) false true true) :: noH)) (Is (ints (fl4 (ccL nm zs n ks k p w l)) = ints (fl4 (ccL nm zs n ks k p w l)) ∧ List.length (ccL nm zs n ks k p w l) = List.length (ccL nm zs n ks k p w l) ∧ List.length (ccL nm zs n ks k p w l) ≤ (100000 : Nat) ∧ allLn (ccL nm zs n ks k p w l) (Prod.snd s) ∧ (0 : Int) ≤ l ∧ l ≤ (100000 : Int)) ∧ br (List.any (ccL nm zs n ks k p w l) (belowB l (Prod.snd s))) (K (Value.tuple #[Value.int IntKind.i64 (0 : Int), Value.int IntKind.i64 (7 : Int)]) (some (AObj.row (ints zs) (2 : Nat) true true true) :: some (AObj.row (acs ks) (2 : Nat) true true true) :: noH)) (K (Value.tuple #[Value.int IntKind.i64 (Prod.snd s), Value.int IntKind.i64 (0 : Int)]) (some (AObj.row (ints zs) (2 : Nat) true true true) :: some (AObj.row (acs ks) (2 : Nat) true true true) :: noH))))) := by kernel_rfl
theorem LnIn.rc {q : Ln} {f l : Int} (h : LnIn q f) (l0 : 0 ≤ l) (l1 : l ≤ 100000) : RcOK q.1 q.2.1 q.2.2.1 q.2.2.2 l f := by
  obtain ⟨a0, a1, b0, b1, s0, s1, d0, d1, x0, x1⟩ := h
  have g := bmul (A := 1000000) (B := 100000) (by omega) (by omega) s0 s1 (show -100000 ≤ f - q.1 by omega) (show f - q.1 ≤ 100000 by omega)
  have p := mul_in l0 l1 (show 0 ≤ q.2.2.2 by omega) d1
  exact ⟨a0, a1, x0, x1, by omega, by omega, by omega, by omega, by omega, p.1, by omega⟩
theorem pz_in {zs : List Int} {ks : List (Int × ByteArray)} {n k : Nat} {p : Int} {e1 e2 : List Value} (h : isPer zs ks n k p e1 e2) (hm : 0 < pm zs ks n k p) : 0 ≤ pZ zs ks n k p ∧ pZ zs ks n k p ≤ 100000 :=
  (per_part h).1.pts (pm zs ks n k p - 1) (by omega)
theorem koE_zero {zs : List Int} {ks : List (Int × ByteArray)} {n k : Nat} {p w : Int} (h : koE zs ks n k p w = 0) : 2 ≤ pm zs ks n k p ∧ 0 < (koL zs ks n k p w).length := by
  obtain ⟨h1, h2⟩ := sel_zero.1 h
  have h1 := of_decide_eq_false ((wh_zero (by decide)).1 h1)
  have h2 := (wh_zero (by decide)).1 h2
  have h2 : ¬ (((koL zs ks n k p w).length : Nat) : Int) = 0 := by simpa using h2
  omega
theorem cc_zero {nm : ByteArray} {zs : List Int} {n : Nat} {ks : List (Int × ByteArray)} {k : Nat} {p w l : Int} {e1 e2 : List Value} (hi : isSec zs ks n k e1 e2) (h : ccE nm zs n ks k p w l = 0) :
    isPer zs ks n k p e1 e2 ∧ (0 ≤ w ∧ w ≤ 100000) ∧ (0 ≤ l ∧ l ≤ 100000) ∧ 2 ≤ pm zs ks n k p ∧ ccL nm zs n ks k p w l = koL zs ks n k p w := by
  obtain ⟨h1, h2⟩ := sel_zero.1 h
  exact ⟨perE_ok hi (fi_zero.1 h1 (perE nm zs n ks k p) (by simp)), wi_zero.1 (fi_zero.1 h1 (wi w 0 100000) (by simp)), wi_zero.1 (fi_zero.1 h1 (wi l 0 100000) (by simp)), (koE_zero h2).1, if_pos h1⟩
noncomputable def eaE (nm : ByteArray) (zs : List Int) (n : Nat) (ks : List (Int × ByteArray)) (k : Nat) (p w l : Int) : Int := sel (ccE nm zs n ks k p w l) (wh (!(eaG l (pZ zs ks n k p) (koL zs ks n k p w) 0 false).2) 7)
noncomputable def laE (nm : ByteArray) (zs : List Int) (n : Nat) (ks : List (Int × ByteArray)) (k : Nat) (p w l : Int) : Int := sel (ccE nm zs n ks k p w l) (wh (!laO l (pZ zs ks n k p) (koL zs ks n k p w)) 7)
set_option maxRecDepth 100000 in
theorem ea_ok {nm : ByteArray} {zs : List Int} {ks : List (Int × ByteArray)} {n c k d : Nat} {p w l : Int} (hi : isSec zs ks n k (ints zs) (acs ks)) :
    SmallRes Tryz.prog 59 [.agg (secA nm 0 n c 1 k d).toArray, .int .i64 p, .int .i64 w, .int .i64 l] (hp2 zs ks true true true true [])
      (.tuple #[.int .i64 (gz (eaE nm zs n ks k p w l) (eaG l (pZ zs ks n k p) (koL zs ks n k p w) 0 false).1), .int .i64 (eaE nm zs n ks k p w l)]) (hp2 zs ks true true true true []) := by
  refine fnP_res hm c2_ok (hs := hsEa zs ks (ccL nm zs n ks k p w l) (pZ zs ks n k p) l) ?_
  rw [ea_t]
  refine ⟨⟨hi⟩, br_of (fun h => ?_) (fun h => ?_)⟩
  · have h' : ccE nm zs n ks k p w l ≠ 0 := by simpa using h
    have e : eaE nm zs n ks k p w l = ccE nm zs n ks k p w l := sel_ne h
    simp only [gz, e, if_neg h']
    exact ⟨by first | trivial | rfl, by first | trivial | rfl⟩
  · have h' : ccE nm zs n ks k p w l = 0 := by simpa using h
    obtain ⟨hp, ⟨w0, w1⟩, ⟨l0, l1⟩, hm2, hL⟩ := cc_zero hi h'
    obtain ⟨z0, z1⟩ := pz_in hp (by omega)
    have hln := koL_in hp w0 w1 z0 z1
    have hf := (per_part hp).1.few
    have hlen := (per_part hp).1.len
    have hcnt := outP_len (ptP zs (pf zs ks p * 2) (pm zs ks n k p)) w (pm zs ks n k p) hf
    have hcnt : (koL zs ks n k p w).length ≤ 4096 := hcnt
    have e : eaE nm zs n ks k p w l = wh (!(eaG l (pZ zs ks n k p) (koL zs ks n k p w) 0 false).2) 7 := sel_eq h
    have sp := (eaG_spec (lim := l) (f := pZ zs ks n k p) (koL zs ks n k p w) 0 false).2.2.2.2
    rw [hL, e]
    have hz : zs.getD (pf zs ks p * 2 + (pm zs ks n k p - 1) * 2) 0 = pZ zs ks n k p := rfl
    rw [hz]
    refine ⟨⟨hp⟩, ⟨by first | trivial | rfl, by omega, by omega, hlen⟩, ?_⟩
    generalize koL zs ks n k p w = Q at *
    generalize pZ zs ks n k p = f at *
    refine ⟨⟨((0 : Nat), (0 : Int), false), ⟨by omega, by rw [List.drop_zero]⟩, by first | trivial | rfl, by first | trivial | rfl⟩, fun s hs => br_of (fun hc => ?_) (fun hc => ?_)⟩
    · have hc : s.1 < Q.length := by have := of_decide_eq_true hc; omega
      obtain ⟨i1, i2⟩ := hs.out
      have ld := ld4 (Q := Q) (i := s.1) hc
      obtain ⟨k1, k2, k3, k4⟩ := fl4_at Q s.1 hc
      have hx := getD_mem (l := Q) (i := s.1) (z := (0, 0, 0, 0)) hc
      rw [drop_getD (0, 0, 0, 0) hc, eaG] at i2
      generalize Q.getD s.1 (0, 0, 0, 0) = q at *
      simp only [Int.toNat_natCast, Nat.zero_add, k1, k2, k3, k4, ld]
      have st1 : lnB q l f = true → (!s.2.2 || decide (lnN q l f < s.2.1)) = true → eaG l f (Q.drop (s.1 + 1)) (lnN q l f) true = eaG l f Q 0 false := fun h1 h2 => by
        rw [if_pos (by rw [h1, h2]; rfl)] at i2; exact i2
      have st2 : (lnB q l f && (!s.2.2 || decide (lnN q l f < s.2.1))) = false → eaG l f (Q.drop (s.1 + 1)) s.2.1 s.2.2 = eaG l f Q 0 false := fun h1 => by
        rw [if_neg (by rw [h1]; decide)] at i2; exact i2
      refine ⟨⟨by omega, by omega⟩, ⟨by first | trivial | rfl⟩, ⟨(hln q hx).rc l0 l1⟩, br_of (fun h1 => br_of (fun h2 => ⟨(s.1 + 1, lnN q l f, true), ⟨by simp only; omega, st1 h1 (by rw [h2]; rfl)⟩, ⟨by simp only; omega⟩, ?_, by first | trivial | rfl⟩)
        (fun h2 => br_of (fun h3 => ⟨(s.1 + 1, lnN q l f, true), ⟨by simp only; omega, st1 h1 (by rw [h2, Bool.false_or]; exact h3)⟩, ⟨by simp only; omega⟩, ?_, by first | trivial | rfl⟩) (fun h3 => ⟨(s.1 + 1, s.2.1, s.2.2), ⟨by simp only; omega, st2 ?_⟩, ⟨by simp only; omega⟩, ?_, by first | trivial | rfl⟩)))
        (fun h1 => ⟨(s.1 + 1, s.2.1, s.2.2), ⟨by simp only; omega, st2 ?_⟩, ⟨by simp only; omega⟩, ?_, by first | trivial | rfl⟩)⟩
      · rw [up1 hc (by omega)]; first | trivial | rfl
      · rw [up1 hc (by omega)]; first | trivial | rfl
      · have h3 : decide (lnN q l f < s.2.1) = false := h3
        rw [h2, h3, Bool.or_self, Bool.and_false]
      · rw [up1 hc (by omega)]
      · have h1 : lnB q l f = false := h1
        rw [h1, Bool.false_and]
      · rw [up1 hc (by omega)]
    · obtain ⟨i1, i2⟩ := hs.out
      have hc : s.1 = Q.length := by have := of_decide_eq_false hc; omega
      rw [List.drop_eq_nil_of_le (by omega), eaG] at i2
      have j1 : s.2.1 = (eaG l f Q 0 false).1 := congrArg Prod.fst i2
      have j2 : s.2.2 = (eaG l f Q 0 false).2 := congrArg Prod.snd i2
      rw [j1, j2]
      refine ⟨?_, by first | trivial | rfl⟩
      cases hfd : (eaG l f Q 0 false).2 with
      | true => rfl
      | false => rw [sp hfd]; rfl
set_option maxRecDepth 100000 in
theorem lt_ok {nm : ByteArray} {zs : List Int} {ks : List (Int × ByteArray)} {n c k d : Nat} {p w l : Int} (hi : isSec zs ks n k (ints zs) (acs ks)) :
    SmallRes Tryz.prog 60 [.agg (secA nm 0 n c 1 k d).toArray, .int .i64 p, .int .i64 w, .int .i64 l] (hp2 zs ks true true true true [])
      (.tuple #[.int .i64 (gz (laE nm zs n ks k p w l) (laG (fun q => lnN q l (pZ zs ks n k p)) (koL zs ks n k p w) (pZ zs ks n k p))), .int .i64 (laE nm zs n ks k p w l)]) (hp2 zs ks true true true true []) := by
  refine fnP_res hm c2_ok (hs := hsLt zs ks (ccL nm zs n ks k p w l) (pZ zs ks n k p) l) ?_
  rw [lt_t]
  refine ⟨⟨hi⟩, br_of (fun h => ?_) (fun h => ?_)⟩
  · have h' : ccE nm zs n ks k p w l ≠ 0 := by simpa using h
    have e : laE nm zs n ks k p w l = ccE nm zs n ks k p w l := sel_ne h
    simp only [gz, e, if_neg h']
    exact ⟨by first | trivial | rfl, by first | trivial | rfl⟩
  · have h' : ccE nm zs n ks k p w l = 0 := by simpa using h
    obtain ⟨hp, ⟨w0, w1⟩, ⟨l0, l1⟩, hm2, hL⟩ := cc_zero hi h'
    obtain ⟨z0, z1⟩ := pz_in hp (by omega)
    have hln : ∀ x, 0 ≤ x → x ≤ 100000 → ∀ q ∈ koL zs ks n k p w, LnIn q x := fun x x0 x1 => koL_in hp w0 w1 x0 x1
    have hf := (per_part hp).1.few
    have hlen := (per_part hp).1.len
    have hcnt : (koL zs ks n k p w).length ≤ 4096 := outP_len (ptP zs (pf zs ks p * 2) (pm zs ks n k p)) w (pm zs ks n k p) hf
    have e : laE nm zs n ks k p w l = wh (!laO l (pZ zs ks n k p) (koL zs ks n k p w)) 7 := sel_eq h
    rw [hL, e]
    have hz : zs.getD (pf zs ks p * 2 + (pm zs ks n k p - 1) * 2) 0 = pZ zs ks n k p := rfl
    rw [hz]
    refine ⟨⟨hp⟩, ⟨by first | trivial | rfl, by omega, by omega, hlen⟩, ?_⟩
    generalize koL zs ks n k p w = Q at *
    generalize pZ zs ks n k p = f at *
    refine ⟨⟨((0 : Nat), f), ⟨by omega, by rw [List.take_zero]; rfl, ⟨by simp only; omega, z1⟩, by rw [List.drop_zero]⟩, by first | trivial | rfl, by first | trivial | rfl⟩, fun s hs => br_of (fun hc => ?_) (fun hc => ?_)⟩
    · have hc : s.1 < Q.length := by have := of_decide_eq_true hc; omega
      obtain ⟨i1, i2, ⟨i3, i4⟩, i5⟩ := hs.out
      have ld := ld4 (Q := Q) (i := s.1) hc
      obtain ⟨k1, k2, k3, k4⟩ := fl4_at Q s.1 hc
      have hx := getD_mem (l := Q) (i := s.1) (z := (0, 0, 0, 0)) hc
      have htk : Q.take (s.1 + 1) = Q.take s.1 ++ [Q.getD s.1 (0, 0, 0, 0)] := by
        rw [List.take_add_one, List.getElem?_eq_getElem hc, List.getD_eq_getElem?_getD, List.getElem?_eq_getElem hc]; rfl
      rw [drop_getD (0, 0, 0, 0) hc, laG] at i5
      generalize Q.getD s.1 (0, 0, 0, 0) = q at *
      simp only [Int.toNat_natCast, Nat.zero_add, k1, k2, k3, k4, ld]
      refine ⟨⟨by omega, by omega⟩, ⟨by first | trivial | rfl⟩, ⟨(hln f z0 z1 q hx).rc l0 l1⟩, br_of (fun h1 => ?_) (fun h1 => ⟨(s.1 + 1, if lnN q l f > s.2 then lnN q l f else s.2), ⟨by simp only; omega, ?_, ?_, i5⟩, ⟨by simp only; omega⟩, ?_, by first | trivial | rfl⟩)⟩
      · have h1 : (!lnB q l f) = true := h1
        have : laO l f Q = false := by
          have : (Q.all fun q => lnB q l f) = false := by
            rw [List.all_eq_false]
            exact ⟨q, hx, by simpa using h1⟩
          rw [laO, this]; rfl
        rw [this]
        exact ⟨by first | trivial | rfl, by first | trivial | rfl⟩
      · have h1 : (!lnB q l f) = false := h1
        rw [htk, List.all_append, i2, Bool.true_and, List.all_cons, List.all_nil, Bool.and_true]
        simpa using h1
      · have h1 : (!lnB q l f) = false := h1
        have h1 : lnB q l f = true := by simpa using h1
        have h2 := (lnB_iff z0 z1).1 h1
        have h3 := lnN_eq h1
        simp only
        split <;> omega
      · rw [up1 hc (by omega)]
    · obtain ⟨i1, i2, ⟨i3, i4⟩, i5⟩ := hs.out
      have hc : s.1 = Q.length := by have := of_decide_eq_false hc; omega
      rw [hc, List.take_length] at i2
      rw [List.drop_eq_nil_of_le (by omega), laG] at i5
      refine ⟨⟨by first | trivial | rfl, by first | trivial | rfl, by omega, hln s.2 (by omega) i4, l0, l1⟩, br_of (fun hb => ?_) (fun hb => ?_)⟩
      · rw [laO, i2, ← i5, hb]
        exact ⟨by first | trivial | rfl, by first | trivial | rfl⟩
      · rw [laO, i2, ← i5, hb]
        exact ⟨by first | trivial | rfl, by first | trivial | rfl⟩
noncomputable def rnE (nm : ByteArray) (zs : List Int) (n : Nat) (ks : List (Int × ByteArray)) (k : Nat) (p w x : Int) : Int := sel (fi [perE nm zs n ks k p, wi w 0 100000, wi x 0 100000]) (koE zs ks n k p w)
set_option maxRecDepth 100000 in
theorem rn_ok {nm : ByteArray} {zs : List Int} {ks : List (Int × ByteArray)} {n c k d : Nat} {p w x : Int} (hi : isSec zs ks n k (ints zs) (acs ks)) :
    SmallRes Tryz.prog 58 [.agg (secA nm 0 n c 1 k d).toArray, .int .i64 p, .int .i64 w, .int .i64 x] (hp2 zs ks true true true true [])
      (.tuple #[.agg #[.int .i64 (gz (rnE nm zs n ks k p w x) (mnL (vals (koL zs ks n k p w) x)).1), .int .i64 (gz (rnE nm zs n ks k p w x) (mnL (vals (koL zs ks n k p w) x)).2), .int .i64 (gz (rnE nm zs n ks k p w x) (mxR (vals (koL zs ks n k p w) x)).1), .int .i64 (gz (rnE nm zs n ks k p w x) (mxR (vals (koL zs ks n k p w) x)).2)], .int .i64 (rnE nm zs n ks k p w x)]) (hp2 zs ks true true true true []) := by
  refine fnP_res hm c21_ok (hs := hsRn zs ks (koL zs ks n k p w) x) ?_
  rw [rn_t]
  refine ⟨⟨hi⟩, br_of (fun h => ?_) (fun h => ?_)⟩
  · have h' : fi [perE nm zs n ks k p, wi w 0 100000, wi x 0 100000] ≠ 0 := by simpa using h
    have e : rnE nm zs n ks k p w x = fi [perE nm zs n ks k p, wi w 0 100000, wi x 0 100000] := sel_ne h
    simp only [gz, e, if_neg h']
    exact ⟨by first | trivial | rfl, by first | trivial | rfl⟩
  · have h' : fi [perE nm zs n ks k p, wi w 0 100000, wi x 0 100000] = 0 := by simpa using h
    have e : rnE nm zs n ks k p w x = koE zs ks n k p w := sel_eq h
    have hp := perE_ok hi (fi_zero.1 h' (perE nm zs n ks k p) (by simp))
    obtain ⟨w0, w1⟩ := wi_zero.1 (fi_zero.1 h' (wi w 0 100000) (by simp))
    obtain ⟨x0, x1⟩ := wi_zero.1 (fi_zero.1 h' (wi x 0 100000) (by simp))
    refine ⟨⟨hp, w0, w1⟩, br_of (fun h2 => ?_) (fun h2 => ?_)⟩
    · have h2' : koE zs ks n k p w ≠ 0 := by simpa using h2
      simp only [gz, e, if_neg h2']
      exact ⟨by first | trivial | rfl, by first | trivial | rfl⟩
    · have h2' : koE zs ks n k p w = 0 := by simpa using h2
      obtain ⟨hm2, hpos⟩ := koE_zero h2'
      have hln := koL_in hp w0 w1 x0 x1
      have hcnt : (koL zs ks n k p w).length ≤ 4096 := outP_len (ptP zs (pf zs ks p * 2) (pm zs ks n k p)) w (pm zs ks n k p) (per_part hp).1.few
      have hvl : (vals (koL zs ks n k p w) x).length = (koL zs ks n k p w).length := by rw [vals, List.length_map]
      have hrat : allRat (vals (koL zs ks n k p w) x) := fun r hr => by
        obtain ⟨q, hq, rfl⟩ := List.mem_map.1 hr
        exact (hln q hq).rat
      simp only [gz, e, h2', if_true]
      exact ⟨⟨by first | trivial | rfl, by first | trivial | rfl, by omega, hln⟩, ⟨by first | trivial | rfl, hvl, hpos, by omega, hrat⟩, ⟨by first | trivial | rfl, hvl, hpos, by omega, hrat⟩, by first | trivial | rfl, by first | trivial | rfl⟩
end
end Qq
end
section
/- The law about ranges: what it calls. -/
open Go Go.Vm Go.Proofs Sp
namespace Qq
noncomputable section
theorem SmallRes.shut {P : Program} {f : FuncId} {args : List Value} {H H' : Heap} {v : Value} (h : SmallRes P f args H v H') (ids : List Nat) : SmallRes P f args H v (sealH ids H') := by
  intro F A ψ w args' hh hb hA hψ hl
  refine (h F A ψ w args' hh hb hA hψ hl).mono ?_
  rintro e w' ⟨v', A', ψ', rfl, k1, k2, k3⟩
  exact ⟨v', A', ψ', rfl, k1.shut ids, fun id hid => by rw [seal_len]; exact k2 id hid, k3⟩
noncomputable def orcRnV (zs : List Int) (ks : List (Int × ByteArray)) : OrcV
  | [.agg ⟨[.string nm, .slice (some ⟨0, 0, none⟩) n _, .slice (some ⟨1, 0, none⟩) k _]⟩, .int .i64 p, .int .i64 w, .int .i64 x], [some (.row e1 2 true true true), some (.row e2 2 true true true)] =>
    some (.tuple #[.agg #[.int .i64 (gz (rnE nm zs n ks k p w x) (mnL (vals (koL zs ks n k p w) x)).1), .int .i64 (gz (rnE nm zs n ks k p w x) (mnL (vals (koL zs ks n k p w) x)).2), .int .i64 (gz (rnE nm zs n ks k p w x) (mxR (vals (koL zs ks n k p w) x)).1), .int .i64 (gz (rnE nm zs n ks k p w x) (mxR (vals (koL zs ks n k p w) x)).2)], .int .i64 (rnE nm zs n ks k p w x)],
      [some (.row e1 2 true true true), some (.row e2 2 true true true)], isSec zs ks n k e1 e2)
  | _, _ => none
theorem rn_okV (zs : List Int) (ks : List (Int × ByteArray)) : OkV Tryz.prog 58 (orcRnV zs ks) := by
  intro args H ret H' vc h hv
  unfold orcRnV at h
  split at h
  · cases h
    obtain ⟨rfl, rfl, h1⟩ := hv
    exact rn_ok ⟨rfl, rfl, h1⟩
  · cases h
noncomputable def eaV (nm : ByteArray) (zs : List Int) (n : Nat) (ks : List (Int × ByteArray)) (k : Nat) (p w l : Int) : Int := gz (eaE nm zs n ks k p w l) (eaG l (pZ zs ks n k p) (koL zs ks n k p w) 0 false).1
noncomputable def laV (nm : ByteArray) (zs : List Int) (n : Nat) (ks : List (Int × ByteArray)) (k : Nat) (p w l : Int) : Int := gz (laE nm zs n ks k p w l) (laG (fun q => lnN q l (pZ zs ks n k p)) (koL zs ks n k p w) (pZ zs ks n k p))
noncomputable def orcEaV (zs : List Int) (ks : List (Int × ByteArray)) : OrcV
  | [.agg ⟨[.string nm, .slice (some ⟨0, 0, none⟩) n _, .slice (some ⟨1, 0, none⟩) k _]⟩, .int .i64 p, .int .i64 w, .int .i64 l], [some (.row e1 2 true true true), some (.row e2 2 true true true)] =>
    some (.tuple #[.int .i64 (eaV nm zs n ks k p w l), .int .i64 (eaE nm zs n ks k p w l)], [some (.row e1 2 true true true), some (.row e2 2 true true true)], isSec zs ks n k e1 e2)
  | _, _ => none
theorem ea_okV (zs : List Int) (ks : List (Int × ByteArray)) : OkV Tryz.prog 59 (orcEaV zs ks) := by
  intro args H ret H' vc h hv
  unfold orcEaV at h
  split at h
  · cases h
    obtain ⟨rfl, rfl, h1⟩ := hv
    exact ea_ok ⟨rfl, rfl, h1⟩
  · cases h
noncomputable def orcLtV (zs : List Int) (ks : List (Int × ByteArray)) : OrcV
  | [.agg ⟨[.string nm, .slice (some ⟨0, 0, none⟩) n _, .slice (some ⟨1, 0, none⟩) k _]⟩, .int .i64 p, .int .i64 w, .int .i64 l], [some (.row e1 2 true true true), some (.row e2 2 true true true)] =>
    some (.tuple #[.int .i64 (laV nm zs n ks k p w l), .int .i64 (laE nm zs n ks k p w l)], [some (.row e1 2 true true true), some (.row e2 2 true true true)], isSec zs ks n k e1 e2)
  | _, _ => none
theorem lt_okV (zs : List Int) (ks : List (Int × ByteArray)) : OkV Tryz.prog 60 (orcLtV zs ks) := by
  intro args H ret H' vc h hv
  unfold orcLtV at h
  split at h
  · cases h
    obtain ⟨rfl, rfl, h1⟩ := hv
    exact lt_ok ⟨rfl, rfl, h1⟩
  · cases h
end
end Qq
end
section
/- The law about ranges: plain facts. -/
open Go Go.Vm Go.Proofs Sp
namespace Qq
noncomputable section
theorem rn_cc (nm : ByteArray) (zs : List Int) (n : Nat) (ks : List (Int × ByteArray)) (k : Nat) (p w l : Int) : ccE nm zs n ks k p w l = rnE nm zs n ks k p w l := rfl
theorem own_pts {zs : List Int} {ks : List (Int × ByteArray)} {n k : Nat} {p : Int} {e1 e2 : List Value} (h : isPer zs ks n k p e1 e2) (hm : 2 ≤ pm zs ks n k p) : Pts (pP zs ks n k p) 0 (pm zs ks n k p) := pts_own (per_pts h) (by omega)
theorem getD_drop1 {α : Type} {z : α} : ∀ {l : List α}, 0 < l.length → l = l.getD 0 z :: l.drop 1
  | [], h => by simp at h
  | _ :: _, _ => rfl
end
end Qq
end
