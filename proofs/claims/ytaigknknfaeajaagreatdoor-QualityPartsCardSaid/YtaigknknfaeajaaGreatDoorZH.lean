/- Parts of the proof: QU, QV, QW, QX, QY, QZ, QAA, QBB, QCC. -/
import Derived.Test.YtaigknknfaeajaaGreatDoorZG
import Derived.Test.YtaigknknfaeajaaGreatDoorZD
section
/- The program's lines of periods. -/
open Go Go.Vm Go.Proofs Sp
namespace Sp
noncomputable section
noncomputable def lz (m : Nat) (x : Int) : Int := if m < 2 then 0 else x
end
end Sp
namespace Qq
noncomputable section
/-- A valid section, and one of its periods. -/
noncomputable def isPer (zs : List Int) (ks : List (Int × ByteArray)) (n k : Nat) (p : Int) (e1 e2 : List Value) : Prop :=
  isSec zs ks n k e1 e2 ∧ mchk zs (-1) = 0 ∧ achk ks (-1) = 0 ∧ n ≤ 32 ∧ 0 ≤ p ∧ p ≤ k
noncomputable def pf (zs : List Int) (ks : List (Int × ByteArray)) (p : Int) : Nat := frm zs ks p.toNat
noncomputable def pm (zs : List Int) (ks : List (Int × ByteArray)) (n k : Nat) (p : Int) : Nat := upto zs ks n k p.toNat - frm zs ks p.toNat
noncomputable def orcPdV (zs : List Int) (ks : List (Int × ByteArray)) : OrcV
  | [.agg ⟨[.string _nm, .slice (some ⟨0, 0, none⟩) n _c, .slice (some ⟨1, 0, none⟩) k _d]⟩, .int .i64 p], [some (.row e1 2 true true true), some (.row e2 2 true true true)] => some (.slice (some ⟨0, pf zs ks p * 2, none⟩) (pm zs ks n k p) big, [some (.row e1 2 true true true), some (.row e2 2 true true true)], isPer zs ks n k p e1 e2)
  | _, _ => none
theorem pd_okV (zs : List Int) (ks : List (Int × ByteArray)) : OkV Tryz.prog 142 (orcPdV zs ks) := by
  intro args H ret H' vc h hv
  unfold orcPdV at h
  split at h
  · cases h
    obtain ⟨⟨rfl, rfl, h1, h2, h3, h4⟩, h5, h6, h7, h8, h9⟩ := hv
    exact pd_ok h1 h2 h3 h4 h5 h6 h8 h9
  · cases h
noncomputable def orcInV (zs : List Int) (ks : List (Int × ByteArray)) : OrcV
  | [.agg ⟨[.string _nm, .slice (some ⟨0, 0, none⟩) n _c, .slice (some ⟨1, 0, none⟩) k _d]⟩, .int .i64 p], [some (.row e1 2 false false true), some (.row e2 2 false false true)] => some (.slice (some ⟨2, 0, none⟩) (pm zs ks n k p) 0, [some (.row e1 2 false false true), some (.row e2 2 false false true), lst2 ((zs.drop (pf zs ks p * 2)).take (pm zs ks n k p * 2))], isPer zs ks n k p e1 e2)
  | _, _ => none
theorem in_okV (zs : List Int) (ks : List (Int × ByteArray)) : OkV Tryz.prog 57 (orcInV zs ks) := by
  intro args H ret H' vc h hv
  unfold orcInV at h
  split at h
  · cases h
    obtain ⟨⟨rfl, rfl, h1, h2, h3, h4⟩, h5, h6, h7, h8, h9⟩ := hv
    exact in_ok h1 h2 h3 h4 h6 h8 h9
  · cases h
noncomputable def orcFtV (zs : List Int) : OrcV
  | [.slice (some ⟨0, off, none⟩) m _c], [some (.row e1 2 m1 w1 true)] => some (.agg #[.int .i64 (zs.getD off 0), .int .i64 (lvl zs off m), .int .i64 (slp zs off m), .int .i64 (dn zs off m)], [some (.row e1 2 m1 w1 true)], e1 = ints zs ∧ Part zs off m ∧ 0 < m)
  | _, _ => none
theorem ft_okV (zs : List Int) : OkV Tryz.prog 205 (orcFtV zs) := by
  intro args H ret H' vc h hv
  unfold orcFtV at h
  split at h
  · cases h
    obtain ⟨rfl, h1, h2⟩ := hv
    exact ft_ok h1 h2
  · cases h
noncomputable def hsLn (zs : List Int) (ks : List (Int × ByteArray)) : Hs Tryz.prog where
  au := auCalls [(142, hCa Tryz.prog 142 (orcPdV zs ks) (pd_okV zs ks)), (205, hCa Tryz.prog 205 (orcFtV zs) (ft_okV zs))]
theorem ln_t (nm : ByteArray) (zs : List Int) (ks : List (Int × ByteArray)) (n : Nat) (c : Nat) (k : Nat) (d : Nat) (p : Int) (K : Value → Heap → Prop) :
    (fnP Tryz.prog c2 (hsLn zs ks) (130 : FuncId) [Value.agg (List.toArray (secA nm (0 : Nat) n c (1 : Nat) k d)), Value.int IntKind.i64 p] (hp2 zs ks true true true true []) K) =
    (Is (isPer zs ks n k p (ints zs) (acs ks)) ∧ br (decide ((↑(pm zs ks n k p) : Int) < (2 : Int))) (K (Value.tuple #[Value.agg #[Value.int IntKind.i64 (0 : Int), Value.int IntKind.i64 (0 : Int), Value.int IntKind.i64 (0 : Int), Value.int IntKind.i64 (0 : Int)], Value.int IntKind.i64 (16 : Int)]) (some (AObj.row (ints zs) (2 : Nat) true true true) :: some (AObj.row (acs ks) (2 : Nat) true true true) :: noH)) (Is (ints zs = ints zs ∧ Part zs (pf zs ks p * (2 : Nat)) (pm zs ks n k p) ∧ (0 : Nat) < pm zs ks n k p) ∧ K (Value.tuple #[Value.agg #[Value.int IntKind.i64 (List.getD zs (pf zs ks p * (2 : Nat)) (0 : Int)), Value.int IntKind.i64 (lvl zs (pf zs ks p * (2 : Nat)) (pm zs ks n k p)), Value.int IntKind.i64 (slp zs (pf zs ks p * (2 : Nat)) (pm zs ks n k p)), Value.int IntKind.i64 (dn zs (pf zs ks p * (2 : Nat)) (pm zs ks n k p))], Value.int IntKind.i64 (0 : Int)]) (some (AObj.row (ints zs) (2 : Nat) true true true) :: some (AObj.row (acs ks) (2 : Nat) true true true) :: noH))) := by kernel_rfl
theorem at_t (a : Int) (b : Int) (c : Int) (d : Int) (x : Int) (K : Value → Heap → Prop) :
    (fnP Tryz.prog c0 h4 (133 : FuncId) [Value.agg #[Value.int IntKind.i64 a, Value.int IntKind.i64 b, Value.int IntKind.i64 c, Value.int IntKind.i64 d], Value.int IntKind.i64 x] [] K) =
    (K (Value.int IntKind.i64 (IntKind.wrap IntKind.i64 (b + IntKind.wrap IntKind.i64 (c * IntKind.wrap IntKind.i64 (x - a))))) noH) := by kernel_rfl
theorem per_part {zs : List Int} {ks : List (Int × ByteArray)} {n k : Nat} {p : Int} {e1 e2 : List Value} (h : isPer zs ks n k p e1 e2) : Part zs (pf zs ks p * 2) (pm zs ks n k p) ∧ (2 ≤ pm zs ks n k p → 0 < dn zs (pf zs ks p * 2) (pm zs ks n k p)) := by
  obtain ⟨⟨_, _, h1, h2, _, _⟩, h5, h6, h7, h8, h9⟩ := h
  obtain ⟨u1, u2⟩ := upto_le (n := n) (i := p.toNat) h1 h2 h6 (by omega)
  exact ⟨part_of h1 h7 h5 (by simp only [pf, pm]; omega), fun h => dn_pos h1 h5 (by simp only [pf, pm]; omega) h⟩
theorem ln_ok {nm : ByteArray} {zs : List Int} {ks : List (Int × ByteArray)} {n c k d : Nat} {p : Int} (hi : isPer zs ks n k p (ints zs) (acs ks)) :
    SmallRes Tryz.prog 130 [.agg (secA nm 0 n c 1 k d).toArray, .int .i64 p] (hp2 zs ks true true true true [])
      (.tuple #[.agg #[.int .i64 (lz (pm zs ks n k p) (zs.getD (pf zs ks p * 2) 0)), .int .i64 (lz (pm zs ks n k p) (lvl zs (pf zs ks p * 2) (pm zs ks n k p))), .int .i64 (lz (pm zs ks n k p) (slp zs (pf zs ks p * 2) (pm zs ks n k p))), .int .i64 (lz (pm zs ks n k p) (dn zs (pf zs ks p * 2) (pm zs ks n k p)))], .int .i64 (wh (decide (pm zs ks n k p < 2)) 16)])
      (hp2 zs ks true true true true []) := by
  refine fnP_res hm c2_ok (hs := hsLn zs ks) ?_
  rw [ln_t]
  obtain ⟨hp, _⟩ := per_part hi
  refine ⟨⟨hi⟩, br_of (fun h => ?_) (fun h => ?_)⟩
  · have h : pm zs ks n k p < 2 := by have := of_decide_eq_true h; omega
    simp only [lz, if_pos h, decide_eq_true h]
    exact ⟨by first | trivial | rfl, by first | trivial | rfl⟩
  · have h : ¬ pm zs ks n k p < 2 := by have := of_decide_eq_false h; omega
    simp only [lz, if_neg h, decide_eq_false h]
    exact ⟨⟨by first | trivial | rfl, hp, by omega⟩, by first | trivial | rfl, by first | trivial | rfl⟩
end
end Qq
end
section
/- The program's answers about lines. -/
open Go Go.Vm Go.Proofs Sp
namespace Qq
noncomputable section
noncomputable def orcLnV (zs : List Int) (ks : List (Int × ByteArray)) : OrcV
  | [.agg ⟨[.string _nm, .slice (some ⟨0, 0, none⟩) n _c, .slice (some ⟨1, 0, none⟩) k _d]⟩, .int .i64 p], [some (.row e1 2 true true true), some (.row e2 2 true true true)] =>
    some (.tuple #[.agg #[.int .i64 (lz (pm zs ks n k p) (zs.getD (pf zs ks p * 2) 0)), .int .i64 (lz (pm zs ks n k p) (lvl zs (pf zs ks p * 2) (pm zs ks n k p))), .int .i64 (lz (pm zs ks n k p) (slp zs (pf zs ks p * 2) (pm zs ks n k p))), .int .i64 (lz (pm zs ks n k p) (dn zs (pf zs ks p * 2) (pm zs ks n k p)))], .int .i64 (wh (decide (pm zs ks n k p < 2)) 16)],
      [some (.row e1 2 true true true), some (.row e2 2 true true true)], isPer zs ks n k p e1 e2)
  | _, _ => none
theorem ln_okV (zs : List Int) (ks : List (Int × ByteArray)) : OkV Tryz.prog 130 (orcLnV zs ks) := by
  intro args H ret H' vc h hv
  unfold orcLnV at h
  split at h
  · cases h
    obtain ⟨⟨rfl, rfl, h1⟩, h2⟩ := hv
    exact ln_ok ⟨⟨rfl, rfl, h1⟩, h2⟩
  · cases h
noncomputable def orcCpV (zs : List Int) (ks : List (Int × ByteArray)) : OrcV
  | [.agg ⟨[.string nm, .slice (some ⟨0, 0, none⟩) n _c, .slice (some ⟨1, 0, none⟩) k _d]⟩, .int .i64 p], [some (.row e1 2 true true true), some (.row e2 2 true true true)] =>
    some (.int .i64 (perE nm zs n ks k p), [some (.row e1 2 true true true), some (.row e2 2 true true true)], isSec zs ks n k e1 e2)
  | _, _ => none
theorem cp_okV (zs : List Int) (ks : List (Int × ByteArray)) : OkV Tryz.prog 129 (orcCpV zs ks) := by
  intro args H ret H' vc h hv
  unfold orcCpV at h
  split at h
  · cases h
    obtain ⟨rfl, rfl, h1⟩ := hv
    exact cp_ok ⟨rfl, rfl, h1⟩
  · cases h
noncomputable def hsFd (zs : List Int) (ks : List (Int × ByteArray)) : Hs Tryz.prog where
  au := auCalls [(129, hCa Tryz.prog 129 (orcCpV zs ks) (cp_okV zs ks)), (130, hCa Tryz.prog 130 (orcLnV zs ks) (ln_okV zs ks)), (131, hCa Tryz.prog 131 orcLow okLow)]
theorem fd_t (nm : ByteArray) (zs : List Int) (ks : List (Int × ByteArray)) (n : Nat) (c : Nat) (k : Nat) (d : Nat) (p : Int) (K : Value → Heap → Prop) :
    (fnP Tryz.prog c2 (hsFd zs ks) (41 : FuncId) [Value.agg (List.toArray (secA nm (0 : Nat) n c (1 : Nat) k d)), Value.int IntKind.i64 p] (hp2 zs ks true true true true []) K) =
    (Is (isSec zs ks n k (ints zs) (acs ks)) ∧ br (perE nm zs n ks k p != (0 : Int)) (K (Value.tuple #[Value.agg #[Value.int IntKind.i64 (0 : Int), Value.int IntKind.i64 (0 : Int), Value.int IntKind.i64 (0 : Int), Value.int IntKind.i64 (0 : Int), Value.int IntKind.i64 (0 : Int)], Value.int IntKind.i64 (perE nm zs n ks k p)]) (some (AObj.row (ints zs) (2 : Nat) true true true) :: some (AObj.row (acs ks) (2 : Nat) true true true) :: noH)) (Is (isPer zs ks n k p (ints zs) (acs ks)) ∧ br (wh (decide (pm zs ks n k p < (2 : Nat))) (16 : Int) != (0 : Int)) (K (Value.tuple #[Value.agg #[Value.int IntKind.i64 (0 : Int), Value.int IntKind.i64 (0 : Int), Value.int IntKind.i64 (0 : Int), Value.int IntKind.i64 (0 : Int), Value.int IntKind.i64 (0 : Int)], Value.int IntKind.i64 (wh (decide (pm zs ks n k p < (2 : Nat))) (16 : Int))]) (some (AObj.row (ints zs) (2 : Nat) true true true) :: some (AObj.row (acs ks) (2 : Nat) true true true) :: noH)) (Is ((0 : Int) < lz (pm zs ks n k p) (dn zs (pf zs ks p * (2 : Nat)) (pm zs ks n k p)) ∧ lz (pm zs ks n k p) (dn zs (pf zs ks p * (2 : Nat)) (pm zs ks n k p)) < (9223372036854775808 : Int) ∧ (-9223372036854775808 : Int) < lz (pm zs ks n k p) (lvl zs (pf zs ks p * (2 : Nat)) (pm zs ks n k p)) ∧ lz (pm zs ks n k p) (lvl zs (pf zs ks p * (2 : Nat)) (pm zs ks n k p)) < (9223372036854775808 : Int)) ∧ Is ((0 : Int) < lz (pm zs ks n k p) (dn zs (pf zs ks p * (2 : Nat)) (pm zs ks n k p)) ∧ lz (pm zs ks n k p) (dn zs (pf zs ks p * (2 : Nat)) (pm zs ks n k p)) < (9223372036854775808 : Int) ∧ (-9223372036854775808 : Int) < lz (pm zs ks n k p) (slp zs (pf zs ks p * (2 : Nat)) (pm zs ks n k p)) ∧ lz (pm zs ks n k p) (slp zs (pf zs ks p * (2 : Nat)) (pm zs ks n k p)) < (9223372036854775808 : Int)) ∧ K (Value.tuple #[Value.agg #[Value.int IntKind.i64 (lz (pm zs ks n k p) (List.getD zs (pf zs ks p * (2 : Nat)) (0 : Int))), Value.int IntKind.i64 (lowN (lz (pm zs ks n k p) (lvl zs (pf zs ks p * (2 : Nat)) (pm zs ks n k p))) (lz (pm zs ks n k p) (dn zs (pf zs ks p * (2 : Nat)) (pm zs ks n k p)))), Value.int IntKind.i64 (lowD (lz (pm zs ks n k p) (lvl zs (pf zs ks p * (2 : Nat)) (pm zs ks n k p))) (lz (pm zs ks n k p) (dn zs (pf zs ks p * (2 : Nat)) (pm zs ks n k p)))), Value.int IntKind.i64 (lowN (lz (pm zs ks n k p) (slp zs (pf zs ks p * (2 : Nat)) (pm zs ks n k p))) (lz (pm zs ks n k p) (dn zs (pf zs ks p * (2 : Nat)) (pm zs ks n k p)))), Value.int IntKind.i64 (lowD (lz (pm zs ks n k p) (slp zs (pf zs ks p * (2 : Nat)) (pm zs ks n k p))) (lz (pm zs ks n k p) (dn zs (pf zs ks p * (2 : Nat)) (pm zs ks n k p))))], Value.int IntKind.i64 (0 : Int)]) (some (AObj.row (ints zs) (2 : Nat) true true true) :: some (AObj.row (acs ks) (2 : Nat) true true true) :: noH)))) := by kernel_rfl
theorem secE_few {nm : ByteArray} {zs : List Int} {n : Nat} {ks : List (Int × ByteArray)} {k : Nat} (h : secE nm zs n ks k = 0) : n ≤ 32 := by
  simp only [secE, sel_zero] at h
  have := fi_zero.1 h.1 (wh (decide ((32 : Int) < n)) 5) (by simp)
  have := (wh_zero (by decide)).1 this
  have := of_decide_eq_false this
  omega
theorem perE_ok {nm : ByteArray} {zs : List Int} {n : Nat} {ks : List (Int × ByteArray)} {k : Nat} {p : Int} {e1 e2 : List Value} (hi : isSec zs ks n k e1 e2) (h : perE nm zs n ks k p = 0) : isPer zs ks n k p e1 e2 := by
  have h1 := fi_zero.1 h (secE nm zs n ks k) (by simp)
  have h2 := fi_zero.1 h (wh (decide (p < 0) || decide ((k : Int) < p)) 10) (by simp)
  have h2 := (wh_zero (by decide)).1 h2
  simp only [Bool.or_eq_false_iff, decide_eq_false_iff_not] at h2
  obtain ⟨h3, h4⟩ := secE_ok h1
  exact ⟨hi, h3, h4, secE_few h1, by omega, by omega⟩
end
end Qq
namespace Sp
noncomputable section
noncomputable def gz (e x : Int) : Int := if e = 0 then x else 0
end
end Sp
namespace Qq
noncomputable section
/-- The error of a question about the line of a period. -/
noncomputable def feE (nm : ByteArray) (zs : List Int) (n : Nat) (ks : List (Int × ByteArray)) (k : Nat) (p : Int) : Int := sel (perE nm zs n ks k p) (wh (decide (pm zs ks n k p < 2)) 16)
noncomputable def pL (zs : List Int) (ks : List (Int × ByteArray)) (n k : Nat) (p : Int) : Int := lvl zs (pf zs ks p * 2) (pm zs ks n k p)
noncomputable def pS (zs : List Int) (ks : List (Int × ByteArray)) (n k : Nat) (p : Int) : Int := slp zs (pf zs ks p * 2) (pm zs ks n k p)
noncomputable def pD (zs : List Int) (ks : List (Int × ByteArray)) (n k : Nat) (p : Int) : Int := dn zs (pf zs ks p * 2) (pm zs ks n k p)
theorem few_iff {m : Nat} : (wh (decide (m < 2)) 16 != 0) = decide (m < 2) := by
  cases decide (m < 2) <;> rfl
theorem fd_ok {nm : ByteArray} {zs : List Int} {ks : List (Int × ByteArray)} {n c k d : Nat} {p : Int} (hi : isSec zs ks n k (ints zs) (acs ks)) :
    SmallRes Tryz.prog 41 [.agg (secA nm 0 n c 1 k d).toArray, .int .i64 p] (hp2 zs ks true true true true [])
      (.tuple #[.agg #[.int .i64 (gz (feE nm zs n ks k p) (zs.getD (pf zs ks p * 2) 0)), .int .i64 (gz (feE nm zs n ks k p) (lowN (pL zs ks n k p) (pD zs ks n k p))), .int .i64 (gz (feE nm zs n ks k p) (lowD (pL zs ks n k p) (pD zs ks n k p))),
        .int .i64 (gz (feE nm zs n ks k p) (lowN (pS zs ks n k p) (pD zs ks n k p))), .int .i64 (gz (feE nm zs n ks k p) (lowD (pS zs ks n k p) (pD zs ks n k p)))], .int .i64 (feE nm zs n ks k p)]) (hp2 zs ks true true true true []) := by
  refine fnP_res hm c2_ok (hs := hsFd zs ks) ?_
  rw [fd_t]
  refine ⟨⟨hi⟩, br_of (fun h => ?_) (fun h => ?_)⟩
  · have h' : perE nm zs n ks k p ≠ 0 := by simpa using h
    have e : feE nm zs n ks k p = perE nm zs n ks k p := sel_ne h
    simp only [gz, e, if_neg h']
    exact ⟨by first | trivial | rfl, by first | trivial | rfl⟩
  · have h' : perE nm zs n ks k p = 0 := by simpa using h
    have e : feE nm zs n ks k p = wh (decide (pm zs ks n k p < 2)) 16 := sel_eq h
    have hp := perE_ok hi h'
    obtain ⟨h1, h2⟩ := per_part hp
    rw [few_iff]
    refine ⟨⟨hp⟩, br_of (fun h => ?_) (fun h => ?_)⟩
    · have hw : wh (decide (pm zs ks n k p < 2)) 16 = 16 := by rw [h]; rfl
      rw [e, hw]
      exact ⟨by first | trivial | rfl, by first | trivial | rfl⟩
    · have hw : wh (decide (pm zs ks n k p < 2)) 16 = 0 := by rw [h]; rfl
      have hn : ¬ pm zs ks n k p < 2 := of_decide_eq_false h
      have h2 := h2 (by omega)
      obtain ⟨l1, l2, l3, _⟩ := h1.line
      rw [e, hw]
      simp only [lz, if_neg hn]
      refine ⟨⟨by omega, by omega, by omega, by omega⟩, ⟨by omega, by omega, by omega, by omega⟩, by first | trivial | rfl, by first | trivial | rfl⟩
end
end Qq
end
section
/- The program's predictions. -/
open Go Go.Vm Go.Proofs Sp
namespace Qq
noncomputable section
theorem pr_t (nm : ByteArray) (zs : List Int) (ks : List (Int × ByteArray)) (n : Nat) (c : Nat) (k : Nat) (d : Nat) (p : Int) (x : Int) (K : Value → Heap → Prop) :
    (fnP Tryz.prog c2 (hsFd zs ks) (42 : FuncId) [Value.agg (List.toArray (secA nm (0 : Nat) n c (1 : Nat) k d)), Value.int IntKind.i64 p, Value.int IntKind.i64 x] (hp2 zs ks true true true true []) K) =
    (Is (isSec zs ks n k (ints zs) (acs ks)) ∧ br (fi [perE nm zs n ks k p, wi x (0 : Int) (100000 : Int)] != (0 : Int)) (K (Value.tuple #[Value.agg #[Value.int IntKind.i64 (0 : Int), Value.int IntKind.i64 (0 : Int)], Value.int IntKind.i64 (fi [perE nm zs n ks k p, wi x (0 : Int) (100000 : Int)])]) (some (AObj.row (ints zs) (2 : Nat) true true true) :: some (AObj.row (acs ks) (2 : Nat) true true true) :: noH)) (Is (isPer zs ks n k p (ints zs) (acs ks)) ∧ br (wh (decide (pm zs ks n k p < (2 : Nat))) (16 : Int) != (0 : Int)) (K (Value.tuple #[Value.agg #[Value.int IntKind.i64 (0 : Int), Value.int IntKind.i64 (0 : Int)], Value.int IntKind.i64 (wh (decide (pm zs ks n k p < (2 : Nat))) (16 : Int))]) (some (AObj.row (ints zs) (2 : Nat) true true true) :: some (AObj.row (acs ks) (2 : Nat) true true true) :: noH)) (Is ((0 : Int) < lz (pm zs ks n k p) (dn zs (pf zs ks p * (2 : Nat)) (pm zs ks n k p)) ∧ lz (pm zs ks n k p) (dn zs (pf zs ks p * (2 : Nat)) (pm zs ks n k p)) < (9223372036854775808 : Int) ∧ (-9223372036854775808 : Int) < IntKind.wrap IntKind.i64 (lz (pm zs ks n k p) (lvl zs (pf zs ks p * (2 : Nat)) (pm zs ks n k p)) + IntKind.wrap IntKind.i64 (lz (pm zs ks n k p) (slp zs (pf zs ks p * (2 : Nat)) (pm zs ks n k p)) * IntKind.wrap IntKind.i64 (x - lz (pm zs ks n k p) (List.getD zs (pf zs ks p * (2 : Nat)) (0 : Int))))) ∧ IntKind.wrap IntKind.i64 (lz (pm zs ks n k p) (lvl zs (pf zs ks p * (2 : Nat)) (pm zs ks n k p)) + IntKind.wrap IntKind.i64 (lz (pm zs ks n k p) (slp zs (pf zs ks p * (2 : Nat)) (pm zs ks n k p)) * IntKind.wrap IntKind.i64 (x - lz (pm zs ks n k p) (List.getD zs (pf zs ks p * (2 : Nat)) (0 : Int))))) < (9223372036854775808 : Int)) ∧ K (Value.tuple #[Value.agg #[Value.int IntKind.i64 (lowN (IntKind.wrap IntKind.i64 (lz (pm zs ks n k p) (lvl zs (pf zs ks p * (2 : Nat)) (pm zs ks n k p)) + IntKind.wrap IntKind.i64 (lz (pm zs ks n k p) (slp zs (pf zs ks p * (2 : Nat)) (pm zs ks n k p)) * IntKind.wrap IntKind.i64 (x - lz (pm zs ks n k p) (List.getD zs (pf zs ks p * (2 : Nat)) (0 : Int)))))) (lz (pm zs ks n k p) (dn zs (pf zs ks p * (2 : Nat)) (pm zs ks n k p)))), Value.int IntKind.i64 (lowD (IntKind.wrap IntKind.i64 (lz (pm zs ks n k p) (lvl zs (pf zs ks p * (2 : Nat)) (pm zs ks n k p)) + IntKind.wrap IntKind.i64 (lz (pm zs ks n k p) (slp zs (pf zs ks p * (2 : Nat)) (pm zs ks n k p)) * IntKind.wrap IntKind.i64 (x - lz (pm zs ks n k p) (List.getD zs (pf zs ks p * (2 : Nat)) (0 : Int)))))) (lz (pm zs ks n k p) (dn zs (pf zs ks p * (2 : Nat)) (pm zs ks n k p))))], Value.int IntKind.i64 (0 : Int)]) (some (AObj.row (ints zs) (2 : Nat) true true true) :: some (AObj.row (acs ks) (2 : Nat) true true true) :: noH)))) := by kernel_rfl
noncomputable def prE (nm : ByteArray) (zs : List Int) (n : Nat) (ks : List (Int × ByteArray)) (k : Nat) (p x : Int) : Int := sel (fi [perE nm zs n ks k p, wi x 0 100000]) (wh (decide (pm zs ks n k p < 2)) 16)
/-- The line's value on a day, times the denominator. -/
noncomputable def pA (zs : List Int) (ks : List (Int × ByteArray)) (n k : Nat) (p x : Int) : Int := pL zs ks n k p + pS zs ks n k p * (x - zs.getD (pf zs ks p * 2) 0)
theorem per_at {zs : List Int} {ks : List (Int × ByteArray)} {n k : Nat} {p x : Int} {e1 e2 : List Value} (h : isPer zs ks n k p e1 e2) (hm : 0 < pm zs ks n k p) (x0 : 0 ≤ x) (x1 : x ≤ 100000) :
    IntKind.wrap .i64 (pL zs ks n k p + IntKind.wrap .i64 (pS zs ks n k p * IntKind.wrap .i64 (x - zs.getD (pf zs ks p * 2) 0))) = pA zs ks n k p x ∧ -2100000000000000000 ≤ pA zs ks n k p x ∧ pA zs ks n k p x ≤ 2100000000000000000 := by
  obtain ⟨h1, _⟩ := per_part h
  obtain ⟨⟨l1, l2⟩, ⟨s1, s2⟩, _⟩ := h1.line
  have d1 := h1.z0
  have d2 := (h1.day 0 hm).2
  have e0 : d0 zs (pf zs ks p * 2) = zs.getD (pf zs ks p * 2) 0 := rfl
  rw [e0] at d1
  rw [Nat.zero_mul, Nat.add_zero] at d2
  have b : -1024000000000000000 ≤ pS zs ks n k p * (x - zs.getD (pf zs ks p * 2) 0) ∧ pS zs ks n k p * (x - zs.getD (pf zs ks p * 2) 0) ≤ 1024000000000000000 := by
    obtain ⟨u, hu⟩ : ∃ u, u = x - zs.getD (pf zs ks p * 2) 0 := ⟨_, rfl⟩
    rw [← hu]
    have hu : -100000 ≤ u ∧ u ≤ 100000 := by omega
    obtain ⟨s, hs⟩ : ∃ s, s = pS zs ks n k p := ⟨_, rfl⟩
    have hs2 : -10240000000000 ≤ s ∧ s ≤ 10240000000000 := by rw [hs]; exact ⟨s1, s2⟩
    rw [← hs]
    have := mul_in (a := s.natAbs) (b := u.natAbs) (A := 10240000000000) (B := 100000) (by omega) (by omega) (by omega) (by omega)
    rw [← Int.natCast_mul, ← Int.natAbs_mul] at this
    omega
  have e1 : IntKind.wrap .i64 (x - zs.getD (pf zs ks p * 2) 0) = x - zs.getD (pf zs ks p * 2) 0 := wrap_eq (by omega) (by omega)
  have l1 : -1024000000000000000 ≤ pL zs ks n k p := l1
  have l2 : pL zs ks n k p ≤ 1024000000000000000 := l2
  rw [e1, wrap_eq (x := pS zs ks n k p * (x - zs.getD (pf zs ks p * 2) 0)) (by omega) (by omega), wrap_eq (by omega) (by omega)]
  exact ⟨rfl, by rw [pA]; omega, by rw [pA]; omega⟩
theorem pr_ok {nm : ByteArray} {zs : List Int} {ks : List (Int × ByteArray)} {n c k d : Nat} {p x : Int} (hi : isSec zs ks n k (ints zs) (acs ks)) :
    SmallRes Tryz.prog 42 [.agg (secA nm 0 n c 1 k d).toArray, .int .i64 p, .int .i64 x] (hp2 zs ks true true true true [])
      (.tuple #[.agg #[.int .i64 (gz (prE nm zs n ks k p x) (lowN (pA zs ks n k p x) (pD zs ks n k p))), .int .i64 (gz (prE nm zs n ks k p x) (lowD (pA zs ks n k p x) (pD zs ks n k p)))], .int .i64 (prE nm zs n ks k p x)]) (hp2 zs ks true true true true []) := by
  refine fnP_res hm c2_ok (hs := hsFd zs ks) ?_
  rw [pr_t]
  refine ⟨⟨hi⟩, br_of (fun h => ?_) (fun h => ?_)⟩
  · have h' : fi [perE nm zs n ks k p, wi x 0 100000] ≠ 0 := by simpa using h
    have e : prE nm zs n ks k p x = fi [perE nm zs n ks k p, wi x 0 100000] := sel_ne h
    simp only [gz, e, if_neg h']
    exact ⟨by first | trivial | rfl, by first | trivial | rfl⟩
  · have h' : fi [perE nm zs n ks k p, wi x 0 100000] = 0 := by simpa using h
    have e : prE nm zs n ks k p x = wh (decide (pm zs ks n k p < 2)) 16 := sel_eq h
    have hp := perE_ok hi (fi_zero.1 h' (perE nm zs n ks k p) (by simp))
    have hx := wi_zero.1 (fi_zero.1 h' (wi x 0 100000) (by simp))
    obtain ⟨h1, h2⟩ := per_part hp
    rw [few_iff]
    refine ⟨⟨hp⟩, br_of (fun h => ?_) (fun h => ?_)⟩
    · have hw : wh (decide (pm zs ks n k p < 2)) 16 = 16 := by rw [h]; rfl
      rw [e, hw]
      exact ⟨by first | trivial | rfl, by first | trivial | rfl⟩
    · have hw : wh (decide (pm zs ks n k p < 2)) 16 = 0 := by rw [h]; rfl
      have hn : ¬ pm zs ks n k p < 2 := of_decide_eq_false h
      have h2 := h2 (by omega)
      obtain ⟨l1, l2, l3, _⟩ := h1.line
      obtain ⟨w1, w2, w3⟩ := per_at hp (by omega) hx.1 hx.2
      rw [e, hw]
      simp only [lz, if_neg hn]
      simp only [pL, pS] at w1
      rw [w1]
      refine ⟨⟨by omega, by omega, by omega, by omega⟩, by first | trivial | rfl, by first | trivial | rfl⟩
end
end Qq
end
section
/- When a line reaches a limit. -/
open Go Go.Vm Go.Proofs Sp
namespace Qq
noncomputable section
noncomputable def hsRc : Hs Tryz.prog where
  au := auCalls [(208, hCa Tryz.prog 208 orcFl okFlP)]
theorem rc_t (a : Int) (b : Int) (c : Int) (d : Int) (l : Int) (f : Int) (K : Value → Heap → Prop) :
    (fnP Tryz.prog c0 hsRc (153 : FuncId) [Value.agg #[Value.int IntKind.i64 a, Value.int IntKind.i64 b, Value.int IntKind.i64 c, Value.int IntKind.i64 d], Value.int IntKind.i64 l, Value.int IntKind.i64 f] [] K) =
    (br (decide (IntKind.wrap IntKind.i64 (IntKind.wrap IntKind.i64 (l * d) - IntKind.wrap IntKind.i64 (b + IntKind.wrap IntKind.i64 (c * IntKind.wrap IntKind.i64 (f - a)))) ≤ (0 : Int))) (K (Value.tuple #[Value.int IntKind.i64 f, Value.bool true]) noH) (br (decide (c ≤ (0 : Int))) (K (Value.tuple #[Value.int IntKind.i64 (0 : Int), Value.bool false]) noH) (Is ((0 : Int) < c ∧ c ≤ (4000000000000000000 : Int) ∧ (-4000000000000000000 : Int) ≤ IntKind.wrap IntKind.i64 ((0 : Int) - IntKind.wrap IntKind.i64 (IntKind.wrap IntKind.i64 (l * d) - IntKind.wrap IntKind.i64 (b + IntKind.wrap IntKind.i64 (c * IntKind.wrap IntKind.i64 (f - a))))) ∧ IntKind.wrap IntKind.i64 ((0 : Int) - IntKind.wrap IntKind.i64 (IntKind.wrap IntKind.i64 (l * d) - IntKind.wrap IntKind.i64 (b + IntKind.wrap IntKind.i64 (c * IntKind.wrap IntKind.i64 (f - a))))) ≤ (4000000000000000000 : Int)) ∧ K (Value.tuple #[Value.int IntKind.i64 (IntKind.wrap IntKind.i64 (f - IntKind.wrap IntKind.i64 ((0 : Int) - IntKind.wrap IntKind.i64 (IntKind.wrap IntKind.i64 (l * d) - IntKind.wrap IntKind.i64 (b + IntKind.wrap IntKind.i64 (c * IntKind.wrap IntKind.i64 (f - a))))) / c)), Value.bool (decide (IntKind.wrap IntKind.i64 (f - IntKind.wrap IntKind.i64 ((0 : Int) - IntKind.wrap IntKind.i64 (IntKind.wrap IntKind.i64 (l * d) - IntKind.wrap IntKind.i64 (b + IntKind.wrap IntKind.i64 (c * IntKind.wrap IntKind.i64 (f - a))))) / c) ≤ (100000 : Int)))]) noH))) := by kernel_rfl
noncomputable def hsLa (zs : List Int) : Hs Tryz.prog where
  op y := if [104].contains y then some (hIa Tryz.prog) else if [106].contains y then some (hLd Tryz.prog (zI zs)) else none
  au := au0 Tryz.prog
theorem la_t (zs : List Int) (off : Nat) (m : Nat) (c : Nat) (m1 : Bool) (w1 : Bool) (K : Value → Heap → Prop) :
    (fnP Tryz.prog c0 (hsLa zs) (152 : FuncId) [Value.slice (some { block := (0 : Nat), off := off }) m c] [some (AObj.row (ints zs) (2 : Nat) m1 w1 true)] K) =
    (Is ((0 : Int) ≤ IntKind.wrap IntKind.i64 ((↑m : Int) - (1 : Int)) ∧ IntKind.wrap IntKind.i64 ((↑m : Int) - (1 : Int)) < (↑m : Int)) ∧ Is ((ints zs)[off + Int.toNat (IntKind.wrap IntKind.i64 ((↑m : Int) - (1 : Int))) * (2 : Nat) + (0 : Nat)]? = some (Value.int IntKind.i64 (List.getD zs (off + Int.toNat (IntKind.wrap IntKind.i64 ((↑m : Int) - (1 : Int))) * (2 : Nat) + (0 : Nat)) (0 : Int)))) ∧ K (Value.int IntKind.i64 (List.getD zs (off + Int.toNat (IntKind.wrap IntKind.i64 ((↑m : Int) - (1 : Int))) * (2 : Nat) + (0 : Nat)) (0 : Int))) (some (AObj.row (ints zs) (2 : Nat) m1 w1 true) :: noH)) := by kernel_rfl
theorem laR_t (zs : List Int) (off : Nat) (m : Nat) (c : Nat) (m1 : Bool) (w1 : Bool) (K : Value → Heap → Prop) :
    (fnP Tryz.prog c0 (hsLa zs) (138 : FuncId) [Value.slice (some { block := (0 : Nat), off := off }) m c] [some (AObj.row (ints zs) (2 : Nat) m1 w1 true)] K) =
    (Is ((0 : Int) ≤ IntKind.wrap IntKind.i64 ((↑m : Int) - (1 : Int)) ∧ IntKind.wrap IntKind.i64 ((↑m : Int) - (1 : Int)) < (↑m : Int)) ∧ Is ((ints zs)[off + Int.toNat (IntKind.wrap IntKind.i64 ((↑m : Int) - (1 : Int))) * (2 : Nat) + (0 : Nat)]? = some (Value.int IntKind.i64 (List.getD zs (off + Int.toNat (IntKind.wrap IntKind.i64 ((↑m : Int) - (1 : Int))) * (2 : Nat) + (0 : Nat)) (0 : Int)))) ∧ K (Value.int IntKind.i64 (List.getD zs (off + Int.toNat (IntKind.wrap IntKind.i64 ((↑m : Int) - (1 : Int))) * (2 : Nat) + (0 : Nat)) (0 : Int))) (some (AObj.row (ints zs) (2 : Nat) m1 w1 true) :: noH)) := by kernel_rfl
noncomputable def orcLaV (zs : List Int) : OrcV
  | [.slice (some ⟨0, off, none⟩) m _c], [some (.row e1 2 m1 w1 true)] => some (.int .i64 (zs.getD (off + (m - 1) * 2) 0), [some (.row e1 2 m1 w1 true)], e1 = ints zs ∧ 0 < m ∧ m ≤ 1000 ∧ off + m * 2 ≤ zs.length)
  | _, _ => none
theorem la_okV (zs : List Int) : OkV Tryz.prog 152 (orcLaV zs) := by
  intro args H ret H' vc h hv
  unfold orcLaV at h
  split at h
  · rename_i off m c e1 m1 w1
    cases h
    obtain ⟨rfl, h1, h2, h3⟩ := hv
    refine fnP_res hm c0_ok (hs := hsLa zs) ?_
    rw [la_t]
    have e : IntKind.wrap .i64 ((m : Int) - 1) = ((m - 1 : Nat) : Int) := by rw [wrap_eq (by omega) (by omega)]; omega
    rw [e]
    simp only [Nat.add_zero, Int.toNat_natCast]
    exact ⟨⟨by omega, by omega⟩, ⟨ints_at (by omega)⟩, by first | trivial | rfl, by first | trivial | rfl⟩
  · cases h
theorem laR_okV (zs : List Int) : OkV Tryz.prog 138 (orcLaV zs) := by
  intro args H ret H' vc h hv
  unfold orcLaV at h
  split at h
  · rename_i off m c e1 m1 w1
    cases h
    obtain ⟨rfl, h1, h2, h3⟩ := hv
    refine fnP_res hm c0_ok (hs := hsLa zs) ?_
    rw [laR_t]
    have e : IntKind.wrap .i64 ((m : Int) - 1) = ((m - 1 : Nat) : Int) := by rw [wrap_eq (by omega) (by omega)]; omega
    rw [e]
    simp only [Nat.add_zero, Int.toNat_natCast]
    exact ⟨⟨by omega, by omega⟩, ⟨ints_at (by omega)⟩, by first | trivial | rfl, by first | trivial | rfl⟩
  · cases h
end
end Qq
end
section
/- When a line reaches a limit: the contract. -/
open Go Go.Vm Go.Proofs Sp
namespace Sp
noncomputable section
noncomputable def rcS (a b c d l f : Int) : Int := l * d - (b + c * (f - a))
noncomputable def rcN (a b c d l f : Int) : Int := if rcS a b c d l f ≤ 0 then f else if c ≤ 0 then 0 else f - (-rcS a b c d l f) / c
noncomputable def rcB (a b c d l f : Int) : Bool := decide (rcS a b c d l f ≤ 0) || (!decide (c ≤ 0) && decide (f - (-rcS a b c d l f) / c ≤ 100000))
structure RcOK (a b c d l f : Int) : Prop where
  a0 : 0 ≤ a
  a1 : a ≤ 100000
  f0 : 0 ≤ f
  f1 : f ≤ 100000
  b0 : -1024000000000000000 ≤ b
  b1 : b ≤ 1024000000000000000
  p0 : -1024000000000000000 ≤ c * (f - a)
  p1 : c * (f - a) ≤ 1024000000000000000
  c1 : c ≤ 10240000000000
  q0 : 0 ≤ l * d
  q1 : l * d ≤ 1024000000000000000
end
end Sp
namespace Qq
noncomputable section
noncomputable def orcRc : OrcV
  | [.agg ⟨[.int .i64 a, .int .i64 b, .int .i64 c, .int .i64 d]⟩, .int .i64 l, .int .i64 f], [] => some (.tuple #[.int .i64 (rcN a b c d l f), .bool (rcB a b c d l f)], [], RcOK a b c d l f)
  | _, _ => none
theorem okRc : OkV Tryz.prog 153 orcRc := by
  intro args H ret H' vc h hv
  unfold orcRc at h
  split at h
  · rename_i a b c d l f
    cases h
    obtain ⟨a0, a1, f0, f1, b0, b1, p0, p1, c1, q0, q1⟩ := hv
    refine fnP_res hm c0_ok (hs := hsRc) ?_
    rw [rc_t]
    have e1 : IntKind.wrap .i64 (f - a) = f - a := wrap_eq (by omega) (by omega)
    have e2 : IntKind.wrap .i64 (c * (f - a)) = c * (f - a) := wrap_eq (by omega) (by omega)
    have e3 : IntKind.wrap .i64 (b + c * (f - a)) = b + c * (f - a) := wrap_eq (by omega) (by omega)
    have e4 : IntKind.wrap .i64 (l * d) = l * d := wrap_eq (by omega) (by omega)
    have e5 : IntKind.wrap .i64 (l * d - (b + c * (f - a))) = rcS a b c d l f := wrap_eq (by omega) (by omega)
    have hs : rcS a b c d l f = l * d - (b + c * (f - a)) := rfl
    have e6 : IntKind.wrap .i64 (0 - rcS a b c d l f) = - rcS a b c d l f := by rw [wrap_eq (by omega) (by omega)]; omega
    rw [e1, e2, e3, e4, e5, e6]
    refine br_of (fun h => ?_) (fun h => br_of (fun h2 => ?_) (fun h2 => ?_))
    · have hh := of_decide_eq_true h
      rw [rcN, rcB, if_pos hh, h]
      exact ⟨rfl, rfl⟩
    · have hh := of_decide_eq_false h
      have hh2 := of_decide_eq_true h2
      rw [rcN, rcB, if_neg hh, if_pos hh2, h, h2]
      exact ⟨rfl, rfl⟩
    · have hh := of_decide_eq_false h
      have hh2 := of_decide_eq_false h2
      have k1 : (-rcS a b c d l f) / c ≤ 0 := Int.ediv_nonpos_of_nonpos_of_neg (by omega) (by omega)
      have k2 : -rcS a b c d l f ≤ (-rcS a b c d l f) / c := by
        refine Int.le_ediv_of_mul_le (by omega) ?_
        have := Int.mul_le_mul_of_nonneg_left (show 1 ≤ c by omega) (show 0 ≤ rcS a b c d l f by omega)
        rw [Int.neg_mul]; omega
      have e7 : IntKind.wrap .i64 (f - (-rcS a b c d l f) / c) = f - (-rcS a b c d l f) / c := wrap_eq (by omega) (by omega)
      rw [e7, rcN, rcB, if_neg hh, if_neg hh2, h, h2]
      exact ⟨⟨by omega, by omega, by omega, by omega⟩, rfl, rfl⟩
  · cases h
end
end Qq
end
section
/- The program's Reached. -/
open Go Go.Vm Go.Proofs Sp
namespace Qq
noncomputable section
noncomputable def hsRd (zs : List Int) (ks : List (Int × ByteArray)) : Hs Tryz.prog where
  au := auCalls [(130, hCa Tryz.prog 130 (orcLnV zs ks) (ln_okV zs ks)), (142, hCa Tryz.prog 142 (orcPdV zs ks) (pd_okV zs ks)), (152, hCa Tryz.prog 152 (orcLaV zs) (la_okV zs)), (153, hCa Tryz.prog 153 orcRc okRc)]
theorem rd_t (nm : ByteArray) (zs : List Int) (ks : List (Int × ByteArray)) (n : Nat) (c : Nat) (k : Nat) (d : Nat) (p : Int) (l : Int) (K : Value → Heap → Prop) :
    (fnP Tryz.prog c2 (hsRd zs ks) (135 : FuncId) [Value.agg (List.toArray (secA nm (0 : Nat) n c (1 : Nat) k d)), Value.int IntKind.i64 p, Value.int IntKind.i64 l] (hp2 zs ks true true true true []) K) =
    (Is (isPer zs ks n k p (ints zs) (acs ks)) ∧ br (wh (decide (pm zs ks n k p < (2 : Nat))) (16 : Int) != (0 : Int)) (K (Value.tuple #[Value.int IntKind.i64 (0 : Int), Value.int IntKind.i64 (wh (decide (pm zs ks n k p < (2 : Nat))) (16 : Int))]) (some (AObj.row (ints zs) (2 : Nat) true true true) :: some (AObj.row (acs ks) (2 : Nat) true true true) :: noH)) (Is (isPer zs ks n k p (ints zs) (acs ks)) ∧ Is (ints zs = ints zs ∧ (0 : Nat) < pm zs ks n k p ∧ pm zs ks n k p ≤ (1000 : Nat) ∧ pf zs ks p * (2 : Nat) + pm zs ks n k p * (2 : Nat) ≤ List.length zs) ∧ Is (RcOK (lz (pm zs ks n k p) (List.getD zs (pf zs ks p * (2 : Nat)) (0 : Int))) (lz (pm zs ks n k p) (lvl zs (pf zs ks p * (2 : Nat)) (pm zs ks n k p))) (lz (pm zs ks n k p) (slp zs (pf zs ks p * (2 : Nat)) (pm zs ks n k p))) (lz (pm zs ks n k p) (dn zs (pf zs ks p * (2 : Nat)) (pm zs ks n k p))) l (List.getD zs (pf zs ks p * (2 : Nat) + (pm zs ks n k p - (1 : Nat)) * (2 : Nat)) (0 : Int))) ∧ br (!rcB (lz (pm zs ks n k p) (List.getD zs (pf zs ks p * (2 : Nat)) (0 : Int))) (lz (pm zs ks n k p) (lvl zs (pf zs ks p * (2 : Nat)) (pm zs ks n k p))) (lz (pm zs ks n k p) (slp zs (pf zs ks p * (2 : Nat)) (pm zs ks n k p))) (lz (pm zs ks n k p) (dn zs (pf zs ks p * (2 : Nat)) (pm zs ks n k p))) l (List.getD zs (pf zs ks p * (2 : Nat) + (pm zs ks n k p - (1 : Nat)) * (2 : Nat)) (0 : Int))) (K (Value.tuple #[Value.int IntKind.i64 (0 : Int), Value.int IntKind.i64 (7 : Int)]) (some (AObj.row (ints zs) (2 : Nat) true true true) :: some (AObj.row (acs ks) (2 : Nat) true true true) :: noH)) (K (Value.tuple #[Value.int IntKind.i64 (rcN (lz (pm zs ks n k p) (List.getD zs (pf zs ks p * (2 : Nat)) (0 : Int))) (lz (pm zs ks n k p) (lvl zs (pf zs ks p * (2 : Nat)) (pm zs ks n k p))) (lz (pm zs ks n k p) (slp zs (pf zs ks p * (2 : Nat)) (pm zs ks n k p))) (lz (pm zs ks n k p) (dn zs (pf zs ks p * (2 : Nat)) (pm zs ks n k p))) l (List.getD zs (pf zs ks p * (2 : Nat) + (pm zs ks n k p - (1 : Nat)) * (2 : Nat)) (0 : Int))), Value.int IntKind.i64 (0 : Int)]) (some (AObj.row (ints zs) (2 : Nat) true true true) :: some (AObj.row (acs ks) (2 : Nat) true true true) :: noH)))) := by kernel_rfl
noncomputable def pZ (zs : List Int) (ks : List (Int × ByteArray)) (n k : Nat) (p : Int) : Int := zs.getD (pf zs ks p * 2 + (pm zs ks n k p - 1) * 2) 0
noncomputable def p0D (zs : List Int) (ks : List (Int × ByteArray)) (p : Int) : Int := zs.getD (pf zs ks p * 2) 0
noncomputable def rdN (zs : List Int) (ks : List (Int × ByteArray)) (n k : Nat) (p l : Int) : Int := rcN (p0D zs ks p) (pL zs ks n k p) (pS zs ks n k p) (pD zs ks n k p) l (pZ zs ks n k p)
noncomputable def rdB (zs : List Int) (ks : List (Int × ByteArray)) (n k : Nat) (p l : Int) : Bool := rcB (p0D zs ks p) (pL zs ks n k p) (pS zs ks n k p) (pD zs ks n k p) l (pZ zs ks n k p)
noncomputable def rdE (zs : List Int) (ks : List (Int × ByteArray)) (n k : Nat) (p l : Int) : Int := sel (wh (decide (pm zs ks n k p < 2)) 16) (wh (!rdB zs ks n k p l) 7)
theorem rc_in {zs : List Int} {ks : List (Int × ByteArray)} {n k : Nat} {p l : Int} {e1 e2 : List Value} (h : isPer zs ks n k p e1 e2) (hm : 2 ≤ pm zs ks n k p) (l0 : 0 ≤ l) (l1 : l ≤ 100000) :
    RcOK (p0D zs ks p) (pL zs ks n k p) (pS zs ks n k p) (pD zs ks n k p) l (pZ zs ks n k p) := by
  obtain ⟨h1, h2⟩ := per_part h
  have h2 := h2 hm
  obtain ⟨⟨b0, b1⟩, ⟨s1, s2⟩, ⟨d1, d2⟩, _⟩ := h1.line
  have z0 := h1.z0
  have y0 := (h1.day 0 (by omega)).2
  have y1 := h1.day (pm zs ks n k p - 1) (by omega)
  have e0 : d0 zs (pf zs ks p * 2) = p0D zs ks p := rfl
  rw [e0] at z0 y1
  rw [Nat.zero_mul, Nat.add_zero] at y0
  have y0 : p0D zs ks p ≤ 100000 := y0
  have y1 : p0D zs ks p ≤ pZ zs ks n k p ∧ pZ zs ks n k p ≤ 100000 := y1
  have s1 : -10240000000000 ≤ pS zs ks n k p := s1
  have s2 : pS zs ks n k p ≤ 10240000000000 := s2
  have hd : 0 < pD zs ks n k p := h2
  have d2 : pD zs ks n k p ≤ 10240000000000 := d2
  have b : -1024000000000000000 ≤ pS zs ks n k p * (pZ zs ks n k p - p0D zs ks p) ∧ pS zs ks n k p * (pZ zs ks n k p - p0D zs ks p) ≤ 1024000000000000000 := by
    have := mul_in (a := (pS zs ks n k p).natAbs) (b := (pZ zs ks n k p - p0D zs ks p).natAbs) (A := 10240000000000) (B := 100000) (by omega) (by omega) (by omega) (by omega)
    rw [← Int.natCast_mul, ← Int.natAbs_mul] at this
    omega
  have q := mul_in l0 l1 (show 0 ≤ pD zs ks n k p by omega) d2
  exact ⟨by omega, by omega, by omega, by omega, b0, b1, b.1, b.2, s2, q.1, by omega⟩
theorem rd_ok {nm : ByteArray} {zs : List Int} {ks : List (Int × ByteArray)} {n c k d : Nat} {p l : Int} (hp : isPer zs ks n k p (ints zs) (acs ks)) (l0 : 0 ≤ l) (l1 : l ≤ 100000) :
    SmallRes Tryz.prog 135 [.agg (secA nm 0 n c 1 k d).toArray, .int .i64 p, .int .i64 l] (hp2 zs ks true true true true [])
      (.tuple #[.int .i64 (gz (rdE zs ks n k p l) (rdN zs ks n k p l)), .int .i64 (rdE zs ks n k p l)]) (hp2 zs ks true true true true []) := by
  refine fnP_res hm c2_ok (hs := hsRd zs ks) ?_
  rw [rd_t]
  obtain ⟨h1, _⟩ := per_part hp
  rw [few_iff]
  refine ⟨⟨hp⟩, br_of (fun h => ?_) (fun h => ?_)⟩
  · have hw : wh (decide (pm zs ks n k p < 2)) 16 = 16 := by rw [h]; rfl
    rw [rdE, hw]
    exact ⟨by first | trivial | rfl, by first | trivial | rfl⟩
  · have hw : wh (decide (pm zs ks n k p < 2)) 16 = 0 := by rw [h]; rfl
    have hn : ¬ pm zs ks n k p < 2 := of_decide_eq_false h
    have hr := rc_in hp (by omega) l0 l1
    have hl := h1.len
    have hf := h1.few
    simp only [lz, if_neg hn]
    refine ⟨⟨hp⟩, ⟨by first | trivial | rfl, by omega, by omega, hl⟩, ⟨hr⟩, br_of (fun hb => ?_) (fun hb => ?_)⟩
    · have hb : (!rdB zs ks n k p l) = true := hb
      rw [rdE, hw, hb]
      exact ⟨by first | trivial | rfl, by first | trivial | rfl⟩
    · have hb : (!rdB zs ks n k p l) = false := hb
      rw [rdE, hw, hb]
      exact ⟨by first | trivial | rfl, by first | trivial | rfl⟩
end
end Qq
end
section
/- The program's Reached, with its checks. -/
open Go Go.Vm Go.Proofs Sp
namespace Qq
noncomputable section
noncomputable def orcRdV (zs : List Int) (ks : List (Int × ByteArray)) : OrcV
  | [.agg ⟨[.string _nm, .slice (some ⟨0, 0, none⟩) n _c, .slice (some ⟨1, 0, none⟩) k _d]⟩, .int .i64 p, .int .i64 l], [some (.row e1 2 true true true), some (.row e2 2 true true true)] =>
    some (.tuple #[.int .i64 (gz (rdE zs ks n k p l) (rdN zs ks n k p l)), .int .i64 (rdE zs ks n k p l)], [some (.row e1 2 true true true), some (.row e2 2 true true true)], isPer zs ks n k p e1 e2 ∧ 0 ≤ l ∧ l ≤ 100000)
  | _, _ => none
theorem rd_okV (zs : List Int) (ks : List (Int × ByteArray)) : OkV Tryz.prog 135 (orcRdV zs ks) := by
  intro args H ret H' vc h hv
  unfold orcRdV at h
  split at h
  · cases h
    obtain ⟨⟨⟨rfl, rfl, h1⟩, h2⟩, h3, h4⟩ := hv
    exact rd_ok ⟨⟨rfl, rfl, h1⟩, h2⟩ h3 h4
  · cases h
noncomputable def hsRe (zs : List Int) (ks : List (Int × ByteArray)) : Hs Tryz.prog where
  au := auCalls [(129, hCa Tryz.prog 129 (orcCpV zs ks) (cp_okV zs ks)), (135, hCa Tryz.prog 135 (orcRdV zs ks) (rd_okV zs ks))]
theorem re_t (nm : ByteArray) (zs : List Int) (ks : List (Int × ByteArray)) (n : Nat) (c : Nat) (k : Nat) (d : Nat) (p : Int) (l : Int) (K : Value → Heap → Prop) :
    (fnP Tryz.prog c2 (hsRe zs ks) (43 : FuncId) [Value.agg (List.toArray (secA nm (0 : Nat) n c (1 : Nat) k d)), Value.int IntKind.i64 p, Value.int IntKind.i64 l] (hp2 zs ks true true true true []) K) =
    (Is (isSec zs ks n k (ints zs) (acs ks)) ∧ br (fi [perE nm zs n ks k p, wi l (0 : Int) (100000 : Int)] != (0 : Int)) (K (Value.tuple #[Value.int IntKind.i64 (0 : Int), Value.int IntKind.i64 (fi [perE nm zs n ks k p, wi l (0 : Int) (100000 : Int)])]) (some (AObj.row (ints zs) (2 : Nat) true true true) :: some (AObj.row (acs ks) (2 : Nat) true true true) :: noH)) (Is (isPer zs ks n k p (ints zs) (acs ks) ∧ (0 : Int) ≤ l ∧ l ≤ (100000 : Int)) ∧ K (Value.tuple #[Value.int IntKind.i64 (gz (rdE zs ks n k p l) (rdN zs ks n k p l)), Value.int IntKind.i64 (rdE zs ks n k p l)]) (some (AObj.row (ints zs) (2 : Nat) true true true) :: some (AObj.row (acs ks) (2 : Nat) true true true) :: noH))) := by kernel_rfl
noncomputable def reE (nm : ByteArray) (zs : List Int) (n : Nat) (ks : List (Int × ByteArray)) (k : Nat) (p l : Int) : Int := sel (fi [perE nm zs n ks k p, wi l 0 100000]) (rdE zs ks n k p l)
theorem re_ok {nm : ByteArray} {zs : List Int} {ks : List (Int × ByteArray)} {n c k d : Nat} {p l : Int} (hi : isSec zs ks n k (ints zs) (acs ks)) :
    SmallRes Tryz.prog 43 [.agg (secA nm 0 n c 1 k d).toArray, .int .i64 p, .int .i64 l] (hp2 zs ks true true true true [])
      (.tuple #[.int .i64 (gz (reE nm zs n ks k p l) (rdN zs ks n k p l)), .int .i64 (reE nm zs n ks k p l)]) (hp2 zs ks true true true true []) := by
  refine fnP_res hm c2_ok (hs := hsRe zs ks) ?_
  rw [re_t]
  refine ⟨⟨hi⟩, br_of (fun h => ?_) (fun h => ?_)⟩
  · have h' : fi [perE nm zs n ks k p, wi l 0 100000] ≠ 0 := by simpa using h
    have e : reE nm zs n ks k p l = fi [perE nm zs n ks k p, wi l 0 100000] := sel_ne h
    simp only [gz, e, if_neg h']
    exact ⟨by first | trivial | rfl, by first | trivial | rfl⟩
  · have h' : fi [perE nm zs n ks k p, wi l 0 100000] = 0 := by simpa using h
    have e : reE nm zs n ks k p l = rdE zs ks n k p l := sel_eq h
    have hp := perE_ok hi (fi_zero.1 h' (perE nm zs n ks k p) (by simp))
    have hx := wi_zero.1 (fi_zero.1 h' (wi l 0 100000) (by simp))
    rw [e]
    exact ⟨⟨hp, hx.1, hx.2⟩, by first | trivial | rfl, by first | trivial | rfl⟩
end
end Qq
end
section
/- The reference's answers about lines. -/
open Go Go.Vm Go.Proofs Sp
namespace Qq
noncomputable section
/-- The measurements of a period, by themselves. -/
noncomputable def pP (zs : List Int) (ks : List (Int × ByteArray)) (n k : Nat) (p : Int) : List Int := (zs.drop (pf zs ks p * 2)).take (pm zs ks n k p * 2)
noncomputable def orcInP (zs : List Int) (ks : List (Int × ByteArray)) : OrcV
  | [.agg ⟨[.string _nm, .slice (some ⟨0, 0, none⟩) n _c, .slice (some ⟨1, 0, none⟩) k _d]⟩, .int .i64 p], [some (.row e1 2 false false true), some (.row e2 2 false false true)] => some (.slice (some ⟨2, 0, none⟩) (pm zs ks n k p) 0, [some (.row e1 2 false false true), some (.row e2 2 false false true), lst2 (pP zs ks n k p)], isPer zs ks n k p e1 e2)
  | _, _ => none
theorem in_okP (zs : List Int) (ks : List (Int × ByteArray)) : OkV Tryz.prog 57 (orcInP zs ks) := in_okV zs ks
noncomputable def orcFrV (P : List Int) : OrcV
  | [.slice (some ⟨0, off, none⟩) m _c], [some (.row e1 2 m1 w1 true)] => some (.agg #[.int .i64 (lvl P off m), .int .i64 (slp P off m), .int .i64 (dn P off m)], [some (.row e1 2 m1 w1 true)], e1 = ints P ∧ Part P off m)
  | _, _ => none
theorem fr_okV (P : List Int) : OkV Tryz.prog 137 (orcFrV P) := by
  intro args H ret H' vc h hv
  unfold orcFrV at h
  split at h
  · cases h
    obtain ⟨rfl, h1⟩ := hv
    exact fr_ok h1
  · cases h
noncomputable def hsFdR (zs : List Int) (ks : List (Int × ByteArray)) (n k : Nat) (p : Int) : Hs Tryz.prog where
  op y := if y = 301 then some (hIa Tryz.prog) else if y = 303 then some (hLd Tryz.prog (zI (pP zs ks n k p))) else none
  au := auCalls [(57, hCa Tryz.prog 57 (orcInP zs ks) (in_okP zs ks)), (137, hCa Tryz.prog 137 (orcFrV (pP zs ks n k p)) (fr_okV _)), (72, hCa Tryz.prog 72 orcLow okLowR)]
theorem fdR_t (nm : ByteArray) (zs : List Int) (ks : List (Int × ByteArray)) (n : Nat) (c : Nat) (k : Nat) (d : Nat) (p : Int) (K : Value → Heap → Prop) :
    (fnP Tryz.prog cr2 (hsFdR zs ks n k p) (48 : FuncId) [Value.agg (List.toArray (secA nm (0 : Nat) n c (1 : Nat) k d)), Value.int IntKind.i64 p] (hp2 zs ks false false false false []) K) =
    (Is (isPer zs ks n k p (ints zs) (acs ks)) ∧ Is (ints (pP zs ks n k p) = ints (pP zs ks n k p) ∧ Part (pP zs ks n k p) (0 : Nat) (pm zs ks n k p)) ∧ Is ((0 : Int) ≤ (0 : Int) ∧ (0 : Int) < (↑(pm zs ks n k p) : Int)) ∧ Is ((ints (pP zs ks n k p))[(0 : Nat)]? = some (Value.int IntKind.i64 (List.getD (pP zs ks n k p) (0 : Nat) (0 : Int)))) ∧ Is ((0 : Int) < dn (pP zs ks n k p) (0 : Nat) (pm zs ks n k p) ∧ dn (pP zs ks n k p) (0 : Nat) (pm zs ks n k p) < (9223372036854775808 : Int) ∧ (-9223372036854775808 : Int) < lvl (pP zs ks n k p) (0 : Nat) (pm zs ks n k p) ∧ lvl (pP zs ks n k p) (0 : Nat) (pm zs ks n k p) < (9223372036854775808 : Int)) ∧ Is ((0 : Int) < dn (pP zs ks n k p) (0 : Nat) (pm zs ks n k p) ∧ dn (pP zs ks n k p) (0 : Nat) (pm zs ks n k p) < (9223372036854775808 : Int) ∧ (-9223372036854775808 : Int) < slp (pP zs ks n k p) (0 : Nat) (pm zs ks n k p) ∧ slp (pP zs ks n k p) (0 : Nat) (pm zs ks n k p) < (9223372036854775808 : Int)) ∧ K (Value.agg #[Value.int IntKind.i64 (List.getD (pP zs ks n k p) (0 : Nat) (0 : Int)), Value.int IntKind.i64 (lowN (lvl (pP zs ks n k p) (0 : Nat) (pm zs ks n k p)) (dn (pP zs ks n k p) (0 : Nat) (pm zs ks n k p))), Value.int IntKind.i64 (lowD (lvl (pP zs ks n k p) (0 : Nat) (pm zs ks n k p)) (dn (pP zs ks n k p) (0 : Nat) (pm zs ks n k p))), Value.int IntKind.i64 (lowN (slp (pP zs ks n k p) (0 : Nat) (pm zs ks n k p)) (dn (pP zs ks n k p) (0 : Nat) (pm zs ks n k p))), Value.int IntKind.i64 (lowD (slp (pP zs ks n k p) (0 : Nat) (pm zs ks n k p)) (dn (pP zs ks n k p) (0 : Nat) (pm zs ks n k p)))]) (some (AObj.row (ints zs) (2 : Nat) false false true) :: some (AObj.row (acs ks) (2 : Nat) false false true) :: noH)) := by kernel_rfl
noncomputable def hsPrR (zs : List Int) (ks : List (Int × ByteArray)) (n k : Nat) (p : Int) : Hs Tryz.prog where
  op y := if y = 306 then some (hIa Tryz.prog) else if y = 308 then some (hLd Tryz.prog (zI (pP zs ks n k p))) else none
  au := auCalls [(57, hCa Tryz.prog 57 (orcInP zs ks) (in_okP zs ks)), (137, hCa Tryz.prog 137 (orcFrV (pP zs ks n k p)) (fr_okV _)), (72, hCa Tryz.prog 72 orcLow okLowR)]
theorem prR_t (nm : ByteArray) (zs : List Int) (ks : List (Int × ByteArray)) (n : Nat) (c : Nat) (k : Nat) (d : Nat) (p : Int) (x : Int) (K : Value → Heap → Prop) :
    (fnP Tryz.prog cr2 (hsPrR zs ks n k p) (49 : FuncId) [Value.agg (List.toArray (secA nm (0 : Nat) n c (1 : Nat) k d)), Value.int IntKind.i64 p, Value.int IntKind.i64 x] (hp2 zs ks false false false false []) K) =
    (Is (isPer zs ks n k p (ints zs) (acs ks)) ∧ Is (ints (pP zs ks n k p) = ints (pP zs ks n k p) ∧ Part (pP zs ks n k p) (0 : Nat) (pm zs ks n k p)) ∧ Is ((0 : Int) ≤ (0 : Int) ∧ (0 : Int) < (↑(pm zs ks n k p) : Int)) ∧ Is ((ints (pP zs ks n k p))[(0 : Nat)]? = some (Value.int IntKind.i64 (List.getD (pP zs ks n k p) (0 : Nat) (0 : Int)))) ∧ Is ((0 : Int) < dn (pP zs ks n k p) (0 : Nat) (pm zs ks n k p) ∧ dn (pP zs ks n k p) (0 : Nat) (pm zs ks n k p) < (9223372036854775808 : Int) ∧ (-9223372036854775808 : Int) < IntKind.wrap IntKind.i64 (lvl (pP zs ks n k p) (0 : Nat) (pm zs ks n k p) + IntKind.wrap IntKind.i64 (slp (pP zs ks n k p) (0 : Nat) (pm zs ks n k p) * IntKind.wrap IntKind.i64 (x - List.getD (pP zs ks n k p) (0 : Nat) (0 : Int)))) ∧ IntKind.wrap IntKind.i64 (lvl (pP zs ks n k p) (0 : Nat) (pm zs ks n k p) + IntKind.wrap IntKind.i64 (slp (pP zs ks n k p) (0 : Nat) (pm zs ks n k p) * IntKind.wrap IntKind.i64 (x - List.getD (pP zs ks n k p) (0 : Nat) (0 : Int)))) < (9223372036854775808 : Int)) ∧ K (Value.agg #[Value.int IntKind.i64 (lowN (IntKind.wrap IntKind.i64 (lvl (pP zs ks n k p) (0 : Nat) (pm zs ks n k p) + IntKind.wrap IntKind.i64 (slp (pP zs ks n k p) (0 : Nat) (pm zs ks n k p) * IntKind.wrap IntKind.i64 (x - List.getD (pP zs ks n k p) (0 : Nat) (0 : Int))))) (dn (pP zs ks n k p) (0 : Nat) (pm zs ks n k p))), Value.int IntKind.i64 (lowD (IntKind.wrap IntKind.i64 (lvl (pP zs ks n k p) (0 : Nat) (pm zs ks n k p) + IntKind.wrap IntKind.i64 (slp (pP zs ks n k p) (0 : Nat) (pm zs ks n k p) * IntKind.wrap IntKind.i64 (x - List.getD (pP zs ks n k p) (0 : Nat) (0 : Int))))) (dn (pP zs ks n k p) (0 : Nat) (pm zs ks n k p)))]) (some (AObj.row (ints zs) (2 : Nat) false false true) :: some (AObj.row (acs ks) (2 : Nat) false false true) :: noH)) := by kernel_rfl
noncomputable def hsReR (zs : List Int) (ks : List (Int × ByteArray)) (n k : Nat) (p : Int) : Hs Tryz.prog where
  op y := if [307, 701].contains y then some (hIa Tryz.prog) else if [309, 703].contains y then some (hLd Tryz.prog (zI (pP zs ks n k p))) else none
  au := auCalls [(57, hCa Tryz.prog 57 (orcInP zs ks) (in_okP zs ks)), (137, hCa Tryz.prog 137 (orcFrV (pP zs ks n k p)) (fr_okV _)), (138, hCa Tryz.prog 138 (orcLaV (pP zs ks n k p)) (laR_okV _)), (202, hCa Tryz.prog 202 orcFl okFlR)]
noncomputable def hsFl : Hs Tryz.prog where
  au := auCalls [(202, hCa Tryz.prog 202 orcFl okFlR)]
theorem ce_t (a : Int) (b : Int) (K : Value → Heap → Prop) :
    (fnP Tryz.prog c0 hsFl (139 : FuncId) [Value.int IntKind.i64 a, Value.int IntKind.i64 b] [] K) =
    (Is ((0 : Int) < b ∧ b ≤ (4000000000000000000 : Int) ∧ (-4000000000000000000 : Int) ≤ IntKind.wrap IntKind.i64 ((0 : Int) - a) ∧ IntKind.wrap IntKind.i64 ((0 : Int) - a) ≤ (4000000000000000000 : Int)) ∧ K (Value.int IntKind.i64 (IntKind.wrap IntKind.i64 ((0 : Int) - IntKind.wrap IntKind.i64 ((0 : Int) - a) / b))) noH) := by kernel_rfl
noncomputable def hsFew (zs : List Int) (ks : List (Int × ByteArray)) : Hs Tryz.prog where
  au := auCalls [(57, hCa Tryz.prog 57 (orcInP zs ks) (in_okP zs ks))]
theorem few_t (nm : ByteArray) (zs : List Int) (ks : List (Int × ByteArray)) (n : Nat) (c : Nat) (k : Nat) (d : Nat) (p : Int) (K : Value → Heap → Prop) :
    (fnP Tryz.prog cr2 (hsFew zs ks) (45 : FuncId) [Value.agg (List.toArray (secA nm (0 : Nat) n c (1 : Nat) k d)), Value.int IntKind.i64 p] (hp2 zs ks false false false false []) K) =
    (Is (isPer zs ks n k p (ints zs) (acs ks)) ∧ K (Value.int IntKind.i64 (wh (decide ((↑(pm zs ks n k p) : Int) < (2 : Int))) (16 : Int))) (some (AObj.row (ints zs) (2 : Nat) false false true) :: some (AObj.row (acs ks) (2 : Nat) false false true) :: noH)) := by kernel_rfl
theorem pP_len {zs : List Int} {off m : Nat} (h : Part zs off m) : ((zs.drop off).take (m * 2)).length = m * 2 := by
  have := h.len
  rw [List.length_take, List.length_drop]; omega
theorem pP_get {zs : List Int} {off m j : Nat} (hj : j < m * 2) : ((zs.drop off).take (m * 2)).getD j 0 = zs.getD (off + j) 0 := by
  simp only [List.getD_eq_getElem?_getD, List.getElem?_take, if_pos hj, List.getElem?_drop]
/-- The numbers of a part are those of its own list. -/
theorem part_own {zs : List Int} {off m : Nat} (h : Part zs off m) (hm : 0 < m) : Part ((zs.drop off).take (m * 2)) 0 m ∧ lvl ((zs.drop off).take (m * 2)) 0 m = lvl zs off m ∧ slp ((zs.drop off).take (m * 2)) 0 m = slp zs off m ∧ dn ((zs.drop off).take (m * 2)) 0 m = dn zs off m := by
  have e0 : d0 ((zs.drop off).take (m * 2)) 0 = d0 zs off := by rw [d0, pP_get (by omega)]; rfl
  have et : ((((zs.drop off).take (m * 2)).drop 0).take (m * 2)) = (zs.drop off).take (m * 2) := by rw [List.drop_zero, List.take_take, Nat.min_self]
  have x : sX ((zs.drop off).take (m * 2)) 0 m = sX zs off m := by simp only [sX, e0, et]
  have y : sY ((zs.drop off).take (m * 2)) 0 m = sY zs off m := by simp only [sY, et]
  have xx : sXX ((zs.drop off).take (m * 2)) 0 m = sXX zs off m := by simp only [sXX, e0, et]
  have xy : sXY ((zs.drop off).take (m * 2)) 0 m = sXY zs off m := by simp only [sXY, e0, et]
  refine ⟨⟨by rw [pP_len h]; omega, h.few, fun i hi => ?_, fun i hi => ?_, by rw [e0]; exact h.z0⟩, by simp only [lvl, x, y, xx, xy], by simp only [slp, x, y, xy], by simp only [dn, x, xx]⟩
  · rw [e0, Nat.zero_add, pP_get (by omega)]; exact h.day i hi
  · rw [Nat.zero_add, pP_get (by omega), ← Nat.add_assoc]; exact h.idx i hi
noncomputable def orcCe : OrcV
  | [.int .i64 a, .int .i64 b], [] => some (.int .i64 (-((-a) / b)), [], 0 < b ∧ b ≤ 4000000000000000000 ∧ -4000000000000000000 ≤ a ∧ a ≤ 4000000000000000000)
  | _, _ => none
theorem okCe : OkV Tryz.prog 139 orcCe := by
  intro args H ret H' vc h hv
  unfold orcCe at h
  split at h
  · rename_i a b
    cases h
    obtain ⟨v1, v2, v3, v4⟩ := hv
    refine fnP_res hm c0_ok (hs := hsFl) ?_
    rw [ce_t]
    have e1 : IntKind.wrap .i64 (0 - a) = -a := by rw [wrap_eq (by omega) (by omega)]; omega
    have k1 : -4000000000000000000 ≤ (-a) / b := by
      refine Int.le_ediv_of_mul_le (by omega) ?_
      have := Int.mul_le_mul_of_nonneg_left (show 1 ≤ b by omega) (show (0 : Int) ≤ 4000000000000000000 by omega)
      rw [Int.neg_mul]; omega
    have k2 : (-a) / b ≤ 4000000000000000000 := by
      refine Int.ediv_le_of_le_mul (by omega) ?_
      have := Int.mul_le_mul_of_nonneg_left (show 1 ≤ b by omega) (show (0 : Int) ≤ 4000000000000000000 by omega)
      omega
    have e2 : IntKind.wrap .i64 (0 - (-a) / b) = -((-a) / b) := by rw [wrap_eq (by omega) (by omega)]; omega
    rw [e1, e2]
    exact ⟨⟨by omega, by omega, by omega, by omega⟩, by first | trivial | rfl, by first | trivial | rfl⟩
  · cases h
end
end Qq
end
section
/- The reference's answers about lines: contracts. -/
open Go Go.Vm Go.Proofs Sp
namespace Qq
noncomputable section
/-- The period's own list: what it is. -/
theorem per_own {zs : List Int} {ks : List (Int × ByteArray)} {n k : Nat} {p : Int} {e1 e2 : List Value} (h : isPer zs ks n k p e1 e2) (hm : 2 ≤ pm zs ks n k p) :
    Part (pP zs ks n k p) 0 (pm zs ks n k p) ∧ lvl (pP zs ks n k p) 0 (pm zs ks n k p) = pL zs ks n k p ∧ slp (pP zs ks n k p) 0 (pm zs ks n k p) = pS zs ks n k p ∧ dn (pP zs ks n k p) 0 (pm zs ks n k p) = pD zs ks n k p ∧
      (pP zs ks n k p).getD 0 0 = p0D zs ks p ∧ (pP zs ks n k p).getD ((pm zs ks n k p - 1) * 2) 0 = pZ zs ks n k p ∧ (pP zs ks n k p).length = pm zs ks n k p * 2 := by
  obtain ⟨h1, _⟩ := per_part h
  obtain ⟨a, b, c, d⟩ := part_own h1 (by omega)
  exact ⟨a, b, c, d, pP_get (by omega), pP_get (by omega), pP_len h1⟩
theorem fdR_ok {nm : ByteArray} {zs : List Int} {ks : List (Int × ByteArray)} {n c k d : Nat} {p : Int} (hi : isPer zs ks n k p (ints zs) (acs ks)) (hm2 : 2 ≤ pm zs ks n k p) :
    SmallRes Tryz.prog 48 [.agg (secA nm 0 n c 1 k d).toArray, .int .i64 p] (hp2 zs ks false false false false [])
      (.agg #[.int .i64 (p0D zs ks p), .int .i64 (lowN (pL zs ks n k p) (pD zs ks n k p)), .int .i64 (lowD (pL zs ks n k p) (pD zs ks n k p)), .int .i64 (lowN (pS zs ks n k p) (pD zs ks n k p)), .int .i64 (lowD (pS zs ks n k p) (pD zs ks n k p))]) (hp2 zs ks false false false false []) := by
  refine fnP_res hm cr2_ok (hs := hsFdR zs ks n k p) ?_
  rw [fdR_t]
  obtain ⟨a, b, s, e, g, z, hl⟩ := per_own hi hm2
  obtain ⟨l1, l2, l3, _⟩ := a.line
  have h2 := (per_part hi).2 hm2
  rw [b] at l1
  rw [s] at l2
  rw [e] at l3
  have h2 : 0 < pD zs ks n k p := h2
  rw [b, s, e, g]
  exact ⟨⟨hi⟩, ⟨by first | trivial | rfl, a⟩, ⟨by omega, by omega⟩, ⟨by rw [← g]; exact ints_at (by omega)⟩, ⟨by omega, by omega, by omega, by omega⟩, ⟨by omega, by omega, by omega, by omega⟩, by first | trivial | rfl, by first | trivial | rfl⟩
theorem prR_ok {nm : ByteArray} {zs : List Int} {ks : List (Int × ByteArray)} {n c k d : Nat} {p x : Int} (hi : isPer zs ks n k p (ints zs) (acs ks)) (hm2 : 2 ≤ pm zs ks n k p) (x0 : 0 ≤ x) (x1 : x ≤ 100000) :
    SmallRes Tryz.prog 49 [.agg (secA nm 0 n c 1 k d).toArray, .int .i64 p, .int .i64 x] (hp2 zs ks false false false false [])
      (.agg #[.int .i64 (lowN (pA zs ks n k p x) (pD zs ks n k p)), .int .i64 (lowD (pA zs ks n k p x) (pD zs ks n k p))]) (hp2 zs ks false false false false []) := by
  refine fnP_res hm cr2_ok (hs := hsPrR zs ks n k p) ?_
  rw [prR_t]
  obtain ⟨a, b, s, e, g, z, hl⟩ := per_own hi hm2
  obtain ⟨l1, l2, l3, _⟩ := a.line
  have h2 := (per_part hi).2 hm2
  rw [e] at l3
  have h2 : 0 < pD zs ks n k p := h2
  obtain ⟨w1, w2, w3⟩ := per_at hi (by omega) x0 x1
  have w1 : IntKind.wrap .i64 (pL zs ks n k p + IntKind.wrap .i64 (pS zs ks n k p * IntKind.wrap .i64 (x - p0D zs ks p))) = pA zs ks n k p x := w1
  rw [b, s, e, g, w1]
  exact ⟨⟨hi⟩, ⟨by first | trivial | rfl, a⟩, ⟨by omega, by omega⟩, ⟨by rw [← g]; exact ints_at (by omega)⟩, ⟨by omega, by omega, by omega, by omega⟩, by first | trivial | rfl, by first | trivial | rfl⟩
noncomputable def hsReR' (zs : List Int) (ks : List (Int × ByteArray)) (n k : Nat) (p : Int) : Hs Tryz.prog where
  op y := if [307, 701].contains y then some (hIa Tryz.prog) else if [309, 703].contains y then some (hLd Tryz.prog (zI (pP zs ks n k p))) else none
  au := auCalls [(57, hCa Tryz.prog 57 (orcInP zs ks) (in_okP zs ks)), (137, hCa Tryz.prog 137 (orcFrV (pP zs ks n k p)) (fr_okV _)), (138, hCaR Tryz.prog 138 (orcLaV (pP zs ks n k p)) (laR_okV _)), (139, hCa Tryz.prog 139 orcCe okCe)]
theorem reR_t (nm : ByteArray) (zs : List Int) (ks : List (Int × ByteArray)) (n : Nat) (c : Nat) (k : Nat) (d : Nat) (p : Int) (l : Int) (K : Value → Heap → Prop) :
    (fnP Tryz.prog cr2 (hsReR' zs ks n k p) (50 : FuncId) [Value.agg (List.toArray (secA nm (0 : Nat) n c (1 : Nat) k d)), Value.int IntKind.i64 p, Value.int IntKind.i64 l] (hp2 zs ks false false false false []) K) =
    (Is (isPer zs ks n k p (ints zs) (acs ks)) ∧ Is (ints (pP zs ks n k p) = ints (pP zs ks n k p) ∧ Part (pP zs ks n k p) (0 : Nat) (pm zs ks n k p)) ∧ Is (ints (pP zs ks n k p) = ints (pP zs ks n k p) ∧ (0 : Nat) < pm zs ks n k p ∧ pm zs ks n k p ≤ (1000 : Nat) ∧ (0 : Nat) + pm zs ks n k p * (2 : Nat) ≤ List.length (pP zs ks n k p)) ∧ Is ((0 : Int) ≤ (0 : Int) ∧ (0 : Int) < (↑(pm zs ks n k p) : Int)) ∧ Is ((ints (pP zs ks n k p))[(0 : Nat)]? = some (Value.int IntKind.i64 (List.getD (pP zs ks n k p) (0 : Nat) (0 : Int)))) ∧ br (decide (IntKind.wrap IntKind.i64 (l * dn (pP zs ks n k p) (0 : Nat) (pm zs ks n k p)) ≤ IntKind.wrap IntKind.i64 (lvl (pP zs ks n k p) (0 : Nat) (pm zs ks n k p) + IntKind.wrap IntKind.i64 (slp (pP zs ks n k p) (0 : Nat) (pm zs ks n k p) * IntKind.wrap IntKind.i64 (List.getD (pP zs ks n k p) ((0 : Nat) + (pm zs ks n k p - (1 : Nat)) * (2 : Nat)) (0 : Int) - List.getD (pP zs ks n k p) (0 : Nat) (0 : Int)))))) (Is (ints (pP zs ks n k p) = ints (pP zs ks n k p) ∧ (0 : Nat) < pm zs ks n k p ∧ pm zs ks n k p ≤ (1000 : Nat) ∧ (0 : Nat) + pm zs ks n k p * (2 : Nat) ≤ List.length (pP zs ks n k p)) ∧ K (Value.tuple #[Value.int IntKind.i64 (List.getD (pP zs ks n k p) ((0 : Nat) + (pm zs ks n k p - (1 : Nat)) * (2 : Nat)) (0 : Int)), Value.int IntKind.i64 (0 : Int)]) (some (AObj.row (ints zs) (2 : Nat) false false true) :: some (AObj.row (acs ks) (2 : Nat) false false true) :: noH)) (br (decide (slp (pP zs ks n k p) (0 : Nat) (pm zs ks n k p) ≤ (0 : Int))) (K (Value.tuple #[Value.int IntKind.i64 (0 : Int), Value.int IntKind.i64 (7 : Int)]) (some (AObj.row (ints zs) (2 : Nat) false false true) :: some (AObj.row (acs ks) (2 : Nat) false false true) :: noH)) (Is ((0 : Int) ≤ (0 : Int) ∧ (0 : Int) < (↑(pm zs ks n k p) : Int)) ∧ Is ((ints (pP zs ks n k p))[(0 : Nat)]? = some (Value.int IntKind.i64 (List.getD (pP zs ks n k p) (0 : Nat) (0 : Int)))) ∧ Is ((0 : Int) < slp (pP zs ks n k p) (0 : Nat) (pm zs ks n k p) ∧ slp (pP zs ks n k p) (0 : Nat) (pm zs ks n k p) ≤ (4000000000000000000 : Int) ∧ (-4000000000000000000 : Int) ≤ IntKind.wrap IntKind.i64 (IntKind.wrap IntKind.i64 (l * dn (pP zs ks n k p) (0 : Nat) (pm zs ks n k p)) - lvl (pP zs ks n k p) (0 : Nat) (pm zs ks n k p)) ∧ IntKind.wrap IntKind.i64 (IntKind.wrap IntKind.i64 (l * dn (pP zs ks n k p) (0 : Nat) (pm zs ks n k p)) - lvl (pP zs ks n k p) (0 : Nat) (pm zs ks n k p)) ≤ (4000000000000000000 : Int)) ∧ br (decide ((100000 : Int) < IntKind.wrap IntKind.i64 (List.getD (pP zs ks n k p) (0 : Nat) (0 : Int) + -(-IntKind.wrap IntKind.i64 (IntKind.wrap IntKind.i64 (l * dn (pP zs ks n k p) (0 : Nat) (pm zs ks n k p)) - lvl (pP zs ks n k p) (0 : Nat) (pm zs ks n k p)) / slp (pP zs ks n k p) (0 : Nat) (pm zs ks n k p))))) (K (Value.tuple #[Value.int IntKind.i64 (0 : Int), Value.int IntKind.i64 (7 : Int)]) (some (AObj.row (ints zs) (2 : Nat) false false true) :: some (AObj.row (acs ks) (2 : Nat) false false true) :: noH)) (K (Value.tuple #[Value.int IntKind.i64 (IntKind.wrap IntKind.i64 (List.getD (pP zs ks n k p) (0 : Nat) (0 : Int) + -(-IntKind.wrap IntKind.i64 (IntKind.wrap IntKind.i64 (l * dn (pP zs ks n k p) (0 : Nat) (pm zs ks n k p)) - lvl (pP zs ks n k p) (0 : Nat) (pm zs ks n k p)) / slp (pP zs ks n k p) (0 : Nat) (pm zs ks n k p)))), Value.int IntKind.i64 (0 : Int)]) (some (AObj.row (ints zs) (2 : Nat) false false true) :: some (AObj.row (acs ks) (2 : Nat) false false true) :: noH))))) := by kernel_rfl
theorem rdB_zero {zs : List Int} {ks : List (Int × ByteArray)} {n k : Nat} {p l : Int} (h : rcS (p0D zs ks p) (pL zs ks n k p) (pS zs ks n k p) (pD zs ks n k p) l (pZ zs ks n k p) ≤ 0) : rdB zs ks n k p l = true ∧ rdN zs ks n k p l = pZ zs ks n k p := by
  rw [rdB, rdN, rcB, rcN, if_pos h, decide_eq_true h]
  exact ⟨rfl, rfl⟩
theorem reR_ok {nm : ByteArray} {zs : List Int} {ks : List (Int × ByteArray)} {n c k d : Nat} {p l : Int} (hi : isPer zs ks n k p (ints zs) (acs ks)) (hm2 : 2 ≤ pm zs ks n k p) (l0 : 0 ≤ l) (l1 : l ≤ 100000) :
    SmallRes Tryz.prog 50 [.agg (secA nm 0 n c 1 k d).toArray, .int .i64 p, .int .i64 l] (hp2 zs ks false false false false [])
      (.tuple #[.int .i64 (gz (wh (!rdB zs ks n k p l) 7) (rdN zs ks n k p l)), .int .i64 (wh (!rdB zs ks n k p l) 7)]) (hp2 zs ks false false false false []) := by
  refine fnP_res hm cr2_ok (hs := hsReR' zs ks n k p) ?_
  rw [reR_t]
  obtain ⟨a, b, s, e, g, z, hl⟩ := per_own hi hm2
  obtain ⟨a0, a1, f0, f1, b0, b1, p0, p1, c1, q0, q1⟩ := rc_in hi hm2 l0 l1
  have hf := a.few
  simp only [Nat.zero_add]
  rw [b, s, e, g, z]
  have hsA : (ints (pP zs ks n k p))[(0 : Nat)]? = some (.int .i64 (p0D zs ks p)) := by rw [← g]; exact ints_at (by omega)
  have hB : ∀ x, rdB zs ks n k p l = x → (wh (!rdB zs ks n k p l) 7 = if x = true then 0 else 7) := by
    intro x hx; rw [hx]; cases x <;> rfl
  generalize hA : p0D zs ks p = A at *
  generalize hL : pL zs ks n k p = B at *
  generalize hS : pS zs ks n k p = C at *
  generalize hD : pD zs ks n k p = D at *
  generalize hZ : pZ zs ks n k p = F at *
  have hN : rdN zs ks n k p l = rcN A B C D l F := by rw [rdN, hA, hL, hS, hD, hZ]
  have hBB : rdB zs ks n k p l = rcB A B C D l F := by rw [rdB, hA, hL, hS, hD, hZ]
  have hs : rcS A B C D l F = l * D - (B + C * (F - A)) := rfl
  have e1 : IntKind.wrap .i64 (F - A) = F - A := wrap_eq (by omega) (by omega)
  have e2 : IntKind.wrap .i64 (C * (F - A)) = C * (F - A) := wrap_eq (by omega) (by omega)
  have e3 : IntKind.wrap .i64 (B + C * (F - A)) = B + C * (F - A) := wrap_eq (by omega) (by omega)
  have e4 : IntKind.wrap .i64 (l * D) = l * D := wrap_eq (by omega) (by omega)
  have e5 : IntKind.wrap .i64 (l * D - B) = l * D - B := wrap_eq (by omega) (by omega)
  rw [e1, e2, e3, e4, e5, hN, hBB]
  refine ⟨⟨hi⟩, ⟨by first | trivial | rfl, a⟩, ⟨by first | trivial | rfl, by omega, by omega, by omega⟩, ⟨by omega, by omega⟩, ⟨hsA⟩, br_of (fun h => ⟨⟨by first | trivial | rfl, by omega, by omega, by omega⟩, ?_⟩) (fun h => br_of (fun h2 => ?_) (fun h2 => ?_))⟩
  · have h := of_decide_eq_true h
    have hc : rcS A B C D l F ≤ 0 := by omega
    rw [rcN, rcB, if_pos hc, decide_eq_true hc]
    exact ⟨by first | trivial | rfl, by first | trivial | rfl⟩
  · have h := of_decide_eq_false h
    have h2 := of_decide_eq_true h2
    have hc : ¬ rcS A B C D l F ≤ 0 := by omega
    rw [rcN, rcB, if_neg hc, if_pos h2, decide_eq_false hc, decide_eq_true h2]
    exact ⟨by first | trivial | rfl, by first | trivial | rfl⟩
  · have h := of_decide_eq_false h
    have h2 := of_decide_eq_false h2
    have hc : ¬ rcS A B C D l F ≤ 0 := by omega
    have k1 : (-rcS A B C D l F) / C ≤ 0 := Int.ediv_nonpos_of_nonpos_of_neg (by omega) (by omega)
    have k2 : -rcS A B C D l F ≤ (-rcS A B C D l F) / C := by
      refine Int.le_ediv_of_mul_le (by omega) ?_
      have := Int.mul_le_mul_of_nonneg_left (show 1 ≤ C by omega) (show 0 ≤ rcS A B C D l F by omega)
      rw [Int.neg_mul]; omega
    have k3 : (-rcS A B C D l F) / C = (-(l * D - B)) / C + (F - A) := by
      rw [← Int.add_mul_ediv_left _ _ (show C ≠ 0 by omega)]
      congr 1
      omega
    have e7 : A + -((-(l * D - B)) / C) = F - (-rcS A B C D l F) / C := by omega
    have e6 : IntKind.wrap .i64 (A + -((-(l * D - B)) / C)) = F - (-rcS A B C D l F) / C := by rw [e7]; exact wrap_eq (by omega) (by omega)
    rw [e6, rcN, rcB, if_neg hc, if_neg h2, decide_eq_false hc, decide_eq_false h2]
    refine ⟨⟨by omega, by omega⟩, ⟨hsA⟩, ⟨by omega, by omega, by omega, by omega⟩, br_of (fun h3 => ?_) (fun h3 => ?_)⟩
    · have h3 := of_decide_eq_true h3
      have h4 : decide (F - (-rcS A B C D l F) / C ≤ 100000) = false := decide_eq_false (by omega)
      rw [h4]
      exact ⟨by first | trivial | rfl, by first | trivial | rfl⟩
    · have h3 := of_decide_eq_false h3
      have h4 : decide (F - (-rcS A B C D l F) / C ≤ 100000) = true := decide_eq_true (by omega)
      rw [h4]
      exact ⟨by first | trivial | rfl, by first | trivial | rfl⟩
end
end Qq
end
