/- Parts of the proof: QU, QV, QX, QY, QZ, YCa, QAA, QDD, YC, YD, YE, YH, YIa, YF, YGa, YB, YJ, YN, PK0, KW, KX, PA, PB. -/
import Derived.Test.YtmbeobnpkcoapaaGreatZAD
import Derived.Test.YtmbeobnpkcoapaaGreatZAC
section
/- The program's lines of periods. -/
open Go Go.Vm Go.Proofs Sp
namespace Sp
noncomputable section
noncomputable def lz (m : Nat) (x : Int) : Int := if m < 2 then 0 else x
end
end Sp
namespace Qq
noncomputable section
/-- A valid section, and one of its periods. -/
noncomputable def isPer (zs : List Int) (ks : List (Int × ByteArray)) (n k : Nat) (p : Int) (e1 e2 : List Value) : Prop :=
  isSec zs ks n k e1 e2 ∧ mchk zs (-1) = 0 ∧ achk ks (-1) = 0 ∧ n ≤ 32 ∧ 0 ≤ p ∧ p ≤ k
noncomputable def pf (zs : List Int) (ks : List (Int × ByteArray)) (p : Int) : Nat := frm zs ks p.toNat
noncomputable def pm (zs : List Int) (ks : List (Int × ByteArray)) (n k : Nat) (p : Int) : Nat := upto zs ks n k p.toNat - frm zs ks p.toNat
noncomputable def orcPdV (zs : List Int) (ks : List (Int × ByteArray)) : OrcV
  | [.agg ⟨[.string _nm, .slice (some ⟨0, 0, none⟩) n _c, .slice (some ⟨1, 0, none⟩) k _d]⟩, .int .i64 p], [some (.row e1 2 true true true), some (.row e2 2 true true true)] => some (.slice (some ⟨0, pf zs ks p * 2, none⟩) (pm zs ks n k p) big, [some (.row e1 2 true true true), some (.row e2 2 true true true)], isPer zs ks n k p e1 e2)
  | _, _ => none
theorem pd_okV (zs : List Int) (ks : List (Int × ByteArray)) : OkV Tryz.prog 53 (orcPdV zs ks) := by
  intro args H ret H' vc h hv
  unfold orcPdV at h
  split at h
  · cases h
    obtain ⟨⟨rfl, rfl, h1, h2, h3, h4⟩, h5, h6, h7, h8, h9⟩ := hv
    exact pd_ok h1 h2 h3 h4 h5 h6 h8 h9
  · cases h
noncomputable def orcFtV (zs : List Int) : OrcV
  | [.slice (some ⟨0, off, none⟩) m _c], [some (.row e1 2 m1 w1 true)] => some (.agg #[.int .i64 (zs.getD off 0), .int .i64 (lvl zs off m), .int .i64 (slp zs off m), .int .i64 (dn zs off m)], [some (.row e1 2 m1 w1 true)], e1 = ints zs ∧ Part zs off m ∧ 0 < m)
  | _, _ => none
theorem ft_okV (zs : List Int) : OkV Tryz.prog 75 (orcFtV zs) := by
  intro args H ret H' vc h hv
  unfold orcFtV at h
  split at h
  · cases h
    obtain ⟨rfl, h1, h2⟩ := hv
    exact ft_ok h1 h2
  · cases h
noncomputable def hsLn (zs : List Int) (ks : List (Int × ByteArray)) : Hs Tryz.prog where
  au := auCalls [(53, hCa Tryz.prog 53 (orcPdV zs ks) (pd_okV zs ks)), (75, hCa Tryz.prog 75 (orcFtV zs) (ft_okV zs))]
theorem ln_t (nm : ByteArray) (zs : List Int) (ks : List (Int × ByteArray)) (n : Nat) (c : Nat) (k : Nat) (d : Nat) (p : Int) (K : Value → Heap → Prop) :
    (fnP Tryz.prog c2 (hsLn zs ks) (50 : FuncId) [Value.agg (List.toArray (secA nm (0 : Nat) n c (1 : Nat) k d)), Value.int IntKind.i64 p] (hp2 zs ks true true true true []) K) =
    (Is (isPer zs ks n k p (ints zs) (acs ks)) ∧ br (decide ((↑(pm zs ks n k p) : Int) < (2 : Int))) (K (Value.tuple #[Value.agg #[Value.int .i64 0, Value.int .i64 0, Value.int .i64 0, Value.int .i64 0], Value.int .i64 16]) (some (AObj.row (ints zs) 2 true true true) :: some (AObj.row (acs ks) 2 true true true) :: noH)) (Is (ints zs = ints zs ∧ Part zs (pf zs ks p * 2) (pm zs ks n k p) ∧ 0 < pm zs ks n k p) ∧ K (Value.tuple #[Value.agg #[Value.int .i64 (List.getD zs (pf zs ks p * 2) (0 : Int)), Value.int .i64 (lvl zs (pf zs ks p * 2) (pm zs ks n k p)), Value.int .i64 (slp zs (pf zs ks p * 2) (pm zs ks n k p)), Value.int .i64 (dn zs (pf zs ks p * 2) (pm zs ks n k p))], Value.int .i64 0]) (some (AObj.row (ints zs) 2 true true true) :: some (AObj.row (acs ks) 2 true true true) :: noH))) := by kernel_rfl
theorem per_part {zs : List Int} {ks : List (Int × ByteArray)} {n k : Nat} {p : Int} {e1 e2 : List Value} (h : isPer zs ks n k p e1 e2) : Part zs (pf zs ks p * 2) (pm zs ks n k p) ∧ (2 ≤ pm zs ks n k p → 0 < dn zs (pf zs ks p * 2) (pm zs ks n k p)) := by
  obtain ⟨⟨_, _, h1, h2, _, _⟩, h5, h6, h7, h8, h9⟩ := h
  obtain ⟨u1, u2⟩ := upto_le (n := n) (i := p.toNat) h1 h2 h6 (by omega)
  exact ⟨part_of h1 h7 h5 (by simp only [pf, pm]; omega), fun h => dn_pos h1 h5 (by simp only [pf, pm]; omega) h⟩
theorem ln_ok {nm : ByteArray} {zs : List Int} {ks : List (Int × ByteArray)} {n c k d : Nat} {p : Int} (hi : isPer zs ks n k p (ints zs) (acs ks)) :
    SmallRes Tryz.prog 50 [.agg (secA nm 0 n c 1 k d).toArray, .int .i64 p] (hp2 zs ks true true true true [])
      (.tuple #[.agg #[.int .i64 (lz (pm zs ks n k p) (zs.getD (pf zs ks p * 2) 0)), .int .i64 (lz (pm zs ks n k p) (lvl zs (pf zs ks p * 2) (pm zs ks n k p))), .int .i64 (lz (pm zs ks n k p) (slp zs (pf zs ks p * 2) (pm zs ks n k p))), .int .i64 (lz (pm zs ks n k p) (dn zs (pf zs ks p * 2) (pm zs ks n k p)))], .int .i64 (wh (decide (pm zs ks n k p < 2)) 16)])
      (hp2 zs ks true true true true []) := by
  refine fnP_res hm c2_ok (hs := hsLn zs ks) ?_
  rw [ln_t]
  obtain ⟨hp, _⟩ := per_part hi
  refine ⟨⟨hi⟩, br_of (fun h => ?_) (fun h => ?_)⟩
  · have h : pm zs ks n k p < 2 := by have := of_decide_eq_true h; omega
    simp only [lz, if_pos h, decide_eq_true h]
    exact ⟨by first | trivial | rfl, by first | trivial | rfl⟩
  · have h : ¬ pm zs ks n k p < 2 := by have := of_decide_eq_false h; omega
    simp only [lz, if_neg h, decide_eq_false h]
    exact ⟨⟨by first | trivial | rfl, hp, by omega⟩, by first | trivial | rfl, by first | trivial | rfl⟩
end
end Qq
end
section
/- The program's answers about lines. -/
open Go Go.Vm Go.Proofs Sp
namespace Qq
noncomputable section
noncomputable def orcLnV (zs : List Int) (ks : List (Int × ByteArray)) : OrcV
  | [.agg ⟨[.string _nm, .slice (some ⟨0, 0, none⟩) n _c, .slice (some ⟨1, 0, none⟩) k _d]⟩, .int .i64 p], [some (.row e1 2 true true true), some (.row e2 2 true true true)] =>
    some (.tuple #[.agg #[.int .i64 (lz (pm zs ks n k p) (zs.getD (pf zs ks p * 2) 0)), .int .i64 (lz (pm zs ks n k p) (lvl zs (pf zs ks p * 2) (pm zs ks n k p))), .int .i64 (lz (pm zs ks n k p) (slp zs (pf zs ks p * 2) (pm zs ks n k p))), .int .i64 (lz (pm zs ks n k p) (dn zs (pf zs ks p * 2) (pm zs ks n k p)))], .int .i64 (wh (decide (pm zs ks n k p < 2)) 16)],
      [some (.row e1 2 true true true), some (.row e2 2 true true true)], isPer zs ks n k p e1 e2)
  | _, _ => none
theorem ln_okV (zs : List Int) (ks : List (Int × ByteArray)) : OkV Tryz.prog 50 (orcLnV zs ks) := by
  intro args H ret H' vc h hv
  unfold orcLnV at h
  split at h
  · cases h
    obtain ⟨⟨rfl, rfl, h1⟩, h2⟩ := hv
    exact ln_ok ⟨⟨rfl, rfl, h1⟩, h2⟩
  · cases h
noncomputable def orcCpV (zs : List Int) (ks : List (Int × ByteArray)) : OrcV
  | [.agg ⟨[.string nm, .slice (some ⟨0, 0, none⟩) n _c, .slice (some ⟨1, 0, none⟩) k _d]⟩, .int .i64 p], [some (.row e1 2 true true true), some (.row e2 2 true true true)] =>
    some (.int .i64 (perE nm zs n ks k p), [some (.row e1 2 true true true), some (.row e2 2 true true true)], isSec zs ks n k e1 e2)
  | _, _ => none
theorem cp_okV (zs : List Int) (ks : List (Int × ByteArray)) : OkV Tryz.prog 27 (orcCpV zs ks) := by
  intro args H ret H' vc h hv
  unfold orcCpV at h
  split at h
  · cases h
    obtain ⟨rfl, rfl, h1⟩ := hv
    exact cp_ok ⟨rfl, rfl, h1⟩
  · cases h
theorem secE_few {nm : ByteArray} {zs : List Int} {n : Nat} {ks : List (Int × ByteArray)} {k : Nat} (h : secE nm zs n ks k = 0) : n ≤ 32 := by
  simp only [secE, sel_zero] at h
  have := fi_zero.1 h.1 (wh (decide ((32 : Int) < n)) 5) (by simp)
  have := (wh_zero (by decide)).1 this
  have := of_decide_eq_false this
  omega
theorem perE_ok {nm : ByteArray} {zs : List Int} {n : Nat} {ks : List (Int × ByteArray)} {k : Nat} {p : Int} {e1 e2 : List Value} (hi : isSec zs ks n k e1 e2) (h : perE nm zs n ks k p = 0) : isPer zs ks n k p e1 e2 := by
  have h1 := fi_zero.1 h (secE nm zs n ks k) (by simp)
  have h2 := fi_zero.1 h (wh (decide (p < 0) || decide ((k : Int) < p)) 10) (by simp)
  have h2 := (wh_zero (by decide)).1 h2
  simp only [Bool.or_eq_false_iff, decide_eq_false_iff_not] at h2
  obtain ⟨h3, h4⟩ := secE_ok h1
  exact ⟨hi, h3, h4, secE_few h1, by omega, by omega⟩
end
end Qq
namespace Sp
noncomputable section
noncomputable def gz (e x : Int) : Int := if e = 0 then x else 0
end
end Sp
namespace Qq
noncomputable section
noncomputable def pL (zs : List Int) (ks : List (Int × ByteArray)) (n k : Nat) (p : Int) : Int := lvl zs (pf zs ks p * 2) (pm zs ks n k p)
noncomputable def pS (zs : List Int) (ks : List (Int × ByteArray)) (n k : Nat) (p : Int) : Int := slp zs (pf zs ks p * 2) (pm zs ks n k p)
noncomputable def pD (zs : List Int) (ks : List (Int × ByteArray)) (n k : Nat) (p : Int) : Int := dn zs (pf zs ks p * 2) (pm zs ks n k p)
theorem few_iff {m : Nat} : (wh (decide (m < 2)) 16 != 0) = decide (m < 2) := by
  cases decide (m < 2) <;> rfl
end
end Qq
end
section
/- When a line reaches a limit. -/
open Go Go.Vm Go.Proofs Sp
namespace Qq
noncomputable section
noncomputable def hsRc : Hs Tryz.prog where
  au := auCalls [(77, hCa Tryz.prog 77 orcFl okFlP)]
theorem rc_t (a : Int) (b : Int) (c : Int) (d : Int) (l : Int) (f : Int) (K : Value → Heap → Prop) :
    (fnP Tryz.prog c0 hsRc (51 : FuncId) [Value.agg #[Value.int IntKind.i64 a, Value.int IntKind.i64 b, Value.int IntKind.i64 c, Value.int IntKind.i64 d], Value.int IntKind.i64 l, Value.int IntKind.i64 f] [] K) =
    (br (decide (IntKind.wrap .i64 (IntKind.wrap .i64 (l * d) - IntKind.wrap .i64 (b + IntKind.wrap .i64 (c * IntKind.wrap .i64 (f - a)))) ≤ (0 : Int))) (K (Value.tuple #[Value.int .i64 f, Value.bool true]) noH) (br (decide (c ≤ (0 : Int))) (K (Value.tuple #[Value.int .i64 0, Value.bool false]) noH) (Is ((0 : Int) < c ∧ c ≤ (4000000000000000000 : Int) ∧ (-4000000000000000000 : Int) ≤ IntKind.wrap .i64 ((0 : Int) - IntKind.wrap .i64 (IntKind.wrap .i64 (l * d) - IntKind.wrap .i64 (b + IntKind.wrap .i64 (c * IntKind.wrap .i64 (f - a))))) ∧ IntKind.wrap .i64 ((0 : Int) - IntKind.wrap .i64 (IntKind.wrap .i64 (l * d) - IntKind.wrap .i64 (b + IntKind.wrap .i64 (c * IntKind.wrap .i64 (f - a))))) ≤ (4000000000000000000 : Int)) ∧ K (Value.tuple #[Value.int .i64 (IntKind.wrap .i64 (f - IntKind.wrap .i64 ((0 : Int) - IntKind.wrap .i64 (IntKind.wrap .i64 (l * d) - IntKind.wrap .i64 (b + IntKind.wrap .i64 (c * IntKind.wrap .i64 (f - a))))) / c)), Value.bool (decide (IntKind.wrap .i64 (f - IntKind.wrap .i64 ((0 : Int) - IntKind.wrap .i64 (IntKind.wrap .i64 (l * d) - IntKind.wrap .i64 (b + IntKind.wrap .i64 (c * IntKind.wrap .i64 (f - a))))) / c) ≤ (100000 : Int)))]) noH))) := by kernel_rfl
noncomputable def hsLa (zs : List Int) : Hs Tryz.prog where
  op y := if [104].contains y then some (hIa Tryz.prog) else if [106].contains y then some (hLd Tryz.prog (zI zs)) else none
  au := au0 Tryz.prog
theorem la_t (zs : List Int) (off : Nat) (m : Nat) (c : Nat) (m1 : Bool) (w1 : Bool) (K : Value → Heap → Prop) :
    (fnP Tryz.prog c0 (hsLa zs) (52 : FuncId) [Value.slice (some { block := (0 : Nat), off := off }) m c] [some (AObj.row (ints zs) (2 : Nat) m1 w1 true)] K) =
    (Is ((0 : Int) ≤ IntKind.wrap .i64 ((m : Int) - (1 : Int)) ∧ IntKind.wrap .i64 ((m : Int) - (1 : Int)) < (m : Int)) ∧ Is ((ints zs)[off + Int.toNat (IntKind.wrap .i64 ((m : Int) - (1 : Int))) * 2 + 0]? = some (Value.int .i64 (List.getD zs (off + Int.toNat (IntKind.wrap .i64 ((m : Int) - (1 : Int))) * 2 + 0) (0 : Int)))) ∧ K (Value.int .i64 (List.getD zs (off + Int.toNat (IntKind.wrap .i64 ((m : Int) - (1 : Int))) * 2 + 0) (0 : Int))) (some (AObj.row (ints zs) 2 m1 w1 true) :: noH)) := by kernel_rfl
noncomputable def orcLaV (zs : List Int) : OrcV
  | [.slice (some ⟨0, off, none⟩) m _c], [some (.row e1 2 m1 w1 true)] => some (.int .i64 (zs.getD (off + (m - 1) * 2) 0), [some (.row e1 2 m1 w1 true)], e1 = ints zs ∧ 0 < m ∧ m ≤ 1000 ∧ off + m * 2 ≤ zs.length)
  | _, _ => none
theorem la_okV (zs : List Int) : OkV Tryz.prog 52 (orcLaV zs) := by
  intro args H ret H' vc h hv
  unfold orcLaV at h
  split at h
  · rename_i off m c e1 m1 w1
    cases h
    obtain ⟨rfl, h1, h2, h3⟩ := hv
    refine fnP_res hm c0_ok (hs := hsLa zs) ?_
    rw [la_t]
    have e : IntKind.wrap .i64 ((m : Int) - 1) = ((m - 1 : Nat) : Int) := by rw [wrap_eq (by omega) (by omega)]; omega
    rw [e]
    simp only [Nat.add_zero, Int.toNat_natCast]
    exact ⟨⟨by omega, by omega⟩, ⟨ints_at (by omega)⟩, by first | trivial | rfl, by first | trivial | rfl⟩
  · cases h
end
end Qq
end
section
/- When a line reaches a limit: the contract. -/
open Go Go.Vm Go.Proofs Sp
namespace Sp
noncomputable section
noncomputable def rcS (a b c d l f : Int) : Int := l * d - (b + c * (f - a))
noncomputable def rcN (a b c d l f : Int) : Int := if rcS a b c d l f ≤ 0 then f else if c ≤ 0 then 0 else f - (-rcS a b c d l f) / c
noncomputable def rcB (a b c d l f : Int) : Bool := decide (rcS a b c d l f ≤ 0) || (!decide (c ≤ 0) && decide (f - (-rcS a b c d l f) / c ≤ 100000))
structure RcOK (a b c d l f : Int) : Prop where
  a0 : 0 ≤ a
  a1 : a ≤ 100000
  f0 : 0 ≤ f
  f1 : f ≤ 100000
  b0 : -1024000000000000000 ≤ b
  b1 : b ≤ 1024000000000000000
  p0 : -1024000000000000000 ≤ c * (f - a)
  p1 : c * (f - a) ≤ 1024000000000000000
  c1 : c ≤ 10240000000000
  q0 : 0 ≤ l * d
  q1 : l * d ≤ 1024000000000000000
end
end Sp
namespace Qq
noncomputable section
noncomputable def orcRc : OrcV
  | [.agg ⟨[.int .i64 a, .int .i64 b, .int .i64 c, .int .i64 d]⟩, .int .i64 l, .int .i64 f], [] => some (.tuple #[.int .i64 (rcN a b c d l f), .bool (rcB a b c d l f)], [], RcOK a b c d l f)
  | _, _ => none
theorem okRc : OkV Tryz.prog 51 orcRc := by
  intro args H ret H' vc h hv
  unfold orcRc at h
  split at h
  · rename_i a b c d l f
    cases h
    obtain ⟨a0, a1, f0, f1, b0, b1, p0, p1, c1, q0, q1⟩ := hv
    refine fnP_res hm c0_ok (hs := hsRc) ?_
    rw [rc_t]
    have e1 : IntKind.wrap .i64 (f - a) = f - a := wrap_eq (by omega) (by omega)
    have e2 : IntKind.wrap .i64 (c * (f - a)) = c * (f - a) := wrap_eq (by omega) (by omega)
    have e3 : IntKind.wrap .i64 (b + c * (f - a)) = b + c * (f - a) := wrap_eq (by omega) (by omega)
    have e4 : IntKind.wrap .i64 (l * d) = l * d := wrap_eq (by omega) (by omega)
    have e5 : IntKind.wrap .i64 (l * d - (b + c * (f - a))) = rcS a b c d l f := wrap_eq (by omega) (by omega)
    have hs : rcS a b c d l f = l * d - (b + c * (f - a)) := rfl
    have e6 : IntKind.wrap .i64 (0 - rcS a b c d l f) = - rcS a b c d l f := by rw [wrap_eq (by omega) (by omega)]; omega
    rw [e1, e2, e3, e4, e5, e6]
    refine br_of (fun h => ?_) (fun h => br_of (fun h2 => ?_) (fun h2 => ?_))
    · have hh := of_decide_eq_true h
      rw [rcN, rcB, if_pos hh, h]
      exact ⟨rfl, rfl⟩
    · have hh := of_decide_eq_false h
      have hh2 := of_decide_eq_true h2
      rw [rcN, rcB, if_neg hh, if_pos hh2, h, h2]
      exact ⟨rfl, rfl⟩
    · have hh := of_decide_eq_false h
      have hh2 := of_decide_eq_false h2
      have k1 : (-rcS a b c d l f) / c ≤ 0 := Int.ediv_nonpos_of_nonpos_of_neg (by omega) (by omega)
      have k2 : -rcS a b c d l f ≤ (-rcS a b c d l f) / c := by
        refine Int.le_ediv_of_mul_le (by omega) ?_
        have := Int.mul_le_mul_of_nonneg_left (show 1 ≤ c by omega) (show 0 ≤ rcS a b c d l f by omega)
        rw [Int.neg_mul]; omega
      have e7 : IntKind.wrap .i64 (f - (-rcS a b c d l f) / c) = f - (-rcS a b c d l f) / c := wrap_eq (by omega) (by omega)
      rw [e7, rcN, rcB, if_neg hh, if_neg hh2, h, h2]
      exact ⟨⟨by omega, by omega, by omega, by omega⟩, rfl, rfl⟩
  · cases h
end
end Qq
end
section
/- The program's Reached. -/
open Go Go.Vm Go.Proofs Sp
namespace Qq
noncomputable section
noncomputable def hsRd (zs : List Int) (ks : List (Int × ByteArray)) : Hs Tryz.prog where
  au := auCalls [(50, hCa Tryz.prog 50 (orcLnV zs ks) (ln_okV zs ks)), (53, hCa Tryz.prog 53 (orcPdV zs ks) (pd_okV zs ks)), (52, hCa Tryz.prog 52 (orcLaV zs) (la_okV zs)), (51, hCa Tryz.prog 51 orcRc okRc)]
theorem rd_t (nm : ByteArray) (zs : List Int) (ks : List (Int × ByteArray)) (n : Nat) (c : Nat) (k : Nat) (d : Nat) (p : Int) (l : Int) (K : Value → Heap → Prop) :
    (fnP Tryz.prog c2 (hsRd zs ks) (22 : FuncId) [Value.agg (List.toArray (secA nm (0 : Nat) n c (1 : Nat) k d)), Value.int IntKind.i64 p, Value.int IntKind.i64 l] (hp2 zs ks true true true true []) K) =
    (Is (isPer zs ks n k p (ints zs) (acs ks)) ∧ br (wh (decide (pm zs ks n k p < 2)) (16 : Int) != (0 : Int)) (K (Value.tuple #[Value.int .i64 0, Value.int .i64 (wh (decide (pm zs ks n k p < 2)) (16 : Int))]) (some (AObj.row (ints zs) 2 true true true) :: some (AObj.row (acs ks) 2 true true true) :: noH)) (Is (isPer zs ks n k p (ints zs) (acs ks)) ∧ Is (ints zs = ints zs ∧ 0 < pm zs ks n k p ∧ pm zs ks n k p ≤ 1000 ∧ pf zs ks p * 2 + pm zs ks n k p * 2 ≤ List.length zs) ∧ Is (RcOK (lz (pm zs ks n k p) (List.getD zs (pf zs ks p * 2) (0 : Int))) (lz (pm zs ks n k p) (lvl zs (pf zs ks p * 2) (pm zs ks n k p))) (lz (pm zs ks n k p) (slp zs (pf zs ks p * 2) (pm zs ks n k p))) (lz (pm zs ks n k p) (dn zs (pf zs ks p * 2) (pm zs ks n k p))) l (List.getD zs (pf zs ks p * 2 + (pm zs ks n k p - 1) * 2) (0 : Int))) ∧ br (!rcB (lz (pm zs ks n k p) (List.getD zs (pf zs ks p * 2) (0 : Int))) (lz (pm zs ks n k p) (lvl zs (pf zs ks p * 2) (pm zs ks n k p))) (lz (pm zs ks n k p) (slp zs (pf zs ks p * 2) (pm zs ks n k p))) (lz (pm zs ks n k p) (dn zs (pf zs ks p * 2) (pm zs ks n k p))) l (List.getD zs (pf zs ks p * 2 + (pm zs ks n k p - 1) * 2) (0 : Int))) (K (Value.tuple #[Value.int .i64 0, Value.int .i64 7]) (some (AObj.row (ints zs) 2 true true true) :: some (AObj.row (acs ks) 2 true true true) :: noH)) (K (Value.tuple #[Value.int .i64 (rcN (lz (pm zs ks n k p) (List.getD zs (pf zs ks p * 2) (0 : Int))) (lz (pm zs ks n k p) (lvl zs (pf zs ks p * 2) (pm zs ks n k p))) (lz (pm zs ks n k p) (slp zs (pf zs ks p * 2) (pm zs ks n k p))) (lz (pm zs ks n k p) (dn zs (pf zs ks p * 2) (pm zs ks n k p))) l (List.getD zs (pf zs ks p * 2 + (pm zs ks n k p - 1) * 2) (0 : Int))), Value.int .i64 0]) (some (AObj.row (ints zs) 2 true true true) :: some (AObj.row (acs ks) 2 true true true) :: noH)))) := by kernel_rfl
noncomputable def pZ (zs : List Int) (ks : List (Int × ByteArray)) (n k : Nat) (p : Int) : Int := zs.getD (pf zs ks p * 2 + (pm zs ks n k p - 1) * 2) 0
noncomputable def p0D (zs : List Int) (ks : List (Int × ByteArray)) (p : Int) : Int := zs.getD (pf zs ks p * 2) 0
noncomputable def rdN (zs : List Int) (ks : List (Int × ByteArray)) (n k : Nat) (p l : Int) : Int := rcN (p0D zs ks p) (pL zs ks n k p) (pS zs ks n k p) (pD zs ks n k p) l (pZ zs ks n k p)
noncomputable def rdB (zs : List Int) (ks : List (Int × ByteArray)) (n k : Nat) (p l : Int) : Bool := rcB (p0D zs ks p) (pL zs ks n k p) (pS zs ks n k p) (pD zs ks n k p) l (pZ zs ks n k p)
noncomputable def rdE (zs : List Int) (ks : List (Int × ByteArray)) (n k : Nat) (p l : Int) : Int := sel (wh (decide (pm zs ks n k p < 2)) 16) (wh (!rdB zs ks n k p l) 7)
theorem rc_in {zs : List Int} {ks : List (Int × ByteArray)} {n k : Nat} {p l : Int} {e1 e2 : List Value} (h : isPer zs ks n k p e1 e2) (hm : 2 ≤ pm zs ks n k p) (l0 : 0 ≤ l) (l1 : l ≤ 100000) :
    RcOK (p0D zs ks p) (pL zs ks n k p) (pS zs ks n k p) (pD zs ks n k p) l (pZ zs ks n k p) := by
  obtain ⟨h1, h2⟩ := per_part h
  have h2 := h2 hm
  obtain ⟨⟨b0, b1⟩, ⟨s1, s2⟩, ⟨d1, d2⟩, _⟩ := h1.line
  have z0 := h1.z0
  have y0 := (h1.day 0 (by omega)).2
  have y1 := h1.day (pm zs ks n k p - 1) (by omega)
  have e0 : d0 zs (pf zs ks p * 2) = p0D zs ks p := rfl
  rw [e0] at z0 y1
  rw [Nat.zero_mul, Nat.add_zero] at y0
  have y0 : p0D zs ks p ≤ 100000 := y0
  have y1 : p0D zs ks p ≤ pZ zs ks n k p ∧ pZ zs ks n k p ≤ 100000 := y1
  have s1 : -10240000000000 ≤ pS zs ks n k p := s1
  have s2 : pS zs ks n k p ≤ 10240000000000 := s2
  have hd : 0 < pD zs ks n k p := h2
  have d2 : pD zs ks n k p ≤ 10240000000000 := d2
  have b : -1024000000000000000 ≤ pS zs ks n k p * (pZ zs ks n k p - p0D zs ks p) ∧ pS zs ks n k p * (pZ zs ks n k p - p0D zs ks p) ≤ 1024000000000000000 := by
    have := mul_in (a := (pS zs ks n k p).natAbs) (b := (pZ zs ks n k p - p0D zs ks p).natAbs) (A := 10240000000000) (B := 100000) (by omega) (by omega) (by omega) (by omega)
    rw [← Int.natCast_mul, ← Int.natAbs_mul] at this
    omega
  have q := mul_in l0 l1 (show 0 ≤ pD zs ks n k p by omega) d2
  exact ⟨by omega, by omega, by omega, by omega, b0, b1, b.1, b.2, s2, q.1, by omega⟩
theorem rd_ok {nm : ByteArray} {zs : List Int} {ks : List (Int × ByteArray)} {n c k d : Nat} {p l : Int} (hp : isPer zs ks n k p (ints zs) (acs ks)) (l0 : 0 ≤ l) (l1 : l ≤ 100000) :
    SmallRes Tryz.prog 22 [.agg (secA nm 0 n c 1 k d).toArray, .int .i64 p, .int .i64 l] (hp2 zs ks true true true true [])
      (.tuple #[.int .i64 (gz (rdE zs ks n k p l) (rdN zs ks n k p l)), .int .i64 (rdE zs ks n k p l)]) (hp2 zs ks true true true true []) := by
  refine fnP_res hm c2_ok (hs := hsRd zs ks) ?_
  rw [rd_t]
  obtain ⟨h1, _⟩ := per_part hp
  rw [few_iff]
  refine ⟨⟨hp⟩, br_of (fun h => ?_) (fun h => ?_)⟩
  · have hw : wh (decide (pm zs ks n k p < 2)) 16 = 16 := by rw [h]; rfl
    rw [rdE, hw]
    exact ⟨by first | trivial | rfl, by first | trivial | rfl⟩
  · have hw : wh (decide (pm zs ks n k p < 2)) 16 = 0 := by rw [h]; rfl
    have hn : ¬ pm zs ks n k p < 2 := of_decide_eq_false h
    have hr := rc_in hp (by omega) l0 l1
    have hl := h1.len
    have hf := h1.few
    simp only [lz, if_neg hn]
    refine ⟨⟨hp⟩, ⟨by first | trivial | rfl, by omega, by omega, hl⟩, ⟨hr⟩, br_of (fun hb => ?_) (fun hb => ?_)⟩
    · have hb : (!rdB zs ks n k p l) = true := hb
      rw [rdE, hw, hb]
      exact ⟨by first | trivial | rfl, by first | trivial | rfl⟩
    · have hb : (!rdB zs ks n k p l) = false := hb
      rw [rdE, hw, hb]
      exact ⟨by first | trivial | rfl, by first | trivial | rfl⟩
end
end Qq
end
section
/- The day on which a section is due, as a number. -/
open Go Go.Vm Go.Proofs Sp
namespace Qq
noncomputable section
noncomputable def duN (zs : List Int) (ks : List (Int × ByteArray)) (n k : Nat) (x : Int) : Int := if rdE zs ks n k (k : Int) x = 0 then rdN zs ks n k (k : Int) x else 100001
/-- The i-th of a list. -/
noncomputable def dI (l : Ls) (x : Int) (i : Nat) : Int := duN (l.zs i) (l.ks i) (l.N i) (l.K i) x
end
end Qq
end
section
/- The program's Reached, with its checks. -/
open Go Go.Vm Go.Proofs Sp
namespace Qq
noncomputable section
noncomputable def orcRdV (zs : List Int) (ks : List (Int × ByteArray)) : OrcV
  | [.agg ⟨[.string _nm, .slice (some ⟨0, 0, none⟩) n _c, .slice (some ⟨1, 0, none⟩) k _d]⟩, .int .i64 p, .int .i64 l], [some (.row e1 2 true true true), some (.row e2 2 true true true)] =>
    some (.tuple #[.int .i64 (gz (rdE zs ks n k p l) (rdN zs ks n k p l)), .int .i64 (rdE zs ks n k p l)], [some (.row e1 2 true true true), some (.row e2 2 true true true)], isPer zs ks n k p e1 e2 ∧ 0 ≤ l ∧ l ≤ 100000)
  | _, _ => none
theorem rd_okV (zs : List Int) (ks : List (Int × ByteArray)) : OkV Tryz.prog 22 (orcRdV zs ks) := by
  intro args H ret H' vc h hv
  unfold orcRdV at h
  split at h
  · cases h
    obtain ⟨⟨⟨rfl, rfl, h1⟩, h2⟩, h3, h4⟩ := hv
    exact rd_ok ⟨⟨rfl, rfl, h1⟩, h2⟩ h3 h4
  · cases h
noncomputable def hsRe (zs : List Int) (ks : List (Int × ByteArray)) : Hs Tryz.prog where
  au := auCalls [(27, hCa Tryz.prog 27 (orcCpV zs ks) (cp_okV zs ks)), (22, hCa Tryz.prog 22 (orcRdV zs ks) (rd_okV zs ks))]
theorem re_t (nm : ByteArray) (zs : List Int) (ks : List (Int × ByteArray)) (n : Nat) (c : Nat) (k : Nat) (d : Nat) (p : Int) (l : Int) (K : Value → Heap → Prop) :
    (fnP Tryz.prog c2 (hsRe zs ks) (8 : FuncId) [Value.agg (List.toArray (secA nm (0 : Nat) n c (1 : Nat) k d)), Value.int IntKind.i64 p, Value.int IntKind.i64 l] (hp2 zs ks true true true true []) K) =
    (Is (isSec zs ks n k (ints zs) (acs ks)) ∧ br (fi [perE nm zs n ks k p, wi l (0 : Int) (100000 : Int)] != (0 : Int)) (K (Value.tuple #[Value.int .i64 0, Value.int .i64 (fi [perE nm zs n ks k p, wi l (0 : Int) (100000 : Int)])]) (some (AObj.row (ints zs) 2 true true true) :: some (AObj.row (acs ks) 2 true true true) :: noH)) (Is (isPer zs ks n k p (ints zs) (acs ks) ∧ (0 : Int) ≤ l ∧ l ≤ (100000 : Int)) ∧ K (Value.tuple #[Value.int .i64 (gz (rdE zs ks n k p l) (rdN zs ks n k p l)), Value.int .i64 (rdE zs ks n k p l)]) (some (AObj.row (ints zs) 2 true true true) :: some (AObj.row (acs ks) 2 true true true) :: noH))) := by kernel_rfl
noncomputable def reE (nm : ByteArray) (zs : List Int) (n : Nat) (ks : List (Int × ByteArray)) (k : Nat) (p l : Int) : Int := sel (fi [perE nm zs n ks k p, wi l 0 100000]) (rdE zs ks n k p l)
theorem re_ok {nm : ByteArray} {zs : List Int} {ks : List (Int × ByteArray)} {n c k d : Nat} {p l : Int} (hi : isSec zs ks n k (ints zs) (acs ks)) :
    SmallRes Tryz.prog 8 [.agg (secA nm 0 n c 1 k d).toArray, .int .i64 p, .int .i64 l] (hp2 zs ks true true true true [])
      (.tuple #[.int .i64 (gz (reE nm zs n ks k p l) (rdN zs ks n k p l)), .int .i64 (reE nm zs n ks k p l)]) (hp2 zs ks true true true true []) := by
  refine fnP_res hm c2_ok (hs := hsRe zs ks) ?_
  rw [re_t]
  refine ⟨⟨hi⟩, br_of (fun h => ?_) (fun h => ?_)⟩
  · have h' : fi [perE nm zs n ks k p, wi l 0 100000] ≠ 0 := by simpa using h
    have e : reE nm zs n ks k p l = fi [perE nm zs n ks k p, wi l 0 100000] := sel_ne h
    simp only [gz, e, if_neg h']
    exact ⟨by first | trivial | rfl, by first | trivial | rfl⟩
  · have h' : fi [perE nm zs n ks k p, wi l 0 100000] = 0 := by simpa using h
    have e : reE nm zs n ks k p l = rdE zs ks n k p l := sel_eq h
    have hp := perE_ok hi (fi_zero.1 h' (perE nm zs n ks k p) (by simp))
    have hx := wi_zero.1 (fi_zero.1 h' (wi l 0 100000) (by simp))
    rw [e]
    exact ⟨⟨hp, hx.1, hx.2⟩, by first | trivial | rfl, by first | trivial | rfl⟩
end
end Qq
end
section
/- The law about lines: its own functions. -/
open Go Go.Vm Go.Proofs Sp
namespace Qq
noncomputable section
noncomputable def orcReV (zs : List Int) (ks : List (Int × ByteArray)) : OrcV
  | [.agg ⟨[.string nm, .slice (some ⟨0, 0, none⟩) n _c, .slice (some ⟨1, 0, none⟩) k _d]⟩, .int .i64 p, .int .i64 l], [some (.row e1 2 true true true), some (.row e2 2 true true true)] =>
    some (.tuple #[.int .i64 (gz (reE nm zs n ks k p l) (rdN zs ks n k p l)), .int .i64 (reE nm zs n ks k p l)], [some (.row e1 2 true true true), some (.row e2 2 true true true)], isSec zs ks n k e1 e2)
  | _, _ => none
theorem re_okV (zs : List Int) (ks : List (Int × ByteArray)) : OkV Tryz.prog 8 (orcReV zs ks) := by
  intro args H ret H' vc h hv
  unfold orcReV at h
  split at h
  · cases h
    obtain ⟨rfl, rfl, h1⟩ := hv
    exact re_ok ⟨rfl, rfl, h1⟩
  · cases h
end
end Qq
end
section
/- The day on which a section is due. -/
open Go Go.Vm Go.Proofs Sp
namespace Qq
noncomputable section
/-- A good section of a list. -/
def okP (l : Ls) (i : Nat) : Prop := isPer (l.zs i) (l.ks i) (l.N i) (l.K i) (l.K i : Int) (ints (l.zs i)) (acs (l.ks i))
end
end Qq
end
section
/- Comparing what is due. -/
open Go Go.Vm Go.Proofs Sp
namespace Sp
noncomputable section
noncomputable def cmI (a b : Int) : Int := if a < b then -1 else if b < a then 1 else 0
noncomputable def dueV (d k : Int) : Value := .agg #[poi, poi, poi, .int .i64 d, .int .i64 k]
end
end Sp
namespace Qq
noncomputable section
noncomputable def orcNan : OrcV
  | [.int .i64 _], [] => some (.bool false, [], True)
  | _, _ => none
noncomputable def orcCmI : OrcV
  | [.int .i64 a, .int .i64 b], [] => some (.int .i64 (cmI a b), [], True)
  | _, _ => none
noncomputable def orcOr : OrcV
  | [.slice (some ⟨0, 0, none⟩) 2 _], [some (.row [.int .i64 a, .int .i64 b] 1 false true true)] => some (.int .i64 (sel a b), [some (.row [.int .i64 a, .int .i64 b] 1 false true true)], True)
  | _, _ => none
noncomputable def hsNo : Hs Tryz.prog where
  au := au0 Tryz.prog
theorem nan_t (a : Int) (K : Value → Heap → Prop) :
    (fnP Tryz.prog c0 hsNo (89 : FuncId) [Value.int IntKind.i64 a] [] K) =
    (K (Value.bool (a != a)) noH) := by kernel_rfl
theorem or_t (a : Int) (b : Int) (c : Nat) (K : Value → Heap → Prop) :
    (fnP Tryz.prog c0 hsNo (56 : FuncId) [Value.slice (some { block := (0 : Nat), off := (0 : Nat) }) (2 : Nat) c] [some (AObj.row [Value.int IntKind.i64 a, Value.int IntKind.i64 b] (1 : Nat) false true true)] K) =
    (br (a != (0 : Int)) (K (Value.int .i64 a) (some (AObj.row [Value.int .i64 a, Value.int .i64 b] 1 false true true) :: noH)) (br (b != (0 : Int)) (K (Value.int .i64 b) (some (AObj.row [Value.int .i64 a, Value.int .i64 b] 1 false true true) :: noH)) (K (Value.int .i64 0) (some (AObj.row [Value.int .i64 a, Value.int .i64 b] 1 false true true) :: noH)))) := by kernel_rfl
theorem okNan : OkV Tryz.prog 89 orcNan := by
  intro args H ret H' vc h hv
  unfold orcNan at h
  split at h
  · rename_i a
    cases h
    refine fnP_res hm c0_ok (hs := hsNo) ?_
    rw [nan_t]
    exact ⟨by simp, rfl⟩
  · cases h
noncomputable def hsCm : Hs Tryz.prog where
  au := auCalls [(89, hCa Tryz.prog 89 orcNan okNan)]
theorem cm_t (a : Int) (b : Int) (K : Value → Heap → Prop) :
    (fnP Tryz.prog c0 hsCm (57 : FuncId) [Value.int IntKind.i64 a, Value.int IntKind.i64 b] [] K) =
    (Is True ∧ Is True ∧ br (decide (a < b)) (K (Value.int IntKind.i64 (-1 : Int)) noH) (br (decide (b < a)) (K (Value.int IntKind.i64 (1 : Int)) noH) (K (Value.int IntKind.i64 (0 : Int)) noH))) := by kernel_rfl
theorem okOr : OkV Tryz.prog 56 orcOr := by
  intro args H ret H' vc h hv
  unfold orcOr at h
  split at h
  · rename_i c a b
    cases h
    refine fnP_res hm c0_ok (hs := hsNo) ?_
    rw [or_t, sel]
    refine br_of (fun h => ?_) (fun h => br_of (fun h2 => ?_) (fun h2 => ?_))
    · have h : a ≠ 0 := by simpa using h
      rw [if_neg h]; exact ⟨rfl, rfl⟩
    · have h : a = 0 := by simpa using h
      rw [if_pos h]; exact ⟨rfl, rfl⟩
    · have h : a = 0 := by simpa using h
      have h2 : b = 0 := by simpa using h2
      rw [if_pos h, h2]; exact ⟨rfl, rfl⟩
  · cases h
theorem okCmI : OkV Tryz.prog 57 orcCmI := by
  intro args H ret H' vc h hv
  unfold orcCmI at h
  split at h
  · rename_i a b
    cases h
    refine fnP_res hm c0_ok (hs := hsCm) ?_
    rw [cm_t, cmI]
    refine ⟨⟨trivial⟩, ⟨trivial⟩, br_of (fun h => ?_) (fun h => br_of (fun h2 => ?_) (fun h2 => ?_))⟩
    · rw [if_pos (of_decide_eq_true h)]; exact ⟨rfl, rfl⟩
    · rw [if_neg (of_decide_eq_false h), if_pos (of_decide_eq_true h2)]; exact ⟨rfl, rfl⟩
    · rw [if_neg (of_decide_eq_false h), if_neg (of_decide_eq_false h2)]; exact ⟨rfl, rfl⟩
  · cases h
noncomputable def hsDc : Hs Tryz.prog where
  au := auCalls [(57, hCa Tryz.prog 57 orcCmI okCmI), (56, hCa Tryz.prog 56 orcOr okOr)]
theorem dc_t (a : Int) (i : Int) (b : Int) (k : Int) (K : Value → Heap → Prop) :
    (fnP Tryz.prog c0 hsDc (24 : FuncId) [dueV a i, dueV b k] [] K) =
    (Is True ∧ Is True ∧ Is True ∧ K (Value.int IntKind.i64 (sel (cmI a b) (cmI i k))) noH) := by kernel_rfl
noncomputable def orcDc : OrcV
  | [.agg ⟨[x1, x2, x3, .int .i64 a, .int .i64 i]⟩, .agg ⟨[y1, y2, y3, .int .i64 b, .int .i64 k]⟩], [] => some (.int .i64 (sel (cmI a b) (cmI i k)), [], [x1, x2, x3, y1, y2, y3] = [poi, poi, poi, poi, poi, poi])
  | _, _ => none
theorem okDc : OkV Tryz.prog 24 orcDc := by
  intro args H ret H' vc h hv
  unfold orcDc at h
  split at h
  · rename_i x1 x2 x3 a i y1 y2 y3 b k
    cases h
    cases hv
    refine fnP_res hm c0_ok (hs := hsDc) ?_
    show fnP Tryz.prog c0 hsDc 24 [dueV a i, dueV b k] [] _
    rw [dc_t]
    exact ⟨⟨trivial⟩, ⟨trivial⟩, ⟨trivial⟩, rfl, rfl⟩
  · cases h
end
end Qq
end
section
/- The sort of what is due. -/
open Go Go.Vm Go.Proofs Sp
namespace Sp
noncomputable section
/-- Where i stands among the first k of r: behind all that are not due later. -/
def ipos (d : Nat → Int) (r : List Nat) (i : Nat) : Nat → Nat
  | 0 => 0
  | k + 1 => if d i < d (r.getD k 0) then ipos d r i k else k + 1
noncomputable def insD (r : List Nat) (i k : Nat) : List Nat := r.take k ++ i :: r.drop k
/-- The first n, in order. -/
noncomputable def rk (d : Nat → Int) : Nat → List Nat
  | 0 => []
  | n + 1 => insD (rk d n) n (ipos d (rk d n) n n)
noncomputable def dzC (d : Nat → Int) (r : List Nat) : List Value := r.flatMap fun m => [poi, poi, poi, .int .i64 (d m), .int .i64 (m : Int)]
noncomputable def gDue (cells : List Value) (off : Nat) : Value := dueV (iAt cells (off + 3)) (iAt cells (off + 4))
/-- The rest, from i on. -/
def rst (n i : Nat) : List Nat := List.range' i (n - i)
end
end Sp
namespace Qq
noncomputable section
noncomputable def dzR (m : Bool) (d : Nat → Int) (r : List Nat) : Option AObj := some (.row (dzC d r) 5 m true false)
noncomputable def lpSo (m : Bool) (d : Nat → Int) (n c : Nat) : Lp where
  σ := Nat
  E i := slots 53 [(0, .slice (some ⟨0, 0, none⟩) n c), (1, .int .i64 0), (2, .int .i64 (n : Int)), (3, .func (.func 24) #[] #[]), (8, .int .i64 (i : Int))]
  Hp i := [dzR m d (rk d i ++ rst n i)]
  I i := 1 ≤ i ∧ (i ≤ n ∨ i = 1)
  m i := n - i
noncomputable def lpSi (m : Bool) (d : Nat → Int) (n c : Nat) (i : Nat) : Lp where
  σ := Nat
  E j := slots 53 [(0, .slice (some ⟨0, 0, none⟩) n c), (1, .int .i64 0), (2, .int .i64 (n : Int)), (3, .func (.func 24) #[] #[]), (8, .int .i64 (i : Int)), (9, .int .i64 (j : Int))]
  Hp j := [dzR m d (insD (rk d i) i j ++ rst n (i + 1))]
  I j := (1 ≤ i ∧ i < n) ∧ j ≤ i ∧ ipos d (rk d i) i j = ipos d (rk d i) i i
  m j := j
noncomputable def hsSo (m : Bool) (d : Nat → Int) (n c : Nat) : Hs Tryz.prog where
  op y := if [407, 412, 608, 612, 614, 616].contains y then some (hIa Tryz.prog) else if [408, 413, 609, 613].contains y then some (hLc Tryz.prog gDue) else if [615, 617].contains y then some (hSp Tryz.prog) else if y = 414 then some (hCa Tryz.prog 24 orcDc okDc) else none
  lp y := if y = 1 then some (lpSo m d n c) else none
  lq y := if y = 4 then some ⟨Nat, lpSi m d n c⟩ else none
  cl y := if y = 4 then keep 53 [0, 1, 2, 3, 8, 9] else keep 53 [0, 1, 2, 3, 8]
  nl _ := [.stay]
  rn := [.stay]
  sm := true
  au := au0 Tryz.prog
theorem so_t (m : Bool) (d : Nat → Int) (n : Nat) (c : Nat) (r0 : List Nat) (K : Value → Heap → Prop) :
    (fnP Tryz.prog c0 (hsSo m d n c) (79 : FuncId) [Value.slice (some { block := (0 : Nat), off := (0 : Nat) }) n c, Value.int IntKind.i64 (0 : Int), Value.int IntKind.i64 (↑n : Int), Value.func (Fn.func (24 : FuncId)) #[] #[]] [dzR m d r0] K) =
    (let q0 : Prop := Value.slice (some ⟨0, 0, none⟩) n c = Value.slice (some ⟨0, 0, none⟩) n c; let q1 : Prop := Value.func (Fn.func 24) #[] #[] = Value.func (Fn.func 24) #[] #[]; let q2 : Prop := Value.int .i64 (n : Int) = Value.int .i64 (n : Int); ((∃ (s : Nat), Is (1 ≤ s ∧ (s ≤ n ∨ s = 1)) ∧ (q0 ∧ Value.int .i64 0 = Value.int .i64 0 ∧ q2 ∧ q1 ∧ Value.int .i64 1 = Value.int .i64 (s : Int) ∧ True) ∧ some (AObj.row (dzC d r0) 5 m true false) :: noH = some (AObj.row (dzC d (rk d s ++ rst n s)) 5 m true false) :: noH) ∧ ∀ (s : Nat), Is (1 ≤ s ∧ (s ≤ n ∨ s = 1)) → br (decide ((s : Int) < (n : Int))) (∃ (p : Nat), (∃ (s_1 : Nat), Is ((1 ≤ p ∧ p < n) ∧ s_1 ≤ p ∧ ipos d (rk d p) p s_1 = ipos d (rk d p) p p) ∧ (q0 ∧ Value.int .i64 0 = Value.int .i64 0 ∧ q2 ∧ q1 ∧ Value.int .i64 (s : Int) = Value.int .i64 (p : Int) ∧ Value.int .i64 (s : Int) = Value.int .i64 (s_1 : Int) ∧ True) ∧ some (AObj.row (dzC d (rk d s ++ rst n s)) 5 m true false) :: noH = some (AObj.row (dzC d (insD (rk d p) p s_1 ++ rst n (p + 1))) 5 m true false) :: noH) ∧ ∀ (s_1 : Nat), Is ((1 ≤ p ∧ p < n) ∧ s_1 ≤ p ∧ ipos d (rk d p) p s_1 = ipos d (rk d p) p p) → br (decide ((0 : Int) < (s_1 : Int))) (Is ((0 : Int) ≤ (s_1 : Int) ∧ (s_1 : Int) < (n : Int)) ∧ Is ((if 0 + Int.toNat (s_1 : Int) * 5 + 5 ≤ List.length (dzC d (insD (rk d p) p s_1 ++ rst n (p + 1))) then some (Value.agg (List.toArray (List.take 5 (List.drop (0 + Int.toNat (s_1 : Int) * 5) (dzC d (insD (rk d p) p s_1 ++ rst n (p + 1))))))) else none) = some (Value.agg #[poi, poi, poi, Value.int .i64 (iAt (dzC d (insD (rk d p) p s_1 ++ rst n (p + 1))) (0 + Int.toNat (s_1 : Int) * 5 + 3)), Value.int .i64 (iAt (dzC d (insD (rk d p) p s_1 ++ rst n (p + 1))) (0 + Int.toNat (s_1 : Int) * 5 + 4))])) ∧ Is ((0 : Int) ≤ IntKind.wrap .i64 ((s_1 : Int) - (1 : Int)) ∧ IntKind.wrap .i64 ((s_1 : Int) - (1 : Int)) < (n : Int)) ∧ Is ((if 0 + Int.toNat (IntKind.wrap .i64 ((s_1 : Int) - (1 : Int))) * 5 + 5 ≤ List.length (dzC d (insD (rk d p) p s_1 ++ rst n (p + 1))) then some (Value.agg (List.toArray (List.take 5 (List.drop (0 + Int.toNat (IntKind.wrap .i64 ((s_1 : Int) - (1 : Int))) * 5) (dzC d (insD (rk d p) p s_1 ++ rst n (p + 1))))))) else none) = some (Value.agg #[poi, poi, poi, Value.int .i64 (iAt (dzC d (insD (rk d p) p s_1 ++ rst n (p + 1))) (0 + Int.toNat (IntKind.wrap .i64 ((s_1 : Int) - (1 : Int))) * 5 + 3)), Value.int .i64 (iAt (dzC d (insD (rk d p) p s_1 ++ rst n (p + 1))) (0 + Int.toNat (IntKind.wrap .i64 ((s_1 : Int) - (1 : Int))) * 5 + 4))])) ∧ Is ([poi, poi, poi, poi, poi, poi] = [poi, poi, poi, poi, poi, poi]) ∧ br (decide (sel (cmI (iAt (dzC d (insD (rk d p) p s_1 ++ rst n (p + 1))) (0 + Int.toNat (s_1 : Int) * 5 + 3)) (iAt (dzC d (insD (rk d p) p s_1 ++ rst n (p + 1))) (0 + Int.toNat (IntKind.wrap .i64 ((s_1 : Int) - (1 : Int))) * 5 + 3))) (cmI (iAt (dzC d (insD (rk d p) p s_1 ++ rst n (p + 1))) (0 + Int.toNat (s_1 : Int) * 5 + 4)) (iAt (dzC d (insD (rk d p) p s_1 ++ rst n (p + 1))) (0 + Int.toNat (IntKind.wrap .i64 ((s_1 : Int) - (1 : Int))) * 5 + 4))) < (0 : Int))) (Is ((0 : Int) ≤ IntKind.wrap .i64 ((s_1 : Int) - (1 : Int)) ∧ IntKind.wrap .i64 ((s_1 : Int) - (1 : Int)) < (n : Int)) ∧ Is ((if 0 + Int.toNat (IntKind.wrap .i64 ((s_1 : Int) - (1 : Int))) * 5 + 5 ≤ List.length (dzC d (insD (rk d p) p s_1 ++ rst n (p + 1))) then some (Value.agg (List.toArray (List.take 5 (List.drop (0 + Int.toNat (IntKind.wrap .i64 ((s_1 : Int) - (1 : Int))) * 5) (dzC d (insD (rk d p) p s_1 ++ rst n (p + 1))))))) else none) = some (Value.agg #[poi, poi, poi, Value.int .i64 (iAt (dzC d (insD (rk d p) p s_1 ++ rst n (p + 1))) (0 + Int.toNat (IntKind.wrap .i64 ((s_1 : Int) - (1 : Int))) * 5 + 3)), Value.int .i64 (iAt (dzC d (insD (rk d p) p s_1 ++ rst n (p + 1))) (0 + Int.toNat (IntKind.wrap .i64 ((s_1 : Int) - (1 : Int))) * 5 + 4))])) ∧ Is ((0 : Int) ≤ (s_1 : Int) ∧ (s_1 : Int) < (n : Int)) ∧ Is ((if 0 + Int.toNat (s_1 : Int) * 5 + 5 ≤ List.length (dzC d (insD (rk d p) p s_1 ++ rst n (p + 1))) then some (Value.agg (List.toArray (List.take 5 (List.drop (0 + Int.toNat (s_1 : Int) * 5) (dzC d (insD (rk d p) p s_1 ++ rst n (p + 1))))))) else none) = some (Value.agg #[poi, poi, poi, Value.int .i64 (iAt (dzC d (insD (rk d p) p s_1 ++ rst n (p + 1))) (0 + Int.toNat (s_1 : Int) * 5 + 3)), Value.int .i64 (iAt (dzC d (insD (rk d p) p s_1 ++ rst n (p + 1))) (0 + Int.toNat (s_1 : Int) * 5 + 4))])) ∧ Is ((0 : Int) ≤ (s_1 : Int) ∧ (s_1 : Int) < (n : Int)) ∧ Is (0 + Int.toNat (s_1 : Int) * 5 + 5 ≤ List.length (dzC d (insD (rk d p) p s_1 ++ rst n (p + 1)))) ∧ Is ((0 : Int) ≤ IntKind.wrap .i64 ((s_1 : Int) - (1 : Int)) ∧ IntKind.wrap .i64 ((s_1 : Int) - (1 : Int)) < (n : Int)) ∧ Is (0 + Int.toNat (IntKind.wrap .i64 ((s_1 : Int) - (1 : Int))) * 5 + 5 ≤ List.length (putL (dzC d (insD (rk d p) p s_1 ++ rst n (p + 1))) (0 + Int.toNat (s_1 : Int) * 5) [poi, poi, poi, Value.int .i64 (iAt (dzC d (insD (rk d p) p s_1 ++ rst n (p + 1))) (0 + Int.toNat (IntKind.wrap .i64 ((s_1 : Int) - (1 : Int))) * 5 + 3)), Value.int .i64 (iAt (dzC d (insD (rk d p) p s_1 ++ rst n (p + 1))) (0 + Int.toNat (IntKind.wrap .i64 ((s_1 : Int) - (1 : Int))) * 5 + 4))])) ∧ ∃ (s' : Nat), Is ((1 ≤ p ∧ p < n) ∧ s' ≤ p ∧ ipos d (rk d p) p s' = ipos d (rk d p) p p) ∧ Is (s' < s_1) ∧ (q0 ∧ Value.int .i64 0 = Value.int .i64 0 ∧ q2 ∧ q1 ∧ Value.int .i64 (p : Int) = Value.int .i64 (p : Int) ∧ Value.int .i64 (IntKind.wrap .i64 ((s_1 : Int) - (1 : Int))) = Value.int .i64 (↑s' : Int) ∧ True) ∧ some (AObj.row (putL (putL (dzC d (insD (rk d p) p s_1 ++ rst n (p + 1))) (0 + Int.toNat (s_1 : Int) * 5) [poi, poi, poi, Value.int .i64 (iAt (dzC d (insD (rk d p) p s_1 ++ rst n (p + 1))) (0 + Int.toNat (IntKind.wrap .i64 ((s_1 : Int) - (1 : Int))) * 5 + 3)), Value.int .i64 (iAt (dzC d (insD (rk d p) p s_1 ++ rst n (p + 1))) (0 + Int.toNat (IntKind.wrap .i64 ((s_1 : Int) - (1 : Int))) * 5 + 4))]) (0 + Int.toNat (IntKind.wrap .i64 ((s_1 : Int) - (1 : Int))) * 5) [poi, poi, poi, Value.int .i64 (iAt (dzC d (insD (rk d p) p s_1 ++ rst n (p + 1))) (0 + Int.toNat (s_1 : Int) * 5 + 3)), Value.int .i64 (iAt (dzC d (insD (rk d p) p s_1 ++ rst n (p + 1))) (0 + Int.toNat (s_1 : Int) * 5 + 4))]) 5 m true (false && List.all [poi, poi, poi, Value.int .i64 (iAt (dzC d (insD (rk d p) p s_1 ++ rst n (p + 1))) (0 + Int.toNat (IntKind.wrap .i64 ((s_1 : Int) - (1 : Int))) * 5 + 3)), Value.int .i64 (iAt (dzC d (insD (rk d p) p s_1 ++ rst n (p + 1))) (0 + Int.toNat (IntKind.wrap .i64 ((s_1 : Int) - (1 : Int))) * 5 + 4))] atom && List.all [poi, poi, poi, Value.int .i64 (iAt (dzC d (insD (rk d p) p s_1 ++ rst n (p + 1))) (0 + Int.toNat (s_1 : Int) * 5 + 3)), Value.int .i64 (iAt (dzC d (insD (rk d p) p s_1 ++ rst n (p + 1))) (0 + Int.toNat (s_1 : Int) * 5 + 4))] atom)) :: noH = some (AObj.row (dzC d (insD (rk d p) p s' ++ rst n (p + 1))) 5 m true false) :: noH) (∃ (s' : Nat), Is (1 ≤ s' ∧ (s' ≤ n ∨ s' = 1)) ∧ Is (n - s' < n - s) ∧ (q0 ∧ Value.int .i64 0 = Value.int .i64 0 ∧ q2 ∧ q1 ∧ Value.int .i64 (IntKind.wrap .i64 ((p : Int) + (1 : Int))) = Value.int .i64 (↑s' : Int) ∧ True) ∧ some (AObj.row (dzC d (insD (rk d p) p s_1 ++ rst n (p + 1))) 5 m true false) :: noH = some (AObj.row (dzC d (rk d s' ++ rst n s')) 5 m true false) :: noH)) (∃ (s' : Nat), Is (1 ≤ s' ∧ (s' ≤ n ∨ s' = 1)) ∧ Is (n - s' < n - s) ∧ (q0 ∧ Value.int .i64 0 = Value.int .i64 0 ∧ q2 ∧ q1 ∧ Value.int .i64 (IntKind.wrap .i64 ((p : Int) + (1 : Int))) = Value.int .i64 (↑s' : Int) ∧ True) ∧ some (AObj.row (dzC d (insD (rk d p) p s_1 ++ rst n (p + 1))) 5 m true false) :: noH = some (AObj.row (dzC d (rk d s' ++ rst n s')) 5 m true false) :: noH)) (K undef (some (AObj.row (dzC d (rk d s ++ rst n s)) 5 m true false) :: noH)))) := by kernel_rfl
theorem rk_len (d : Nat → Int) : ∀ n, (rk d n).length = n
  | 0 => rfl
  | n + 1 => by
    have := rk_len d n
    rw [rk, insD, List.length_append, List.length_cons, List.length_take, List.length_drop]; omega
theorem rk_lt (d : Nat → Int) : ∀ n, ∀ m ∈ rk d n, m < n
  | 0, m, h => by cases h
  | n + 1, m, h => by
    rw [rk, insD, List.mem_append, List.mem_cons] at h
    rcases h with h | h | h
    · have := rk_lt d n m (List.mem_of_mem_take h); omega
    · omega
    · have := rk_lt d n m (List.mem_of_mem_drop h); omega
theorem dz_app (d : Nat → Int) (a b : List Nat) : dzC d (a ++ b) = dzC d a ++ dzC d b := List.flatMap_append ..
theorem dz_cons (d : Nat → Int) (x : Nat) (b : List Nat) : dzC d (x :: b) = [poi, poi, poi, .int .i64 (d x), .int .i64 (x : Int)] ++ dzC d b := List.flatMap_cons ..
theorem dz_len (d : Nat → Int) : ∀ L : List Nat, (dzC d L).length = L.length * 5
  | [] => rfl
  | x :: L => by rw [dz_cons, List.length_append, dz_len d L]; simp only [List.length_cons, List.length_nil]; omega
theorem split_at {L : List Nat} {p : Nat} (h : p < L.length) : ∃ A B, L = A ++ L.getD p 0 :: B ∧ A.length = p := by
  refine ⟨L.take p, L.drop (p + 1), ?_, by rw [List.length_take]; omega⟩
  have : L.getD p 0 = L[p] := by rw [List.getD_eq_getElem?_getD, List.getElem?_eq_getElem h]; rfl
  rw [this]
  conv => lhs; rw [← List.take_append_drop p L]
  rw [List.drop_eq_getElem_cons h]
theorem dz_ld (d : Nat → Int) {L : List Nat} {p : Nat} (h : p < L.length) : (if 0 + p * 5 + 5 ≤ (dzC d L).length then some (Value.agg (((dzC d L).drop (0 + p * 5)).take 5).toArray) else none) = some (dueV (d (L.getD p 0)) (L.getD p 0 : Nat)) := by
  rw [dz_len, if_pos (by omega)]
  obtain ⟨A, B, e, hA⟩ := split_at h
  generalize L.getD p 0 = x at *
  subst e
  rw [dz_app, dz_cons, Nat.zero_add, List.drop_append_of_le_length (by rw [dz_len]; omega), List.drop_eq_nil_of_le (by rw [dz_len]; omega), List.nil_append, List.take_append_of_le_length (by simp)]
  rfl
theorem dz_at (d : Nat → Int) {L : List Nat} {p : Nat} (h : p < L.length) : iAt (dzC d L) (0 + p * 5 + 3) = d (L.getD p 0) ∧ iAt (dzC d L) (0 + p * 5 + 4) = (L.getD p 0 : Nat) := by
  obtain ⟨A, B, e, hA⟩ := split_at h
  generalize L.getD p 0 = x at *
  subst e
  have hl := dz_len d A
  refine ⟨?_, ?_⟩
  · rw [iAt, dz_app, dz_cons, List.getElem?_append_right (by omega), show 0 + p * 5 + 3 - (dzC d A).length = 3 by omega]; rfl
  · rw [iAt, dz_app, dz_cons, List.getElem?_append_right (by omega), show 0 + p * 5 + 4 - (dzC d A).length = 4 by omega]; rfl
theorem dz_put (d : Nat → Int) {L : List Nat} {p m : Nat} (h : p < L.length) : putL (dzC d L) (0 + p * 5) [poi, poi, poi, .int .i64 (d m), .int .i64 (m : Int)] = dzC d (L.set p m) := by
  obtain ⟨A, B, e, hA⟩ := split_at h
  generalize L.getD p 0 = x at *
  subst e
  have hl := dz_len d A
  have e1 : (A ++ x :: B).set p m = A ++ m :: B := by rw [List.set_append_right _ _ (by omega), hA, Nat.sub_self]; rfl
  rw [e1, putL, splice, dz_app, dz_cons, dz_app, dz_cons, List.take_append_of_le_length (by omega), List.take_of_length_le (by omega)]
  congr 1
  congr 1
  rw [← List.append_assoc, List.drop_append_of_le_length (by rw [List.length_append]; simp only [List.length_cons, List.length_nil]; omega), List.drop_eq_nil_of_le (by rw [List.length_append]; simp only [List.length_cons, List.length_nil]; omega), List.nil_append]
theorem cm_lt {d : Nat → Int} {i m : Nat} (h : m < i) : decide (sel (cmI (d i) (d m)) (cmI (i : Int) (m : Int)) < 0) = decide (d i < d m) := by
  have e : cmI (i : Int) (m : Int) = 1 := by rw [cmI, if_neg (by omega), if_pos (by omega)]
  rw [e, cmI]
  by_cases h1 : d i < d m
  · rw [if_pos h1, decide_eq_true h1]; rfl
  · rw [if_neg h1, decide_eq_false h1]
    by_cases h2 : d m < d i
    · rw [if_pos h2]; rfl
    · rw [if_neg h2]; rfl
/-- The list in the midst of a round. -/
theorem ins_facts {r t : List Nat} {i j : Nat} (hr : r.length = i) (hj : j + 1 ≤ i) : (insD r i (j + 1) ++ t).getD (j + 1) 0 = i ∧ (insD r i (j + 1) ++ t).getD j 0 = r.getD j 0 ∧ ((insD r i (j + 1) ++ t).set (j + 1) (r.getD j 0)).set j i = insD r i j ++ t := by
  obtain ⟨A, B, e, hA⟩ := split_at (L := r) (p := j) (by omega)
  generalize r.getD j 0 = m at *
  have e1 : insD r i (j + 1) = A ++ m :: i :: B := by
    rw [insD, e, List.take_append, List.drop_append, List.take_of_length_le (by omega), List.drop_eq_nil_of_le (by omega), show j + 1 - A.length = 1 by omega]
    simp
  have e2 : insD r i j = A ++ i :: m :: B := by
    rw [insD, e, List.take_append, List.drop_append, List.take_of_length_le (by omega), List.drop_eq_nil_of_le (by omega), show j - A.length = 0 by omega]
    simp
  rw [e1, e2]
  subst hA
  refine ⟨?_, ?_, ?_⟩
  · rw [List.getD_eq_getElem?_getD, List.append_assoc, List.getElem?_append_right (by omega), show A.length + 1 - A.length = 1 by omega]; rfl
  · rw [List.getD_eq_getElem?_getD, List.append_assoc, List.getElem?_append_right (by omega), show A.length - A.length = 0 by omega]; rfl
  · rw [List.append_assoc, List.set_append_right _ _ (by omega), show A.length + 1 - A.length = 1 by omega, List.set_append_right _ _ (by omega), show A.length - A.length = 0 by omega, List.append_assoc]; rfl
theorem so_ok {m : Bool} {d : Nat → Int} {n c : Nat} (h1 : 1 ≤ n) (h9 : n ≤ 1000) : SmallRes Tryz.prog 79 [.slice (some ⟨0, 0, none⟩) n c, .int .i64 0, .int .i64 (n : Int), .func (.func 24) #[] #[]] [dzR m d (List.range n)] (.tuple #[]) [dzR m d (rk d n)] := by
  refine fnP_res hm c0_ok (hs := hsSo m d n c) ?_
  show fnP Tryz.prog c0 (hsSo m d n c) 79 _ _ _
  rw [so_t]
  have hlen : ∀ i j, j ≤ i → i < n → (insD (rk d i) i j ++ rst n (i + 1)).length = n := fun i j hj hi => by
    have := rk_len d i
    rw [insD, List.length_append, List.length_append, List.length_cons, List.length_take, List.length_drop, rst, List.length_range']; omega
  have hst : List.range n = rk d 1 ++ rst n 1 := by
    rw [rst]
    show List.range n = [0] ++ List.range' 1 (n - 1)
    rw [List.range_eq_range', show n = n - 1 + 1 by omega, List.range'_succ]; rfl
  refine ⟨⟨1, ⟨by omega, .inr rfl⟩, by (repeat' refine And.intro ?_ ?_) <;> first | exact rfl | trivial, by rw [← hst]⟩, fun i hi => br_of (fun hc => ?_) (fun hc => ?_)⟩
  · have hc := lt_of_dec hc
    have hi1 := hi.out.1
    refine ⟨i, ⟨i, ⟨⟨hi1, hc⟩, Nat.le_refl _, rfl⟩, by (repeat' refine And.intro ?_ ?_) <;> first | exact rfl | trivial, ?_⟩, fun j hj => br_of (fun hd => ?_) (fun hd => ?_)⟩
    · have hl := rk_len d i
      have e1 : insD (rk d i) i i = rk d i ++ [i] := by rw [insD, List.take_of_length_le (by omega), List.drop_eq_nil_of_le (by omega)]
      have e2 : rst n i = i :: rst n (i + 1) := by rw [rst, rst, show n - i = n - (i + 1) + 1 by omega, List.range'_succ]
      rw [e1, e2, List.append_assoc]; try rfl
    · obtain ⟨_, hj1, hj2⟩ := hj.out
      have hd := of_decide_eq_true hd
      obtain ⟨k, rfl⟩ : ∃ k, j = k + 1 := ⟨j - 1, by omega⟩
      have w : IntKind.wrap .i64 (((k + 1 : Nat) : Int) - 1) = (k : Int) := (wrap_eq (by omega) (by omega)).trans (by omega)
      have hL := hlen i (k + 1) hj1 hc
      obtain ⟨f1, f2, f3⟩ := ins_facts (r := rk d i) (t := rst n (i + 1)) (rk_len d i) hj1
      obtain ⟨a1, a2⟩ := dz_at d (L := insD (rk d i) i (k + 1) ++ rst n (i + 1)) (p := k + 1) (by omega)
      obtain ⟨b1, b2⟩ := dz_at d (L := insD (rk d i) i (k + 1) ++ rst n (i + 1)) (p := k) (by omega)
      have l1 := dz_ld d (L := insD (rk d i) i (k + 1) ++ rst n (i + 1)) (p := k + 1) (by omega)
      have l2 := dz_ld d (L := insD (rk d i) i (k + 1) ++ rst n (i + 1)) (p := k) (by omega)
      rw [f1] at a1 a2 l1
      rw [f2] at b1 b2 l2
      have hm : (rk d i).getD k 0 < i := rk_lt d i _ (by
        have : k < (rk d i).length := by rw [rk_len]; omega
        rw [List.getD_eq_getElem?_getD, List.getElem?_eq_getElem this]; exact List.getElem_mem _)
      simp only [w, Int.toNat_natCast, a1, a2, b1, b2]
      rw [cm_lt hm]
      refine ⟨⟨by omega, by omega⟩, ⟨l1⟩, ⟨by omega, by omega⟩, ⟨l2⟩, ⟨by trivial⟩, br_of (fun hq => ?_) (fun hq => ?_)⟩
      · have hq := of_decide_eq_true hq
        rw [dz_put d (by omega), dz_put d (by rw [List.length_set]; omega), f3]
        refine ⟨⟨by omega, by omega⟩, ⟨l2⟩, ⟨by omega, by omega⟩, ⟨l1⟩, ⟨by omega, by omega⟩, ⟨by rw [dz_len]; omega⟩, ⟨by omega, by omega⟩, ⟨by rw [dz_len, List.length_set]; omega⟩, k, ⟨⟨hi1, hc⟩, by omega, ?_⟩, ⟨by omega⟩, by (repeat' refine And.intro ?_ ?_) <;> first | exact rfl | trivial, rfl⟩
        rw [← hj2, ipos, if_pos hq]
      · have hq := of_decide_eq_false hq
        have e : ipos d (rk d i) i i = k + 1 := by rw [← hj2, ipos, if_neg hq]
        refine ⟨i + 1, ⟨by omega, .inl hc⟩, ⟨by omega⟩, by rw [up1 hc (by omega)]; ((repeat' refine And.intro ?_ ?_) <;> first | exact rfl | trivial), ?_⟩
        rw [rk, e]
    · obtain ⟨_, hj1, hj2⟩ := hj.out
      have hd := of_decide_eq_false hd
      have : j = 0 := by omega
      subst this
      have e : ipos d (rk d i) i i = 0 := by rw [← hj2, ipos]
      refine ⟨i + 1, ⟨by omega, .inl hc⟩, ⟨by omega⟩, by rw [up1 hc (by omega)]; ((repeat' refine And.intro ?_ ?_) <;> first | exact rfl | trivial), ?_⟩
      rw [rk, e]
  · have hc := ge_of_dec hc
    have : n = i := by
      have := hi.out.2; omega
    subst this
    refine ⟨rfl, ?_⟩
    rw [rst, Nat.sub_self]
    show [dzR m d (rk d n ++ [])] = _
    rw [List.append_nil]

end
end Qq
end
section
/- The list of the sections, as the program has them. -/
open Go Go.Vm Go.Proofs Sp
namespace Sp
open Qq
noncomputable section
/-- Cells of a section's lists, of few elements. -/
def secIs (n k : Nat) (e1 e2 : List Value) : Prop := ∃ (zs : List Int) (ks : List (Int × ByteArray)), e1 = ints zs ∧ e2 = acs ks ∧ zs.length = n * 2 ∧ ks.length = k ∧ n ≤ 1000 ∧ k ≤ 1000
end
end Sp
namespace Qq
noncomputable section
/-- The lists of n sections. -/
def lsT (l : Ls) (n : Nat) : Heap := (List.range n).flatMap fun i => [some (.row (ints (l.zs i)) 2 false false true), some (.row (acs (l.ks i)) 2 false false true)]
def lsG (l : Ls) (n : Nat) : Heap := lsR l n :: lsT l n
noncomputable def orcOwnG : OrcV
  | [.agg ⟨[.string nm, .slice (some ⟨0, 0, none⟩) n _, .slice (some ⟨1, 0, none⟩) k _]⟩], [some (.row e1 2 m1 w1 true), some (.row e2 2 m2 w2 true)] =>
    some (.agg #[.string nm, .slice (some ⟨2, 0, none⟩) n 0, .slice (some ⟨3, 0, none⟩) k 0], [some (.row e1 2 m1 w1 true), some (.row e2 2 m2 w2 true), some (.row e1 2 true true true), some (.row e2 2 true true true)], secIs n k e1 e2)
  | _, _ => none
theorem okOwnG : OkV Tryz.prog 6 orcOwnG := by
  intro args H ret H' vc h hv
  unfold orcOwnG at h
  split at h
  · cases h
    obtain ⟨zs, ks, rfl, rfl, h1, h2, h3, h4⟩ := hv
    exact own_ok h1 h2 h3 h4
  · cases h
end
end Qq
end
section
/- The reference's Ranked: what the loops keep. -/
open Go Go.Vm Go.Proofs Sp
namespace Sp
noncomputable section
noncomputable def nats (r : List Nat) : List Int := r.map fun m : Nat => (m : Int)
noncomputable def rkZ (d : Nat → Int) (n : Nat) : List Int := nats (rk d n)
end
end Sp
namespace Qq
noncomputable section
end
end Qq
end
section
/- The sort, told from the cells. -/
open Go Go.Vm Go.Proofs Sp
namespace Sp
noncomputable section
/-- The days in the cells; whether the cells are those of what is due, numbered from i on. -/
def dueDs : List Value → List Int
  | _ :: _ :: _ :: .int _ a :: _ :: r => a :: dueDs r
  | _ => []
def duesB : Nat → List Value → Bool
  | _, [] => true
  | i, p :: q :: s :: .int .i64 _ :: .int .i64 k :: r => isPoi p && isPoi q && isPoi s && k == (i : Int) && duesB (i + 1) r
  | _, _ => false
noncomputable def rkL (ds : List Int) (n : Nat) : List Nat := rk (fun i => ds.getD i 0) n
noncomputable def sN (ds : List Int) (n j : Nat) : Int := ((rkL ds n).getD j 0 : Nat)
noncomputable def sD (ds : List Int) (n j : Nat) : Int := ds.getD ((rkL ds n).getD j 0) 0
noncomputable def spCZ9 (ds : List Int) (n : Nat) : List Value := (List.range n).flatMap fun j => [poi, poi, poi, .int .i64 (sD ds n j), .int .i64 (sN ds n j)]
end
end Sp
namespace Qq
noncomputable section
def dzG : Nat → List Int → List Value
  | _, [] => []
  | i, a :: r => poi :: poi :: poi :: .int .i64 a :: .int .i64 (i : Int) :: dzG (i + 1) r
theorem dues_dz : ∀ (i : Nat) (cells : List Value), duesB i cells = true → cells = dzG i (dueDs cells)
  | _, [], _ => rfl
  | i, p :: q :: s :: .int .i64 a :: .int .i64 k :: r, h => by
    simp only [duesB, Bool.and_eq_true] at h
    obtain ⟨⟨⟨⟨h1, h2⟩, h3⟩, h4⟩, h5⟩ := h
    have h4 : k = (i : Int) := by simpa using h4
    rw [isPoi_eq h1, isPoi_eq h2, isPoi_eq h3, h4, dueDs, dzG, ← dues_dz (i + 1) r h5]
theorem dzG_len : ∀ (i : Nat) (ds : List Int), (dzG i ds).length = ds.length * 5
  | _, [] => rfl
  | i, a :: r => by rw [dzG]; simp only [List.length_cons]; rw [dzG_len (i + 1) r]; omega
theorem dzG_dz : ∀ (i : Nat) (ds : List Int), dzG i ds = dzC (fun m => ds.getD (m - i) 0) (List.range' i ds.length)
  | _, [] => rfl
  | i, a :: r => by
    rw [dzG, List.length_cons, List.range'_succ, dz_cons, dzG_dz (i + 1) r]
    have e : dzC (fun m => r.getD (m - (i + 1)) 0) (List.range' (i + 1) r.length) = dzC (fun m => (a :: r).getD (m - i) 0) (List.range' (i + 1) r.length) := by
      rw [dzC, dzC]
      rw [List.flatMap_def, List.flatMap_def]
      refine congrArg _ (List.map_congr_left fun m hm => ?_)
      have hm := (List.mem_range'_1.1 hm).1
      rw [show m - i = m - (i + 1) + 1 by omega, List.getD_cons_succ]
    rw [e, Nat.sub_self]; rfl
noncomputable def orcSoU : Orc
  | [.slice (some ⟨0, 0, none⟩) n _, .int .i64 lo, .int .i64 hi, .func (.func 24) xs us], [some (.row cells 5 m true false)] =>
    if (xs.toList.isEmpty && us.toList.isEmpty && lo == 0 && hi == (n : Int) && duesB 0 cells && Nat.beq cells.length (n * 5) && Nat.ble 1 n && Nat.ble n 1000) = true then some (.tuple #[], [some (.row (spCZ9 (dueDs cells) n) 5 m true false)]) else none
  | _, _ => none
theorem spC_eq {ds : List Int} {n : Nat} : spCZ9 ds n = dzC (fun i => ds.getD i 0) (rkL ds n) := by
  have hl : (rkL ds n).length = n := rk_len _ n
  have : rkL ds n = (List.range n).map fun j => (rkL ds n).getD j 0 := by
    apply List.ext_getElem
    · rw [List.length_map, List.length_range, hl]
    · intro i h1 h2
      rw [List.getElem_map, List.getElem_range, List.getD_eq_getElem?_getD, List.getElem?_eq_getElem h1]; rfl
  conv => rhs; rw [this]
  rw [dzC, List.flatMap_map, spCZ9]; rfl
theorem okSoU : Ok Tryz.prog 79 orcSoU := by
  intro args H ret H' h
  unfold orcSoU at h
  split at h
  · rename_i n c lo hi xs us cells m
    split at h
    · rename_i hc
      cases h
      simp only [Bool.and_eq_true] at hc
      obtain ⟨⟨⟨⟨⟨⟨⟨c1, c2⟩, c3⟩, c4⟩, c5⟩, c6⟩, c7⟩, c8⟩ := hc
      have c3 : lo = 0 := by simpa using c3
      have c4 : hi = (n : Int) := by simpa using c4
      have c6 := Nat.eq_of_beq_eq_true c6
      have c7 := Nat.le_of_ble_eq_true c7
      have c8 := Nat.le_of_ble_eq_true c8
      have e1 := dues_dz 0 cells c5
      have hn : (dueDs cells).length = n := by rw [e1, dzG_len] at c6; omega
      have e2 : cells = dzC (fun m => (dueDs cells).getD m 0) (List.range n) := by
        conv => lhs; rw [e1, dzG_dz, hn]
        rw [List.range_eq_range']; rfl
      have x1 : xs = #[] := by simpa using c1
      have u1 : us = #[] := by simpa using c2
      have := so_ok (m := m) (d := fun i => (dueDs cells).getD i 0) (c := c) c7 c8
      rw [spC_eq, c3, c4, x1, u1]
      rw [dzR, dzR, ← e2] at this
      exact this
    · cases h
  · cases h
end
end Qq
end
section
/- The program's Ranked, few sections. -/
open Go Go.Vm Go.Proofs Sp
namespace Qq
noncomputable section
/-- The integers, the acts in cells. -/
noncomputable def deI : List Value → List Int
  | .int .i64 x :: r => x :: deI r
  | _ => []
noncomputable def deA : List Value → List (Int × ByteArray)
  | .int .i64 x :: .string s :: r => (x, s) :: deA r
  | _ => []
theorem deI_ints : ∀ zs, deI (ints zs) = zs
  | [] => rfl
  | x :: r => congrArg (x :: ·) (deI_ints r)
theorem deA_acs : ∀ ks, deA (acs ks) = ks
  | [] => rfl
  | (x, s) :: r => congrArg ((x, s) :: ·) (deA_acs r)
end
end Qq
namespace Sp
open Qq
noncomputable section
noncomputable def ckC (nm : ByteArray) (n k : Nat) (e1 e2 : List Value) : Int := secE nm (deI e1) n (deA e2) k
noncomputable def rdC (n k : Nat) (p x : Int) (e1 e2 : List Value) : Int := rdE (deI e1) (deA e2) n k p x
noncomputable def rnC (n k : Nat) (p x : Int) (e1 e2 : List Value) : Int := rdN (deI e1) (deA e2) n k p x
noncomputable def isC (n k : Nat) (e1 e2 : List Value) : Prop := isSec (deI e1) (deA e2) n k e1 e2
noncomputable def ipC (n k : Nat) (p x : Int) (e1 e2 : List Value) : Prop := isPer (deI e1) (deA e2) n k p e1 e2 ∧ 0 ≤ x ∧ x ≤ 100000
end
end Sp
namespace Qq
noncomputable section
/-- The sections that the program has made. -/
def owC (l : Ls) (b n : Nat) : List Value := (List.range n).flatMap fun i => [.string (l.nm i), .slice (some ⟨b + 2 * i, 0, none⟩) (l.N i) 0, .slice (some ⟨b + 2 * i + 1, 0, none⟩) (l.K i) 0]
def owT (l : Ls) (n : Nat) : Heap := (List.range n).flatMap fun i => [some (.row (ints (l.zs i)) 2 true true true), some (.row (acs (l.ks i)) 2 true true true)]
def owR (l : Ls) (b n : Nat) : Option AObj := some (.row (owC l b n) 3 true true (Nat.beq n 0))
def owG (l : Ls) (n : Nat) : Heap := owR l 1 n :: owT l n
noncomputable def orcCkG : OrcV
  | [.agg ⟨[.string nm, .slice (some ⟨0, 0, none⟩) n _c, .slice (some ⟨1, 0, none⟩) k _d]⟩], [some (.row e1 2 m1 w1 true), some (.row e2 2 m2 w2 true)] => some (.int .i64 (ckC nm n k e1 e2), [some (.row e1 2 m1 w1 true), some (.row e2 2 m2 w2 true)], isC n k e1 e2)
  | _, _ => none
theorem okCkG : OkV Tryz.prog 19 orcCkG := by
  intro args H ret H' vc h hv
  unfold orcCkG at h
  split at h
  · cases h
    exact ck_okV _ _ _ _ _ _ _ rfl hv
  · cases h
noncomputable def orcReG : OrcV
  | [.agg ⟨[.string _nm, .slice (some ⟨0, 0, none⟩) n _c, .slice (some ⟨1, 0, none⟩) k _d]⟩, .int .i64 p, .int .i64 x], [some (.row e1 2 true true true), some (.row e2 2 true true true)] =>
    some (.tuple #[.int .i64 (gz (rdC n k p x e1 e2) (rnC n k p x e1 e2)), .int .i64 (rdC n k p x e1 e2)], [some (.row e1 2 true true true), some (.row e2 2 true true true)], ipC n k p x e1 e2)
  | _, _ => none
theorem okReG : OkV Tryz.prog 22 orcReG := by
  intro args H ret H' vc h hv
  unfold orcReG at h
  split at h
  · cases h
    exact rd_okV _ _ _ _ _ _ _ rfl hv
  · cases h
noncomputable def tRk : List (Nat × Orc) := (79, orcSoU) :: (21, orcDay) :: t1
noncomputable def cRk : CallF := ctx Tryz.prog tRk
theorem cRk_ok : CallOK Tryz.prog cRk := ctx_ok hm (all_cons okSoU (all_cons okIdxP (all_cons okWhen (all_cons okFirst all_nil))))
/-- What is due, so far. -/
def duC (l : Ls) (x : Int) (n : Nat) : List Value := (List.range n).flatMap fun j => [poi, poi, poi, .int .i64 (dI l x j), .int .i64 (j : Int)]
noncomputable def lpRk (l : Ls) (x : Int) (n i : Nat) : Lp where
  σ := Unit
  E _ := slots 82 [(0, .slice (some ⟨0, 0, none⟩) n 0), (1, .int .i64 x), (11, match i with | 0 => .slice none 0 0 | i + 1 => .slice (some ⟨2 * n + 1, 0, none⟩) (i + 1) 0), (14, .pointer (some ⟨match i with | 0 => 2 * n + 1 | _ + 1 => 2 * n + 2, 0, none⟩)), (48, .slice (some ⟨0, 0, none⟩) n 0), (49, .int .i64 (n : Int)), (50, .int .i64 (i : Int))]
  Hp _ := owG l n ++ (match i with | 0 => [] | i + 1 => [some (.row (duC l x (i + 1)) 5 true true false)]) ++ [some (.row [poi, poi, poi, .int .i64 (dI l x i), .int .i64 (i : Int)] 0 false true false)]
  I _ := True
  m _ := 0
noncomputable def hsRk (l : Ls) (x : Int) (n : Nat) : Hs Tryz.prog where
  op y := if y = 705 then some (hMl Tryz.prog) else if y = 1003 then some (hMu Tryz.prog) else none
  cx y env := if y = 23 then match gt env 50 with | .int _ i => some ⟨Unit, fun _ => lpRk l x n i.toNat⟩ | _ => none else none
  cl y := if y = 23 then keep 82 [0, 1, 11, 14, 48, 49, 50] else []
  nl y := if y = 23 then [.dul (2 * n + 1) 5 3, .dul (2 * n + 2) 5 3] else [.stay]
  rn := [.only (.slot 0 1)]
  sm := true
  au := auCalls [(19, hCa Tryz.prog 19 orcCkG okCkG), (22, hCa Tryz.prog 22 orcReG okReG)]
noncomputable def cRk0 : CallF := ctx Tryz.prog ((21, orcDay) :: t1)
theorem cRk0_ok : CallOK Tryz.prog cRk0 := ctx_ok hm (all_cons okIdxP (all_cons okWhen (all_cons okFirst all_nil)))
end
end Qq
end
section
/- The reference's CheckSections, of any list. -/
open Go Go.Vm Go.Proofs Sp
namespace Sp
noncomputable section
noncomputable def scE (l : Ls) (i : Nat) : Int := secE (l.nm i) (l.zs i) (l.N i) (l.ks i) (l.K i)
noncomputable def nmAt (l : Ls) (off : Nat) : Value := .string (l.nm (off / 3))
/-- Whether one of the first k has the name of the i-th. -/
noncomputable def dupB (l : Ls) (i : Nat) : Nat → Bool
  | 0 => false
  | k + 1 => dupB l i k || (l.nm k).toList == (l.nm i).toList
noncomputable def csI (l : Ls) (i : Nat) : Int := if scE l i = 0 then (if dupB l i i = true then 9 else 0) else scE l i
noncomputable def csA (l : Ls) : Nat → Int
  | 0 => 0
  | n + 1 => if csA l n = 0 then csI l n else csA l n
noncomputable def csE (l : Ls) (n : Nat) : Int := if (32 : Int) < n then 5 else csA l n
end
end Sp
namespace Qq
noncomputable section
/-- Sections of few measurements. -/
def okLt (l : Ls) (n : Nat) : Prop := ∀ i, i < n → (l.zs i).length = l.N i * 2 ∧ (l.ks i).length = l.K i ∧ l.N i ≤ 1000 ∧ l.K i ≤ 1000
noncomputable def selCk (l : Ls) : Sel := selS (fun i => .int .i64 (scE l i)) noMore (fun i _ => (l.zs i).length = l.N i * 2 ∧ (l.ks i).length = l.K i ∧ l.N i ≤ 1000 ∧ l.K i ≤ 1000) l
theorem noMore_nil {t t' : List Value} (ht : noMore t = some t') : t' = [] := by
  unfold noMore at ht
  split at ht
  · cases ht; rfl
  · cases ht
theorem selCk_ok (l : Ls) : ∀ ar ids a0 H0 ret vc, selCk l ar = some (ids, a0, H0, ret, vc) → vc → SmallRes Tryz.prog 45 a0 H0 ret H0 := by
  intro ar ids a0 H0 ret vc h hv
  unfold selCk selS at h
  split at h
  · rename_i nm j n c k m d t
    split at h
    · rename_i t' ht
      cases h
      cases noMore_nil ht
      obtain ⟨⟨rfl, rfl, rfl⟩, h1, h2, h3, h4⟩ := hv
      exact ckR_okV (l.zs ((j - 1) / 2)) (l.ks ((j - 1) / 2)) _ _ _ _ _ rfl ⟨rfl, rfl, h1, h2, h3, h4⟩
    · cases h
  · cases h
noncomputable def lpCs (l : Ls) (n c : Nat) (T : Heap) : Lp where
  σ := Nat
  E s := slots 39 [(0, .slice (some ⟨0, 0, none⟩) n c), (3, .int .i64 (s : Int))]
  Hp _ := lsR l n :: T
  I s := s ≤ n ∧ csA l s = 0
  m s := n - s
noncomputable def lpCi (l : Ls) (n c : Nat) (T : Heap) (i : Nat) : Lp where
  σ := Nat
  E s := slots 39 [(0, .slice (some ⟨0, 0, none⟩) n c), (3, .int .i64 (i : Int)), (5, .int .i64 (s : Int))]
  Hp _ := lsR l n :: T
  I s := (i < n ∧ csA l i = 0) ∧ scE l i = 0 ∧ s ≤ i ∧ dupB l i s = false
  m s := n - s
noncomputable def hsCs (l : Ls) (n c : Nat) (T : Heap) : Hs Tryz.prog where
  op y := if [602, 1202, 1207].contains y then some (hIa Tryz.prog) else if y = 603 then some (hLd Tryz.prog (secAt l)) else if y = 604 then some (hCi Tryz.prog 45 (selCk l) (selCk_ok l)) else if [1204, 1209].contains y then some (hLd Tryz.prog (nmAt l)) else none
  lp y := if y = 4 then some (lpCs l n c T) else none
  lq y := if y = 10 then some ⟨Nat, lpCi l n c T⟩ else none
  cl y := if y = 10 then keep 39 [0, 3, 5] else keep 39 [0, 3]
  nl _ := [.stay]
  rn := [.stay]
  au := au0 Tryz.prog
theorem csL_t (l : Ls) (n : Nat) (c : Nat) (T : Heap) (K : Value → Heap → Prop) :
    (fnP Tryz.prog c0 (hsCs l n c T) (15 : FuncId) [Value.slice (some { block := (0 : Nat), off := (0 : Nat) }) n c] (lsR l n :: T) K) =
    (br (decide ((32 : Int) < (n : Int))) (K (Value.int .i64 5) (some (AObj.row (lsC l n) 3 false false false) :: T)) ((∃ (s : Nat), Is (s ≤ n ∧ csA l s = (0 : Int)) ∧ [Value.slice (some ⟨0, 0, none⟩) n c, poi, poi, Value.int .i64 0, poi, poi, poi, poi, poi, poi, poi, poi, poi, poi, poi, poi, poi, poi, poi, poi, poi, poi, poi, poi, poi, poi, poi, poi, poi, poi, poi, poi, poi, poi, poi, poi, poi, poi, poi] = [Value.slice (some ⟨0, 0, none⟩) n c, poi, poi, Value.int .i64 (s : Int), poi, poi, poi, poi, poi, poi, poi, poi, poi, poi, poi, poi, poi, poi, poi, poi, poi, poi, poi, poi, poi, poi, poi, poi, poi, poi, poi, poi, poi, poi, poi, poi, poi, poi, poi] ∧ some (AObj.row (lsC l n) 3 false false false) :: T = some (AObj.row (lsC l n) 3 false false false) :: T) ∧ ∀ (s : Nat), Is (s ≤ n ∧ csA l s = (0 : Int)) → br (decide ((s : Int) < (n : Int))) (Is ((0 : Int) ≤ (s : Int) ∧ (s : Int) < (n : Int)) ∧ Is ((if 0 + Int.toNat (s : Int) * 3 + 3 ≤ List.length (lsC l n) then some (Value.agg (List.toArray (List.take 3 (List.drop (0 + Int.toNat (s : Int) * 3) (lsC l n))))) else none) = some (Value.agg #[Value.string (Ls.nm l ((0 + Int.toNat (s : Int) * 3) / 3)), Value.slice (some { block := 1 + 2 * ((0 + Int.toNat (s : Int) * 3) / 3), off := 0 }) (Ls.N l ((0 + Int.toNat (s : Int) * 3) / 3)) 18446744073709551616, Value.slice (some { block := 2 + 2 * ((0 + Int.toNat (s : Int) * 3) / 3), off := 0 }) (Ls.K l ((0 + Int.toNat (s : Int) * 3) / 3)) 18446744073709551616])) ∧ Is (CiOK (some (AObj.row (lsC l n) 3 false false false) :: T) [Value.agg #[Value.string (Ls.nm l ((0 + Int.toNat (s : Int) * 3) / 3)), Value.slice (some { block := 1 + 2 * ((0 + Int.toNat (s : Int) * 3) / 3), off := 0 }) (Ls.N l ((0 + Int.toNat (s : Int) * 3) / 3)) 18446744073709551616, Value.slice (some { block := 2 + 2 * ((0 + Int.toNat (s : Int) * 3) / 3), off := 0 }) (Ls.K l ((0 + Int.toNat (s : Int) * 3) / 3)) 18446744073709551616]] [1 + 2 * ((0 + Int.toNat (s : Int) * 3) / 3), 2 + 2 * ((0 + Int.toNat (s : Int) * 3) / 3)] [Value.agg #[Value.string (Ls.nm l ((0 + Int.toNat (s : Int) * 3) / 3)), Value.slice (some ⟨0, 0, none⟩) (Ls.N l ((0 + Int.toNat (s : Int) * 3) / 3)) 18446744073709551616, Value.slice (some ⟨1, 0, none⟩) (Ls.K l ((0 + Int.toNat (s : Int) * 3) / 3)) 18446744073709551616]] (some (AObj.row (ints (Ls.zs l ((1 + 2 * ((0 + Int.toNat (s : Int) * 3) / 3) - 1) / 2))) 2 false false true) :: some (AObj.row (acs (Ls.ks l ((1 + 2 * ((0 + Int.toNat (s : Int) * 3) / 3) - 1) / 2))) 2 false false true) :: noH) (Value.int .i64 (scE l ((1 + 2 * ((0 + Int.toNat (s : Int) * 3) / 3) - 1) / 2))) ∧ (Ls.nm l ((0 + Int.toNat (s : Int) * 3) / 3) = Ls.nm l ((1 + 2 * ((0 + Int.toNat (s : Int) * 3) / 3) - 1) / 2) ∧ Ls.N l ((0 + Int.toNat (s : Int) * 3) / 3) = Ls.N l ((1 + 2 * ((0 + Int.toNat (s : Int) * 3) / 3) - 1) / 2) ∧ Ls.K l ((0 + Int.toNat (s : Int) * 3) / 3) = Ls.K l ((1 + 2 * ((0 + Int.toNat (s : Int) * 3) / 3) - 1) / 2)) ∧ List.length (Ls.zs l ((1 + 2 * ((0 + Int.toNat (s : Int) * 3) / 3) - 1) / 2)) = Ls.N l ((1 + 2 * ((0 + Int.toNat (s : Int) * 3) / 3) - 1) / 2) * 2 ∧ List.length (Ls.ks l ((1 + 2 * ((0 + Int.toNat (s : Int) * 3) / 3) - 1) / 2)) = Ls.K l ((1 + 2 * ((0 + Int.toNat (s : Int) * 3) / 3) - 1) / 2) ∧ Ls.N l ((1 + 2 * ((0 + Int.toNat (s : Int) * 3) / 3) - 1) / 2) ≤ 1000 ∧ Ls.K l ((1 + 2 * ((0 + Int.toNat (s : Int) * 3) / 3) - 1) / 2) ≤ 1000) ∧ br (scE l ((1 + 2 * ((0 + Int.toNat (s : Int) * 3) / 3) - 1) / 2) != (0 : Int)) (K (Value.int .i64 (scE l ((1 + 2 * ((0 + Int.toNat (s : Int) * 3) / 3) - 1) / 2))) (some (AObj.row (lsC l n) 3 false false false) :: T)) (∃ (p : Nat), (∃ (s_1 : Nat), Is ((p < n ∧ csA l p = (0 : Int)) ∧ scE l p = (0 : Int) ∧ s_1 ≤ p ∧ dupB l p s_1 = false) ∧ [Value.slice (some ⟨0, 0, none⟩) n c, poi, poi, Value.int .i64 (s : Int), poi, Value.int .i64 0, poi, poi, poi, poi, poi, poi, poi, poi, poi, poi, poi, poi, poi, poi, poi, poi, poi, poi, poi, poi, poi, poi, poi, poi, poi, poi, poi, poi, poi, poi, poi, poi, poi] = [Value.slice (some ⟨0, 0, none⟩) n c, poi, poi, Value.int .i64 (p : Int), poi, Value.int .i64 (s_1 : Int), poi, poi, poi, poi, poi, poi, poi, poi, poi, poi, poi, poi, poi, poi, poi, poi, poi, poi, poi, poi, poi, poi, poi, poi, poi, poi, poi, poi, poi, poi, poi, poi, poi] ∧ some (AObj.row (lsC l n) 3 false false false) :: T = some (AObj.row (lsC l n) 3 false false false) :: T) ∧ ∀ (s_1 : Nat), Is ((p < n ∧ csA l p = (0 : Int)) ∧ scE l p = (0 : Int) ∧ s_1 ≤ p ∧ dupB l p s_1 = false) → br (decide ((s_1 : Int) < (p : Int))) (Is ((0 : Int) ≤ (s_1 : Int) ∧ (s_1 : Int) < (n : Int)) ∧ Is ((lsC l n)[0 + Int.toNat (s_1 : Int) * 3 + 0]? = some (Value.string (Ls.nm l ((0 + Int.toNat (s_1 : Int) * 3 + 0) / 3)))) ∧ Is ((0 : Int) ≤ (p : Int) ∧ (p : Int) < (n : Int)) ∧ Is ((lsC l n)[0 + Int.toNat (p : Int) * 3 + 0]? = some (Value.string (Ls.nm l ((0 + Int.toNat (p : Int) * 3 + 0) / 3)))) ∧ br (ByteArray.toList (Ls.nm l ((0 + Int.toNat (s_1 : Int) * 3 + 0) / 3)) == ByteArray.toList (Ls.nm l ((0 + Int.toNat (p : Int) * 3 + 0) / 3))) (K (Value.int .i64 9) (some (AObj.row (lsC l n) 3 false false false) :: T)) (∃ (s' : Nat), Is ((p < n ∧ csA l p = (0 : Int)) ∧ scE l p = (0 : Int) ∧ s' ≤ p ∧ dupB l p s' = false) ∧ Is (n - s' < n - s_1) ∧ [Value.slice (some ⟨0, 0, none⟩) n c, poi, poi, Value.int .i64 (p : Int), poi, Value.int .i64 (IntKind.wrap .i64 ((s_1 : Int) + (1 : Int))), poi, poi, poi, poi, poi, poi, poi, poi, poi, poi, poi, poi, poi, poi, poi, poi, poi, poi, poi, poi, poi, poi, poi, poi, poi, poi, poi, poi, poi, poi, poi, poi, poi] = [Value.slice (some ⟨0, 0, none⟩) n c, poi, poi, Value.int .i64 (p : Int), poi, Value.int .i64 (↑s' : Int), poi, poi, poi, poi, poi, poi, poi, poi, poi, poi, poi, poi, poi, poi, poi, poi, poi, poi, poi, poi, poi, poi, poi, poi, poi, poi, poi, poi, poi, poi, poi, poi, poi] ∧ some (AObj.row (lsC l n) 3 false false false) :: T = some (AObj.row (lsC l n) 3 false false false) :: T)) (∃ (s' : Nat), Is (s' ≤ n ∧ csA l s' = (0 : Int)) ∧ Is (n - s' < n - s) ∧ [Value.slice (some ⟨0, 0, none⟩) n c, poi, poi, Value.int .i64 (IntKind.wrap .i64 ((p : Int) + (1 : Int))), poi, poi, poi, poi, poi, poi, poi, poi, poi, poi, poi, poi, poi, poi, poi, poi, poi, poi, poi, poi, poi, poi, poi, poi, poi, poi, poi, poi, poi, poi, poi, poi, poi, poi, poi] = [Value.slice (some ⟨0, 0, none⟩) n c, poi, poi, Value.int .i64 (↑s' : Int), poi, poi, poi, poi, poi, poi, poi, poi, poi, poi, poi, poi, poi, poi, poi, poi, poi, poi, poi, poi, poi, poi, poi, poi, poi, poi, poi, poi, poi, poi, poi, poi, poi, poi, poi] ∧ some (AObj.row (lsC l n) 3 false false false) :: T = some (AObj.row (lsC l n) 3 false false false) :: T))) (K (Value.int .i64 0) (some (AObj.row (lsC l n) 3 false false false) :: T)))) := by kernel_rfl
theorem e4 (s : Nat) : (0 + s * 3 + 0) / 3 = s := by omega
theorem nm_ld (l : Ls) {s n : Nat} (h : s < n) : (lsC l n)[0 + s * 3 + 0]? = some (.string (l.nm s)) := by
  have e := lsC_part l h
  have : (((lsC l n).drop (s * 3)).take 3)[0]? = some (.string (l.nm s)) := by rw [e]; rfl
  rw [List.getElem?_take_of_lt (by decide), List.getElem?_drop] at this
  rw [show 0 + s * 3 + 0 = s * 3 + 0 by omega]; exact this
theorem dup_le {l : Ls} {i k : Nat} (h : dupB l i k = true) : ∀ {m : Nat}, k ≤ m → dupB l i m = true
  | 0, hm => by have : k = 0 := by omega
                rw [this] at h; exact h
  | m + 1, hm => by
    by_cases e : k = m + 1
    · rw [← e]; exact h
    · rw [dupB, dup_le h (m := m) (by omega), Bool.true_or]
theorem csA_stop {l : Ls} {i : Nat} (h0 : csA l i = 0) (hi : csI l i ≠ 0) : ∀ {n : Nat}, i < n → csA l n = csI l i
  | n + 1, h => by
    rw [csA]
    by_cases e : i = n
    · subst e; rw [if_pos h0]
    · have := csA_stop h0 hi (n := n) (by omega)
      rw [if_neg (by rw [this]; exact hi), this]
theorem cs_ok {l : Ls} {n c : Nat} {T : Heap} (h : lsIn l n T) (hl : okLt l n) : SmallRes Tryz.prog 15 [.slice (some ⟨0, 0, none⟩) n c] (lsR l n :: T) (.int .i64 (csE l n)) (lsR l n :: T) := by
  refine fnP_res hm c0_ok (hs := hsCs l n c T) ?_
  show fnP Tryz.prog c0 (hsCs l n c T) 15 _ _ _
  rw [csL_t]
  refine br_of (fun h0 => ⟨by rw [csE, if_pos (of_decide_eq_true h0)], rfl⟩) (fun h0 => ?_)
  have h0 := of_decide_eq_false h0
  have e0 : csE l n = csA l n := by rw [csE, if_neg h0]
  rw [e0]
  refine ⟨⟨(0 : Nat), ⟨Nat.zero_le _, rfl⟩, by first | trivial | rfl, by first | trivial | rfl⟩, fun s hs => br_of (fun hc => ?_) (fun hc => ?_)⟩
  · have hc := lt_of_dec hc
    have hA := hs.out.2
    simp only [Int.toNat_natCast, e3, e2, e4]
    obtain ⟨h1, h2, h3, h4⟩ := hl s hc
    refine ⟨⟨by omega, by omega⟩, ⟨lsC_ld l hc⟩, ⟨sec_ci h hc (by simp) rfl, ⟨by trivial, by trivial, by trivial⟩, h1, h2, h3, h4⟩, br_of (fun hb => ?_) (fun hb => ?_)⟩
    · have hb : scE l s ≠ 0 := by simpa using hb
      have e1 : csI l s = scE l s := by rw [csI, if_neg hb]
      exact ⟨by rw [csA_stop hA (by rw [e1]; exact hb) hc, e1], by first | trivial | rfl⟩
    · have hb : scE l s = 0 := by simpa using hb
      refine ⟨s, ⟨(0 : Nat), ⟨⟨hc, hA⟩, hb, Nat.zero_le _, rfl⟩, by first | trivial | rfl, by first | trivial | rfl⟩, fun k hk => br_of (fun hd => ?_) (fun hd => ?_)⟩
      · have hd := lt_of_dec hd
        obtain ⟨_, _, k3, k4⟩ := hk.out
        refine ⟨⟨by omega, by omega⟩, ⟨nm_ld l (by omega)⟩, ⟨by omega, by omega⟩, ⟨nm_ld l hc⟩, br_of (fun he => ?_) (fun he => ?_)⟩
        · have hd1 : dupB l s s = true := dup_le (k := k + 1) (by rw [dupB, he, Bool.or_true]) (by omega)
          have e1 : csI l s = 9 := by rw [csI, if_pos hb, if_pos hd1]
          exact ⟨by rw [csA_stop hA (by rw [e1]; decide) hc, e1], by first | trivial | rfl⟩
        · exact ⟨k + 1, ⟨⟨hc, hA⟩, hb, by omega, by rw [dupB, k4, he]; rfl⟩, ⟨by omega⟩, by rw [up1 hd (by omega)], by first | trivial | rfl⟩
      · have hd := ge_of_dec hd
        obtain ⟨_, _, k3, k4⟩ := hk.out
        have : s = k := by omega
        subst this
        have e1 : csI l s = 0 := by rw [csI, if_pos hb, if_neg (by rw [k4]; decide)]
        exact ⟨s + 1, ⟨by omega, by rw [csA, if_pos hA, e1]⟩, ⟨by omega⟩, by rw [up1 hc (by omega)], by first | trivial | rfl⟩
  · have hc := ge_of_dec hc
    have : n = s := by have := hs.out.1; omega
    subst this
    exact ⟨by rw [hs.out.2], by first | trivial | rfl⟩

end
end Qq
end
section
/- Ranked: plain facts. -/
open Go Go.Vm Go.Proofs Sp
namespace Sp
open Qq
noncomputable section
noncomputable def rkE (l : Ls) (n : Nat) (x : Int) : Int := if csA l n = 0 then wi x 0 100000 else csA l n
noncomputable def rkM (l : Ls) (n : Nat) (x : Int) : Nat := if rkE l n x = 0 then n else 0
noncomputable def resI (l : Ls) (x : Int) (n : Nat) : List Int := (List.range n).map fun j => sN ((List.range n).map (dI l x)) n j
noncomputable def rkI (l : Ls) (n : Nat) (x : Int) : List Int := if rkE l n x = 0 then resI l x n else []
end
end Sp
namespace Qq
noncomputable section
/-- The names that are known. -/
def kn (l : Ls) (i : Nat) : List (ByteArray × Value) := (List.range i).map fun j => (l.nm j, .bool true)
theorem hasK_app (s : ByteArray) : ∀ a b, hasK s (a ++ b) = (hasK s a || hasK s b)
  | [], b => rfl
  | p :: r, b => by rw [List.cons_append, hasK, hasK, hasK_app s r b, Bool.or_assoc]
theorem bytes_comm (a b : ByteArray) : (a == b) = (b.toList == a.toList) := by
  rw [beq_toListBytes]
  exact Bool.eq_iff_iff.2 ⟨fun h => by rw [beq_iff_eq] at h ⊢; exact h.symm, fun h => by rw [beq_iff_eq] at h ⊢; exact h.symm⟩
theorem hasK_kn (l : Ls) (i : Nat) : ∀ k, hasK (l.nm i) (kn l k) = dupB l i k
  | 0 => rfl
  | k + 1 => by
    rw [kn, List.range_succ, List.map_append, hasK_app, dupB]
    have := hasK_kn l i k
    rw [kn] at this
    rw [this]
    show (_ || hasK (l.nm i) [(l.nm k, .bool true)]) = _
    rw [hasK, hasK, Bool.or_false, bytes_comm]
noncomputable def ckF (l : Ls) (i : Nat) : Int := fi [ckC (l.nm i) (l.N i) (l.K i) (ints (l.zs i)) (acs (l.ks i)), wh (hasK (l.nm i) (kn l i)) 9]
theorem ckF_eq (l : Ls) (i : Nat) : ckF l i = csI l i := by
  rw [ckF, ckC, deI_ints, deA_acs, hasK_kn, csI]
  show fi [scE l i, _] = _
  rw [fi, fi, fi, wh]
  cases dupB l i i
  · by_cases h : scE l i = 0
    · rw [if_pos h, if_pos h]; rfl
    · rw [if_neg h, if_neg h]
  · by_cases h : scE l i = 0
    · rw [if_pos h, if_pos h]; rfl
    · rw [if_neg h, if_neg h]
theorem is_of {l : Ls} {n : Nat} (i : Nat) (hl : okLt l n) (h : i < n) : isC (l.N i) (l.K i) (ints (l.zs i)) (acs (l.ks i)) := by
  obtain ⟨h1, h2, h3, h4⟩ := hl i h
  rw [isC, deI_ints, deA_acs]
  exact ⟨rfl, rfl, h1, h2, h3, h4⟩
theorem rk_bad {l : Ls} {n : Nat} {x : Int} (i : Nat) (h0 : csA l i = 0) (hi : i < n) (h : (ckF l i != 0) = true) : rkE l n x = ckF l i ∧ rkM l n x = 0 ∧ rkI l n x = [] := by
  have h : ckF l i ≠ 0 := by simpa using h
  have hc : csI l i ≠ 0 := by rw [← ckF_eq]; exact h
  have e : rkE l n x = ckF l i := by
    rw [rkE, csA_stop h0 hc hi, if_neg hc, ckF_eq]
  refine ⟨e, ?_, ?_⟩
  · rw [rkM, e, if_neg h]
  · rw [rkI, e, if_neg h]
theorem rk_on {l : Ls} (i : Nat) (h0 : csA l i = 0) (h : (ckF l i != 0) = false) : hasK (l.nm i) (kn l i) = false ∧ csA l (i + 1) = 0 ∧ scE l i = 0 := by
  have h : csI l i = 0 := by rw [← ckF_eq]; simpa using h
  have h1 : scE l i = 0 := by
    rw [csI] at h
    by_cases e : scE l i = 0
    · exact e
    · rw [if_neg e] at h; exact absurd h e
  have h2 : dupB l i i = false := by
    rw [csI, if_pos h1] at h
    cases e : dupB l i i
    · rfl
    · rw [e] at h; simp at h
  exact ⟨by rw [hasK_kn]; exact h2, by rw [csA, if_pos h0]; exact h, h1⟩
theorem rk_lim {l : Ls} {n : Nat} {x : Int} (h0 : csA l n = 0) (h : (wi x 0 100000 != 0) = true) : rkE l n x = wi x 0 100000 ∧ rkM l n x = 0 ∧ rkI l n x = [] := by
  have h : wi x 0 100000 ≠ 0 := by simpa using h
  have e : rkE l n x = wi x 0 100000 := by rw [rkE, if_pos h0]
  refine ⟨e, ?_, ?_⟩
  · rw [rkM, e, if_neg h]
  · rw [rkI, e, if_neg h]
theorem rk_fin {l : Ls} {n : Nat} {x : Int} (h0 : csA l n = 0) (h : (wi x 0 100000 != 0) = false) : rkE l n x = 0 ∧ rkM l n x = n ∧ rkI l n x = resI l x n := by
  have h : wi x 0 100000 = 0 := by simpa using h
  have e : rkE l n x = 0 := by rw [rkE, if_pos h0, h]
  refine ⟨e, ?_, ?_⟩
  · rw [rkM, e, if_pos rfl]
  · rw [rkI, e, if_pos rfl]
theorem lim_in {x : Int} (h : (wi x 0 100000 != 0) = false) : 0 ≤ x ∧ x ≤ 100000 := by
  have h : wi x 0 100000 = 0 := by simpa using h
  rw [wi] at h
  split at h
  · cases h
  · omega
theorem sec_zero {nm : ByteArray} {zs : List Int} {n : Nat} {ks : List (Int × ByteArray)} {k : Nat} (h : secE nm zs n ks k = 0) : mchk zs (-1) = 0 ∧ achk ks (-1) = 0 ∧ n ≤ 32 := by
  rw [secE, sel_zero, sel_zero, sel_zero] at h
  obtain ⟨h1, h2, h3, h4⟩ := h
  refine ⟨h2, h4, ?_⟩
  rw [fi, fi, fi] at h1
  by_cases e : wh (!nameB nm) 8 = 0
  · rw [if_pos e] at h1
    by_cases e2 : wh (decide ((32 : Int) < n)) 5 = 0
    · rw [wh] at e2
      by_cases e3 : (32 : Int) < n
      · rw [decide_eq_true e3] at e2; cases e2
      · omega
    · rw [if_neg e2] at h1; exact absurd h1 e2
  · rw [if_neg e] at h1; exact absurd h1 e
theorem okP_of {l : Ls} {n : Nat} (i : Nat) (hl : okLt l n) (hi : i < n) (h : scE l i = 0) : isPer (l.zs i) (l.ks i) (l.N i) (l.K i) (l.K i : Int) (ints (l.zs i)) (acs (l.ks i)) := by
  obtain ⟨h1, h2, h3⟩ := sec_zero h
  obtain ⟨k1, k2, k3, k4⟩ := hl i hi
  exact ⟨⟨rfl, rfl, k1, k2, k3, k4⟩, h1, h2, h3, by omega, Int.le_refl _⟩
theorem ip_of {l : Ls} {n : Nat} {x : Int} (i : Nat) (hl : okLt l n) (hi : i < n) (h : scE l i = 0) (hx : 0 ≤ x ∧ x ≤ 100000) : ipC (l.N i) (l.K i) (l.K i : Int) x (ints (l.zs i)) (acs (l.ks i)) := by
  rw [ipC, deI_ints, deA_acs]
  exact ⟨okP_of i hl hi h, hx.1, hx.2⟩
theorem dI_yes {l : Ls} {x : Int} (i : Nat) (h : (rdC (l.N i) (l.K i) (l.K i : Int) x (ints (l.zs i)) (acs (l.ks i)) == 0) = true) :
    dI l x i = gz (rdC (l.N i) (l.K i) (l.K i : Int) x (ints (l.zs i)) (acs (l.ks i))) (rnC (l.N i) (l.K i) (l.K i : Int) x (ints (l.zs i)) (acs (l.ks i))) := by
  have h : rdC (l.N i) (l.K i) (l.K i : Int) x (ints (l.zs i)) (acs (l.ks i)) = 0 := by simpa using h
  rw [gz, if_pos h, dI, duN, rnC]
  rw [rdC, deI_ints, deA_acs] at h
  rw [deI_ints, deA_acs, if_pos h]
theorem dI_no {l : Ls} {x : Int} (i : Nat) (h : (rdC (l.N i) (l.K i) (l.K i : Int) x (ints (l.zs i)) (acs (l.ks i)) == 0) = false) : dI l x i = 100001 := by
  have h : rdC (l.N i) (l.K i) (l.K i : Int) x (ints (l.zs i)) (acs (l.ks i)) ≠ 0 := by simpa using h
  rw [dI, duN]
  rw [rdC, deI_ints, deA_acs] at h
  rw [if_neg h]
end
end Qq
end
section
/- Ranked: both ways of sorting answer alike. -/
open Go Go.Vm Go.Proofs Sp
namespace Qq
noncomputable section
theorem ipos_congr {d e : Nat → Int} {r : List Nat} {i n : Nat} (h : ∀ m, m < n → d m = e m) (hi : i < n) (hr : ∀ m ∈ r, m < n) (h0 : 0 < n) : ∀ k, ipos d r i k = ipos e r i k
  | 0 => rfl
  | k + 1 => by
    have hm : r.getD k 0 < n := by
      rw [List.getD_eq_getElem?_getD]
      cases hg : r[k]? with
      | none => exact h0
      | some v => exact hr v (List.mem_of_getElem? hg)
    rw [ipos, ipos, h i hi, h _ hm, ipos_congr h hi hr h0 k]
theorem rk_congr {d e : Nat → Int} : ∀ {n : Nat}, (∀ m, m < n → d m = e m) → rk d n = rk e n
  | 0, _ => rfl
  | n + 1, h => by
    have ih := rk_congr (d := d) (e := e) (n := n) fun m hm => h m (by omega)
    rw [rk, rk, ih, ipos_congr (d := d) (e := e) h (by omega) (fun m hm => by have := rk_lt e n m hm; omega) (by omega)]
theorem res_eq (l : Ls) (x : Int) (n : Nat) : resI l x n = rkZ (dI l x) n := by
  have e : rkL ((List.range n).map (dI l x)) n = rk (dI l x) n := by
    refine rk_congr fun m hm => ?_
    rw [List.getD_eq_getElem?_getD, List.getElem?_map, List.getElem?_range hm]; rfl
  rw [resI, rkZ, nats]
  apply List.ext_getElem
  · rw [List.length_map, List.length_range, List.length_map, rk_len]
  · intro j h1 h2
    have h3 : j < (rk (dI l x) n).length := by rw [List.length_map] at h2; exact h2
    rw [List.getElem_map, List.getElem_map, List.getElem_range, sN, e, List.getD_eq_getElem?_getD, List.getElem?_eq_getElem h3]; rfl
theorem csA_all {l : Ls} : ∀ {n : Nat}, csA l n = 0 → ∀ i, i < n → csI l i = 0
  | 0, _, i, hi => by omega
  | n + 1, h, i, hi => by
    rw [csA] at h
    by_cases e : csA l n = 0
    · rw [if_pos e] at h
      by_cases e2 : i = n
      · subst e2; exact h
      · exact csA_all e i (by omega)
    · rw [if_neg e] at h; exact absurd h e
theorem sE_of {l : Ls} {i : Nat} (h : csI l i = 0) : scE l i = 0 := by
  rw [csI] at h
  by_cases e : scE l i = 0
  · exact e
  · rw [if_neg e] at h; exact absurd h e
theorem rkE_fi {l : Ls} {n : Nat} {x : Int} (h : n ≤ 32) : fi [csE l n, wi x 0 100000] = rkE l n x := by
  have e0 : csE l n = csA l n := by
    rw [csE]
    exact if_neg (by omega)
  rw [e0, fi, fi, fi, rkE]
  by_cases e : csA l n = 0
  · rw [if_pos e, if_pos e]
    by_cases e2 : wi x 0 100000 = 0
    · rw [if_pos e2, e2]
    · rw [if_neg e2]
  · rw [if_neg e, if_neg e]
theorem rk_good {l : Ls} {n : Nat} {x : Int} (hl : okLt l n) (h : rkE l n x = 0) : (∀ i, i < n → okP l i) ∧ (0 ≤ x ∧ x ≤ 100000) ∧ rkM l n x = n ∧ rkI l n x = rkZ (dI l x) n := by
  have h0 : csA l n = 0 := by
    rw [rkE] at h
    by_cases e : csA l n = 0
    · exact e
    · rw [if_neg e] at h; exact absurd h e
  have hw : wi x 0 100000 = 0 := by rw [rkE, if_pos h0] at h; exact h
  refine ⟨fun i hi => okP_of i hl hi (sE_of (csA_all h0 i hi)), lim_in (by rw [hw]; rfl), ?_, ?_⟩
  · rw [rkM, if_pos h]
  · rw [rkI, if_pos h, res_eq]
/-- A list of which each section is short has few of each. -/
theorem sh_lt {l : Ls} {n : Nat} (hl : okLs l n) (h : shL l n = true) : okLt l n ∧ (n ≤ 6 ∨ n = 33) := by
  rw [shL, Bool.and_eq_true] at h
  refine ⟨fun i hi => ?_, ?_⟩
  · have ha : ∀ m, shA l m = true → ∀ i, i < m → shI l i = true := fun m => by
      induction m with
      | zero => intro _ i hi; omega
      | succ m ih =>
        intro h i hi
        rw [shA, Bool.and_eq_true] at h
        by_cases e : i = m
        · subst e; exact h.2
        · exact ih h.1 i (by omega)
    have hs := ha n h.1 i hi
    obtain ⟨h1, h2, h3, h4⟩ := hl i hi
    rw [shI] at hs
    refine ⟨h1, h2, ?_⟩
    rw [shortS] at hs
    simp only [Bool.and_eq_true, Bool.or_eq_true, decide_eq_true_eq, beq_iff_eq] at hs
    obtain ⟨_, _, q1, q2⟩ := hs
    omega
  · have := h.2
    simp only [Bool.or_eq_true, decide_eq_true_eq, beq_iff_eq] at this
    omega
end
end Qq
end
section
/- Lists of sections that are given: calls on all of them. -/
open Go Go.Vm Go.Proofs Sp
namespace Qq
noncomputable section
theorem pos_range' : ∀ (m s i : Nat), s ≤ i → i < s + m → pos (List.range' s m) i = some (i - s)
  | 0, s, i, h1, h2 => by omega
  | m + 1, s, i, h1, h2 => by
    rw [List.range'_succ, pos]
    by_cases e : s = i
    · subst e; simp
    · have : (s == i) = false := by simpa using e
      rw [this, pos_range' m (s + 1) i (by omega) (by omega)]
      simp
      omega
theorem pos_range {m i : Nat} (h : i < m) : pos (List.range m) i = some i := by
  rw [List.range_eq_range', pos_range' m 0 i (by omega) (by omega)]; rfl
theorem nodup_range' : ∀ (m s : Nat), nodupB (List.range' s m) = true
  | 0, _ => rfl
  | m + 1, s => by
    rw [List.range'_succ, nodupB, nodup_range' m (s + 1), Bool.and_true]
    cases h : (List.range' (s + 1) m).contains s
    · rfl
    · have := (List.mem_range'_1.1 (List.contains_iff_mem.1 h)).1
      omega
/-- Rows that are only read, whose names stay. -/
def still1 (m : Nat) (x : Option AObj) : Prop := ∃ o, x = some o ∧ renO (pos (List.range m)) o = o ∧ o.rw = false
theorem ci_pre {G X : Heap} (hG : ∀ x ∈ G, still1 G.length x) {ar : List Value} {ret : Value} (ha : ar.map (renV (pos (List.range G.length)) 4) = ar) (hr : atom ret = true) : CiOK (G ++ X) ar (List.range G.length) ar G ret := by
  have hg : ∀ i, i < G.length → ∃ o, rd (G ++ X) i = some o ∧ rd G i = some o ∧ G[i]? = some (some o) ∧ renO (pos (List.range G.length)) o = o ∧ o.rw = false := fun i hi => by
    obtain ⟨o, h1, h2, h3⟩ := hG _ (List.getElem_mem hi)
    have e : G[i]? = some (some o) := by rw [List.getElem?_eq_getElem hi, h1]
    refine ⟨o, ?_, ?_, e, h2, h3⟩
    · rw [rd_get, List.getElem?_append_left hi, e]; rfl
    · rw [rd_get, e]; rfl
  refine ⟨ha, ?_, ?_, ?_⟩
  · apply List.ext_getElem?
    intro i
    rw [resH, List.getElem?_map]
    by_cases h : i < G.length
    · obtain ⟨o, h1, _, h3, h4, _⟩ := hg i h
      rw [List.getElem?_range h, h3]
      show some (Option.map _ (rd (G ++ X) i)) = _
      rw [h1]
      show some (some (renO _ o)) = _
      rw [h4]
    · rw [List.getElem?_eq_none (by rw [List.length_range]; omega), List.getElem?_eq_none (by omega)]; rfl
  · rw [backOK, List.range_eq_range', nodup_range', ← List.range_eq_range']
    have a1 : (List.range G.length).all (fun id => (rd (G ++ X) id).isSome) = true := by
      rw [List.all_eq_true]
      intro i hi
      obtain ⟨o, h1, _⟩ := hg i (List.mem_range.1 hi)
      rw [h1]; rfl
    rw [a1]
    show (true && (List.range G.length).zipIdx.all _) = true
    rw [Bool.true_and, List.all_eq_true]
    intro p hp
    have hm := List.mem_range.1 (List.mem_of_getElem? (List.mem_zipIdx_iff_getElem?.1 hp))
    obtain ⟨o, h1, _, _, _, h5⟩ := hg p.1 hm
    show (match rd (G ++ X) p.1 with
      | some o => !o.rw || (match rd G p.2 with | some o' => o'.rw | none => true)
      | none => true) = true
    rw [h1]
    show (!o.rw || _) = true
    rw [h5]; rfl
  · rw [back, renV_atom hr]
    have e : (List.range G.length).zipIdx.filterMap (fun (p : Nat × Nat) => match rd (G ++ X) p.1 with
      | some o => if o.rw then some (p.1, (rd G p.2).map (renO (backρ (List.range G.length) [] (G ++ X).length))) else none
      | none => none) = [] := by
      rw [List.filterMap_eq_nil_iff]
      intro p hp
      have hm := List.mem_range.1 (List.mem_of_getElem? (List.mem_zipIdx_iff_getElem?.1 hp))
      obtain ⟨o, h1, _, _, _, h5⟩ := hg p.1 hm
      rw [h1]
      show (if o.rw = true then _ else _) = none
      rw [h5]; rfl
    show (Out.mk ret (List.filterMap _ _ ++ []) _ _) = _
    rw [List.append_nil]
    exact congrArg (fun z => Out.mk ret z (List.range G.length) []) e
theorem lsT_len (l : Ls) : ∀ n, (lsT l n).length = 2 * n
  | 0 => rfl
  | n + 1 => by
    have ih := lsT_len l n
    rw [lsT] at ih
    rw [lsT, List.range_succ, List.flatMap_append, List.length_append, ih]; rfl
theorem lsG_len (l : Ls) (n : Nat) : (lsG l n).length = 2 * n + 1 := by rw [lsG, List.length_cons, lsT_len]
theorem still_ls (l : Ls) (n : Nat) : ∀ x ∈ lsG l n, still1 (lsG l n).length x := by
  rw [lsG_len]
  intro x hx
  rw [lsG, List.mem_cons] at hx
  rcases hx with rfl | hx
  · refine ⟨_, rfl, ?_, rfl⟩
    have : (lsC l n).map (renV (pos (List.range (2 * n + 1))) 4) = lsC l n := by
      conv => rhs; rw [← List.map_id (lsC l n)]
      refine List.map_congr_left fun v hv => ?_
      rw [lsC, List.mem_flatMap] at hv
      obtain ⟨i, hi, hv⟩ := hv
      have hi := List.mem_range.1 hi
      simp only [List.mem_cons, List.not_mem_nil, or_false] at hv
      rcases hv with rfl | rfl | rfl
      · rfl
      · have e := pos_range (m := 2 * n + 1) (i := 1 + 2 * i) (by omega)
        simp [renV, atom, e]
      · have e := pos_range (m := 2 * n + 1) (i := 2 + 2 * i) (by omega)
        simp [renV, atom, e]
    show AObj.row (if false = true then _ else _) _ _ _ _ = _
    rw [if_neg (by decide), this]
  · rw [lsT, List.mem_flatMap] at hx
    obtain ⟨i, _, hx⟩ := hx
    simp only [List.mem_cons, List.not_mem_nil, or_false] at hx
    rcases hx with rfl | rfl
    · exact ⟨_, rfl, rfl, rfl⟩
    · exact ⟨_, rfl, rfl, rfl⟩
theorem ls_arg (l : Ls) (n m c : Nat) : [Value.slice (some ⟨0, 0, none⟩) m c].map (renV (pos (List.range (lsG l n).length)) 4) = [.slice (some ⟨0, 0, none⟩) m c] := by
  rw [lsG_len]
  have e := pos_range (m := 2 * n + 1) (i := 0) (by omega)
  simp [renV, atom, e]
end
end Qq
end
section
/- Offices, checked. -/
open Go Go.Vm Go.Proofs Sp
namespace Qq
noncomputable section
theorem when_tP (b : Bool) (e : Int) (K : Value → Heap → Prop) :
    (fnP Tryz.prog c0 h0 (36 : FuncId) [Value.bool b, Value.int IntKind.i64 e] [] K) =
    (br b (K (Value.int IntKind.i64 e) noH) (K (Value.int IntKind.i64 (0 : Int)) noH)) := by kernel_rfl
theorem okWhenP : Ok Tryz.prog 36 orcWhen := by
  intro args H ret H' h
  unfold orcWhen at h
  split at h
  · cases h
    refine fnP_res hm c0_ok (hs := h0) ?_
    rw [when_tP]
    exact br_of (fun h => by simp [wh, h]) (fun h => by simp [wh, h])
  · cases h
theorem first_tP (l : List Int) (n : Nat) (c : Nat) (es : Nat) (more : Bool) (rw : Bool) (K : Value → Heap → Prop) :
    (fnP Tryz.prog c0 (hFirst l n c es more rw) (35 : FuncId) [Value.slice (some { block := (0 : Nat), off := (0 : Nat) }) n c] [some (AObj.row (ints l) es more rw true)] K) =
    ((∃ s, Is (s ≤ List.length l ∧ fi (List.drop s l) = fi l) ∧ [poi, poi, poi, poi, poi, Value.slice (some ⟨0, 0, none⟩) n c, Value.int .i64 (n : Int), Value.int .i64 0, poi, poi, poi, poi, poi, poi, poi] = [poi, poi, poi, poi, poi, Value.slice (some ⟨0, 0, none⟩) n c, Value.int .i64 (n : Int), Value.int .i64 (s : Int), poi, poi, poi, poi, poi, poi, poi] ∧ some (AObj.row (ints l) es more rw true) :: noH = some (AObj.row (ints l) es more rw true) :: noH) ∧ ∀ (s : Nat), Is (s ≤ List.length l ∧ fi (List.drop s l) = fi l) → br (decide ((s : Int) < (n : Int))) (Is ((0 : Int) ≤ (s : Int) ∧ (s : Int) < (n : Int)) ∧ Is ((ints l)[0 + Int.toNat (s : Int) * 1]? = some (Value.int .i64 (List.getD l (0 + Int.toNat (s : Int) * 1) (0 : Int)))) ∧ br (List.getD l (0 + Int.toNat (s : Int) * 1) (0 : Int) != (0 : Int)) (K (Value.int .i64 (List.getD l (0 + Int.toNat (s : Int) * 1) (0 : Int))) (some (AObj.row (ints l) es more rw true) :: noH)) (∃ s', Is (s' ≤ List.length l ∧ fi (List.drop s' l) = fi l) ∧ Is (List.length l - s' < List.length l - s) ∧ [poi, poi, poi, poi, poi, Value.slice (some ⟨0, 0, none⟩) n c, Value.int .i64 (n : Int), Value.int .i64 (IntKind.wrap .i64 ((s : Int) + (1 : Int))), poi, poi, poi, poi, poi, poi, poi] = [poi, poi, poi, poi, poi, Value.slice (some ⟨0, 0, none⟩) n c, Value.int .i64 (n : Int), Value.int .i64 (↑s' : Int), poi, poi, poi, poi, poi, poi, poi] ∧ some (AObj.row (ints l) es more rw true) :: noH = some (AObj.row (ints l) es more rw true) :: noH)) (K (Value.int .i64 0) (some (AObj.row (ints l) es more rw true) :: noH))) := by kernel_rfl

theorem okFirstP : Ok Tryz.prog 35 orcFirst := by
  intro args H ret H' h
  unfold orcFirst at h
  split at h
  · rename_i n c cells es more rw
    split at h
    · rename_i l hl
      split at h
      · rename_i hn
        cases h
        have := intsOf_eq hl
        subst this
        obtain ⟨hn, hlt⟩ := hn
        subst hn
        refine fnP_res hm c0_ok (hs := hFirst l l.length c es more rw) ?_
        rw [first_tP]
        refine ⟨⟨(0 : Nat), ⟨by simp, by simp⟩, rfl, rfl⟩, fun s hs => ?_⟩
        obtain ⟨h1, h2⟩ := hs.out
        refine br_of (fun hc => ?_) (fun hc => ?_)
        · have hc : s < l.length := by simpa using hc
          refine ⟨⟨by omega, by omega⟩, ⟨by simpa using ints_at hc⟩, br_of (fun hd => ?_) (fun hd => ?_)⟩
          · have := fi_drop hc
            have hd' : l.getD s 0 ≠ 0 := by simpa using hd
            rw [if_neg hd'] at this
            simp [← h2, this]
          · have := fi_drop hc
            have hd' : l.getD s 0 = 0 := by simpa using hd
            rw [if_pos hd'] at this
            refine ⟨s + 1, ⟨hc, by rw [← this, h2]⟩, ⟨by omega⟩, ?_, rfl⟩
            rw [wrap_eq (by omega) (by omega)]
            rfl
        · have hc : l.length ≤ s := by simpa using hc
          have : s = l.length := by omega
          subst this
          simp [← h2, fi]
      · cases h
    · cases h
  · cases h

noncomputable def u1 : List (Nat × Orc) := [(36, orcWhen), (35, orcFirst)]
theorem u1_all : ∀ p ∈ u1, Ok Tryz.prog p.1 p.2 := all_cons okWhenP (all_cons okFirstP all_nil)
noncomputable def cu1 : CallF := ctx Tryz.prog u1
theorem cu1_ok : CallOK Tryz.prog cu1 := ctx_ok hm u1_all
theorem within_tP (n : Int) (lo : Int) (hi : Int) (K : Value → Heap → Prop) :
    (fnP Tryz.prog cu1 h0 (90 : FuncId) [Value.int IntKind.i64 n, Value.int IntKind.i64 lo, Value.int IntKind.i64 hi] [] K) =
    (br (decide (n < lo)) (K (Value.int IntKind.i64 (3 : Int)) noH) (K (Value.int IntKind.i64 (wh (decide (hi < n)) (3 : Int))) noH)) := by kernel_rfl
theorem okWithinP : Ok Tryz.prog 90 orcWithin := by
  intro args H ret H' h
  unfold orcWithin at h
  split at h
  · cases h
    refine fnP_res hm cu1_ok (hs := h0) ?_
    rw [within_tP]
    exact br_of (fun h => by simp [wi, of_decide_eq_true h]) (fun h => by simp [wi, wh, of_decide_eq_false h])
  · cases h
noncomputable def u2 : List (Nat × Orc) := (90, orcWithin) :: u1
theorem u2_all : ∀ p ∈ u2, Ok Tryz.prog p.1 p.2 := all_cons okWithinP u1_all
noncomputable def cu2 : CallF := ctx Tryz.prog u2
theorem cu2_ok : CallOK Tryz.prog cu2 := ctx_ok hm u2_all
end
end Qq
end
section
/- Repeated lists. -/
open Go Go.Vm Go.Proofs Sp
namespace Sp
noncomputable section
noncomputable def rpC (n : Int) : List Value := List.replicate n.toNat (.int .i64 (-1))
end
end Sp
namespace Qq
noncomputable section
noncomputable def hsM64 : Hs Tryz.prog where
  op y := if [101, 201, 301, 401, 604, 701, 801, 1006].contains y then some (hBs Tryz.prog) else none
  au := au0 Tryz.prog
noncomputable def orcM64 : OrcV
  | [.int .u64 1, .int .u64 b], [] => some (.tuple #[.int .u64 0, .int .u64 b], [], 1 ≤ b ∧ b ≤ 3)
  | _, _ => none
theorem m64_1 (K : Value → Heap → Prop) : fnP Tryz.prog c0 hsM64 106 [.int .u64 1, .int .u64 1] [] K = (Is True ∧ Is ((0 : Int) ≤ 32) ∧ Is True ∧ Is ((0 : Int) ≤ 32) ∧ Is ((0 : Int) ≤ 32) ∧ Is True ∧ Is ((0 : Int) ≤ 32) ∧ Is ((0 : Int) ≤ 32) ∧ K (.tuple #[.int .u64 0, .int .u64 1]) noH) := by kernel_rfl
theorem m64_2 (K : Value → Heap → Prop) : fnP Tryz.prog c0 hsM64 106 [.int .u64 1, .int .u64 2] [] K = (Is True ∧ Is ((0 : Int) ≤ 32) ∧ Is True ∧ Is ((0 : Int) ≤ 32) ∧ Is ((0 : Int) ≤ 32) ∧ Is True ∧ Is ((0 : Int) ≤ 32) ∧ Is ((0 : Int) ≤ 32) ∧ K (.tuple #[.int .u64 0, .int .u64 2]) noH) := by kernel_rfl
theorem m64_3 (K : Value → Heap → Prop) : fnP Tryz.prog c0 hsM64 106 [.int .u64 1, .int .u64 3] [] K = (Is True ∧ Is ((0 : Int) ≤ 32) ∧ Is True ∧ Is ((0 : Int) ≤ 32) ∧ Is ((0 : Int) ≤ 32) ∧ Is True ∧ Is ((0 : Int) ≤ 32) ∧ Is ((0 : Int) ≤ 32) ∧ K (.tuple #[.int .u64 0, .int .u64 3]) noH) := by kernel_rfl
theorem okM64 : OkV Tryz.prog 106 orcM64 := by
  intro args H ret H' vc h hv
  unfold orcM64 at h
  split at h
  · rename_i b
    cases h
    rcases (by omega : b = 1 ∨ b = 2 ∨ b = 3) with rfl | rfl | rfl
    · refine fnP_res hm c0_ok (hs := hsM64) ?_
      rw [m64_1]
      exact ⟨⟨trivial⟩, ⟨by decide⟩, ⟨trivial⟩, ⟨by decide⟩, ⟨by decide⟩, ⟨trivial⟩, ⟨by decide⟩, ⟨by decide⟩, rfl, rfl⟩
    · refine fnP_res hm c0_ok (hs := hsM64) ?_
      rw [m64_2]
      exact ⟨⟨trivial⟩, ⟨by decide⟩, ⟨trivial⟩, ⟨by decide⟩, ⟨by decide⟩, ⟨trivial⟩, ⟨by decide⟩, ⟨by decide⟩, rfl, rfl⟩
    · refine fnP_res hm c0_ok (hs := hsM64) ?_
      rw [m64_3]
      exact ⟨⟨trivial⟩, ⟨by decide⟩, ⟨trivial⟩, ⟨by decide⟩, ⟨by decide⟩, ⟨trivial⟩, ⟨by decide⟩, ⟨by decide⟩, rfl, rfl⟩
  · cases h
noncomputable def hsMul : Hs Tryz.prog where
  au := auCalls [(106, hCa Tryz.prog 106 orcM64 okM64)]
theorem mul_t (b : Int) (K : Value → Heap → Prop) :
    (fnP Tryz.prog c0 hsMul (91 : FuncId) [Value.int IntKind.u64 (1 : Int), Value.int IntKind.u64 b] [] K) =
    (Is ((1 : Int) ≤ b ∧ b ≤ (3 : Int)) ∧ K (Value.tuple #[Value.int IntKind.u64 (0 : Int), Value.int IntKind.u64 b]) noH) := by kernel_rfl
theorem okMul : OkV Tryz.prog 91 orcM64 := by
  intro args H ret H' vc h hv
  unfold orcM64 at h
  split at h
  · cases h
    refine fnP_res hm c0_ok (hs := hsMul) ?_
    rw [mul_t]
    exact ⟨⟨hv⟩, rfl, rfl⟩
  · cases h
noncomputable def hsRp : Hs Tryz.prog where
  cl _ := keep 48 [7, 8]
  au := auCalls [(91, hCa Tryz.prog 91 orcM64 okMul)]
theorem rp1_t (c : Nat) (K : Value → Heap → Prop) :
    (fnP Tryz.prog c0 hsRp (61 : FuncId) [Value.slice (some { block := (0 : Nat), off := (0 : Nat) }) (1 : Nat) c, Value.int IntKind.i64 (1 : Int)] [some (AObj.row [Value.int IntKind.i64 (-1 : Int)] (1 : Nat) false true true)] K) =
    (Is ((1 : Int) ≤ (1 : Int) ∧ (1 : Int) ≤ (3 : Int)) ∧ K (Value.slice (some ⟨1, 0, none⟩) 1 1) (some (AObj.row [Value.int .i64 (-1 : Int)] 1 false true true) :: some (AObj.row [Value.int .i64 (-1 : Int)] 1 false true true) :: noH)) := by kernel_rfl
theorem rp2_t (c : Nat) (K : Value → Heap → Prop) :
    (fnP Tryz.prog c0 hsRp (61 : FuncId) [Value.slice (some { block := (0 : Nat), off := (0 : Nat) }) (1 : Nat) c, Value.int IntKind.i64 (2 : Int)] [some (AObj.row [Value.int IntKind.i64 (-1 : Int)] (1 : Nat) false true true)] K) =
    (Is ((1 : Int) ≤ (2 : Int) ∧ (2 : Int) ≤ (3 : Int)) ∧ K (Value.slice (some ⟨1, 0, none⟩) 2 2) (some (AObj.row [Value.int .i64 (-1 : Int)] 1 false true true) :: some (AObj.row [Value.int .i64 (-1 : Int), Value.int .i64 (-1 : Int)] 1 false true (true && List.all [Value.int .i64 (-1 : Int)] atom)) :: noH)) := by kernel_rfl
theorem rp3_t (c : Nat) (K : Value → Heap → Prop) :
    (fnP Tryz.prog c0 hsRp (61 : FuncId) [Value.slice (some { block := (0 : Nat), off := (0 : Nat) }) (1 : Nat) c, Value.int IntKind.i64 (3 : Int)] [some (AObj.row [Value.int IntKind.i64 (-1 : Int)] (1 : Nat) false true true)] K) =
    (Is ((1 : Int) ≤ (3 : Int) ∧ (3 : Int) ≤ (3 : Int)) ∧ K (Value.slice (some ⟨1, 0, none⟩) 3 3) (some (AObj.row [Value.int .i64 (-1 : Int)] 1 false true true) :: some (AObj.row [Value.int .i64 (-1 : Int), Value.int .i64 (-1 : Int), Value.int .i64 (-1 : Int)] 1 false true (true && List.all [Value.int .i64 (-1 : Int)] atom && List.all [Value.int .i64 (-1 : Int)] atom)) :: noH)) := by kernel_rfl
noncomputable def orcRp : OrcV
  | [.slice (some ⟨0, 0, none⟩) 1 _, .int .i64 n], [some (.row [.int .i64 q] 1 false true true)] =>
    some (.slice (some ⟨1, 0, none⟩) n.toNat n.toNat, [some (.row [.int .i64 q] 1 false true true), some (.row (rpC n) 1 false true true)], q = -1 ∧ 1 ≤ n ∧ n ≤ 3)
  | _, _ => none
theorem okRp : OkV Tryz.prog 61 orcRp := by
  intro args H ret H' vc h hv
  unfold orcRp at h
  split at h
  · rename_i c n q
    cases h
    obtain ⟨rfl, h1, h2⟩ := hv
    rcases (by omega : n = 1 ∨ n = 2 ∨ n = 3) with rfl | rfl | rfl
    · refine fnP_res hm c0_ok (hs := hsRp) ?_
      rw [rp1_t]
      exact ⟨⟨by decide, by decide⟩, rfl, rfl⟩
    · refine fnP_res hm c0_ok (hs := hsRp) ?_
      rw [rp2_t]
      exact ⟨⟨by decide, by decide⟩, rfl, rfl⟩
    · refine fnP_res hm c0_ok (hs := hsRp) ?_
      rw [rp3_t]
      exact ⟨⟨by decide, by decide⟩, rfl, rfl⟩
  · cases h
end
end Qq
end
section
/- Plans of sections of one hour, in shifts of one hour: the small functions. -/
open Go Go.Vm Go.Proofs Sp
namespace Sp
noncomputable section
/-- The first error. -/
noncomputable def errs (f : Nat → Int) : Nat → Nat → Int
  | _, 0 => 0
  | i, k + 1 => sel (f i) (errs f (i + 1) k)
/-- The cells of sections, and of shifts from one on. -/
def seC (nm : Nat → ByteArray) (D : Nat → Int) (v : Int) (m : Nat) : List Value := (List.range m).flatMap fun j => [.string (nm j), .int .i64 (D j), .int .i64 1, .int .i64 0, .int .i64 v]
def shC (D : Nat → Int) (s m : Nat) : List Value := (List.range m).flatMap fun k => [.int .i64 (D (s + k)), .int .i64 1, .int .i64 0, .int .i64 0]
/-- How many sections are planned; how many of them in a shift. -/
def cnP : List Int → Int
  | [] => 0
  | p :: r => (if 0 ≤ p then 1 else 0) + cnP r
def usP (k : Int) : List Int → Int
  | [] => 0
  | p :: r => (if p = k then 1 else 0) + usP k r
noncomputable def plI (P : List Int) (off : Nat) : Value := .int .i64 (P.getD off 0)
def dAt (D : Nat → Int) (i : Nat) : Int := D i
noncomputable def dlV (D : Nat → Int) (off : Nat) : Value := .int .i64 (dAt D (off / 5))
noncomputable def dyV (D : Nat → Int) (s off : Nat) : Value := .int .i64 (dAt D (s + off / 4))
noncomputable def cV (x : Int) (_ : Nat) : Value := .int .i64 x
def inTm (D : Nat → Int) (s : Nat) (i k : Int) : Bool := decide (D (s + k.toNat) ≤ D i.toNat)
/-- What is asked of the numbers of a plan. -/
def plOk (P : List Int) (N K : Nat) : Prop := P.length = N ∧ N ≤ 100 ∧ K ≤ 100 ∧ ∀ i, i < N → -1 ≤ P.getD i 0 ∧ P.getD i 0 < K
end
end Sp
namespace Qq
noncomputable section
section
variable (nm : Nat → ByteArray) (D : Nat → Int) (v : Int) (N s K a b c : Nat) (P : List Int)
noncomputable def rSe : Option AObj := some (.row (seC nm D v N) 5 true false true)
noncomputable def rSh : Option AObj := some (.row (shC D s K) 4 true false true)
noncomputable def rPl : Option AObj := some (.row (ints P) 1 false false true)
noncomputable def off3 (i j : Nat) : Value := .agg #[.slice (some ⟨i, 0, none⟩) N a, .slice (some ⟨j, 0, none⟩) K b]
noncomputable def bxO (i j : Nat) : Option AObj := some (.row [.slice (some ⟨i, 0, none⟩) N a, .slice (some ⟨j, 0, none⟩) K b] 0 false true false)
noncomputable def b2 (x y : Int) : Option AObj := some (.row [.int .i64 x, .int .i64 y] 0 false true true)
noncomputable def lpTo : Lp where
  σ := Nat
  E i := slots 46 [(2, .pointer (some ⟨3, 0, none⟩)), (4, .pointer (some ⟨4, 0, none⟩)), (5, .pointer (some ⟨5, 0, none⟩)), (8, .slice (some ⟨2, 0, none⟩) N c), (9, .int .i64 (N : Int)), (10, .int .i64 (i : Int))]
  Hp i := [rSe nm D v N, rSh D s K, rPl P, bxO N K a b 0 1, b2 0 0, b2 (v * cnP (P.take i)) 0]
  I i := i ≤ N
  m i := N - i
noncomputable def hsTo : Hs Tryz.prog where
  op y := if [401, 605, 705, 711].contains y then some (hIa Tryz.prog) else if y = 402 then some (hLd Tryz.prog (plI P)) else if y = 607 then some (hLd Tryz.prog (cV v)) else if y = 707 then some (hLd Tryz.prog (cV 1)) else if y = 713 then some (hLd Tryz.prog (cV 0)) else none
  lp _ := some (lpTo nm D v N s K a b c P)
  cl _ := keep 46 [2, 4, 5, 8, 9, 10]
  sm := true
  au := au0 Tryz.prog
theorem to_t (nm : Nat → ByteArray) (D : Nat → Int) (v : Int) (N : Nat) (s : Nat) (K : Nat) (a : Nat) (b : Nat) (c : Nat) (P : List Int) (K0 : Value → Heap → Prop) :
    (fnP Tryz.prog c0 (hsTo nm D v N s K a b c P) (30 : FuncId) [off3 N K a b (0 : Nat) (1 : Nat), Value.slice (some { block := (2 : Nat), off := (0 : Nat) }) N c] [rSe nm D v N, rSh D s K, rPl P] K0) =
    (let z0 : AObj := AObj.row [Value.slice (some ⟨0, 0, none⟩) N a, Value.slice (some ⟨1, 0, none⟩) K b] 0 false true false; let z1 : AObj := AObj.row [Value.int .i64 0, Value.int .i64 0] 0 false true true; ((∃ (s_1 : Nat), Is (s_1 ≤ N) ∧ (Value.pointer (some ⟨3, 0, none⟩) = Value.pointer (some ⟨3, 0, none⟩) ∧ Value.pointer (some ⟨4, 0, none⟩) = Value.pointer (some ⟨4, 0, none⟩) ∧ Value.pointer (some ⟨5, 0, none⟩) = Value.pointer (some ⟨5, 0, none⟩) ∧ Value.slice (some ⟨2, 0, none⟩) N c = Value.slice (some ⟨2, 0, none⟩) N c ∧ Value.int .i64 (N : Int) = Value.int .i64 (N : Int) ∧ Value.int .i64 0 = Value.int .i64 (s_1 : Int) ∧ True) ∧ some (AObj.row (seC nm D v N) 5 true false true) :: some (AObj.row (shC D s K) 4 true false true) :: some (AObj.row (ints P) 1 false false true) :: some z0 :: some z1 :: some z1 :: noH = some (AObj.row (seC nm D v N) 5 true false true) :: some (AObj.row (shC D s K) 4 true false true) :: some (AObj.row (ints P) 1 false false true) :: some z0 :: some z1 :: some (AObj.row [Value.int .i64 (v * cnP (List.take s_1 P)), Value.int .i64 0] 0 false true true) :: noH) ∧ ∀ (s_1 : Nat), Is (s_1 ≤ N) → br (decide ((s_1 : Int) < (N : Int))) (Is ((0 : Int) ≤ (s_1 : Int) ∧ (s_1 : Int) < (N : Int)) ∧ Is ((ints P)[0 + Int.toNat (s_1 : Int) * 1]? = some (Value.int .i64 (List.getD P (0 + Int.toNat (s_1 : Int) * 1) (0 : Int)))) ∧ br (decide ((0 : Int) ≤ List.getD P (0 + Int.toNat (s_1 : Int) * 1) (0 : Int))) (Is ((0 : Int) ≤ (s_1 : Int) ∧ (s_1 : Int) < (N : Int)) ∧ Is ((seC nm D v N)[0 + Int.toNat (s_1 : Int) * 5 + 4]? = some (Value.int .i64 v)) ∧ Is ((0 : Int) ≤ (s_1 : Int) ∧ (s_1 : Int) < (N : Int)) ∧ Is ((seC nm D v N)[0 + Int.toNat (s_1 : Int) * 5 + 2]? = some (Value.int .i64 1)) ∧ Is ((0 : Int) ≤ List.getD P (0 + Int.toNat (s_1 : Int) * 1) (0 : Int) ∧ List.getD P (0 + Int.toNat (s_1 : Int) * 1) (0 : Int) < (K : Int)) ∧ Is ((shC D s K)[0 + Int.toNat (List.getD P (0 + Int.toNat (s_1 : Int) * 1) (0 : Int)) * 4 + 3]? = some (Value.int .i64 0)) ∧ ∃ (s' : Nat), Is (s' ≤ N) ∧ Is (N - s' < N - s_1) ∧ (Value.pointer (some ⟨3, 0, none⟩) = Value.pointer (some ⟨3, 0, none⟩) ∧ Value.pointer (some ⟨4, 0, none⟩) = Value.pointer (some ⟨4, 0, none⟩) ∧ Value.pointer (some ⟨5, 0, none⟩) = Value.pointer (some ⟨5, 0, none⟩) ∧ Value.slice (some ⟨2, 0, none⟩) N c = Value.slice (some ⟨2, 0, none⟩) N c ∧ Value.int .i64 (N : Int) = Value.int .i64 (N : Int) ∧ Value.int .i64 (IntKind.wrap .i64 ((s_1 : Int) + (1 : Int))) = Value.int .i64 (↑s' : Int) ∧ True) ∧ some (AObj.row (seC nm D v N) 5 true false true) :: some (AObj.row (shC D s K) 4 true false true) :: some (AObj.row (ints P) 1 false false true) :: some z0 :: some z1 :: some (AObj.row [Value.int .i64 (IntKind.wrap .i64 (v * cnP (List.take s_1 P) + v)), Value.int .i64 0] 0 false true (true && List.all [Value.int .i64 (IntKind.wrap .i64 (v * cnP (List.take s_1 P) + v))] atom && List.all [Value.int .i64 0] atom)) :: noH = some (AObj.row (seC nm D v N) 5 true false true) :: some (AObj.row (shC D s K) 4 true false true) :: some (AObj.row (ints P) 1 false false true) :: some z0 :: some z1 :: some (AObj.row [Value.int .i64 (v * cnP (List.take s' P)), Value.int .i64 0] 0 false true true) :: noH) (∃ (s' : Nat), Is (s' ≤ N) ∧ Is (N - s' < N - s_1) ∧ (Value.pointer (some ⟨3, 0, none⟩) = Value.pointer (some ⟨3, 0, none⟩) ∧ Value.pointer (some ⟨4, 0, none⟩) = Value.pointer (some ⟨4, 0, none⟩) ∧ Value.pointer (some ⟨5, 0, none⟩) = Value.pointer (some ⟨5, 0, none⟩) ∧ Value.slice (some ⟨2, 0, none⟩) N c = Value.slice (some ⟨2, 0, none⟩) N c ∧ Value.int .i64 (N : Int) = Value.int .i64 (N : Int) ∧ Value.int .i64 (IntKind.wrap .i64 ((s_1 : Int) + (1 : Int))) = Value.int .i64 (↑s' : Int) ∧ True) ∧ some (AObj.row (seC nm D v N) 5 true false true) :: some (AObj.row (shC D s K) 4 true false true) :: some (AObj.row (ints P) 1 false false true) :: some z0 :: some z1 :: some (AObj.row [Value.int .i64 (v * cnP (List.take s_1 P)), Value.int .i64 0] 0 false true true) :: noH = some (AObj.row (seC nm D v N) 5 true false true) :: some (AObj.row (shC D s K) 4 true false true) :: some (AObj.row (ints P) 1 false false true) :: some z0 :: some z1 :: some (AObj.row [Value.int .i64 (v * cnP (List.take s' P)), Value.int .i64 0] 0 false true true) :: noH)) (K0 (Value.agg #[Value.int .i64 (v * cnP (List.take s_1 P)), Value.int .i64 0]) (some (AObj.row (seC nm D v N) 5 true false true) :: some (AObj.row (shC D s K) 4 true false true) :: some (AObj.row (ints P) 1 false false true) :: noH)))) := by kernel_rfl
noncomputable def hsIt : Hs Tryz.prog where
  op y := if [103, 109].contains y then some (hIa Tryz.prog) else if y = 105 then some (hLd Tryz.prog (dyV D s)) else if y = 111 then some (hLd Tryz.prog (dlV D)) else none
  au := au0 Tryz.prog
theorem tm_t (nm : Nat → ByteArray) (D : Nat → Int) (v : Int) (N : Nat) (s : Nat) (K : Nat) (a : Nat) (b : Nat) (i : Int) (k : Int) (K0 : Value → Heap → Prop) :
    (fnP Tryz.prog c0 (hsIt D s) (43 : FuncId) [off3 N K a b (0 : Nat) (1 : Nat), Value.int IntKind.i64 i, Value.int IntKind.i64 k] [rSe nm D v N, rSh D s K] K0) =
    (Is ((0 : Int) ≤ k ∧ k < (K : Int)) ∧ Is ((shC D s K)[0 + Int.toNat k * 4 + 0]? = some (Value.int .i64 (dAt D (s + (0 + Int.toNat k * 4 + 0) / 4)))) ∧ Is ((0 : Int) ≤ i ∧ i < (N : Int)) ∧ Is ((seC nm D v N)[0 + Int.toNat i * 5 + 1]? = some (Value.int .i64 (dAt D ((0 + Int.toNat i * 5 + 1) / 5)))) ∧ K0 (Value.bool (decide (dAt D (s + (0 + Int.toNat k * 4 + 0) / 4) ≤ dAt D ((0 + Int.toNat i * 5 + 1) / 5)))) (some (AObj.row (seC nm D v N) 5 true false true) :: some (AObj.row (shC D s K) 4 true false true) :: noH)) := by kernel_rfl
noncomputable def lpLe (k : Nat) : Lp where
  σ := Nat
  E i := slots 55 [(2, .int .i64 (k : Int)), (3, .pointer (some ⟨3, 0, none⟩)), (6, .pointer (some ⟨4, 0, none⟩)), (7, .pointer (some ⟨5, 0, none⟩)), (23, .slice (some ⟨2, 0, none⟩) N c), (24, .int .i64 (N : Int)), (25, .int .i64 (i : Int))]
  Hp i := [rSe nm D v N, rSh D s K, rPl P, bxO N K a b 0 1, b2 0 0, b2 (1 - usP k (P.take i)) 0]
  I i := i ≤ N
  m i := N - i
noncomputable def hsLe (k : Nat) : Hs Tryz.prog where
  op y := if [103, 109, 401, 605, 705].contains y then some (hIa Tryz.prog) else if [105, 607].contains y then some (hLd Tryz.prog (cV 1)) else if [111, 707].contains y then some (hLd Tryz.prog (cV 0)) else if y = 402 then some (hLd Tryz.prog (plI P)) else none
  lp _ := some (lpLe nm D v N s K a b c P k)
  cl _ := keep 55 [2, 3, 6, 7, 23, 24, 25]
  sm := true
  au := au0 Tryz.prog
theorem le_t (nm : Nat → ByteArray) (D : Nat → Int) (v : Int) (N : Nat) (s : Nat) (K : Nat) (a : Nat) (b : Nat) (c : Nat) (P : List Int) (k : Nat) (K0 : Value → Heap → Prop) :
    (fnP Tryz.prog c0 (hsLe nm D v N s K a b c P k) (64 : FuncId) [off3 N K a b (0 : Nat) (1 : Nat), Value.slice (some { block := (2 : Nat), off := (0 : Nat) }) N c, Value.int IntKind.i64 (↑k : Int)] [rSe nm D v N, rSh D s K, rPl P] K0) =
    (let z0 : AObj := AObj.row [Value.slice (some ⟨0, 0, none⟩) N a, Value.slice (some ⟨1, 0, none⟩) K b] 0 false true false; let z1 : AObj := AObj.row [Value.int .i64 0, Value.int .i64 0] 0 false true true; (Is ((0 : Int) ≤ (k : Int) ∧ (k : Int) < (K : Int)) ∧ Is ((shC D s K)[0 + Int.toNat (k : Int) * 4 + 1]? = some (Value.int .i64 1)) ∧ Is ((0 : Int) ≤ (k : Int) ∧ (k : Int) < (K : Int)) ∧ Is ((shC D s K)[0 + Int.toNat (k : Int) * 4 + 2]? = some (Value.int .i64 0)) ∧ (∃ (s_1 : Nat), Is (s_1 ≤ N) ∧ (Value.int .i64 (k : Int) = Value.int .i64 (k : Int) ∧ Value.pointer (some ⟨3, 0, none⟩) = Value.pointer (some ⟨3, 0, none⟩) ∧ Value.pointer (some ⟨4, 0, none⟩) = Value.pointer (some ⟨4, 0, none⟩) ∧ Value.pointer (some ⟨5, 0, none⟩) = Value.pointer (some ⟨5, 0, none⟩) ∧ Value.slice (some ⟨2, 0, none⟩) N c = Value.slice (some ⟨2, 0, none⟩) N c ∧ Value.int .i64 (N : Int) = Value.int .i64 (N : Int) ∧ Value.int .i64 0 = Value.int .i64 (s_1 : Int) ∧ True) ∧ some (AObj.row (seC nm D v N) 5 true false true) :: some (AObj.row (shC D s K) 4 true false true) :: some (AObj.row (ints P) 1 false false true) :: some z0 :: some z1 :: some (AObj.row [Value.int .i64 1, Value.int .i64 0] 0 false true true) :: noH = some (AObj.row (seC nm D v N) 5 true false true) :: some (AObj.row (shC D s K) 4 true false true) :: some (AObj.row (ints P) 1 false false true) :: some z0 :: some z1 :: some (AObj.row [Value.int .i64 ((1 : Int) - usP (k : Int) (List.take s_1 P)), Value.int .i64 0] 0 false true true) :: noH) ∧ ∀ (s_1 : Nat), Is (s_1 ≤ N) → br (decide ((s_1 : Int) < (N : Int))) (Is ((0 : Int) ≤ (s_1 : Int) ∧ (s_1 : Int) < (N : Int)) ∧ Is ((ints P)[0 + Int.toNat (s_1 : Int) * 1]? = some (Value.int .i64 (List.getD P (0 + Int.toNat (s_1 : Int) * 1) (0 : Int)))) ∧ br (List.getD P (0 + Int.toNat (s_1 : Int) * 1) (0 : Int) == (k : Int)) (Is ((0 : Int) ≤ (s_1 : Int) ∧ (s_1 : Int) < (N : Int)) ∧ Is ((seC nm D v N)[0 + Int.toNat (s_1 : Int) * 5 + 2]? = some (Value.int .i64 1)) ∧ Is ((0 : Int) ≤ (s_1 : Int) ∧ (s_1 : Int) < (N : Int)) ∧ Is ((seC nm D v N)[0 + Int.toNat (s_1 : Int) * 5 + 3]? = some (Value.int .i64 0)) ∧ ∃ (s' : Nat), Is (s' ≤ N) ∧ Is (N - s' < N - s_1) ∧ (Value.int .i64 (k : Int) = Value.int .i64 (k : Int) ∧ Value.pointer (some ⟨3, 0, none⟩) = Value.pointer (some ⟨3, 0, none⟩) ∧ Value.pointer (some ⟨4, 0, none⟩) = Value.pointer (some ⟨4, 0, none⟩) ∧ Value.pointer (some ⟨5, 0, none⟩) = Value.pointer (some ⟨5, 0, none⟩) ∧ Value.slice (some ⟨2, 0, none⟩) N c = Value.slice (some ⟨2, 0, none⟩) N c ∧ Value.int .i64 (N : Int) = Value.int .i64 (N : Int) ∧ Value.int .i64 (IntKind.wrap .i64 ((s_1 : Int) + (1 : Int))) = Value.int .i64 (↑s' : Int) ∧ True) ∧ some (AObj.row (seC nm D v N) 5 true false true) :: some (AObj.row (shC D s K) 4 true false true) :: some (AObj.row (ints P) 1 false false true) :: some z0 :: some z1 :: some (AObj.row [Value.int .i64 (IntKind.wrap .i64 ((1 : Int) - usP (k : Int) (List.take s_1 P) - (1 : Int))), Value.int .i64 0] 0 false true (true && List.all [Value.int .i64 (IntKind.wrap .i64 ((1 : Int) - usP (k : Int) (List.take s_1 P) - (1 : Int)))] atom && List.all [Value.int .i64 0] atom)) :: noH = some (AObj.row (seC nm D v N) 5 true false true) :: some (AObj.row (shC D s K) 4 true false true) :: some (AObj.row (ints P) 1 false false true) :: some z0 :: some z1 :: some (AObj.row [Value.int .i64 ((1 : Int) - usP (k : Int) (List.take s' P)), Value.int .i64 0] 0 false true true) :: noH) (∃ (s' : Nat), Is (s' ≤ N) ∧ Is (N - s' < N - s_1) ∧ (Value.int .i64 (k : Int) = Value.int .i64 (k : Int) ∧ Value.pointer (some ⟨3, 0, none⟩) = Value.pointer (some ⟨3, 0, none⟩) ∧ Value.pointer (some ⟨4, 0, none⟩) = Value.pointer (some ⟨4, 0, none⟩) ∧ Value.pointer (some ⟨5, 0, none⟩) = Value.pointer (some ⟨5, 0, none⟩) ∧ Value.slice (some ⟨2, 0, none⟩) N c = Value.slice (some ⟨2, 0, none⟩) N c ∧ Value.int .i64 (N : Int) = Value.int .i64 (N : Int) ∧ Value.int .i64 (IntKind.wrap .i64 ((s_1 : Int) + (1 : Int))) = Value.int .i64 (↑s' : Int) ∧ True) ∧ some (AObj.row (seC nm D v N) 5 true false true) :: some (AObj.row (shC D s K) 4 true false true) :: some (AObj.row (ints P) 1 false false true) :: some z0 :: some z1 :: some (AObj.row [Value.int .i64 ((1 : Int) - usP (k : Int) (List.take s_1 P)), Value.int .i64 0] 0 false true true) :: noH = some (AObj.row (seC nm D v N) 5 true false true) :: some (AObj.row (shC D s K) 4 true false true) :: some (AObj.row (ints P) 1 false false true) :: some z0 :: some z1 :: some (AObj.row [Value.int .i64 ((1 : Int) - usP (k : Int) (List.take s' P)), Value.int .i64 0] 0 false true true) :: noH)) (K0 (Value.agg #[Value.int .i64 ((1 : Int) - usP (k : Int) (List.take s_1 P)), Value.int .i64 0]) (some (AObj.row (seC nm D v N) 5 true false true) :: some (AObj.row (shC D s K) 4 true false true) :: some (AObj.row (ints P) 1 false false true) :: noH)))) := by kernel_rfl
end
theorem se_len (nm : Nat → ByteArray) (D : Nat → Int) (v : Int) : ∀ m, (seC nm D v m).length = m * 5
  | 0 => rfl
  | m + 1 => by
    have e : seC nm D v (m + 1) = seC nm D v m ++ [.string (nm m), .int .i64 (D m), .int .i64 1, .int .i64 0, .int .i64 v] := by
      rw [seC, List.range_succ, List.flatMap_append, ← seC]; simp
    rw [e, List.length_append, se_len nm D v m]; simp only [List.length_cons, List.length_nil]; omega
theorem se_succ (nm : Nat → ByteArray) (D : Nat → Int) (v : Int) (m : Nat) : seC nm D v (m + 1) = seC nm D v m ++ [.string (nm m), .int .i64 (D m), .int .i64 1, .int .i64 0, .int .i64 v] := by
  rw [seC, List.range_succ, List.flatMap_append, ← seC]; simp
theorem se_at {nm : Nat → ByteArray} {D : Nat → Int} {v : Int} {i : Nat} : ∀ {m : Nat}, i < m → (seC nm D v m)[i * 5]? = some (.string (nm i)) ∧ (seC nm D v m)[i * 5 + 1]? = some (.int .i64 (D i)) ∧ (seC nm D v m)[i * 5 + 2]? = some (.int .i64 1) ∧ (seC nm D v m)[i * 5 + 3]? = some (.int .i64 0) ∧ (seC nm D v m)[i * 5 + 4]? = some (.int .i64 v)
  | 0, h => by omega
  | m + 1, h => by
    have hl := se_len nm D v m
    rw [se_succ]
    rcases (by omega : i = m ∨ i < m) with rfl | h
    · rw [← hl, List.getElem?_append_right (Nat.le_refl _), List.getElem?_append_right (by omega), List.getElem?_append_right (by omega), List.getElem?_append_right (by omega), List.getElem?_append_right (by omega), Nat.sub_self, Nat.add_sub_cancel_left, Nat.add_sub_cancel_left, Nat.add_sub_cancel_left, Nat.add_sub_cancel_left]
      exact ⟨rfl, rfl, rfl, rfl, rfl⟩
    · rw [List.getElem?_append_left (by omega), List.getElem?_append_left (by omega), List.getElem?_append_left (by omega), List.getElem?_append_left (by omega), List.getElem?_append_left (by omega)]
      exact se_at h
theorem sh_succ (D : Nat → Int) (s m : Nat) : shC D s (m + 1) = shC D s m ++ [.int .i64 (D (s + m)), .int .i64 1, .int .i64 0, .int .i64 0] := by
  rw [shC, List.range_succ, List.flatMap_append, ← shC]; simp
theorem sh_len (D : Nat → Int) (s : Nat) : ∀ m, (shC D s m).length = m * 4
  | 0 => rfl
  | m + 1 => by rw [sh_succ, List.length_append, sh_len D s m]; simp only [List.length_cons, List.length_nil]; omega
theorem sh_at {D : Nat → Int} {s i : Nat} : ∀ {m : Nat}, i < m → (shC D s m)[i * 4]? = some (.int .i64 (D (s + i))) ∧ (shC D s m)[i * 4 + 1]? = some (.int .i64 1) ∧ (shC D s m)[i * 4 + 2]? = some (.int .i64 0) ∧ (shC D s m)[i * 4 + 3]? = some (.int .i64 0)
  | 0, h => by omega
  | m + 1, h => by
    have hl := sh_len D s m
    rw [sh_succ]
    rcases (by omega : i = m ∨ i < m) with rfl | h
    · rw [← hl, List.getElem?_append_right (Nat.le_refl _), List.getElem?_append_right (by omega), List.getElem?_append_right (by omega), List.getElem?_append_right (by omega), Nat.sub_self, Nat.add_sub_cancel_left, Nat.add_sub_cancel_left, Nat.add_sub_cancel_left]
      exact ⟨rfl, rfl, rfl, rfl⟩
    · rw [List.getElem?_append_left (by omega), List.getElem?_append_left (by omega), List.getElem?_append_left (by omega), List.getElem?_append_left (by omega)]
      exact sh_at h
theorem cn_app : ∀ (l : List Int) (p : Int), cnP (l ++ [p]) = cnP l + if 0 ≤ p then 1 else 0
  | [], p => by simp [cnP]
  | x :: r, p => by
    show (if 0 ≤ x then 1 else 0) + cnP (r ++ [p]) = (if 0 ≤ x then 1 else 0) + cnP r + _
    rw [cn_app r p]; omega
theorem us_app (k : Int) : ∀ (l : List Int) (p : Int), usP k (l ++ [p]) = usP k l + if p = k then 1 else 0
  | [], p => by simp [usP]
  | x :: r, p => by
    show (if x = k then 1 else 0) + usP k (r ++ [p]) = (if x = k then 1 else 0) + usP k r + _
    rw [us_app k r p]; omega
theorem cn_bd : ∀ l : List Int, 0 ≤ cnP l ∧ cnP l ≤ l.length
  | [] => by simp [cnP]
  | x :: r => by
    have := cn_bd r
    rw [cnP, List.length_cons]; split <;> omega
theorem us_bd (k : Int) : ∀ l : List Int, 0 ≤ usP k l ∧ usP k l ≤ l.length
  | [] => by simp [usP]
  | x :: r => by
    have := us_bd k r
    rw [usP, List.length_cons]; split <;> omega
theorem take_one {l : List Int} {i : Nat} (h : i < l.length) : l.take (i + 1) = l.take i ++ [l.getD i 0] := by
  rw [List.take_add_one, List.getElem?_eq_getElem h, List.getD_eq_getElem?_getD, List.getElem?_eq_getElem h] <;> rfl
section
variable {nm : Nat → ByteArray} {D : Nat → Int} {v : Int} {N s K a b c : Nat} {P : List Int}
theorem to_ok (hp : plOk P N K) (hv : 0 ≤ v ∧ v ≤ 1000) : SmallRes Tryz.prog 30 [off3 N K a b 0 1, .slice (some ⟨2, 0, none⟩) N c] [rSe nm D v N, rSh D s K, rPl P] (.agg #[.int .i64 (v * cnP P), .int .i64 0]) [rSe nm D v N, rSh D s K, rPl P] := by
  obtain ⟨h1, h2, h3, h4⟩ := hp
  refine fnP_res hm c0_ok (hs := hsTo nm D v N s K a b c P) ?_
  rw [to_t]
  refine ⟨⟨(0 : Nat), ⟨by omega⟩, ?_, ?_⟩, fun i hi => br_of (fun h => ?_) (fun h => ?_)⟩
  · repeat (first | exact trivial | refine ⟨by first | trivial | rfl, ?_⟩)
  · rw [List.take_zero, cnP, Int.mul_zero] <;> rfl
  · have h := lt_of_dec h
    have hq := h4 i h
    have e := take_one (l := P) (i := i) (by omega)
    have bd := cn_bd (P.take i)
    have hl : ((P.take i).length : Int) ≤ 100 := by rw [List.length_take]; omega
    have b1 : v * cnP (P.take i) ≤ v * 100 := Int.mul_le_mul_of_nonneg_left (by omega) hv.1
    have b2 : 0 ≤ v * cnP (P.take i) := Int.mul_nonneg hv.1 bd.1
    simp only [Nat.zero_add, Nat.mul_one, Int.toNat_natCast, up1 h (Nat.le_trans h2 (by omega))]
    refine ⟨⟨by omega, by omega⟩, ⟨zint_at (by omega)⟩, br_of (fun hb => ?_) (fun hb => ?_)⟩
    · have hb := of_decide_eq_true hb
      have ek : P.getD i 0 = ((P.getD i 0).toNat : Int) := by omega
      refine ⟨⟨by omega, by omega⟩, ⟨(se_at h).2.2.2.2⟩, ⟨by omega, by omega⟩, ⟨(se_at h).2.2.1⟩, ⟨by omega, by omega⟩, ⟨(sh_at (by omega)).2.2.2⟩, i + 1, ⟨h⟩, ⟨by omega⟩, ?_, ?_⟩
      · repeat (first | exact trivial | refine ⟨by first | trivial | rfl, ?_⟩)
      · rw [e, cn_app, if_pos hb, Int.mul_add, Int.mul_one, wrap_eq (by omega) (by omega)] <;> rfl
    · have hb := of_decide_eq_false hb
      refine ⟨i + 1, ⟨h⟩, ⟨by omega⟩, ?_, ?_⟩
      · repeat (first | exact trivial | refine ⟨by first | trivial | rfl, ?_⟩)
      · rw [e, cn_app, if_neg hb, Int.add_zero]
  · have h := ge_of_dec h
    have : i = N := by have := hi.out; omega
    subst this
    rw [List.take_of_length_le (by omega)]
    exact ⟨by first | trivial | rfl, by first | trivial | rfl⟩
theorem tm_ok {i k : Nat} (hi : i < N) (hk : k < K) : SmallRes Tryz.prog 43 [off3 N K a b 0 1, .int .i64 (i : Int), .int .i64 (k : Int)] [rSe nm D v N, rSh D s K] (.bool (inTm D s i k)) [rSe nm D v N, rSh D s K] := by
  refine fnP_res hm c0_ok (hs := hsIt D s) ?_
  rw [tm_t]
  simp only [Nat.zero_add, Nat.add_zero, Int.toNat_natCast, dAt]
  rw [show k * 4 / 4 = k by omega, show (i * 5 + 1) / 5 = i by omega]
  refine ⟨⟨by omega, by omega⟩, ⟨(sh_at hk).1⟩, ⟨by omega, by omega⟩, ⟨(se_at hi).2.1⟩, ?_, by first | trivial | rfl⟩
  rw [inTm, Int.toNat_natCast, Int.toNat_natCast]
theorem le_ok {k : Nat} (hp : plOk P N K) (hk : k < K) : SmallRes Tryz.prog 64 [off3 N K a b 0 1, .slice (some ⟨2, 0, none⟩) N c, .int .i64 (k : Int)] [rSe nm D v N, rSh D s K, rPl P] (.agg #[.int .i64 (1 - usP k P), .int .i64 0]) [rSe nm D v N, rSh D s K, rPl P] := by
  obtain ⟨h1, h2, h3, h4⟩ := hp
  refine fnP_res hm c0_ok (hs := hsLe nm D v N s K a b c P k) ?_
  rw [le_t]
  simp only [Nat.zero_add, Nat.mul_one, Int.toNat_natCast]
  refine ⟨⟨by omega, by omega⟩, ⟨(sh_at hk).2.1⟩, ⟨by omega, by omega⟩, ⟨(sh_at hk).2.2.1⟩, ⟨(0 : Nat), ⟨by omega⟩, ?_, ?_⟩, fun i hi => br_of (fun h => ?_) (fun h => ?_)⟩
  · repeat (first | exact trivial | refine ⟨by first | trivial | rfl, ?_⟩)
  · rw [List.take_zero, usP, Int.sub_zero] <;> rfl
  · have h := lt_of_dec h
    have e := take_one (l := P) (i := i) (by omega)
    have bd := us_bd k (P.take i)
    have hl : ((P.take i).length : Int) ≤ 100 := by rw [List.length_take]; omega
    simp only [up1 h (Nat.le_trans h2 (by omega))]
    refine ⟨⟨by omega, by omega⟩, ⟨zint_at (by omega)⟩, br_of (fun hb => ?_) (fun hb => ?_)⟩
    · have hb := beq_iff_eq.1 hb
      refine ⟨⟨by omega, by omega⟩, ⟨(se_at h).2.2.1⟩, ⟨by omega, by omega⟩, ⟨(se_at h).2.2.2.1⟩, i + 1, ⟨h⟩, ⟨by omega⟩, ?_, ?_⟩
      · repeat (first | exact trivial | refine ⟨by first | trivial | rfl, ?_⟩)
      · rw [e, us_app, if_pos hb, wrap_eq (by omega) (by omega), show 1 - usP k (P.take i) - 1 = 1 - (usP k (P.take i) + 1) by omega] <;> rfl
    · have hb : ¬ P.getD i 0 = (k : Int) := by simpa using hb
      refine ⟨i + 1, ⟨h⟩, ⟨by omega⟩, ?_, ?_⟩
      · repeat (first | exact trivial | refine ⟨by first | trivial | rfl, ?_⟩)
      · rw [e, us_app, if_neg hb, Int.add_zero]
  · have h := ge_of_dec h
    have : i = N := by have := hi.out; omega
    subst this
    rw [List.take_of_length_le (by omega)]
    exact ⟨by first | trivial | rfl, by first | trivial | rfl⟩
end
end
end Qq
end
section
/- The check of a plan. -/
open Go Go.Vm Go.Proofs Sp
namespace Sp
noncomputable section
noncomputable def cf1 (D : Nat → Int) (s : Nat) (P : List Int) (i : Nat) : Int := if 0 ≤ P.getD i 0 ∧ inTm D s i (P.getD i 0) = false then 23 else 0
noncomputable def cf2 (P : List Int) (k : Nat) : Int := fi [wh (decide (1 - usP k P < 0)) 4, 0]
/-- The error of a plan. -/
noncomputable def ckE (D : Nat → Int) (s N K : Nat) (P : List Int) : Int := sel (errs (cf1 D s P) 0 N) (errs (cf2 P) 0 K)
end
end Sp
namespace Qq
noncomputable section
section
variable (nm : Nat → ByteArray) (D : Nat → Int) (v : Int) (N s K a b c : Nat) (P : List Int)
noncomputable def orcTm : OrcV
  | [.agg ⟨[.slice (some ⟨0, 0, none⟩) N _, .slice (some ⟨1, 0, none⟩) K _]⟩, .int .i64 i, .int .i64 k], [some (.row e 5 true false true), some (.row g 4 true false true)] =>
    some (.bool (inTm D s i k), [some (.row e 5 true false true), some (.row g 4 true false true)], (e = seC nm D v N ∧ g = shC D s K) ∧ (0 ≤ i ∧ i < N) ∧ 0 ≤ k ∧ k < K)
  | _, _ => none
theorem okTm : OkV Tryz.prog 43 (orcTm nm D v s) := by
  intro args H ret H' vc h hv
  unfold orcTm at h
  split at h
  · rename_i N a K b i k e g
    cases h
    obtain ⟨⟨rfl, rfl⟩, h1, h2⟩ := hv
    have e1 : i = (i.toNat : Int) := by omega
    have e2 : k = (k.toNat : Int) := by omega
    rw [e1, e2]
    exact tm_ok (by omega) (by omega)
  · cases h
noncomputable def orcLe : OrcV
  | [.agg ⟨[.slice (some ⟨0, 0, none⟩) N _, .slice (some ⟨1, 0, none⟩) K _]⟩, .slice (some ⟨2, 0, none⟩) M _, .int .i64 k], [some (.row e 5 true false true), some (.row g 4 true false true), some (.row p 1 false false true)] =>
    some (.agg #[.int .i64 (1 - usP k P), .int .i64 0], [some (.row e 5 true false true), some (.row g 4 true false true), some (.row p 1 false false true)], (e = seC nm D v N ∧ g = shC D s K ∧ p = ints P ∧ M = N) ∧ (0 ≤ k ∧ k < K) ∧ plOk P N K)
  | _, _ => none
theorem okLe : OkV Tryz.prog 64 (orcLe nm D v s P) := by
  intro args H ret H' vc h hv
  unfold orcLe at h
  split at h
  · rename_i N a K b M c k e g p
    cases h
    obtain ⟨⟨rfl, rfl, rfl, rfl⟩, h1, h2⟩ := hv
    have e2 : k = (k.toNat : Int) := by omega
    rw [e2]
    exact le_ok h2 (by omega)
  · cases h
end
/-- A truth value that is told. -/
noncomputable def hTell (b : Bool) (h : Hint Tryz.prog) : Hint Tryz.prog where
  fn o env H := match h.fn o env H with
    | some (⟨.bool v, d, x, y⟩, vc) => some (⟨.bool b, d, x, y⟩, vc ∧ v = b)
    | _ => none
  ok := by
    intro o env H out vc hh hv
    split at hh
    · rename_i v d x y vc0 h0
      cases hh
      obtain ⟨h1, rfl⟩ := hv
      exact h.ok h0 h1
    · cases hh
noncomputable def hTold (b : Bool) : Hint Tryz.prog where
  fn o env H := match evOp Tryz.prog env H H.length o with
    | some ⟨.bool v, d, x, y⟩ => some (⟨.bool b, d, x, y⟩, v = b)
    | _ => none
  ok := by
    intro o env H out vc hh hv
    split at hh
    · rename_i v d x y h0
      cases hh
      subst hv
      exact evOp_ok h0
    · cases hh
theorem k3_t (e : List Value) (g : List Value) (N : Nat) (K : Nat) (a : Nat) (b : Nat) (p : Int) (K0 : Value → Heap → Prop) :
    (fnP Tryz.prog c0 h0 (63 : FuncId) [Value.int IntKind.i64 p, Value.pointer (some { block := (0 : Nat), off := (0 : Nat) })] [bxO N K a b (1 : Nat) (2 : Nat), some (AObj.row e (5 : Nat) true false true), some (AObj.row g (4 : Nat) true false true)] K0) =
    (br (decide (p < (-1 : Int))) (K0 (Value.bool true) (some (AObj.row [Value.slice (some ⟨1, 0, none⟩) N a, Value.slice (some ⟨2, 0, none⟩) K b] 0 false true false) :: some (AObj.row e 5 true false true) :: some (AObj.row g 4 true false true) :: noH)) (K0 (Value.bool (decide ((K : Int) ≤ p))) (some (AObj.row [Value.slice (some ⟨1, 0, none⟩) N a, Value.slice (some ⟨2, 0, none⟩) K b] 0 false true false) :: some (AObj.row e 5 true false true) :: some (AObj.row g 4 true false true) :: noH))) := by kernel_rfl
noncomputable def orcK3 : OrcV
  | [.int .i64 p, .pointer (some ⟨0, 0, none⟩)], [some (.row [.slice (some ⟨1, 0, none⟩) N a, .slice (some ⟨2, 0, none⟩) K b] 0 false true false), some (.row e 5 true false true), some (.row g 4 true false true)] =>
    some (.bool false, [some (.row [.slice (some ⟨1, 0, none⟩) N a, .slice (some ⟨2, 0, none⟩) K b] 0 false true false), some (.row e 5 true false true), some (.row g 4 true false true)], -1 ≤ p ∧ p < K)
  | _, _ => none
theorem okK3 : OkV Tryz.prog 63 orcK3 := by
  intro args H ret H' vc h hv
  unfold orcK3 at h
  split at h
  · rename_i p N a K b e g
    cases h
    refine fnP_res hm c0_ok (hs := h0) ?_
    show fnP Tryz.prog c0 h0 63 _ [bxO N K a b 1 2, _, _] _
    rw [k3_t]
    rw [show decide (p < -1) = false from decide_eq_false (by omega)]
    rw [show decide ((K : Int) ≤ p) = false from decide_eq_false (by omega)]
    exact ⟨by first | trivial | rfl, by first | trivial | rfl⟩
  · cases h
noncomputable def f63 (i : Nat) : Value := .func (.func 63) #[] #[.pointer (some ⟨i, 0, none⟩)]
noncomputable def lpK2 (e g : List Value) (N K a b c : Nat) (P : List Int) : Lp where
  σ := Nat
  E i := slots 19 [(0, .slice (some ⟨0, 0, none⟩) N c), (1, f63 1), (7, .int .i64 (N : Int)), (8, .int .i64 (i : Int))]
  Hp _ := [rPl P, bxO N K a b 2 3, some (.row e 5 true false true), some (.row g 4 true false true)]
  I i := i ≤ N
  m i := N - i
noncomputable def hsK2 (e g : List Value) (N K a b c : Nat) (P : List Int) : Hs Tryz.prog where
  op y := if y = 403 then some (hIa Tryz.prog) else if y = 404 then some (hLd Tryz.prog (plI P)) else if y = 405 then some (hCa Tryz.prog 63 orcK3 okK3) else none
  lp _ := some (lpK2 e g N K a b c P)
  cl _ := keep 19 [0, 1, 7, 8]
  sm := true
  au := au0 Tryz.prog
theorem k2_t (e : List Value) (g : List Value) (N : Nat) (K : Nat) (a : Nat) (b : Nat) (c : Nat) (P : List Int) (K0 : Value → Heap → Prop) :
    (fnP Tryz.prog c0 (hsK2 e g N K a b c P) (92 : FuncId) [Value.slice (some { block := (0 : Nat), off := (0 : Nat) }) N c, f63 (1 : Nat)] [rPl P, bxO N K a b (2 : Nat) (3 : Nat), some (AObj.row e (5 : Nat) true false true), some (AObj.row g (4 : Nat) true false true)] K0) =
    ((∃ (s : Nat), Is (s ≤ N) ∧ (Value.slice (some ⟨0, 0, none⟩) N c = Value.slice (some ⟨0, 0, none⟩) N c ∧ Value.func (Fn.func 63) #[] #[Value.pointer (some ⟨1, 0, none⟩)] = Value.func (Fn.func 63) #[] #[Value.pointer (some ⟨1, 0, none⟩)] ∧ Value.int .i64 (N : Int) = Value.int .i64 (N : Int) ∧ Value.int .i64 0 = Value.int .i64 (s : Int) ∧ True) ∧ some (AObj.row (ints P) 1 false false true) :: some (AObj.row [Value.slice (some ⟨2, 0, none⟩) N a, Value.slice (some ⟨3, 0, none⟩) K b] 0 false true false) :: some (AObj.row e 5 true false true) :: some (AObj.row g 4 true false true) :: noH = some (AObj.row (ints P) 1 false false true) :: some (AObj.row [Value.slice (some ⟨2, 0, none⟩) N a, Value.slice (some ⟨3, 0, none⟩) K b] 0 false true false) :: some (AObj.row e 5 true false true) :: some (AObj.row g 4 true false true) :: noH) ∧ ∀ (s : Nat), Is (s ≤ N) → br (decide ((s : Int) < (N : Int))) (Is ((0 : Int) ≤ (s : Int) ∧ (s : Int) < (N : Int)) ∧ Is ((ints P)[0 + Int.toNat (s : Int) * 1]? = some (Value.int .i64 (List.getD P (0 + Int.toNat (s : Int) * 1) (0 : Int)))) ∧ Is ((-1 : Int) ≤ List.getD P (0 + Int.toNat (s : Int) * 1) (0 : Int) ∧ List.getD P (0 + Int.toNat (s : Int) * 1) (0 : Int) < (K : Int)) ∧ ∃ (s' : Nat), Is (s' ≤ N) ∧ Is (N - s' < N - s) ∧ (Value.slice (some ⟨0, 0, none⟩) N c = Value.slice (some ⟨0, 0, none⟩) N c ∧ Value.func (Fn.func 63) #[] #[Value.pointer (some ⟨1, 0, none⟩)] = Value.func (Fn.func 63) #[] #[Value.pointer (some ⟨1, 0, none⟩)] ∧ Value.int .i64 (N : Int) = Value.int .i64 (N : Int) ∧ Value.int .i64 (IntKind.wrap .i64 ((s : Int) + (1 : Int))) = Value.int .i64 (↑s' : Int) ∧ True) ∧ some (AObj.row (ints P) 1 false false true) :: some (AObj.row [Value.slice (some ⟨2, 0, none⟩) N a, Value.slice (some ⟨3, 0, none⟩) K b] 0 false true false) :: some (AObj.row e 5 true false true) :: some (AObj.row g 4 true false true) :: noH = some (AObj.row (ints P) 1 false false true) :: some (AObj.row [Value.slice (some ⟨2, 0, none⟩) N a, Value.slice (some ⟨3, 0, none⟩) K b] 0 false true false) :: some (AObj.row e 5 true false true) :: some (AObj.row g 4 true false true) :: noH) (K0 (Value.int .i64 (-1 : Int)) (some (AObj.row (ints P) 1 false false true) :: some (AObj.row [Value.slice (some ⟨2, 0, none⟩) N a, Value.slice (some ⟨3, 0, none⟩) K b] 0 false true false) :: some (AObj.row e 5 true false true) :: some (AObj.row g 4 true false true) :: noH))) := by kernel_rfl
noncomputable def orcK2 (r : Value) (P : List Int) : OrcV
  | [.slice (some ⟨0, 0, none⟩) M _, f], [some (.row p 1 false false true), some (.row [.slice (some ⟨2, 0, none⟩) N a, .slice (some ⟨3, 0, none⟩) K b] 0 false true false), some (.row e 5 true false true), some (.row g 4 true false true)] =>
    some (r, [some (.row p 1 false false true), some (.row [.slice (some ⟨2, 0, none⟩) N a, .slice (some ⟨3, 0, none⟩) K b] 0 false true false), some (.row e 5 true false true), some (.row g 4 true false true)], (p = ints P ∧ M = N) ∧ f = f63 1 ∧ plOk P N K)
  | _, _ => none
theorem okK2 (P : List Int) : OkV Tryz.prog 92 (orcK2 (.int .i64 (-1)) P) := by
  intro args H ret H' vc h hv
  unfold orcK2 at h
  split at h
  · rename_i M c f p N a K b e g
    cases h
    obtain ⟨⟨rfl, rfl⟩, rfl, h1, h2, h3, h4⟩ := hv
    refine fnP_res hm c0_ok (hs := hsK2 e g M K a b c P) ?_
    show fnP Tryz.prog c0 (hsK2 e g M K a b c P) 92 _ [rPl P, bxO M K a b 2 3, _, _] _
    rw [k2_t]
    refine ⟨⟨(0 : Nat), ⟨by omega⟩, ?_, by first | trivial | rfl⟩, fun i hi => br_of (fun h => ?_) (fun h => ?_)⟩
    · repeat (first | exact trivial | refine ⟨by first | trivial | rfl, ?_⟩)
    · have h := lt_of_dec h
      simp only [Nat.zero_add, Nat.mul_one, Int.toNat_natCast, up1 h (Nat.le_trans h2 (by omega))]
      refine ⟨⟨by omega, by omega⟩, ⟨zint_at (by omega)⟩, ⟨h4 i h⟩, i + 1, ⟨h⟩, ⟨by omega⟩, ?_, by first | trivial | rfl⟩
      repeat (first | exact trivial | refine ⟨by first | trivial | rfl, ?_⟩)
    · exact ⟨by first | trivial | rfl, by first | trivial | rfl⟩
  · cases h
noncomputable def hsK1 (P : List Int) : Hs Tryz.prog where
  au := auCalls [(92, hCa Tryz.prog 92 (orcK2 (.int .i64 (-1)) P) (okK2 P))]
theorem k1_t (e : List Value) (g : List Value) (N : Nat) (K : Nat) (a : Nat) (b : Nat) (c : Nat) (M : Nat) (p : List Value) (P : List Int) (K0 : Value → Heap → Prop) :
    (fnP Tryz.prog c0 (hsK1 P) (62 : FuncId) [Value.slice (some { block := (0 : Nat), off := (0 : Nat) }) M c, f63 (1 : Nat)] [some (AObj.row p (1 : Nat) false false true), bxO N K a b (2 : Nat) (3 : Nat), some (AObj.row e (5 : Nat) true false true), some (AObj.row g (4 : Nat) true false true)] K0) =
    (Is ((p = ints P ∧ M = N) ∧ Value.func (Fn.func 63) #[] #[Value.pointer (some ⟨1, 0, none⟩)] = Value.func (Fn.func 63) #[] #[Value.pointer (some ⟨1, 0, none⟩)] ∧ plOk P N K) ∧ K0 (Value.bool false) (some (AObj.row p 1 false false true) :: some (AObj.row [Value.slice (some ⟨2, 0, none⟩) N a, Value.slice (some ⟨3, 0, none⟩) K b] 0 false true false) :: some (AObj.row e 5 true false true) :: some (AObj.row g 4 true false true) :: noH)) := by kernel_rfl
theorem okK1 (P : List Int) : OkV Tryz.prog 62 (orcK2 (.bool false) P) := by
  intro args H ret H' vc h hv
  unfold orcK2 at h
  split at h
  · rename_i M c f p N a K b e g
    cases h
    have h2 := hv
    obtain ⟨_, rfl, _⟩ := hv
    refine fnP_res hm c0_ok (hs := hsK1 P) ?_
    show fnP Tryz.prog c0 (hsK1 P) 62 _ [_, bxO N K a b 2 3, _, _] _
    rw [k1_t]
    exact ⟨⟨h2⟩, rfl, rfl⟩
  · cases h
section
variable (nm : Nat → ByteArray) (D : Nat → Int) (v : Int) (N s K a b c : Nat) (P : List Int)
noncomputable def hpC : Heap := [rSe nm D v N, rSh D s K, rPl P, bxO N K a b 0 1]
noncomputable def lpC1 : Lp where
  σ := Nat
  E i := slots 60 [(1, .slice (some ⟨2, 0, none⟩) N c), (2, .pointer (some ⟨3, 0, none⟩)), (19, .slice (some ⟨2, 0, none⟩) N c), (20, .int .i64 (N : Int)), (21, .int .i64 (i : Int))]
  Hp _ := hpC nm D v N s K a b P
  I i := i ≤ N ∧ errs (cf1 D s P) i (N - i) = errs (cf1 D s P) 0 N
  m i := N - i
noncomputable def lpC2 : Lp where
  σ := Nat
  E k := slots 60 [(1, .slice (some ⟨2, 0, none⟩) N c), (2, .pointer (some ⟨3, 0, none⟩)), (38, .int .i64 (K : Int)), (39, .int .i64 (k : Int))]
  Hp _ := hpC nm D v N s K a b P
  I k := k ≤ K ∧ errs (cf1 D s P) 0 N = 0 ∧ errs (cf2 P) k (K - k) = errs (cf2 P) 0 K
  m k := K - k
noncomputable def hsC : Hs Tryz.prog where
  op y := if y = 701 then some (hIa Tryz.prog) else if y = 702 then some (hLd Tryz.prog (plI P)) else if y = 105 then some (hTold false) else none
  lp y := if y = 6 then some (lpC1 nm D v N s K a b c P) else some (lpC2 nm D v N s K a b c P)
  cl y := if y = 6 then keep 60 [1, 2, 19, 20, 21] else keep 60 [1, 2, 38, 39]
  sm := true
  au := auCalls [(62, hCa Tryz.prog 62 (orcK2 (.bool false) P) (okK1 P)), (43, hCa Tryz.prog 43 (orcTm nm D v s) (okTm nm D v s)), (64, hCa Tryz.prog 64 (orcLe nm D v s P) (okLe nm D v s P))]
theorem cpl_t (nm : Nat → ByteArray) (D : Nat → Int) (v : Int) (N : Nat) (s : Nat) (K : Nat) (a : Nat) (b : Nat) (c : Nat) (P : List Int) (K0 : Value → Heap → Prop) :
    (fnP Tryz.prog cu2 (hsC nm D v N s K a b c P) (32 : FuncId) [off3 N K a b (0 : Nat) (1 : Nat), Value.slice (some { block := (2 : Nat), off := (0 : Nat) }) N c] [rSe nm D v N, rSh D s K, rPl P] K0) =
    (let q0 : Prop := Value.slice (some ⟨2, 0, none⟩) N c = Value.slice (some ⟨2, 0, none⟩) N c; let q1 : Prop := Value.pointer (some ⟨3, 0, none⟩) = Value.pointer (some ⟨3, 0, none⟩); let z2 : AObj := AObj.row [Value.slice (some ⟨0, 0, none⟩) N a, Value.slice (some ⟨1, 0, none⟩) K b] 0 false true false; (Is (((N : Int) != (N : Int)) = false) ∧ Is ((ints P = ints P ∧ N = N) ∧ Value.func (Fn.func 63) #[] #[Value.pointer (some ⟨1, 0, none⟩)] = Value.func (Fn.func 63) #[] #[Value.pointer (some ⟨1, 0, none⟩)] ∧ plOk P N K) ∧ (∃ (s_1 : Nat), Is (s_1 ≤ N ∧ errs (cf1 D s P) s_1 (N - s_1) = errs (cf1 D s P) 0 N) ∧ (q0 ∧ q1 ∧ q0 ∧ Value.int .i64 (N : Int) = Value.int .i64 (N : Int) ∧ Value.int .i64 0 = Value.int .i64 (s_1 : Int) ∧ True) ∧ some (AObj.row (seC nm D v N) 5 true false true) :: some (AObj.row (shC D s K) 4 true false true) :: some (AObj.row (ints P) 1 false false true) :: some z2 :: noH = some (AObj.row (seC nm D v N) 5 true false true) :: some (AObj.row (shC D s K) 4 true false true) :: some (AObj.row (ints P) 1 false false true) :: some z2 :: noH) ∧ ∀ (s_1 : Nat), Is (s_1 ≤ N ∧ errs (cf1 D s P) s_1 (N - s_1) = errs (cf1 D s P) 0 N) → br (decide ((s_1 : Int) < (N : Int))) (Is ((0 : Int) ≤ (s_1 : Int) ∧ (s_1 : Int) < (N : Int)) ∧ Is ((ints P)[0 + Int.toNat (s_1 : Int) * 1]? = some (Value.int .i64 (List.getD P (0 + Int.toNat (s_1 : Int) * 1) (0 : Int)))) ∧ br (decide ((0 : Int) ≤ List.getD P (0 + Int.toNat (s_1 : Int) * 1) (0 : Int))) (Is ((seC nm D v N = seC nm D v N ∧ shC D s K = shC D s K) ∧ ((0 : Int) ≤ (s_1 : Int) ∧ (s_1 : Int) < (N : Int)) ∧ (0 : Int) ≤ List.getD P (0 + Int.toNat (s_1 : Int) * 1) (0 : Int) ∧ List.getD P (0 + Int.toNat (s_1 : Int) * 1) (0 : Int) < (K : Int)) ∧ br (!inTm D s (s_1 : Int) (List.getD P (0 + Int.toNat (s_1 : Int) * 1) (0 : Int))) (K0 (Value.int .i64 23) (some (AObj.row (seC nm D v N) 5 true false true) :: some (AObj.row (shC D s K) 4 true false true) :: some (AObj.row (ints P) 1 false false true) :: noH)) (∃ (s' : Nat), Is (s' ≤ N ∧ errs (cf1 D s P) s' (N - s') = errs (cf1 D s P) 0 N) ∧ Is (N - s' < N - s_1) ∧ (q0 ∧ q1 ∧ q0 ∧ Value.int .i64 (N : Int) = Value.int .i64 (N : Int) ∧ Value.int .i64 (IntKind.wrap .i64 ((s_1 : Int) + (1 : Int))) = Value.int .i64 (↑s' : Int) ∧ True) ∧ some (AObj.row (seC nm D v N) 5 true false true) :: some (AObj.row (shC D s K) 4 true false true) :: some (AObj.row (ints P) 1 false false true) :: some z2 :: noH = some (AObj.row (seC nm D v N) 5 true false true) :: some (AObj.row (shC D s K) 4 true false true) :: some (AObj.row (ints P) 1 false false true) :: some z2 :: noH)) (∃ (s' : Nat), Is (s' ≤ N ∧ errs (cf1 D s P) s' (N - s') = errs (cf1 D s P) 0 N) ∧ Is (N - s' < N - s_1) ∧ (q0 ∧ q1 ∧ q0 ∧ Value.int .i64 (N : Int) = Value.int .i64 (N : Int) ∧ Value.int .i64 (IntKind.wrap .i64 ((s_1 : Int) + (1 : Int))) = Value.int .i64 (↑s' : Int) ∧ True) ∧ some (AObj.row (seC nm D v N) 5 true false true) :: some (AObj.row (shC D s K) 4 true false true) :: some (AObj.row (ints P) 1 false false true) :: some z2 :: noH = some (AObj.row (seC nm D v N) 5 true false true) :: some (AObj.row (shC D s K) 4 true false true) :: some (AObj.row (ints P) 1 false false true) :: some z2 :: noH)) ((∃ (s_2 : Nat), Is (s_2 ≤ K ∧ errs (cf1 D s P) 0 N = (0 : Int) ∧ errs (cf2 P) s_2 (K - s_2) = errs (cf2 P) 0 K) ∧ (q0 ∧ q1 ∧ Value.int .i64 (K : Int) = Value.int .i64 (K : Int) ∧ Value.int .i64 0 = Value.int .i64 (s_2 : Int) ∧ True) ∧ some (AObj.row (seC nm D v N) 5 true false true) :: some (AObj.row (shC D s K) 4 true false true) :: some (AObj.row (ints P) 1 false false true) :: some z2 :: noH = some (AObj.row (seC nm D v N) 5 true false true) :: some (AObj.row (shC D s K) 4 true false true) :: some (AObj.row (ints P) 1 false false true) :: some z2 :: noH) ∧ ∀ (s_2 : Nat), Is (s_2 ≤ K ∧ errs (cf1 D s P) 0 N = (0 : Int) ∧ errs (cf2 P) s_2 (K - s_2) = errs (cf2 P) 0 K) → br (decide ((s_2 : Int) < (K : Int))) (Is ((seC nm D v N = seC nm D v N ∧ shC D s K = shC D s K ∧ ints P = ints P ∧ N = N) ∧ ((0 : Int) ≤ (s_2 : Int) ∧ (s_2 : Int) < (K : Int)) ∧ plOk P N K) ∧ br (fi [wh (decide ((1 : Int) - usP (s_2 : Int) P < (0 : Int))) (4 : Int), (0 : Int)] != (0 : Int)) (K0 (Value.int .i64 (fi [wh (decide ((1 : Int) - usP (s_2 : Int) P < (0 : Int))) (4 : Int), (0 : Int)])) (some (AObj.row (seC nm D v N) 5 true false true) :: some (AObj.row (shC D s K) 4 true false true) :: some (AObj.row (ints P) 1 false false true) :: noH)) (∃ (s' : Nat), Is (s' ≤ K ∧ errs (cf1 D s P) 0 N = (0 : Int) ∧ errs (cf2 P) s' (K - s') = errs (cf2 P) 0 K) ∧ Is (K - s' < K - s_2) ∧ (q0 ∧ q1 ∧ Value.int .i64 (K : Int) = Value.int .i64 (K : Int) ∧ Value.int .i64 (IntKind.wrap .i64 ((s_2 : Int) + (1 : Int))) = Value.int .i64 (↑s' : Int) ∧ True) ∧ some (AObj.row (seC nm D v N) 5 true false true) :: some (AObj.row (shC D s K) 4 true false true) :: some (AObj.row (ints P) 1 false false true) :: some z2 :: noH = some (AObj.row (seC nm D v N) 5 true false true) :: some (AObj.row (shC D s K) 4 true false true) :: some (AObj.row (ints P) 1 false false true) :: some z2 :: noH)) (K0 (Value.int .i64 0) (some (AObj.row (seC nm D v N) 5 true false true) :: some (AObj.row (shC D s K) 4 true false true) :: some (AObj.row (ints P) 1 false false true) :: noH))))) := by kernel_rfl
end
theorem errs_step (f : Nat → Int) {s n : Nat} (h : s < n) : errs f s (n - s) = sel (f s) (errs f (s + 1) (n - (s + 1))) := by
  rw [show n - s = (n - (s + 1)) + 1 by omega, errs]
theorem errs_zero {f : Nat → Int} : ∀ {k i : Nat}, errs f i k = 0 → ∀ j, i ≤ j → j < i + k → f j = 0
  | 0, i, _, j, h1, h2 => by omega
  | k + 1, i, h, j, h1, h2 => by
    rw [errs, sel] at h
    split at h
    · rename_i h0
      by_cases e : j = i
      · rw [e]; exact h0
      · exact errs_zero h j (by omega) (by omega)
    · rename_i h0; exact absurd h h0
theorem errs_all {f : Nat → Int} : ∀ {k i : Nat}, (∀ j, i ≤ j → j < i + k → f j = 0) → errs f i k = 0
  | 0, i, _ => rfl
  | k + 1, i, h => by
    rw [errs, sel, if_pos (h i (Nat.le_refl _) (by omega))]
    exact errs_all fun j h1 h2 => h j (by omega) (by omega)
theorem se_no {e d : Int} (h : e ≠ 0) : sel e d = e := by rw [sel, if_neg h]
theorem se_ok {e d : Int} (h : e = 0) : sel e d = d := by rw [sel, if_pos h]
theorem bne_selfN (l : Nat) : ((l : Int) != (l : Int)) = false := by simp
section
variable {nm : Nat → ByteArray} {D : Nat → Int} {v : Int} {N s K a b c : Nat} {P : List Int}
theorem cpl_ok (hp : plOk P N K) : SmallRes Tryz.prog 32 [off3 N K a b 0 1, .slice (some ⟨2, 0, none⟩) N c] [rSe nm D v N, rSh D s K, rPl P] (.int .i64 (ckE D s N K P)) [rSe nm D v N, rSh D s K, rPl P] := by
  have hp' := hp
  obtain ⟨h1, h2, h3, h4⟩ := hp
  refine fnP_res hm cu2_ok (hs := hsC nm D v N s K a b c P) ?_
  rw [cpl_t]
  refine ⟨⟨bne_selfN N⟩, ⟨⟨rfl, rfl⟩, rfl, hp'⟩, ⟨(0 : Nat), ⟨by omega, rfl⟩, ?_, by first | trivial | rfl⟩, fun i hi => br_of (fun h => ?_) (fun h => ?_)⟩
  · repeat (first | exact trivial | refine ⟨by first | trivial | rfl, ?_⟩)
  · have h := lt_of_dec h
    obtain ⟨a1, a2⟩ := hi.out
    have hst := errs_step (cf1 D s P) h
    have hq := h4 i h
    simp only [Nat.zero_add, Nat.mul_one, Int.toNat_natCast, up1 h (Nat.le_trans h2 (by omega))]
    refine ⟨⟨by omega, by omega⟩, ⟨zint_at (by omega)⟩, br_of (fun hb => ⟨⟨by simp, ⟨by omega, by omega⟩, of_decide_eq_true hb, hq.2⟩, br_of (fun ht => ?_) (fun ht => ?_)⟩) (fun hb => ?_)⟩
    · have hb := of_decide_eq_true hb
      have e : cf1 D s P i = 23 := by rw [cf1, if_pos ⟨hb, by simpa using ht⟩]
      rw [ckE, ← a2, hst, e, se_no (e := 23) (d := errs _ _ _) (by decide), se_no (by decide)]
      exact ⟨by first | trivial | rfl, by first | trivial | rfl⟩
    · have e : cf1 D s P i = 0 := by
        have ht : inTm D s i (P.getD i 0) = true := by simpa using ht
        rw [cf1, if_neg (fun h => by rw [ht] at h; cases h.2)]
      refine ⟨i + 1, ⟨h, by rw [← a2, hst, se_ok e]⟩, ⟨by omega⟩, ?_, by first | trivial | rfl⟩
      repeat (first | exact trivial | refine ⟨by first | trivial | rfl, ?_⟩)
    · have hb := of_decide_eq_false hb
      have e : cf1 D s P i = 0 := by rw [cf1, if_neg (fun h => hb h.1)]
      refine ⟨i + 1, ⟨h, by rw [← a2, hst, se_ok e]⟩, ⟨by omega⟩, ?_, by first | trivial | rfl⟩
      repeat (first | exact trivial | refine ⟨by first | trivial | rfl, ?_⟩)
  · have h := ge_of_dec h
    obtain ⟨a1, a2⟩ := hi.out
    have z : errs (cf1 D s P) 0 N = 0 := by rw [← a2, show N - i = 0 by omega] <;> rfl
    refine ⟨⟨(0 : Nat), ⟨by omega, z, rfl⟩, ?_, by first | trivial | rfl⟩, fun k hk => br_of (fun h => ?_) (fun h => ?_)⟩
    · repeat (first | exact trivial | refine ⟨by first | trivial | rfl, ?_⟩)
    · have h := lt_of_dec h
      obtain ⟨b1, _, b2⟩ := hk.out
      have hst := errs_step (cf2 P) h
      simp only [up1 h (Nat.le_trans h3 (by omega))]
      refine ⟨⟨by simp, ⟨by omega, by omega⟩, hp'⟩, br_of (fun ht => ?_) (fun ht => ?_)⟩
      · have e : cf2 P k ≠ 0 := by rw [cf2]; simpa using ht
        rw [ckE, z, se_ok rfl, ← b2, hst, se_no e, cf2]
        exact ⟨by first | trivial | rfl, by first | trivial | rfl⟩
      · have e : cf2 P k = 0 := by rw [cf2]; simpa using ht
        refine ⟨k + 1, ⟨h, z, by rw [← b2, hst, se_ok e]⟩, ⟨by omega⟩, ?_, by first | trivial | rfl⟩
        repeat (first | exact trivial | refine ⟨by first | trivial | rfl, ?_⟩)
    · have h := ge_of_dec h
      obtain ⟨b1, _, b2⟩ := hk.out
      rw [ckE, z, se_ok rfl, ← b2, show K - k = 0 by omega]
      exact ⟨by first | trivial | rfl, by first | trivial | rfl⟩
end
noncomputable def _root_.Sp.btr (a b c d : Int) : Bool := decide (c < a) || (a == c && decide (b < d))
theorem bt_t (a : Int) (b : Int) (c : Int) (d : Int) (K : Value → Heap → Prop) :
    (fnP Tryz.prog c0 h0 (31 : FuncId) [Value.agg #[Value.int IntKind.i64 a, Value.int IntKind.i64 b], Value.agg #[Value.int IntKind.i64 c, Value.int IntKind.i64 d]] [] K) =
    (br (decide (c < a)) (K (Value.bool true) noH) (br (a == c) (K (Value.bool (decide (b < d))) noH) (K (Value.bool false) noH))) := by kernel_rfl
noncomputable def orcBt : OrcV
  | [.agg ⟨[.int .i64 a, .int .i64 b]⟩, .agg ⟨[.int .i64 c, .int .i64 d]⟩], [] => some (.bool (btr a b c d), [], True)
  | _, _ => none
theorem okBt : OkV Tryz.prog 31 orcBt := by
  intro args H ret H' vc h hv
  unfold orcBt at h
  split at h
  · rename_i a b c d
    cases h
    refine fnP_res hm c0_ok (hs := h0) ?_
    show fnP Tryz.prog c0 h0 31 [.agg #[.int .i64 a, .int .i64 b], .agg #[.int .i64 c, .int .i64 d]] [] _
    rw [bt_t, btr]
    refine br_of (fun h => ?_) (fun h => br_of (fun h2 => ?_) (fun h2 => ?_))
    · rw [h]; exact ⟨by first | trivial | rfl, by first | trivial | rfl⟩
    · rw [h, h2]; exact ⟨by first | trivial | rfl, by first | trivial | rfl⟩
    · rw [h, h2]; exact ⟨by first | trivial | rfl, by first | trivial | rfl⟩
  · cases h
end
end Qq
end
