/- The quotients that the law about exact lines holds against each other. -/
import Derived.Test.YtaigknknfaeajaaGreatDoorQXD
open Go Go.Vm Go.Proofs Sp
namespace Qq
noncomputable section
theorem gz0 (x : Int) : gz 0 x = x := if_pos rfl
theorem wrap_abs {x : Int} {B : Int} (h0 : -B ≤ x) (h1 : x ≤ B) (hB : B ≤ 9000000000000000000) : IntKind.wrap .i64 x = x := wrap_eq (by omega) (by omega)
/-- Bounds of a quotient in lowest terms. -/
theorem low_bd {a d A D : Int} (h : LowIn a d) (a0 : -A ≤ a) (a1 : a ≤ A) (d1 : d ≤ D) : -A ≤ lowN a d ∧ lowN a d ≤ A ∧ 0 < lowD a d ∧ lowD a d ≤ D := by
  obtain ⟨_, e2, e3, e4⟩ := low_rep h
  omega
section
variable {nm : ByteArray} {zs : List Int} {n : Nat} {ks : List (Int × ByteArray)} {k : Nat}
/-- A prediction on any day. -/
theorem xp_far (hS : NearS nm zs n ks k) (hz : zs.length = n * 2) (hk : ks.length = k) {j : Nat} (hj : j ≤ k) (h : 2 ≤ upto zs ks n k j - frm zs ks j) {x : Int} (x0 : 0 ≤ x) (x1 : x ≤ 100000) :
    -1100000000000 ≤ pA zs ks n k (j : Int) x ∧ pA zs ks n k (j : Int) x ≤ 1100000000000 := by
  obtain ⟨⟨a0, a1⟩, ⟨b0, b1⟩, _⟩ := xp_line hS hz hk hj h
  obtain ⟨z0, z1⟩ := xp_first hS hz hk hj (by omega)
  have := abs_mul (a := pS zs ks n k (j : Int)) (b := x - p0D zs ks (j : Int)) (A := 10240000) (B := 100000) b0 b1 (by omega) (by omega)
  unfold pA
  have e : zs.getD (pf zs ks (j : Int) * 2) 0 = p0D zs ks (j : Int) := rfl
  rw [e]
  omega
/-- Reached, or not. -/
theorem xp_re (hS : NearS nm zs n ks k) {j : Nat} (hj : j ≤ k) (h : 2 ≤ upto zs ks n k j - frm zs ks j) {l : Int} (l0 : 0 ≤ l) (l1 : l ≤ 400) : reE nm zs n ks k (j : Int) l = wh (!rdB zs ks n k (j : Int) l) 7 := by
  have h1 : fi [perE nm zs n ks k (j : Int), wi l 0 100000] = 0 := by
    refine fi_zero.2 fun e he => ?_
    simp only [List.mem_cons, List.not_mem_nil, or_false] at he
    rcases he with rfl | rfl
    · exact xp_perE hS hj
    · exact wi_zero.2 ⟨l0, by omega⟩
  rw [reE, sel, if_pos h1, rdE, pm_x, decide_eq_false (by omega)]
  rfl
theorem rd_yes {j : Nat} {l : Int} (h : rdB zs ks n k (j : Int) l = true) :
    l * pD zs ks n k (j : Int) ≤ pA zs ks n k (j : Int) (rdN zs ks n k (j : Int) l) ∧ pZ zs ks n k (j : Int) ≤ rdN zs ks n k (j : Int) l ∧ (pZ zs ks n k (j : Int) < rdN zs ks n k (j : Int) l → pA zs ks n k (j : Int) (rdN zs ks n k (j : Int) l - 1) < l * pD zs ks n k (j : Int)) := rc_reach h
theorem rd_late {j : Nat} {l : Int} (h : rdB zs ks n k (j : Int) l = true) (hZ : pZ zs ks n k (j : Int) ≤ 100000) : rdN zs ks n k (j : Int) l ≤ 100000 := by
  rw [rdB, rcB] at h
  rw [rdN, rcN]
  split
  · exact hZ
  · rename_i h1
    rw [decide_eq_false h1, Bool.false_or, Bool.and_eq_true] at h
    split
    · omega
    · exact of_decide_eq_true h.2
end
end
end Qq
