/- Measurements that lie on a line: they have this line. -/
import Derived.Test.YtaigknknfaeajaaGreatDoorQXE
import Derived.Test.YtaigknknfaeajaaGreatDoorZS
open Go Go.Vm Go.Proofs Sp
namespace Sp
noncomputable section
/-- The level and the slope that the law draws. -/
noncomputable def lvD (x : Int) : Int := x.tmod 401
noncomputable def slD (x : Int) : Int := x.tmod 101
/-- The day that the law draws. -/
noncomputable def dyX (zs : List Int) (ks : List (Int × ByteArray)) (j : Nat) (x0 : Int) : Int := if zs.getD (frm zs ks j * 2) 0 + x0.tmod 1001 < 99999 then zs.getD (frm zs ks j * 2) 0 + x0.tmod 1001 else 99999
/-- The measurements, the first i of them on a line. -/
noncomputable def linL (a b : Int) (zs : List Int) (i : Nat) : List Int := Qq.lineL a b (zs.getD 0 0) (zs.take (i * 2)) ++ zs.drop (i * 2)
noncomputable def sttN (zs : List Int) (ks : List (Int × ByteArray)) (n k j : Nat) : Nat := if j ≤ k then frm zs ks j else n
end
end Sp
namespace Qq
noncomputable section
theorem linL_zero (a b : Int) (zs : List Int) : linL a b zs 0 = zs := by
  rw [linL, Nat.zero_mul, List.take_zero, List.drop_zero]; rfl
theorem lineL_app (a b z d x : Int) : ∀ (N : Nat) (l : List Int), l.length = N * 2 → lineL a b z (l ++ [d, x]) = lineL a b z l ++ [d, a + b * (d - z)]
  | 0, [], _ => rfl
  | N + 1, [_], h => by simp only [List.length_cons, List.length_nil] at h; omega
  | N + 1, u :: v :: r, h => by
    have := lineL_app a b z d x N r (by simp only [List.length_cons] at h; omega)
    simp only [List.cons_append, lineL, this]
theorem linL_full {zs : List Int} {n : Nat} (hz : zs.length = n * 2) (a b : Int) : linL a b zs n = lineL a b (zs.getD 0 0) zs := by
  rw [linL, List.take_of_length_le (by omega), List.drop_eq_nil_of_le (by omega), List.append_nil]
theorem linL_len {zs : List Int} {n i : Nat} (hz : zs.length = n * 2) (h : i ≤ n) (a b : Int) : (linL a b zs i).length = n * 2 := by
  have := lineL_len a b (zs.getD 0 0) i (zs.take (i * 2)) (by rw [List.length_take]; omega)
  rw [linL, List.length_append, this, List.length_take, List.length_drop]; omega
theorem take_two {zs : List Int} {i : Nat} (h : i * 2 + 2 ≤ zs.length) : zs.take ((i + 1) * 2) = zs.take (i * 2) ++ [zs.getD (i * 2) 0, zs.getD (i * 2 + 1) 0] := by
  rw [show (i + 1) * 2 = i * 2 + 2 by omega, List.take_add, pair_at h]
/-- One more on the line. -/
theorem linL_step {zs : List Int} {n i : Nat} (hz : zs.length = n * 2) (h : i < n) (a b : Int) : putAt (ints (linL a b zs i)) (i * 2 + 1) [.int .i64 (a + b * (zs.getD (i * 2) 0 - zs.getD 0 0))] (ints (linL a b zs (i + 1))) := by
  have hl := lineL_len a b (zs.getD 0 0) i (zs.take (i * 2)) (by rw [List.length_take]; omega)
  have hl2 : (lineL a b (zs.getD 0 0) (zs.take (i * 2))).length = i * 2 := by rw [hl, List.length_take]; omega
  have e1 : linL a b zs i = lineL a b (zs.getD 0 0) (zs.take (i * 2)) ++ zs.getD (i * 2) 0 :: zs.getD (i * 2 + 1) 0 :: zs.drop ((i + 1) * 2) := by
    rw [linL, drop_two (by omega)]
  have e2 : linL a b zs (i + 1) = lineL a b (zs.getD 0 0) (zs.take (i * 2)) ++ zs.getD (i * 2) 0 :: (a + b * (zs.getD (i * 2) 0 - zs.getD 0 0)) :: zs.drop ((i + 1) * 2) := by
    rw [linL, take_two (by omega), lineL_app a b _ _ _ i _ (by rw [List.length_take]; omega), List.append_assoc]; rfl
  rw [e1, e2]
  generalize lineL a b (zs.getD 0 0) (zs.take (i * 2)) = L at *
  unfold putAt splice
  simp only [ints, List.map_append, List.map_cons, List.length_cons, List.length_nil]
  have hm : (L.map (Value.int .i64)).length = i * 2 := by rw [List.length_map, hl2]
  have t : ∀ (M R : List Value) (u v w : Value), M.length = i * 2 → (M ++ u :: v :: R).take (i * 2 + 1) ++ ([w] ++ (M ++ u :: v :: R).drop (i * 2 + 1 + (0 + 1))) = M ++ u :: w :: R := by
    intro M R u v w hM
    rw [← hM, List.take_append, List.drop_append]
    simp
    rw [List.take_of_length_le (by omega), List.drop_eq_nil_of_le (by omega), show M.length + 1 + 1 - M.length = 2 by omega]
    rfl
  exact t _ _ _ _ _ hm
theorem linL_day {zs : List Int} {n i m : Nat} (hz : zs.length = n * 2) (h : i ≤ n) (hm : i ≤ m) (a b : Int) : (linL a b zs i).getD (m * 2) 0 = zs.getD (m * 2) 0 := by
  have hl := lineL_len a b (zs.getD 0 0) i (zs.take (i * 2)) (by rw [List.length_take]; omega)
  have hl2 : (lineL a b (zs.getD 0 0) (zs.take (i * 2))).length = i * 2 := by rw [hl, List.length_take]; omega
  rw [linL, List.getD_eq_getElem?_getD, List.getElem?_append_right (by omega), hl2, List.getElem?_drop, List.getD_eq_getElem?_getD]
  congr 2
  omega
theorem lineL_first (a b z : Int) : ∀ l : List Int, 2 ≤ l.length → (lineL a b z l).getD 0 0 = l.getD 0 0
  | [], h => by simp at h
  | [_], h => by simp at h
  | _ :: _ :: _, _ => rfl
theorem linL_first {zs : List Int} {n i : Nat} (hz : zs.length = n * 2) (h : i ≤ n) (a b : Int) : (linL a b zs i).getD 0 0 = zs.getD 0 0 := by
  rcases Nat.eq_zero_or_pos i with h0 | h0
  · subst h0; rw [linL_zero]
  · have hl := lineL_len a b (zs.getD 0 0) i (zs.take (i * 2)) (by rw [List.length_take]; omega)
    have h2 : (zs.take (i * 2)).length = i * 2 := by rw [List.length_take]; omega
    have := lineL_first a b (zs.getD 0 0) (zs.take (i * 2)) (by omega)
    rw [linL, List.getD_eq_getElem?_getD, List.getElem?_append_left (by omega), ← List.getD_eq_getElem?_getD, this, List.getD_eq_getElem?_getD, List.getElem?_take, if_pos (by omega), ← List.getD_eq_getElem?_getD]
theorem low_mul {a D : Int} (hD : 0 < D) (hD1 : D ≤ 10240000) (a0 : 0 ≤ a) (a1 : a ≤ 400) : lowN (a * D) D = a ∧ lowD (a * D) D = 1 := by
  have p := abs_mul (a := a) (b := D) (A := 400) (B := 10240000) (by omega) a1 (by omega) hD1
  obtain ⟨e1, e2⟩ := low_one (a := a) (by omega) (by omega)
  obtain ⟨f1, f2⟩ := low_same (a := a * D) (d := D) (b := a) (e := 1) ⟨hD, by omega, by omega, by omega⟩ ⟨by omega, by omega, by omega, by omega⟩ (by rw [Int.mul_one])
  exact ⟨f1.trans e1, f2.trans e2⟩
section
variable {nm : ByteArray} {zs : List Int} {n : Nat} {ks : List (Int × ByteArray)} {k : Nat}
/-- The measurements alone are near, too. -/
theorem near_alone (hS : NearS nm zs n ks k) : NearS nm zs n [] 0 := by
  refine ⟨?_, hS.n8, by omega, hS.all⟩
  have h := hS.ok
  rw [secE] at h ⊢
  obtain ⟨h1, h2⟩ := sel_zero.1 h
  obtain ⟨h3, _⟩ := sel_zero.1 h2
  exact sel_zero.2 ⟨h1, sel_zero.2 ⟨h3, rfl⟩⟩
/-- The section with its measurements on a line. -/
theorem lin_sec (hS : NearS nm zs n ks k) (hz : zs.length = n * 2) {a b : Int} (a0 : 0 ≤ a) (a1 : a ≤ 400) (b0 : 0 ≤ b) (b1 : b ≤ 100) : secE nm (linL a b zs n) n [] 0 = 0 := by
  have h := (near_alone hS).ok
  have hm := (secE_ok hS.ok).1
  rw [secE] at h ⊢
  obtain ⟨h1, _⟩ := sel_zero.1 h
  refine sel_zero.2 ⟨h1, sel_zero.2 ⟨?_, rfl⟩⟩
  rw [linL_full hz]
  refine lineL_chk a b (zs.getD 0 0) zs (-1) hm fun i hi => ?_
  have h2 := (hS.all i hi).2
  have h3 : zs.getD 0 0 ≤ zs.getD (i * 2) 0 := by
    rcases Nat.eq_zero_or_pos i with h | h
    · rw [h]; exact Int.le_refl _
    · have := mchk_up zs (-1) hm 0 i h hi
      rw [Nat.zero_mul] at this; omega
  have := mul_in (a := b) (b := zs.getD (i * 2) 0 - zs.getD 0 0) (A := 100) (B := 400) b0 b1 (by omega) (by omega)
  omega
theorem lin_fe (hS : NearS nm zs n ks k) (hz : zs.length = n * 2) {a b : Int} (a0 : 0 ≤ a) (a1 : a ≤ 400) (b0 : 0 ≤ b) (b1 : b ≤ 100) (h2 : 2 ≤ n) : feE nm (linL a b zs n) n [] 0 0 = 0 := by
  have e1 : perE nm (linL a b zs n) n [] 0 0 = 0 := by
    rw [perE, lin_sec hS hz a0 a1 b0 b1]; rfl
  have e2 : pm (linL a b zs n) [] n 0 0 = n := rfl
  rw [feE, e1, sel, if_pos rfl, e2, decide_eq_false (by omega)]; rfl
/-- They have this line. -/
theorem lin_line (hS : NearS nm zs n ks k) (hz : zs.length = n * 2) (a b : Int) (h2 : 2 ≤ n) :
    p0D (linL a b zs n) [] 0 = zs.getD 0 0 ∧ ∃ D : Int, 0 < D ∧ D ≤ 10240000 ∧ pD (linL a b zs n) [] n 0 0 = D ∧ pL (linL a b zs n) [] n 0 0 = a * D ∧ pS (linL a b zs n) [] n 0 0 = b * D := by
  have e0 : p0D (linL a b zs n) [] 0 = (linL a b zs n).getD 0 0 := rfl
  refine ⟨by rw [e0, linL_first hz (Nat.le_refl _)], dn zs 0 n, ?_⟩
  have hl := xp_line (near_alone hS) hz rfl (j := 0) (Nat.le_refl _) (by rw [show upto zs [] n 0 0 - frm zs [] 0 = n from rfl]; exact h2)
  have e1 : pD zs [] n 0 ((0 : Nat) : Int) = dn zs 0 n := rfl
  rw [e1] at hl
  obtain ⟨f1, f2, f3, _⟩ := lineL_line (l := zs) (m := n) hz a b
  have e2 : linL a b zs n = lineL a b (d0 zs 0) zs := linL_full hz a b
  refine ⟨hl.2.2.1, hl.2.2.2, ?_, ?_, ?_⟩
  · have : pD (linL a b zs n) [] n 0 0 = dn (linL a b zs n) 0 n := rfl
    rw [this, e2, f3]
  · have : pL (linL a b zs n) [] n 0 0 = lvl (linL a b zs n) 0 n := rfl
    rw [this, e2, f1]
  · have : pS (linL a b zs n) [] n 0 0 = slp (linL a b zs n) 0 n := rfl
    rw [this, e2, f2]
end
end
end Qq
