/- Parts of the proof: QI, QO, QP, QT. -/
import Derived.Test.YtaigknknfaeajaaGreatDoorZF
section
/- Periods of sections, and the law about them. -/
open Go Go.Vm Go.Proofs Sp
namespace Sp
noncomputable section
end
end Sp
namespace Qq
noncomputable section
/- The reference's first. -/
/- The program's periods. -/
/- The reference's periods. -/
/- Equal lists of spans. -/
/- Short. -/
end
end Qq
end
section
/- Parts of a section, and their sums. -/
open Go Go.Vm Go.Proofs Sp
namespace Sp
noncomputable section
/-- A sum over pairs. -/
noncomputable def sumP (g : Int → Int → Int) : List Int → Int
  | d :: x :: r => g d x + sumP g r
  | _ => 0
noncomputable def d0 (zs : List Int) (off : Nat) : Int := zs.getD off 0
noncomputable def sX (zs : List Int) (off i : Nat) : Int := sumP (fun d _ => d - d0 zs off) ((zs.drop off).take (i * 2))
noncomputable def sY (zs : List Int) (off i : Nat) : Int := sumP (fun _ x => x) ((zs.drop off).take (i * 2))
noncomputable def sXX (zs : List Int) (off i : Nat) : Int := sumP (fun d _ => (d - d0 zs off) * (d - d0 zs off)) ((zs.drop off).take (i * 2))
noncomputable def sXY (zs : List Int) (off i : Nat) : Int := sumP (fun d x => (d - d0 zs off) * x) ((zs.drop off).take (i * 2))
end
end Sp
namespace Qq
noncomputable section
/- The program's sums. -/
/- The reference's sums. -/
theorem sumP_take (g : Int → Int → Int) : ∀ (L : List Int) (i : Nat), i * 2 + 2 ≤ L.length → sumP g (L.take ((i + 1) * 2)) = sumP g (L.take (i * 2)) + g (L.getD (i * 2) 0) (L.getD (i * 2 + 1) 0)
  | [], i, h => by simp at h
  | [_], i, h => by simp at h
  | a :: b :: r, 0, _ => by simp [sumP]
  | a :: b :: r, i + 1, h => by
    have ih := sumP_take g r i (by simp only [List.length_cons] at h; omega)
    have e1 : (i + 1 + 1) * 2 = (i + 1) * 2 + 1 + 1 := by omega
    have e2 : (i + 1) * 2 = i * 2 + 1 + 1 := by omega
    have e3 : (a :: b :: r).getD ((i + 1) * 2) 0 = r.getD (i * 2) 0 := by rw [e2]; rfl
    have e4 : (a :: b :: r).getD ((i + 1) * 2 + 1) 0 = r.getD (i * 2 + 1) 0 := by rw [show (i + 1) * 2 + 1 = i * 2 + 1 + 1 + 1 by omega]; rfl
    rw [e3, e4, e1, List.take_succ_cons, List.take_succ_cons]
    rw [show (a :: b :: r).take ((i + 1) * 2) = a :: b :: r.take (i * 2) by rw [e2, List.take_succ_cons, List.take_succ_cons]]
    simp only [sumP]
    rw [ih]
    omega
theorem getD_drop (zs : List Int) (off j : Nat) : (zs.drop off).getD j 0 = zs.getD (off + j) 0 := by
  simp [List.getD_eq_getElem?_getD, List.getElem?_drop]
theorem sumP_step (g : Int → Int → Int) {zs : List Int} {off i : Nat} (h : off + i * 2 + 2 ≤ zs.length) :
    sumP g ((zs.drop off).take ((i + 1) * 2)) = sumP g ((zs.drop off).take (i * 2)) + g (zs.getD (off + i * 2) 0) (zs.getD (off + i * 2 + 1) 0) := by
  have := sumP_take g (zs.drop off) i (by rw [List.length_drop]; omega)
  rw [getD_drop, getD_drop] at this
  rw [this, Nat.add_assoc]
/-- A part whose sums do not leave the machine's integers. -/
structure Part (zs : List Int) (off m : Nat) : Prop where
  len : off + m * 2 ≤ zs.length
  few : m ≤ 32
  day : ∀ i, i < m → d0 zs off ≤ zs.getD (off + i * 2) 0 ∧ zs.getD (off + i * 2) 0 ≤ 100000
  idx : ∀ i, i < m → 0 ≤ zs.getD (off + i * 2 + 1) 0 ∧ zs.getD (off + i * 2 + 1) 0 ≤ 100000
  z0 : 0 ≤ d0 zs off
theorem sumP_le {g : Int → Int → Int} {zs : List Int} {off m : Nat} {B : Int} (hl : off + m * 2 ≤ zs.length) (hb : ∀ i, i < m → 0 ≤ g (zs.getD (off + i * 2) 0) (zs.getD (off + i * 2 + 1) 0) ∧ g (zs.getD (off + i * 2) 0) (zs.getD (off + i * 2 + 1) 0) ≤ B) :
    ∀ i : Nat, i ≤ m → 0 ≤ sumP g ((zs.drop off).take (i * 2)) ∧ sumP g ((zs.drop off).take (i * 2)) ≤ B * i
  | 0, _ => by simp [sumP]
  | i + 1, h => by
    obtain ⟨h1, h2⟩ := sumP_le hl hb i (by omega)
    obtain ⟨h3, h4⟩ := hb i (by omega)
    rw [sumP_step g (by omega)]
    have e : B * ((i + 1 : Nat) : Int) = B * (i : Int) + B := by rw [Int.natCast_add, Int.mul_add]; simp
    rw [e]
    omega
theorem mul_in {a b A B : Int} (a0 : 0 ≤ a) (aA : a ≤ A) (b0 : 0 ≤ b) (bB : b ≤ B) : 0 ≤ a * b ∧ a * b ≤ A * B :=
  ⟨Int.mul_nonneg a0 b0, Int.mul_le_mul aA bB b0 (Int.le_trans a0 aA)⟩
theorem Part.sums {zs : List Int} {off m : Nat} (h : Part zs off m) {i : Nat} (hi : i ≤ m) :
    (0 ≤ sX zs off i ∧ sX zs off i ≤ 3200000) ∧ (0 ≤ sY zs off i ∧ sY zs off i ≤ 3200000) ∧ (0 ≤ sXX zs off i ∧ sXX zs off i ≤ 320000000000) ∧ (0 ≤ sXY zs off i ∧ sXY zs off i ≤ 320000000000) := by
  have hd := h.z0
  have hm := h.few
  have up : ∀ {s B : Int}, 0 ≤ B → 0 ≤ s ∧ s ≤ B * i → 0 ≤ s ∧ s ≤ B * 32 := fun {s B} hB ⟨a, b⟩ => ⟨a, Int.le_trans b (Int.mul_le_mul_of_nonneg_left (by omega) hB)⟩
  refine ⟨up (B := 100000) (by omega) (sumP_le h.len (fun j hj => ?_) i hi), up (B := 100000) (by omega) (sumP_le h.len (fun j hj => h.idx j hj) i hi), up (B := 10000000000) (by omega) (sumP_le h.len (fun j hj => ?_) i hi), up (B := 10000000000) (by omega) (sumP_le h.len (fun j hj => ?_) i hi)⟩
  · have := h.day j hj; omega
  · obtain ⟨q1, q2⟩ := h.day j hj
    obtain ⟨u, hu⟩ : ∃ u, u = zs.getD (off + j * 2) 0 - Sp.d0 zs off := ⟨_, rfl⟩
    simp only [← hu]
    have hu : 0 ≤ u ∧ u ≤ 100000 := by omega
    have := mul_in hu.1 hu.2 hu.1 hu.2
    exact ⟨this.1, by omega⟩
  · obtain ⟨q1, q2⟩ := h.day j hj
    obtain ⟨q3, q4⟩ := h.idx j hj
    obtain ⟨u, hu⟩ : ∃ u, u = zs.getD (off + j * 2) 0 - Sp.d0 zs off := ⟨_, rfl⟩
    simp only [← hu]
    have hu : 0 ≤ u ∧ u ≤ 100000 := by omega
    have := mul_in hu.1 hu.2 q3 q4
    exact ⟨this.1, by omega⟩

theorem Part.step {zs : List Int} {off m i : Nat} (h : Part zs off m) (hi : i < m) :
    W (sX zs off i + W (zs.getD (off + i * 2) 0 - zs.getD off 0)) = sX zs off (i + 1) ∧ W (sY zs off i + zs.getD (off + i * 2 + 1) 0) = sY zs off (i + 1) ∧
      W (sXX zs off i + W (W (zs.getD (off + i * 2) 0 - zs.getD off 0) * W (zs.getD (off + i * 2) 0 - zs.getD off 0))) = sXX zs off (i + 1) ∧
      W (sXY zs off i + W (W (zs.getD (off + i * 2) 0 - zs.getD off 0) * zs.getD (off + i * 2 + 1) 0)) = sXY zs off (i + 1) := by
  have hl := h.len
  have g := h.sums (i := i + 1) hi
  have e1 : sX zs off (i + 1) = sX zs off i + (zs.getD (off + i * 2) 0 - d0 zs off) := sumP_step _ (by omega)
  have e2 : sY zs off (i + 1) = sY zs off i + zs.getD (off + i * 2 + 1) 0 := sumP_step _ (by omega)
  have e3 : sXX zs off (i + 1) = sXX zs off i + (zs.getD (off + i * 2) 0 - d0 zs off) * (zs.getD (off + i * 2) 0 - d0 zs off) := sumP_step _ (by omega)
  have e4 : sXY zs off (i + 1) = sXY zs off i + (zs.getD (off + i * 2) 0 - d0 zs off) * zs.getD (off + i * 2 + 1) 0 := sumP_step _ (by omega)
  obtain ⟨q1, q2⟩ := h.day i hi
  obtain ⟨q3, q4⟩ := h.idx i hi
  have hd := h.z0
  have hd0 : zs.getD off 0 = d0 zs off := rfl
  rw [hd0]
  obtain ⟨u, hu⟩ : ∃ u, u = zs.getD (off + i * 2) 0 - d0 zs off := ⟨_, rfl⟩
  rw [← hu] at e1 e3 e4 ⊢
  have hu : 0 ≤ u ∧ u ≤ 100000 := by omega
  have b1 := mul_in hu.1 hu.2 hu.1 hu.2
  have b2 := mul_in hu.1 hu.2 q3 q4
  obtain ⟨⟨x0, x1⟩, ⟨y0, y1⟩, ⟨p0, p1⟩, ⟨r0, r1⟩⟩ := g
  simp only [W]
  rw [wrap_eq (x := u) (by omega) (by omega), wrap_eq (x := u * u) (by omega) (by omega), wrap_eq (x := u * zs.getD (off + i * 2 + 1) 0) (by omega) (by omega), ← e1, ← e2, ← e3, ← e4]
  exact ⟨wrap_eq (by omega) (by omega), wrap_eq (by omega) (by omega), wrap_eq (by omega) (by omega), wrap_eq (by omega) (by omega)⟩
end
end Qq
end
section
/- Lines of periods. -/
open Go Go.Vm Go.Proofs Sp
namespace Qq
noncomputable section
end
end Qq
end
section
/- Small contracts about sections and lines. -/
open Go Go.Vm Go.Proofs Sp
namespace Sp
noncomputable section
end
end Sp
namespace Qq
noncomputable section
noncomputable def orcDay : Orc
  | [.int .i64 x], [] => some (.int .i64 (wi x 0 100000), [])
  | _, _ => none
theorem flP_t (a : Int) (b : Int) (K : Value → Heap → Prop) :
    (fnP Tryz.prog c0 h4 (208 : FuncId) [Value.int IntKind.i64 a, Value.int IntKind.i64 b] [] K) =
    (Is (b ≠ (0 : Int)) ∧ br (decide (a < IntKind.wrap IntKind.i64 (IntKind.wrap IntKind.i64 (Int.tdiv a b) * b))) (K (Value.int IntKind.i64 (IntKind.wrap IntKind.i64 (IntKind.wrap IntKind.i64 (Int.tdiv a b) - (1 : Int)))) noH) (K (Value.int IntKind.i64 (IntKind.wrap IntKind.i64 (Int.tdiv a b))) noH)) := by kernel_rfl
theorem floor_law {a b : Int} (h0 : 0 < b) (h1 : b ≤ 4000000000000000000) (h2 : -4000000000000000000 ≤ a) (h3 : a ≤ 4000000000000000000) :
    W (a.tdiv b) = a.tdiv b ∧ W (a.tdiv b * b) = a.tdiv b * b ∧ W (a.tdiv b - 1) = a.tdiv b - 1 ∧ (a < a.tdiv b * b → a.tdiv b - 1 = a / b) ∧ (¬ a < a.tdiv b * b → a.tdiv b = a / b) := by
  have hq : (a.tdiv b).natAbs ≤ a.natAbs := Int.natAbs_tdiv_le_natAbs a b
  have e := Int.tdiv_eq_ediv (a := a) (b := b)
  have s : b.sign = 1 := Int.sign_eq_one_of_pos h0
  have m := Int.emod_add_mul_ediv a b
  have m0 := Int.emod_nonneg a (show b ≠ 0 by omega)
  have m1 := Int.emod_lt_of_pos a h0
  have c : b * (a / b) = (a / b) * b := Int.mul_comm ..
  rw [s] at e
  have hb : a.tdiv b * b = (a / b) * b ∨ a.tdiv b * b = (a / b) * b + b := by
    split at e
    · left; rw [e, Int.add_zero]
    · right; rw [e, Int.add_mul, Int.one_mul]
  refine ⟨wrap_eq (by omega) (by omega), wrap_eq (by omega) (by omega), wrap_eq (by omega) (by omega), fun h => ?_, fun h => ?_⟩
  · split at e
    · rw [e, Int.add_zero] at h; omega
    · omega
  · split at e
    · omega
    · rw [e, Int.add_mul, Int.one_mul] at h; omega
noncomputable def orcFl : OrcV
  | [.int .i64 a, .int .i64 b], [] => some (.int .i64 (a / b), [], 0 < b ∧ b ≤ 4000000000000000000 ∧ -4000000000000000000 ≤ a ∧ a ≤ 4000000000000000000)
  | _, _ => none
theorem okFlP : OkV Tryz.prog 208 orcFl := by
  intro args H ret H' vc h hv
  unfold orcFl at h
  split at h
  · cases h
    obtain ⟨v1, v2, v3, v4⟩ := hv
    refine fnP_res hm c0_ok (hs := h4) ?_
    rw [flP_t]
    obtain ⟨q1, q2, q3, q4, q5⟩ := floor_law v1 v2 v3 v4
    simp only [W] at q1 q2 q3
    rw [q1, q2, q3]
    exact ⟨⟨by omega⟩, br_of (fun h => ⟨by rw [q4 (of_decide_eq_true h)], rfl⟩) (fun h => ⟨by rw [q5 (of_decide_eq_false h)], rfl⟩)⟩
  · cases h
end
end Qq
end
