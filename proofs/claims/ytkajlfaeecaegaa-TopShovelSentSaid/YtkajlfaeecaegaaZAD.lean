/- Parts of the proof: FlA, FlB, QA, QF, QG, QH, QI, QO, QY, QLR, QLC, QXP, QFF, QHH, RA, RB, RC, RD, RE, RF, FlC. -/
import Ieee.Arith
import Derived.Test.YtkajlfaeecaegaaZAC
import Derived.Test.YtkajlfaeecaegaaProg
import Derived.Laws.RangeString
import Derived.Laws.RangeAny
section
/- Floats of 32 bits as exact numbers: what a word stands for, times 2^400. -/
namespace Fl
open Ieee
/-- A number with its sign. -/
def sg (s : Bool) (n : Nat) : Int := if s then -(n : Int) else n
theorem sg_abs (s : Bool) (n : Nat) : (sg s n).natAbs = n := by cases s <;> simp [sg]
theorem sg_mul (s : Bool) (n k : Nat) : sg s (n * k) = sg s n * k := by cases s <;> simp [sg, Int.neg_mul]
theorem sg_zero (s : Bool) : sg s 0 = 0 := by cases s <;> rfl
theorem sg_xor (s t : Bool) (m n : Nat) : sg (s ^^ t) (m * n) = sg s m * sg t n := by cases s <;> cases t <;> simp [sg, Int.neg_mul, Int.mul_neg]
theorem sg_not (s : Bool) (n : Nat) : sg (!s) n = -sg s n := by cases s <;> simp [sg]
theorem sg_self (n : Int) : sg (decide (n < 0)) n.natAbs = n := by
  by_cases h : n < 0
  · rw [decide_eq_true h]; simp only [sg, if_true]; omega
  · rw [decide_eq_false h]; simp only [sg, Bool.false_eq_true, if_false]; omega
theorem signed_sg (s : Bool) (m k : Nat) : signed s m k = sg s (m * 2 ^ k) := by
  simp only [signed, sg, Nat.shiftLeft_eq]

/-- A datum that is a number: no digit below 2^lo, and its value times 2^400. -/
def Has (d : Datum) (lo v : Int) : Prop := ∃ s m i, d = .number s m i ∧ lo ≤ i ∧ sg s (m * 2 ^ (i + 400).toNat) = v

theorem Has.opposite {d : Datum} {lo v : Int} (h : Has d lo v) : Has d.opposite lo (-v) := by
  obtain ⟨s, m, i, rfl, h2, rfl⟩ := h
  exact ⟨!s, m, i, rfl, h2, sg_not _ _⟩

theorem at_base {s : Bool} {m : Nat} {i b : Int} (h0 : -400 ≤ b) (h : b ≤ i) : signed s m (i - b).toNat * 2 ^ (b + 400).toNat = sg s (m * 2 ^ (i + 400).toNat) := by
  rw [signed_sg]
  have e : (i + 400).toNat = (i - b).toNat + (b + 400).toNat := by omega
  rw [e, Nat.pow_add, ← Nat.mul_assoc]
  simp only [sg_mul, Int.natCast_pow, Int.cast_ofNat_Int]

theorem Has.sum {d e : Datum} {lo v u : Int} (h0 : -400 ≤ lo) (h : Has d lo v) (k : Has e lo u) : ∃ r, d.sum e = some r ∧ Has r lo (v + u) := by
  obtain ⟨s, m, i, rfl, h2, rfl⟩ := h
  obtain ⟨t, n, j, rfl, k2, rfl⟩ := k
  refine ⟨_, rfl, ?_⟩
  have hb : lo ≤ min i j := by omega
  generalize hT : signed s m (i - min i j).toNat + signed t n (j - min i j).toNat = T
  refine ⟨_, _, _, rfl, hb, ?_⟩
  have e1 := at_base (s := s) (m := m) (i := i) (b := min i j) (by omega) (by omega)
  have e2 := at_base (s := t) (m := n) (i := j) (b := min i j) (by omega) (by omega)
  rw [← e1, ← e2, ← Int.add_mul, hT, sg_mul]
  have : sg (if T = 0 then s && t else decide (T < 0)) T.natAbs = T := by
    split
    · rename_i h; rw [h]; exact sg_zero _
    · exact sg_self T
  rw [this]; simp

theorem pow3 {m n a b c K : Nat} (h : a + b = c + K) : m * 2 ^ a * (n * 2 ^ b) = m * n * 2 ^ c * 2 ^ K := by
  rw [Nat.mul_mul_mul_comm, ← Nat.pow_add, h, Nat.pow_add, Nat.mul_assoc (m * n)]
theorem cut_hi {m a b K : Nat} (h : a = b + K) : m * 2 ^ a / 2 ^ K = m * 2 ^ b := by
  rw [h, Nat.pow_add, ← Nat.mul_assoc, Nat.mul_div_cancel _ (Nat.pow_pos (by decide))]
theorem Has.product {d e : Datum} {lo v u : Int} (h0 : -200 ≤ lo) (h : Has d lo v) (k : Has e lo u) : ∃ r t, d.product e = some r ∧ Has r (lo + lo) t ∧ t * 2 ^ 400 = v * u := by
  obtain ⟨s, m, i, rfl, h2, rfl⟩ := h
  obtain ⟨t, n, j, rfl, k2, rfl⟩ := k
  refine ⟨_, _, rfl, ⟨_, _, _, rfl, by omega, rfl⟩, ?_⟩
  rw [← sg_xor]
  have e : (i + 400).toNat + (j + 400).toNat = (i + j + 400).toNat + 400 := by omega
  have e2 := pow3 (m := m) (n := n) e
  rw [e2]
  simp only [sg_mul, Int.natCast_pow, Int.cast_ofNat_Int]

theorem compare_mul {a b : Int} {k : Nat} (hk : 0 < k) : compare (a * k) (b * k) = compare a b := by
  have hk : (0 : Int) < k := by omega
  rcases Int.lt_trichotomy a b with h | h | h
  · have : a * k < b * k := Int.mul_lt_mul_of_pos_right h hk
    rw [Int.compare_eq_lt.2 h, Int.compare_eq_lt.2 this]
  · subst h; simp
  · have : b * k < a * k := Int.mul_lt_mul_of_pos_right h hk
    rw [Int.compare_eq_gt.2 h, Int.compare_eq_gt.2 this]

theorem Has.order {d e : Datum} {lo v u : Int} (h0 : -400 ≤ lo) (h : Has d lo v) (k : Has e lo u) : d.order e = some (compare v u) := by
  obtain ⟨s, m, i, rfl, h2, rfl⟩ := h
  obtain ⟨t, n, j, rfl, k2, rfl⟩ := k
  have e1 := at_base (s := s) (m := m) (i := i) (b := min i j) (by omega) (by omega)
  have e2 := at_base (s := t) (m := n) (i := j) (b := min i j) (by omega) (by omega)
  rw [← e1, ← e2]
  have := compare_mul (a := signed s m (i - min i j).toNat) (b := signed t n (j - min i j).toNat) (k := 2 ^ (min i j + 400).toNat) (Nat.pow_pos (by decide))
  rw [show ((2 : Int) ^ (min i j + 400).toNat) = ((2 ^ (min i j + 400).toNat : Nat) : Int) by simp, this]
  rfl

theorem cut_zero (s : Bool) (n k : Nat) : Toward.zero.cut s n k = n / 2 ^ k := by
  unfold Toward.cut
  simp only [Nat.shiftLeft_eq, Nat.one_mul, Bool.toNat_false, Nat.add_zero]
  by_cases h : k ≤ n.log2 + 2
  · rw [Nat.min_eq_left h]
  · have h1 : n < 2 ^ (n.log2 + 1) := Nat.lt_log2_self
    have h2 : 2 ^ (n.log2 + 1) ≤ 2 ^ (n.log2 + 2) := Nat.pow_le_pow_right (by decide) (by omega)
    have h3 : 2 ^ (n.log2 + 1) ≤ 2 ^ k := Nat.pow_le_pow_right (by decide) (by omega)
    rw [Nat.min_eq_right (by omega), Nat.div_eq_of_lt (by omega), Nat.div_eq_of_lt (by omega)]

/-- A value made whole: cut towards zero. -/
theorem Has.toInt {d : Datum} {lo v : Int} (h0 : -400 ≤ lo) (h : Has d lo v) : ∃ s, sg s v.natAbs = v ∧ d.toInt .zero = some (sg s (v.natAbs / 2 ^ 400)) := by
  obtain ⟨s, m, i, rfl, h2, rfl⟩ := h
  refine ⟨s, by rw [sg_abs], ?_⟩
  simp only [Datum.toInt, Datum.integral, cut_zero, signed_sg, Nat.pow_zero, Nat.mul_one, sg_abs, Nat.shiftLeft_eq]
  congr 2
  by_cases hi : 0 ≤ i
  · have e1 : (i + 400).toNat = i.toNat + 400 := by omega
    have e2 : (-i).toNat = 0 := by omega
    rw [e2, cut_hi e1]
    simp
  · have e1 : i.toNat = 0 := by omega
    have e2 : 400 = (i + 400).toNat + (-i).toNat := by omega
    rw [e1, Nat.pow_zero, Nat.mul_one]
    conv => rhs; rw [e2]
    rw [Nat.pow_add, ← Nat.div_div_eq_div_mul, Nat.mul_div_cancel _ (Nat.pow_pos (by decide))]

/-! ### Writing -/
theorem cut_even {s : Bool} {n k : Nat} (h : 2 ^ k ∣ n) : Toward.even.cut s n k = n / 2 ^ k := by
  obtain ⟨q, rfl⟩ := h
  unfold Toward.cut
  simp only [Nat.shiftLeft_eq, Nat.one_mul]
  by_cases hq : q = 0
  · subst hq; simp
  · have h1 : k ≤ (2 ^ k * q).log2 := by
      refine (Nat.le_log2 (Nat.ne_of_gt (Nat.mul_pos (Nat.pow_pos (by decide)) (by omega)))).2 ?_
      exact Nat.le_mul_of_pos_right _ (by omega)
    rw [Nat.min_eq_left (by omega), Nat.mul_mod_right]
    have h2 : (0 : Nat) < 2 ^ k := Nat.pow_pos (by decide)
    have h3 : decide (2 ^ k < 2 * 0) = false := by simp
    have h4 : (2 ^ k == 2 * 0) = false := by simp
    rw [h3, h4]; rfl

theorem read_word {s : Bool} {r : Nat} (h : r < 2 ^ 31) : single.read (single.word s r) =
    (if r < 2 ^ 23 then .number s r (-149) else if r < 255 * 2 ^ 23 then .number s (2 ^ 23 + r % 2 ^ 23) (-149 + (r / 2 ^ 23 - 1 : Nat)) else if r = 255 * 2 ^ 23 then .infinity s else .nan s (r - 255 * 2 ^ 23)) := by
  have e1 : single.word s r / single.signWeight % 2 = s.toNat := by
    have : single.signWeight = 2 ^ 31 := by decide
    rw [this]
    cases s <;> simp only [Format.word, this, Bool.toNat, cond, if_true, Bool.false_eq_true, if_false] <;> omega
  have e2 : single.word s r % single.signWeight = r := by
    have : single.signWeight = 2 ^ 31 := by decide
    rw [this]
    cases s <;> simp only [Format.word, this, if_true, Bool.false_eq_true, if_false] <;> omega
  have e3 : (single.word s r / single.signWeight % 2 == 1) = s := by rw [e1]; cases s <;> rfl
  have e4 : single.binade = 2 ^ 23 := by decide
  have e5 : single.infRung = 255 * 2 ^ 23 := by decide
  have e6 : single.leastPlace = -149 := by decide
  unfold Format.read
  simp only [e2, e3, e4, e5, e6]

/-- A number that the format has, written, is read as it was. -/
theorem read_near {s : Bool} {m : Nat} {i : Int} (h : ∃ n d : Nat, m = n * 2 ^ d ∧ n < 2 ^ 24 ∧ -149 ≤ i + d) (hb : m.log2 + i ≤ 100) :
    ∃ m' i', single.read (single.nearest s m i) = .number s m' i' ∧ -149 ≤ i' ∧ ∀ c : Int, 400 ≤ c → -c ≤ i → m' * 2 ^ (i' + c).toNat = m * 2 ^ (i + c).toNat := by
  have e6 : single.leastPlace = -149 := by decide
  have e4 : single.binade = 2 ^ 23 := by decide
  have e5 : single.infRung = 255 * 2 ^ 23 := by decide
  have e7 : single.fractionBits = 23 := rfl
  by_cases h0 : m = 0
  · subst h0
    refine ⟨0, -149, ?_, by omega, fun c _ _ => by simp⟩
    unfold Format.nearest
    rw [if_pos rfl, read_word (by decide), if_pos (by decide)]
  · obtain ⟨n, d, hm, hn, hd⟩ := h
    unfold Format.nearest
    rw [if_neg h0]
    simp only [e4, e5, e6, e7]
    have hL1 : 2 ^ m.log2 ≤ m := Nat.log2_self_le h0
    have hL2 : m < 2 ^ (m.log2 + 1) := Nat.lt_log2_self
    generalize m.log2 = L at *
    have hLd : L < 24 + d := by
      have : 2 ^ L < 2 ^ (24 + d) := by
        have : n * 2 ^ d < 2 ^ 24 * 2 ^ d := Nat.mul_lt_mul_of_pos_right hn (Nat.pow_pos (by decide))
        rw [Nat.pow_add]; omega
      exact (Nat.pow_lt_pow_iff_right (by decide)).1 this
    generalize hlast : max (i + (L : Int) - (23 : Nat)) (-149) = last
    have hl1 : last - i ≤ d := by omega
    have hdiv : 2 ^ (last - i).toNat ∣ m <<< (i - last).toNat := by
      rw [Nat.shiftLeft_eq, hm]
      refine Nat.dvd_trans ?_ (Nat.dvd_mul_right _ _)
      refine Nat.dvd_trans ?_ (Nat.dvd_mul_left _ _)
      exact Nat.pow_dvd_pow 2 (by omega)
    rw [cut_even hdiv]
    generalize hk : m <<< (i - last).toNat / 2 ^ (last - i).toNat = kept
    have hkm : kept * 2 ^ (last - i).toNat = m * 2 ^ (i - last).toNat := by
      rw [← hk, Nat.div_mul_cancel hdiv, Nat.shiftLeft_eq]
    have hval : ∀ c : Int, 400 ≤ c → -c ≤ i → kept * 2 ^ (last + c).toNat = m * 2 ^ (i + c).toNat := by
      intro c hc hi
      by_cases hli : i ≤ last
      · have e1 : (i - last).toNat = 0 := by omega
        rw [e1, Nat.pow_zero, Nat.mul_one] at hkm
        rw [← hkm, Nat.mul_assoc, ← Nat.pow_add]
        congr 2
        omega
      · have e1 : (last - i).toNat = 0 := by omega
        rw [e1, Nat.pow_zero, Nat.mul_one] at hkm
        rw [hkm, Nat.mul_assoc, ← Nat.pow_add]
        congr 2
        omega
    have hup : kept < 2 ^ 24 := by
      by_cases hli : i ≤ last
      · have e1 : (i - last).toNat = 0 := by omega
        rw [e1, Nat.pow_zero, Nat.mul_one] at hkm
        have h3 : kept * 2 ^ (last - i).toNat < 2 ^ 24 * 2 ^ (last - i).toNat := by
          rw [hkm, ← Nat.pow_add]
          exact Nat.lt_of_lt_of_le hL2 (Nat.pow_le_pow_right (by decide) (by omega))
        exact Nat.lt_of_mul_lt_mul_right h3
      · have e1 : (last - i).toNat = 0 := by omega
        rw [e1, Nat.pow_zero, Nat.mul_one] at hkm
        rw [hkm]
        have h3 : m * 2 ^ (i - last).toNat < 2 ^ (L + 1) * 2 ^ (i - last).toNat := Nat.mul_lt_mul_of_pos_right hL2 (Nat.pow_pos (by decide))
        rw [← Nat.pow_add] at h3
        exact Nat.lt_of_lt_of_le h3 (Nat.pow_le_pow_right (by decide) (by omega))
    have hlow : -149 < last → 2 ^ 23 ≤ kept := by
      intro hla
      have hla : last = i + L - 23 := by omega
      by_cases hli : i ≤ last
      · have e1 : (i - last).toNat = 0 := by omega
        rw [e1, Nat.pow_zero, Nat.mul_one] at hkm
        have h3 : 2 ^ 23 * 2 ^ (last - i).toNat ≤ kept * 2 ^ (last - i).toNat := by
          rw [hkm, ← Nat.pow_add]
          exact Nat.le_trans (Nat.pow_le_pow_right (by decide) (by omega)) hL1
        exact Nat.le_of_mul_le_mul_right h3 (Nat.pow_pos (by decide))
      · have e1 : (last - i).toNat = 0 := by omega
        rw [e1, Nat.pow_zero, Nat.mul_one] at hkm
        rw [hkm]
        have h3 : 2 ^ L * 2 ^ (i - last).toNat ≤ m * 2 ^ (i - last).toNat := Nat.mul_le_mul_right _ hL1
        rw [← Nat.pow_add] at h3
        exact Nat.le_trans (Nat.pow_le_pow_right (by decide) (by omega)) h3
    have hla1 : -149 ≤ last := by omega
    have hla2 : last ≤ 100 := by omega
    obtain ⟨a, ha⟩ : ∃ a : Nat, last = -149 + a := ⟨(last + 149).toNat, by omega⟩
    subst ha
    have e8 : (-149 + (a : Int) - -149).toNat = a := by omega
    rw [e8]
    obtain ⟨B, hB⟩ : ∃ B : Nat, B = 2 ^ 23 := ⟨_, rfl⟩
    have hB2 : (2 : Nat) ^ 24 = 2 * B := by rw [hB]
    have hB0 : 0 < B := by rw [hB]; decide
    rw [hB2] at hup
    rw [← hB] at hlow ⊢
    have ha9 : a ≤ 249 := by omega
    have hle : a * B ≤ 249 * B := Nat.mul_le_mul_right _ ha9
    rw [Nat.min_eq_left (by omega)]
    refine ⟨kept, -149 + a, ?_, by omega, hval⟩
    have hr := read_word (s := s) (r := a * B + kept) (by rw [show (2 : Nat) ^ 31 = 256 * B by rw [hB]]; omega)
    rw [← hB] at hr
    rw [hr]
    rcases Nat.eq_zero_or_pos a with h0 | h0
    · subst h0
      rw [Nat.zero_mul, Nat.zero_add]
      by_cases hs : kept < B
      · rw [if_pos hs]; simp
      · rw [if_neg hs, if_pos (by omega)]
        have e1 : kept % B = kept - B := by rw [Nat.mod_eq_sub_mod (by omega), Nat.mod_eq_of_lt (by omega)]
        have e2 : kept / B = 1 := by rw [Nat.div_eq_sub_div hB0 (by omega), Nat.div_eq_of_lt (by omega)]
        rw [e1, e2, show B + (kept - B) = kept by omega]
    · have h23 : B ≤ kept := hlow (by omega)
      have h1 : B ≤ a * B := Nat.le_mul_of_pos_left _ h0
      rw [if_neg (by omega), if_pos (by omega)]
      have e1 : (a * B + kept) % B = kept - B := by
        rw [Nat.add_comm, Nat.add_mul_mod_self_right, Nat.mod_eq_sub_mod (by omega), Nat.mod_eq_of_lt (by omega)]
      have e2 : (a * B + kept) / B - 1 = a := by
        rw [Nat.add_comm, Nat.add_mul_div_right _ _ hB0, Nat.div_eq_sub_div hB0 (by omega), Nat.div_eq_of_lt (by omega)]; omega
      rw [e1, e2, show B + (kept - B) = kept by omega]

/-- Few digits, none below 2^-149, not too great: a number of the format. -/
def Rep (v : Int) : Prop := v.natAbs < 2 ^ 500 ∧ ∃ n k : Nat, v.natAbs = n * 2 ^ k ∧ n < 2 ^ 24 ∧ 251 ≤ k

theorem pow_split {n k m e : Nat} (h : m * 2 ^ e = n * 2 ^ k) (hn : n < 2 ^ 24) : ∃ n' d : Nat, m = n' * 2 ^ d ∧ n' < 2 ^ 24 ∧ k ≤ d + e := by
  by_cases hk : e ≤ k
  · refine ⟨n, k - e, ?_, hn, by omega⟩
    have : m * 2 ^ e = n * 2 ^ (k - e) * 2 ^ e := by rw [h, Nat.mul_assoc, ← Nat.pow_add]; congr 2; omega
    exact Nat.mul_right_cancel (Nat.pow_pos (by decide)) this
  · have hk : k ≤ e := by omega
    have : n = m * 2 ^ (e - k) := by
      have : n * 2 ^ k = m * 2 ^ (e - k) * 2 ^ k := by rw [← h, Nat.mul_assoc, ← Nat.pow_add]; congr 2; omega
      exact Nat.mul_right_cancel (Nat.pow_pos (by decide)) this
    refine ⟨m, 0, by simp, ?_, by omega⟩
    have : m ≤ n := by rw [this]; exact Nat.le_mul_of_pos_right _ (Nat.pow_pos (by decide))
    omega

theorem zp (k : Nat) : 0 = 0 * 2 ^ k := (Nat.zero_mul _).symm
theorem Has.write {d : Datum} {lo v : Int} (h0 : -400 ≤ lo) (h : Has d lo v) (hr : Rep v) : Has (single.read (single.write d)) (-149) v := by
  obtain ⟨s, m, i, rfl, h2, rfl⟩ := h
  obtain ⟨hb, n, k, e, hn, hk⟩ := hr
  rw [sg_abs] at hb e
  by_cases hm : m = 0
  · subst hm
    obtain ⟨m', i', q1, q2, q3⟩ := read_near (s := s) (m := 0) (i := -400) ⟨0, 400, zp 400, by decide, by decide⟩ (by decide)
    refine ⟨s, m', i', ?_, q2, ?_⟩
    · simp only [Format.write]
      rw [← q1]
      unfold Format.nearest
      simp
    · have := q3 400 (by omega) (by omega)
      rw [this]; simp
  · obtain ⟨n', d', f1, f2, f3⟩ := pow_split e hn
    have hlog : m.log2 + i ≤ 100 := by
      have h1 : 2 ^ m.log2 ≤ m := Nat.log2_self_le hm
      have h3 : 2 ^ m.log2 * 2 ^ (i + 400).toNat < 2 ^ 500 := Nat.lt_of_le_of_lt (Nat.mul_le_mul_right _ h1) hb
      rw [← Nat.pow_add] at h3
      have := (Nat.pow_lt_pow_iff_right (by decide : 1 < 2)).1 h3
      omega
    obtain ⟨m', i', q1, q2, q3⟩ := read_near (s := s) (m := m) (i := i) ⟨n', d', f1, f2, by omega⟩ hlog
    exact ⟨s, m', i', q1, q2, by rw [q3 400 (by omega) (by omega)]⟩
end Fl
end
section
/- Samples: what is known of their floats. -/
open Go
namespace Fl
open Ieee Sp
theorem fmt32 : FloatKind.f32.format = single := rfl
theorem read_any (x : Nat) : single.read x =
    (if x % 2 ^ 31 < 2 ^ 23 then .number (x / 2 ^ 31 % 2 == 1) (x % 2 ^ 31) (-149) else if x % 2 ^ 31 < 255 * 2 ^ 23 then .number (x / 2 ^ 31 % 2 == 1) (2 ^ 23 + x % 2 ^ 31 % 2 ^ 23) (-149 + (x % 2 ^ 31 / 2 ^ 23 - 1 : Nat)) else if x % 2 ^ 31 = 255 * 2 ^ 23 then .infinity (x / 2 ^ 31 % 2 == 1) else .nan (x / 2 ^ 31 % 2 == 1) (x % 2 ^ 31 - 255 * 2 ^ 23)) := by
  have e1 : single.signWeight = 2 ^ 31 := by decide
  have e4 : single.binade = 2 ^ 23 := by decide
  have e5 : single.infRung = 255 * 2 ^ 23 := by decide
  have e6 : single.leastPlace = -149 := by decide
  unfold Format.read
  simp only [e1, e4, e5, e6]
/-- Bits that are a number. -/
def IsF (x : Nat) : Prop := ∃ s m i, single.read x = .number s m i ∧ m < 2 ^ 24 ∧ -149 ≤ i ∧ i ≤ 104
noncomputable def finB (x : Nat) : Bool := match single.read x with
  | .number .. => true
  | _ => false
def one : Nat := 2 ^ 400
def top : Nat := (2 ^ 24 - 1) * 2 ^ 504
theorem fin_or (x : Nat) : IsF x ∨ (∃ s, single.read x = .infinity s) ∨ ∃ s p, single.read x = .nan s p := by
  have h := read_any x
  have hr : x % 2 ^ 31 < 2 ^ 31 := Nat.mod_lt _ (by decide)
  by_cases h1 : x % 2 ^ 31 < 2 ^ 23
  · rw [if_pos h1] at h
    exact .inl ⟨_, _, _, h, by omega, by omega, by omega⟩
  · rw [if_neg h1] at h
    by_cases h2 : x % 2 ^ 31 < 255 * 2 ^ 23
    · rw [if_pos h2] at h
      refine .inl ⟨_, _, _, h, ?_, by omega, ?_⟩
      · have := Nat.mod_lt (x % 2 ^ 31) (show 0 < 2 ^ 23 by decide); omega
      · have : x % 2 ^ 31 / 2 ^ 23 < 255 := (Nat.div_lt_iff_lt_mul (by decide)).2 h2
        omega
    · rw [if_neg h2] at h
      by_cases h3 : x % 2 ^ 31 = 255 * 2 ^ 23
      · rw [if_pos h3] at h
        exact .inr (.inl ⟨_, h⟩)
      · rw [if_neg h3] at h
        exact .inr (.inr ⟨_, _, h⟩)
theorem nan_read {r : Nat} (h : isNaN r) : ∃ s p, single.read r = .nan s p := by
  obtain ⟨t, rfl⟩ := h
  have hq : t / 2 % (2 ^ 23 - 1) < 2 ^ 23 - 1 := Nat.mod_lt _ (by decide)
  have h := read_any (t % 2 * 2 ^ 31 + 0x7f800000 + 1 + t / 2 % (2 ^ 23 - 1))
  generalize t / 2 % (2 ^ 23 - 1) = q at *
  have hb : t % 2 < 2 := Nat.mod_lt _ (by decide)
  have e : (t % 2 * 2 ^ 31 + 0x7f800000 + 1 + q) % 2 ^ 31 = 0x7f800000 + 1 + q := by omega
  rw [e, if_neg (by omega), if_neg (by omega), if_neg (by omega)] at h
  exact ⟨_, _, h⟩
theorem isF_iff (x : Nat) : IsF x ↔ finB x = true := by
  constructor
  · intro ⟨s, m, i, h, _⟩
    rw [finB, h]
  · intro h
    rcases fin_or x with h1 | ⟨s, h1⟩ | ⟨s, p, h1⟩
    · exact h1
    · rw [finB, h1] at h; cases h
    · rw [finB, h1] at h; cases h
/-- The value of a number, times 2^400. -/
noncomputable def val (x : Nat) : Int := match single.read x with
  | .number s m i => sg s (m * 2 ^ (i + 400).toNat)
  | _ => 0
theorem IsF.has {x : Nat} (h : IsF x) : Has (single.read x) (-149) (val x) := by
  obtain ⟨s, m, i, h1, h2, h3, h4⟩ := h
  exact ⟨s, m, i, h1, h3, by rw [val, h1]⟩
theorem IsF.rep {x : Nat} (h : IsF x) : ∃ n k : Nat, (val x).natAbs = n * 2 ^ k ∧ n < 2 ^ 24 ∧ 251 ≤ k ∧ k ≤ 504 := by
  obtain ⟨s, m, i, h1, h2, h3, h4⟩ := h
  exact ⟨m, (i + 400).toNat, by rw [val, h1]; exact sg_abs _ _, h2, by omega, by omega⟩
theorem has_fin {x : Nat} {v lo : Int} (h : Has (single.read x) lo v) : IsF x ∧ val x = v := by
  obtain ⟨s, m, i, h1, _, h3⟩ := h
  refine ⟨?_, by rw [val, h1]; exact h3⟩
  rcases fin_or x with h | ⟨_, h⟩ | ⟨_, _, h⟩
  · exact h
  · rw [h] at h1; cases h1
  · rw [h] at h1; cases h1
theorem order_val {x y : Nat} (hx : IsF x) (hy : IsF y) : single.order x y = some (compare (val x) (val y)) := Has.order (by decide) hx.has hy.has
theorem lt_val {x y : Nat} (hx : IsF x) (hy : IsF y) : fLt x y = decide (val x < val y) := by
  rw [fLt, fmt32, order_val hx hy]
  by_cases h : val x < val y
  · rw [decide_eq_true h, Int.compare_eq_lt.2 h]; rfl
  · rw [decide_eq_false h]
    have : compare (val x) (val y) ≠ .lt := fun e => h (Int.compare_eq_lt.1 e)
    cases hc : compare (val x) (val y) <;> first | (exact absurd hc this) | rfl
theorem gt_val {x y : Nat} (hx : IsF x) (hy : IsF y) : fGt x y = decide (val y < val x) := by
  rw [fGt, fmt32, order_val hx hy]
  by_cases h : val y < val x
  · rw [decide_eq_true h, Int.compare_eq_gt.2 h]; rfl
  · rw [decide_eq_false h]
    have : compare (val x) (val y) ≠ .gt := fun e => h (Int.compare_eq_gt.1 e)
    cases hc : compare (val x) (val y) <;> first | (exact absurd hc this) | rfl
theorem ne_val {x y : Nat} (hx : IsF x) (hy : IsF y) : fNe x y = decide (val x ≠ val y) := by
  rw [fNe, fmt32, order_val hx hy]
  by_cases h : val x = val y
  · rw [decide_eq_false (by simpa using h), h, Int.compare_eq_eq.2 rfl]; rfl
  · rw [decide_eq_true h]
    have : compare (val x) (val y) ≠ .eq := fun e => h (Int.compare_eq_eq.1 e)
    cases hc : compare (val x) (val y) <;> first | (exact absurd hc this) | rfl
theorem fin_zero : IsF 0 ∧ val 0 = 0 := by
  refine has_fin (lo := -149) ⟨false, 0, -149, by decide, by decide, by decide⟩
/-- A sample less itself: it is 0 just if it is a number. -/
theorem dif_fin {x r : Nat} (h : IsF x) (hd : fDif x x r) : fNe r 0 = false := by
  obtain ⟨d, e, hs⟩ := Has.sum (lo := -149) (by decide) h.has h.has.opposite
  have es : single.sub x x = some (single.write d) := by rw [Format.sub, e]; rfl
  rcases hd with hd | ⟨hd, _⟩
  · rw [fmt32, es] at hd
    cases hd
    have hw := has_fin (hs.write (by decide) (by rw [Int.add_right_neg]; exact ⟨by decide +kernel, 0, 251, by decide +kernel, by decide, by decide⟩))
    rw [ne_val hw.1 fin_zero.1, hw.2, fin_zero.2, Int.add_right_neg]
    simp
  · rw [fmt32, es] at hd
    cases hd
theorem dif_not {x r : Nat} (h : ¬ IsF x) (hd : fDif x x r) : fNe r 0 = true := by
  have es : single.sub x x = none := by
    rcases fin_or x with h1 | ⟨s, h1⟩ | ⟨s, p, h1⟩
    · exact absurd h1 h
    · rw [Format.sub, h1]
      cases s <;> rfl
    · rw [Format.sub, h1]; rfl
  rcases hd with hd | ⟨_, hn⟩
  · rw [fmt32, es] at hd
    cases hd
  · obtain ⟨s, p, e⟩ := nan_read hn
    rw [fNe, fmt32, Format.order, e]; rfl
/-- The reference's test for numbers. -/
theorem fin_max : IsF 0x7f7fffff ∧ val 0x7f7fffff = (top : Int) :=
  has_fin (lo := -149) ⟨false, 2 ^ 24 - 1, 104, by decide +kernel, by decide, by decide +kernel⟩
theorem fin_min : IsF 0xff7fffff ∧ val 0xff7fffff = -(top : Int) :=
  has_fin (lo := -149) ⟨true, 2 ^ 24 - 1, 104, by decide +kernel, by decide, by decide +kernel⟩
theorem pow_up {k j : Nat} (h : k ≤ j) : (2 : Nat) ^ k ≤ 2 ^ j := Nat.pow_le_pow_right (by decide) h
theorem most_of {n k c K : Nat} (hn : n ≤ c) (hk : k ≤ K) : n * 2 ^ k ≤ c * 2 ^ K := Nat.mul_le_mul hn (pow_up hk)
theorem IsF.most {x : Nat} (h : IsF x) : (val x).natAbs ≤ top := by
  obtain ⟨n, k, e, hn, _, hk⟩ := h.rep
  have h2 := most_of (n := n) (k := k) (c := 2 ^ 24 - 1) (K := 504) (by omega) hk
  rw [e]
  unfold top
  exact h2
theorem form_test (x : Nat) : (fNe x x || (fGt x 0x7f7fffff || fLt x 0xff7fffff)) = !finB x := by
  by_cases h : IsF x
  · have hm := h.most
    rw [(isF_iff x).1 h, ne_val h h, gt_val h fin_max.1, lt_val h fin_min.1, fin_max.2, fin_min.2]
    rw [decide_eq_false (by simp), decide_eq_false (by omega), decide_eq_false (by omega)]; rfl
  · have hf : finB x = false := by
      cases hb : finB x
      · rfl
      · exact absurd ((isF_iff x).2 hb) h
    rw [hf]
    rcases fin_or x with h1 | ⟨s, h1⟩ | ⟨s, p, h1⟩
    · exact absurd h1 h
    · obtain ⟨⟨s1, m1, i1, e1, _⟩, _⟩ := fin_max
      obtain ⟨⟨s2, m2, i2, e2, _⟩, _⟩ := fin_min
      rw [fNe, fGt, fLt, fmt32, Format.order, Format.order, Format.order, h1, e1, e2]
      cases s <;> rfl
    · rw [fNe, fmt32, Format.order, h1]; rfl
/-- Sixteen times a sample that is not too great. -/
theorem fin_16 : IsF 0x41800000 ∧ val 0x41800000 = 16 * (one : Int) :=
  has_fin (lo := -149) ⟨false, 2 ^ 23, -19, by decide +kernel, by decide, by decide +kernel⟩
theorem product_comm (d e : Datum) : d.product e = e.product d := by
  cases d <;> cases e <;> simp [Datum.product, Bool.xor_comm, Nat.mul_comm, Int.add_comm]
theorem mul_comm16 (x y : Nat) : fMul x y = fMul y x := by
  rw [fMul, fMul, fmt32, Format.mul, Format.mul, product_comm]
theorem mulOk_comm (x y : Nat) : fMulOk x y ↔ fMulOk y x := by
  rw [fMulOk, fMulOk, fmt32, Format.mul, Format.mul, product_comm]
theorem one_pos : 0 < one := by decide +kernel
theorem one_pow : (2 : Int) ^ 400 = (one : Int) := by decide +kernel
theorem one_nat : (2 : Nat) ^ 400 = one := by unfold one; rfl
theorem one_few : 1024 * one * 16 < 2 ^ 500 := by decide +kernel
theorem mul_16 {x : Nat} (h : IsF x) (hb : (val x).natAbs ≤ 1024 * one) : fMulOk x 0x41800000 ∧ IsF (fMul x 0x41800000) ∧ val (fMul x 0x41800000) = val x * 16 := by
  obtain ⟨r, t, e1, h1, e2⟩ := Has.product (lo := -149) (by decide) h.has fin_16.1.has
  rw [fin_16.2, one_pow] at e2
  have hp := one_pos
  have ht : t = val x * 16 := by
    have : t * (one : Int) = val x * 16 * (one : Int) := by rw [e2, Int.mul_assoc]
    exact Int.eq_of_mul_eq_mul_right (by omega) this
  have es : single.mul x 0x41800000 = some (single.write r) := by rw [Format.mul, e1]; rfl
  obtain ⟨n, k, f1, f2, f3, f4⟩ := h.rep
  have hr : Rep t := by
    rw [ht]
    refine ⟨?_, n, k + 4, ?_, f2, by omega⟩
    · rw [Int.natAbs_mul]
      have h16 : (val x).natAbs * 16 ≤ 1024 * one * 16 := Nat.mul_le_mul_right 16 hb
      have e16 : Int.natAbs 16 = 16 := rfl
      rw [e16]
      exact Nat.lt_of_le_of_lt h16 one_few
    · rw [Int.natAbs_mul, f1, Nat.pow_add, Nat.mul_assoc]; rfl
  have hw := has_fin (h1.write (by decide) hr)
  have em : fMul x 0x41800000 = single.write r := by rw [fMul, fmt32, es]; rfl
  refine ⟨by rw [fMulOk, fmt32, es]; rfl, by rw [em]; exact hw.1, by rw [em, hw.2, ht]⟩
theorem int_ok {x : Nat} (h : IsF x) (hb : (val x).natAbs ≤ 1048576 * one) : fIntOk x ∧ (fInt x).natAbs ≤ 1048576 ∧ ∃ s, sg s (val x).natAbs = val x ∧ fInt x = sg s ((val x).natAbs / one) := by
  obtain ⟨s, e1, e2⟩ := Has.toInt (by decide) h.has
  rw [one_nat] at e2
  have hq : (val x).natAbs / one ≤ 1048576 := Nat.div_le_of_le_mul (by rw [Nat.mul_comm]; exact hb)
  have e3 : floatToIntVal .f32 x .i64 = some (sg s ((val x).natAbs / one)) := by
    have : (FloatKind.f32.decode x).toInt .zero = some (sg s ((val x).natAbs / one)) := e2
    rw [floatToIntVal, this]
    simp only
    generalize (val x).natAbs / one = q at *
    have b1 : IntKind.i64.min = -9223372036854775808 := by decide
    have b2 : IntKind.i64.max = 9223372036854775807 := by decide
    rw [if_pos]
    rw [b1, b2]
    cases s <;> simp only [sg, if_true, Bool.false_eq_true, if_false] <;> omega
  refine ⟨by rw [fIntOk, e3]; rfl, by rw [fInt, e3]; simp only [Option.getD_some]; rw [sg_abs]; exact hq, s, e1, by rw [fInt, e3]; rfl⟩
theorem fin_1024 : IsF 0x44800000 ∧ val 0x44800000 = 1024 * (one : Int) :=
  has_fin (lo := -149) ⟨false, 2 ^ 23, -13, by decide +kernel, by decide, by decide +kernel⟩
theorem fin_m1024 : IsF 0xc4800000 ∧ val 0xc4800000 = -(1024 * (one : Int)) :=
  has_fin (lo := -149) ⟨true, 2 ^ 23, -13, by decide +kernel, by decide, by decide +kernel⟩
theorem range_test {x : Nat} (h : IsF x) (h1 : fLt x 0xc4800000 = false) (h2 : fGt x 0x44800000 = false) : (val x).natAbs ≤ 1024 * one := by
  rw [lt_val h fin_m1024.1, fin_m1024.2] at h1
  rw [gt_val h fin_1024.1, fin_1024.2] at h2
  have h1 := of_decide_eq_false h1
  have h2 := of_decide_eq_false h2
  omega
end Fl
end
section
/- Contracts of the small functions of chapter 8: errors, ranges, moments, quotients in lowest terms. -/
open Go Go.Vm Go.Proofs Sp
namespace Qq
noncomputable section

theorem hm : Try.prog.follows .mixedOrders = true := by kernel_rfl
theorem ints_at {l : List Int} {i : Nat} (h : i < l.length) : (ints l)[i]? = some (.int .i64 (l.getD i 0)) := by
  simp [ints, List.getD_eq_getElem?_getD, h]
theorem fi_drop {l : List Int} {i : Nat} (h : i < l.length) : fi (l.drop i) = if l.getD i 0 = 0 then fi (l.drop (i + 1)) else l.getD i 0 := by
  rw [List.drop_eq_getElem_cons h]
  simp [fi, List.getD_eq_getElem?_getD, h]

noncomputable def orcWhen : Orc
  | [.bool b, .int .i64 e], [] => some (.int .i64 (wh b e), [])
  | _, _ => none
noncomputable def orcFirst : Orc
  | [.slice (some ⟨0, 0, none⟩) n _c], [some (.row cells es more rw true)] =>
    match intsOf cells with
    | some l => if n = l.length ∧ n < 1000 then some (.int .i64 (fi l), [some (.row cells es more rw true)]) else none
    | none => none
  | _, _ => none

noncomputable def c0 : CallF := ctx Try.prog []
theorem c0_ok : CallOK Try.prog c0 := ctx_ok hm all_nil
noncomputable def h0 : Hs Try.prog := {au := au0 Try.prog}
noncomputable def lpFirst (l : List Int) (n c es : Nat) (more rw : Bool) : Lp where
  σ := Nat
  E i := slots 15 [(5, .slice (some ⟨0, 0, none⟩) n c), (6, .int .i64 (Int.ofNat n)), (7, .int .i64 (Int.ofNat i))]
  Hp _ := [some (.row (ints l) es more rw true)]
  I i := i ≤ l.length ∧ fi (l.drop i) = fi l
  m i := l.length - i
noncomputable def hFirst (l : List Int) (n c es : Nat) (more rw : Bool) : Hs Try.prog where
  op k := if k = 300 then some (hIa Try.prog) else if k = 301 then some (hLd Try.prog fun off => .int .i64 (l.getD off 0)) else none
  lp _ := some (lpFirst l n c es more rw)
  cl _ := keep 15 [5, 6, 7]
noncomputable def orcWithin : Orc
  | [.int .i64 n, .int .i64 lo, .int .i64 hi], [] => some (.int .i64 (wi n lo hi), [])
  | _, _ => none
/-! ### Plain facts -/
theorem fi_zero : ∀ {l : List Int}, fi l = 0 ↔ ∀ e ∈ l, e = 0
  | [] => by simp [fi]
  | e :: r => by
    simp only [fi, List.mem_cons, forall_eq_or_imp]
    split
    · rename_i h; rw [fi_zero (l := r)]; simp [h]
    · rename_i h; simp [h]
theorem wi_zero {n lo hi : Int} : wi n lo hi = 0 ↔ lo ≤ n ∧ n ≤ hi := by
  unfold wi
  split <;> omega
theorem wh_zero {b : Bool} {e : Int} (he : e ≠ 0) : wh b e = 0 ↔ b = false := by
  cases b <;> simp [wh, he]
theorem sel_zero {e d : Int} : sel e d = 0 ↔ e = 0 ∧ d = 0 := by
  unfold sel
  split <;> simp_all
/-- Moments that pass. -/
structure MomOK (n a b : Int) : Prop where
  n0 : 0 ≤ n
  n1 : n ≤ 4096
  a0 : -(n * 16384) ≤ a
  a1 : a ≤ n * 16384
  b0 : 0 ≤ b
  b1 : b ≤ n * 268435456
  ab : a * a ≤ n * b
  aa : a * a ≤ 4503599627370496
  nb : n * b ≤ 4503599627370496
  nb0 : 0 ≤ n * b
  aa0 : 0 ≤ a * a

noncomputable def h4 : Hs Try.prog := {au := au0 Try.prog}
/-! ### The reference -/
theorem whenR_t (b : Bool) (e : Int) (K : Value → Heap → Prop) :
    (fnP Try.prog c0 h0 (42 : FuncId) [Value.bool b, Value.int IntKind.i64 e] [] K) =
    (br b (K (Value.int IntKind.i64 e) noH) (K (Value.int IntKind.i64 (0 : Int)) noH)) := by kernel_rfl
theorem okWhenR : Ok Try.prog 42 orcWhen := by
  intro args H ret H' h
  unfold orcWhen at h
  split at h
  · cases h
    refine fnP_res hm c0_ok (hs := h0) ?_
    rw [whenR_t]
    exact br_of (fun h => by simp [wh, h]) (fun h => by simp [wh, h])
  · cases h
noncomputable def lpFirstR (l : List Int) (n c es : Nat) (more rw : Bool) : Lp where
  σ := Nat
  E i := slots 19 [(0, .slice (some ⟨0, 0, none⟩) n c), (3, .int .i64 (Int.ofNat i))]
  Hp _ := [some (.row (ints l) es more rw true)]
  I i := i ≤ l.length ∧ fi (l.drop i) = fi l
  m i := l.length - i
noncomputable def hFirstR (l : List Int) (n c es : Nat) (more rw : Bool) : Hs Try.prog where
  op k := if k = 402 then some (hIa Try.prog) else if k = 502 then some (hIa Try.prog) else if k = 403 then some (hLd Try.prog fun off => .int .i64 (l.getD off 0)) else if k = 503 then some (hLd Try.prog fun off => .int .i64 (l.getD off 0)) else none
  lp _ := some (lpFirstR l n c es more rw)
  cl _ := keep 19 [0, 3]
theorem firstR_t (l : List Int) (n : Nat) (c : Nat) (es : Nat) (more : Bool) (rw : Bool) (K : Value → Heap → Prop) :
    (fnP Try.prog c0 (hFirstR l n c es more rw) (38 : FuncId) [Value.slice (some { block := (0 : Nat), off := (0 : Nat) }) n c] [some (AObj.row (ints l) es more rw true)] K) =
    ((∃ s, Is (s ≤ List.length l ∧ fi (List.drop s l) = fi l) ∧ [Value.slice (some { block := (0 : Nat), off := (0 : Nat) }) n c, poi, poi, Value.int IntKind.i64 (0 : Int), poi, poi, poi, poi, poi, poi, poi, poi, poi, poi, poi, poi, poi, poi, poi] = [Value.slice (some { block := (0 : Nat), off := (0 : Nat) }) n c, poi, poi, Value.int IntKind.i64 (↑s : Int), poi, poi, poi, poi, poi, poi, poi, poi, poi, poi, poi, poi, poi, poi, poi] ∧ some (AObj.row (ints l) es more rw true) :: noH = some (AObj.row (ints l) es more rw true) :: noH) ∧ ∀ (s : Nat), Is (s ≤ List.length l ∧ fi (List.drop s l) = fi l) → br (decide ((↑s : Int) < (↑n : Int))) (Is ((0 : Int) ≤ (↑s : Int) ∧ (↑s : Int) < (↑n : Int)) ∧ Is ((ints l)[(0 : Nat) + Int.toNat (↑s : Int) * (1 : Nat)]? = some (Value.int IntKind.i64 (List.getD l ((0 : Nat) + Int.toNat (↑s : Int) * (1 : Nat)) (0 : Int)))) ∧ br (List.getD l ((0 : Nat) + Int.toNat (↑s : Int) * (1 : Nat)) (0 : Int) != (0 : Int)) (Is ((0 : Int) ≤ (↑s : Int) ∧ (↑s : Int) < (↑n : Int)) ∧ Is ((ints l)[(0 : Nat) + Int.toNat (↑s : Int) * (1 : Nat)]? = some (Value.int IntKind.i64 (List.getD l ((0 : Nat) + Int.toNat (↑s : Int) * (1 : Nat)) (0 : Int)))) ∧ K (Value.int IntKind.i64 (List.getD l ((0 : Nat) + Int.toNat (↑s : Int) * (1 : Nat)) (0 : Int))) (some (AObj.row (ints l) es more rw true) :: noH)) (∃ s', Is (s' ≤ List.length l ∧ fi (List.drop s' l) = fi l) ∧ Is (List.length l - s' < List.length l - s) ∧ [Value.slice (some { block := (0 : Nat), off := (0 : Nat) }) n c, poi, poi, Value.int IntKind.i64 (IntKind.wrap IntKind.i64 ((↑s : Int) + (1 : Int))), poi, poi, poi, poi, poi, poi, poi, poi, poi, poi, poi, poi, poi, poi, poi] = [Value.slice (some { block := (0 : Nat), off := (0 : Nat) }) n c, poi, poi, Value.int IntKind.i64 (↑s' : Int), poi, poi, poi, poi, poi, poi, poi, poi, poi, poi, poi, poi, poi, poi, poi] ∧ some (AObj.row (ints l) es more rw true) :: noH = some (AObj.row (ints l) es more rw true) :: noH)) (K (Value.int IntKind.i64 (0 : Int)) (some (AObj.row (ints l) es more rw true) :: noH))) := by kernel_rfl
theorem okFirstR : Ok Try.prog 38 orcFirst := by
  intro args H ret H' h
  unfold orcFirst at h
  split at h
  · rename_i n c cells es more rw
    split at h
    · rename_i l hl
      split at h
      · rename_i hn
        cases h
        have := intsOf_eq hl
        subst this
        obtain ⟨hn, hlt⟩ := hn
        subst hn
        refine fnP_res hm c0_ok (hs := hFirstR l l.length c es more rw) ?_
        rw [firstR_t]
        refine ⟨⟨(0 : Nat), ⟨by simp, by simp⟩, rfl, rfl⟩, fun s hs => ?_⟩
        obtain ⟨h1, h2⟩ := hs.out
        refine br_of (fun hc => ?_) (fun hc => ?_)
        · have hc : s < l.length := by simpa using hc
          have hat := ints_at hc
          refine ⟨⟨by omega, by omega⟩, ⟨by simpa using hat⟩, br_of (fun hd => ?_) (fun hd => ?_)⟩
          · have := fi_drop hc
            have hd' : l.getD s 0 ≠ 0 := by simpa using hd
            rw [if_neg hd'] at this
            refine ⟨⟨by omega, by omega⟩, ⟨by simpa using hat⟩, ?_⟩
            simp [← h2, this]
          · have := fi_drop hc
            have hd' : l.getD s 0 = 0 := by simpa using hd
            rw [if_pos hd'] at this
            refine ⟨s + 1, ⟨hc, by rw [← this, h2]⟩, ⟨by omega⟩, ?_, rfl⟩
            rw [wrap_eq (by omega) (by omega)]
            rfl
        · have hc : l.length ≤ s := by simpa using hc
          have : s = l.length := by omega
          subst this
          simp [← h2, fi]
      · cases h
    · cases h
  · cases h
noncomputable def r1 : List (Nat × Orc) := [(42, orcWhen), (38, orcFirst)]
theorem r1_all : ∀ p ∈ r1, Ok Try.prog p.1 p.2 := all_cons okWhenR (all_cons okFirstR all_nil)
noncomputable def cr1 : CallF := ctx Try.prog r1
theorem cr1_ok : CallOK Try.prog cr1 := ctx_ok hm r1_all
theorem rangeR_t (n : Int) (lo : Int) (hi : Int) (K : Value → Heap → Prop) :
    (fnP Try.prog cr1 h0 (40 : FuncId) [Value.int IntKind.i64 n, Value.int IntKind.i64 lo, Value.int IntKind.i64 hi] [] K) =
    (br (decide (n < lo)) (K (Value.int IntKind.i64 (3 : Int)) noH) (K (Value.int IntKind.i64 (wh (decide (hi < n)) (3 : Int))) noH)) := by kernel_rfl
theorem okRangeR : Ok Try.prog 40 orcWithin := by
  intro args H ret H' h
  unfold orcWithin at h
  split at h
  · cases h
    refine fnP_res hm cr1_ok (hs := h0) ?_
    rw [rangeR_t]
    exact br_of (fun h => by simp [wi, of_decide_eq_true h]) (fun h => by simp [wi, wh, of_decide_eq_false h])
  · cases h
noncomputable def r2 : List (Nat × Orc) := (40, orcWithin) :: r1
theorem r2_all : ∀ p ∈ r2, Ok Try.prog p.1 p.2 := all_cons okRangeR r1_all
end
end Qq
end
section
/- Sections: copies of them. -/
open Go Go.Vm Go.Proofs Sp
namespace Qq
noncomputable section

/-- The cells of interventions. -/
noncomputable def acs : List (Int × ByteArray) → List Value
  | [] => []
  | a :: r => .int .i64 a.1 :: .string a.2 :: acs r
theorem ints_len (zs : List Int) : (ints zs).length = zs.length := by simp [ints]
theorem ints_take (zs : List Int) (i : Nat) : (ints zs).take i = ints (zs.take i) := by simp [ints, List.map_take]
theorem ints_drop (zs : List Int) (i : Nat) : (ints zs).drop i = ints (zs.drop i) := by simp [ints, List.map_drop]
theorem ints_app (zs ys : List Int) : ints zs ++ ints ys = ints (zs ++ ys) := by simp [ints]
theorem pair_at {zs : List Int} {i : Nat} (h : i + 2 ≤ zs.length) : (zs.drop i).take 2 = [zs.getD i 0, zs.getD (i + 1) 0] := by
  have h1 : i < zs.length := by omega
  have h2 : i + 1 < zs.length := by omega
  rw [List.drop_eq_getElem_cons h1, List.drop_eq_getElem_cons h2]
  simp only [List.take_succ_cons, List.take_zero, List.getD_eq_getElem?_getD, List.getElem?_eq_getElem h1, List.getElem?_eq_getElem h2, Option.getD_some]
theorem ints_pair {zs : List Int} {i : Nat} (h : i + 2 ≤ zs.length) : ((ints zs).drop i).take 2 = [.int .i64 (zs.getD i 0), .int .i64 (zs.getD (i + 1) 0)] := by
  rw [ints_drop, ints_take, pair_at h]; rfl
/-- The program's loops count in 64 bits. -/
theorem up1 {s n : Nat} (h : s < n) (hn : n ≤ 100000) : IntKind.wrap .i64 ((s : Int) + 1) = ((s + 1 : Nat) : Int) := by
  rw [wrap_eq (by omega) (by omega)]; rfl
theorem lt_of_dec {s n : Nat} (h : decide ((s : Int) < (n : Int)) = true) : s < n := by simpa using h
theorem ge_of_dec {s n : Nat} (h : decide ((s : Int) < (n : Int)) = false) : n ≤ s := by simpa using h
end
end Qq
end
section
/- Names. -/
open Go Go.Vm Go.Proofs Sp
namespace Sp
noncomputable section
noncomputable def letI' (c : Int) : Bool := (decide (97 ≤ c) && decide (c ≤ 122)) || (decide (65 ≤ c) && decide (c ≤ 90))
noncomputable def digI (c : Int) : Bool := decide (48 ≤ c) && decide (c ≤ 57)
noncomputable def in2 (c : Int) : Bool := letI' c || digI c || c == 95
noncomputable def nameL (l : List UInt8) : Bool :=
  match l with
  | [] => false
  | b :: r => decide (r.length < 24) && letI' b.toNat && r.all fun b => in2 b.toNat
noncomputable def nameB (s : ByteArray) : Bool := nameL s.data.toList
end
end Sp
namespace Qq
noncomputable section
noncomputable def orcLet : Orc
  | [.int .i32 c], [] => some (.bool (letI' c), [])
  | _, _ => none
noncomputable def orcDig : Orc
  | [.int .i32 c], [] => some (.bool (digI c), [])
  | _, _ => none
noncomputable def orcLet8 : Orc
  | [.int .u8 c], [] => some (.bool (letI' c), [])
  | _, _ => none
noncomputable def orcDig8 : Orc
  | [.int .u8 c], [] => some (.bool (digI c), [])
  | _, _ => none
theorem let_t (c : Int) (K : Value → Heap → Prop) :
    (fnP Try.prog c0 h0 (64 : FuncId) [Value.int IntKind.i32 c] [] K) =
    (br (decide ((97 : Int) ≤ c)) (br (decide (c ≤ (122 : Int))) (K (Value.bool true) noH) (br (decide ((65 : Int) ≤ c)) (K (Value.bool (decide (c ≤ (90 : Int)))) noH) (K (Value.bool false) noH))) (br (decide ((65 : Int) ≤ c)) (K (Value.bool (decide (c ≤ (90 : Int)))) noH) (K (Value.bool false) noH))) := by kernel_rfl
theorem dig_t (c : Int) (K : Value → Heap → Prop) :
    (fnP Try.prog c0 h0 (65 : FuncId) [Value.int IntKind.i32 c] [] K) =
    (br (decide ((48 : Int) ≤ c)) (K (Value.bool (decide (c ≤ (57 : Int)))) noH) (K (Value.bool false) noH)) := by kernel_rfl
theorem let8_t (c : Int) (K : Value → Heap → Prop) :
    (fnP Try.prog c0 h0 (68 : FuncId) [Value.int IntKind.u8 c] [] K) =
    (br (decide ((65 : Int) ≤ c)) (br (decide (c ≤ (90 : Int))) (K (Value.bool true) noH) (br (decide ((97 : Int) ≤ c)) (K (Value.bool (decide (c ≤ (122 : Int)))) noH) (K (Value.bool false) noH))) (br (decide ((97 : Int) ≤ c)) (K (Value.bool (decide (c ≤ (122 : Int)))) noH) (K (Value.bool false) noH))) := by kernel_rfl
theorem dig8_t (c : Int) (K : Value → Heap → Prop) :
    (fnP Try.prog c0 h0 (69 : FuncId) [Value.int IntKind.u8 c] [] K) =
    (br (decide ((48 : Int) ≤ c)) (K (Value.bool (decide (c ≤ (57 : Int)))) noH) (K (Value.bool false) noH)) := by kernel_rfl
noncomputable def tN : List (Nat × Orc) := [(64, orcLet), (65, orcDig)]
noncomputable def cN : CallF := ctx Try.prog tN
noncomputable def lpName (s : ByteArray) : Lp where
  σ := Nat
  E _ := slots 35 [(0, .string s), (6, .pointer (some ⟨0, 0, none⟩))]
  Hp p := [some (.iter s p)]
  I p := p ≤ s.size ∧ ∀ i, i < p → in2 (bt s i) = true ∧ (i = 0 → letI' (bt s i) = true)
  m p := s.size - p
noncomputable def hsName (s : ByteArray) : Hs Try.prog where
  lp _ := some (lpName s)
  cl _ := keep 35 [0, 6]
  au := au0 Try.prog
theorem name_t (s : ByteArray) (K : Value → Heap → Prop) :
    (fnP Try.prog cN (hsName s) (53 : FuncId) [Value.string s] [] K) =
    ((∃ s_1, Is (s_1 ≤ ByteArray.size s ∧ ∀ (i : Nat), i < s_1 → in2 (bt s i) = true ∧ (i = (0 : Nat) → letI' (bt s i) = true)) ∧ [Value.string s, poi, poi, poi, poi, poi, Value.pointer (some { block := (0 : Nat), off := (0 : Nat) }), poi, poi, poi, poi, poi, poi, poi, poi, poi, poi, poi, poi, poi, poi, poi, poi, poi, poi, poi, poi, poi, poi, poi, poi, poi, poi, poi, poi] = [Value.string s, poi, poi, poi, poi, poi, Value.pointer (some { block := (0 : Nat), off := (0 : Nat) }), poi, poi, poi, poi, poi, poi, poi, poi, poi, poi, poi, poi, poi, poi, poi, poi, poi, poi, poi, poi, poi, poi, poi, poi, poi, poi, poi, poi] ∧ some (AObj.iter s (0 : Nat)) :: noH = some (AObj.iter s s_1) :: noH) ∧ ∀ (s_1 : Nat), Is (s_1 ≤ ByteArray.size s ∧ ∀ (i : Nat), i < s_1 → in2 (bt s i) = true ∧ (i = (0 : Nat) → letI' (bt s i) = true)) → br (decide (s_1 < ByteArray.size s)) (br (!letI' (↑(Prod.fst (Utf8.decode s s_1)) : Int)) (br ((↑s_1 : Int) == (0 : Int)) (K (Value.bool false) noH) (br (!digI (↑(Prod.fst (Utf8.decode s s_1)) : Int)) (br ((↑(Prod.fst (Utf8.decode s s_1)) : Int) != (95 : Int)) (K (Value.bool false) noH) (∃ s', Is (s' ≤ ByteArray.size s ∧ ∀ (i : Nat), i < s' → in2 (bt s i) = true ∧ (i = (0 : Nat) → letI' (bt s i) = true)) ∧ Is (ByteArray.size s - s' < ByteArray.size s - s_1) ∧ [Value.string s, poi, poi, poi, poi, poi, Value.pointer (some { block := (0 : Nat), off := (0 : Nat) }), poi, poi, poi, poi, poi, poi, poi, poi, poi, poi, poi, poi, poi, poi, poi, poi, poi, poi, poi, poi, poi, poi, poi, poi, poi, poi, poi, poi] = [Value.string s, poi, poi, poi, poi, poi, Value.pointer (some { block := (0 : Nat), off := (0 : Nat) }), poi, poi, poi, poi, poi, poi, poi, poi, poi, poi, poi, poi, poi, poi, poi, poi, poi, poi, poi, poi, poi, poi, poi, poi, poi, poi, poi, poi] ∧ some (AObj.iter s (s_1 + Prod.snd (Utf8.decode s s_1))) :: noH = some (AObj.iter s s') :: noH)) (∃ s', Is (s' ≤ ByteArray.size s ∧ ∀ (i : Nat), i < s' → in2 (bt s i) = true ∧ (i = (0 : Nat) → letI' (bt s i) = true)) ∧ Is (ByteArray.size s - s' < ByteArray.size s - s_1) ∧ [Value.string s, poi, poi, poi, poi, poi, Value.pointer (some { block := (0 : Nat), off := (0 : Nat) }), poi, poi, poi, poi, poi, poi, poi, poi, poi, poi, poi, poi, poi, poi, poi, poi, poi, poi, poi, poi, poi, poi, poi, poi, poi, poi, poi, poi] = [Value.string s, poi, poi, poi, poi, poi, Value.pointer (some { block := (0 : Nat), off := (0 : Nat) }), poi, poi, poi, poi, poi, poi, poi, poi, poi, poi, poi, poi, poi, poi, poi, poi, poi, poi, poi, poi, poi, poi, poi, poi, poi, poi, poi, poi] ∧ some (AObj.iter s (s_1 + Prod.snd (Utf8.decode s s_1))) :: noH = some (AObj.iter s s') :: noH))) (∃ s', Is (s' ≤ ByteArray.size s ∧ ∀ (i : Nat), i < s' → in2 (bt s i) = true ∧ (i = (0 : Nat) → letI' (bt s i) = true)) ∧ Is (ByteArray.size s - s' < ByteArray.size s - s_1) ∧ [Value.string s, poi, poi, poi, poi, poi, Value.pointer (some { block := (0 : Nat), off := (0 : Nat) }), poi, poi, poi, poi, poi, poi, poi, poi, poi, poi, poi, poi, poi, poi, poi, poi, poi, poi, poi, poi, poi, poi, poi, poi, poi, poi, poi, poi] = [Value.string s, poi, poi, poi, poi, poi, Value.pointer (some { block := (0 : Nat), off := (0 : Nat) }), poi, poi, poi, poi, poi, poi, poi, poi, poi, poi, poi, poi, poi, poi, poi, poi, poi, poi, poi, poi, poi, poi, poi, poi, poi, poi, poi, poi] ∧ some (AObj.iter s (s_1 + Prod.snd (Utf8.decode s s_1))) :: noH = some (AObj.iter s s') :: noH)) (br (decide ((0 : Int) < (↑(ByteArray.size s) : Int))) (K (Value.bool (decide ((↑(ByteArray.size s) : Int) ≤ (24 : Int)))) noH) (K (Value.bool false) noH))) := by kernel_rfl
noncomputable def tN8 : List (Nat × Orc) := [(68, orcLet8), (69, orcDig8)]
noncomputable def cN8 : CallF := ctx Try.prog tN8
noncomputable def lpName8 (s : ByteArray) : Lp where
  σ := Nat
  E p := slots 42 [(0, .string s), (3, .int .i64 (Int.ofNat p))]
  Hp _ := []
  I p := 1 ≤ p ∧ p ≤ s.size ∧ letI' (bt s 0) = true ∧ s.size ≤ 24 ∧ ∀ i, i < p → in2 (bt s i) = true
  m p := s.size - p
noncomputable def hsName8 (s : ByteArray) : Hs Try.prog where
  op x := if x = 110 then some (hSi Try.prog) else if x = 602 then some (hSi Try.prog) else if x = 608 then some (hSi Try.prog) else if x = 615 then some (hSi Try.prog) else none
  lp _ := some (lpName8 s)
  cl _ := keep 42 [0, 3]
  au := au0 Try.prog
theorem name8_t (s : ByteArray) (K : Value → Heap → Prop) :
    (fnP Try.prog cN8 (hsName8 s) (58 : FuncId) [Value.string s] [] K) =
    (br ((↑(ByteArray.size s) : Int) == (0 : Int)) (K (Value.bool false) noH) (br (decide ((24 : Int) < (↑(ByteArray.size s) : Int))) (K (Value.bool false) noH) (Is ((0 : Int) ≤ (0 : Int) ∧ (0 : Int) < (↑(ByteArray.size s) : Int)) ∧ br (!letI' (bt s (0 : Nat))) (K (Value.bool false) noH) ((∃ s_1, Is ((1 : Nat) ≤ s_1 ∧ s_1 ≤ ByteArray.size s ∧ letI' (bt s (0 : Nat)) = true ∧ ByteArray.size s ≤ (24 : Nat) ∧ ∀ (i : Nat), i < s_1 → in2 (bt s i) = true) ∧ [Value.string s, poi, poi, Value.int IntKind.i64 (1 : Int), poi, poi, poi, poi, poi, poi, poi, poi, poi, poi, poi, poi, poi, poi, poi, poi, poi, poi, poi, poi, poi, poi, poi, poi, poi, poi, poi, poi, poi, poi, poi, poi, poi, poi, poi, poi, poi, poi] = [Value.string s, poi, poi, Value.int IntKind.i64 (↑s_1 : Int), poi, poi, poi, poi, poi, poi, poi, poi, poi, poi, poi, poi, poi, poi, poi, poi, poi, poi, poi, poi, poi, poi, poi, poi, poi, poi, poi, poi, poi, poi, poi, poi, poi, poi, poi, poi, poi, poi] ∧ noH = noH) ∧ ∀ (s_1 : Nat), Is ((1 : Nat) ≤ s_1 ∧ s_1 ≤ ByteArray.size s ∧ letI' (bt s (0 : Nat)) = true ∧ ByteArray.size s ≤ (24 : Nat) ∧ ∀ (i : Nat), i < s_1 → in2 (bt s i) = true) → br (decide ((↑s_1 : Int) < (↑(ByteArray.size s) : Int))) (Is ((0 : Int) ≤ (↑s_1 : Int) ∧ (↑s_1 : Int) < (↑(ByteArray.size s) : Int)) ∧ br (!letI' (bt s (Int.toNat (↑s_1 : Int)))) (Is ((0 : Int) ≤ (↑s_1 : Int) ∧ (↑s_1 : Int) < (↑(ByteArray.size s) : Int)) ∧ br (!digI (bt s (Int.toNat (↑s_1 : Int)))) (Is ((0 : Int) ≤ (↑s_1 : Int) ∧ (↑s_1 : Int) < (↑(ByteArray.size s) : Int)) ∧ br (bt s (Int.toNat (↑s_1 : Int)) != (95 : Int)) (K (Value.bool false) noH) (∃ s', Is ((1 : Nat) ≤ s' ∧ s' ≤ ByteArray.size s ∧ letI' (bt s (0 : Nat)) = true ∧ ByteArray.size s ≤ (24 : Nat) ∧ ∀ (i : Nat), i < s' → in2 (bt s i) = true) ∧ Is (ByteArray.size s - s' < ByteArray.size s - s_1) ∧ [Value.string s, poi, poi, Value.int IntKind.i64 (IntKind.wrap IntKind.i64 ((↑s_1 : Int) + (1 : Int))), poi, poi, poi, poi, poi, poi, poi, poi, poi, poi, poi, poi, poi, poi, poi, poi, poi, poi, poi, poi, poi, poi, poi, poi, poi, poi, poi, poi, poi, poi, poi, poi, poi, poi, poi, poi, poi, poi] = [Value.string s, poi, poi, Value.int IntKind.i64 (↑s' : Int), poi, poi, poi, poi, poi, poi, poi, poi, poi, poi, poi, poi, poi, poi, poi, poi, poi, poi, poi, poi, poi, poi, poi, poi, poi, poi, poi, poi, poi, poi, poi, poi, poi, poi, poi, poi, poi, poi] ∧ noH = noH)) (∃ s', Is ((1 : Nat) ≤ s' ∧ s' ≤ ByteArray.size s ∧ letI' (bt s (0 : Nat)) = true ∧ ByteArray.size s ≤ (24 : Nat) ∧ ∀ (i : Nat), i < s' → in2 (bt s i) = true) ∧ Is (ByteArray.size s - s' < ByteArray.size s - s_1) ∧ [Value.string s, poi, poi, Value.int IntKind.i64 (IntKind.wrap IntKind.i64 ((↑s_1 : Int) + (1 : Int))), poi, poi, poi, poi, poi, poi, poi, poi, poi, poi, poi, poi, poi, poi, poi, poi, poi, poi, poi, poi, poi, poi, poi, poi, poi, poi, poi, poi, poi, poi, poi, poi, poi, poi, poi, poi, poi, poi] = [Value.string s, poi, poi, Value.int IntKind.i64 (↑s' : Int), poi, poi, poi, poi, poi, poi, poi, poi, poi, poi, poi, poi, poi, poi, poi, poi, poi, poi, poi, poi, poi, poi, poi, poi, poi, poi, poi, poi, poi, poi, poi, poi, poi, poi, poi, poi, poi, poi] ∧ noH = noH)) (∃ s', Is ((1 : Nat) ≤ s' ∧ s' ≤ ByteArray.size s ∧ letI' (bt s (0 : Nat)) = true ∧ ByteArray.size s ≤ (24 : Nat) ∧ ∀ (i : Nat), i < s' → in2 (bt s i) = true) ∧ Is (ByteArray.size s - s' < ByteArray.size s - s_1) ∧ [Value.string s, poi, poi, Value.int IntKind.i64 (IntKind.wrap IntKind.i64 ((↑s_1 : Int) + (1 : Int))), poi, poi, poi, poi, poi, poi, poi, poi, poi, poi, poi, poi, poi, poi, poi, poi, poi, poi, poi, poi, poi, poi, poi, poi, poi, poi, poi, poi, poi, poi, poi, poi, poi, poi, poi, poi, poi, poi] = [Value.string s, poi, poi, Value.int IntKind.i64 (↑s' : Int), poi, poi, poi, poi, poi, poi, poi, poi, poi, poi, poi, poi, poi, poi, poi, poi, poi, poi, poi, poi, poi, poi, poi, poi, poi, poi, poi, poi, poi, poi, poi, poi, poi, poi, poi, poi, poi, poi] ∧ noH = noH)) (K (Value.bool true) noH))))) := by kernel_rfl
theorem letI_iff {c : Int} : letI' c = true ↔ (97 ≤ c ∧ c ≤ 122) ∨ (65 ≤ c ∧ c ≤ 90) := by simp [letI']
theorem letI_not {c : Int} : letI' c = false ↔ ¬ ((97 ≤ c ∧ c ≤ 122) ∨ (65 ≤ c ∧ c ≤ 90)) := by rw [← letI_iff]; simp
theorem digI_iff {c : Int} : digI c = true ↔ 48 ≤ c ∧ c ≤ 57 := by simp [digI]
theorem digI_not {c : Int} : digI c = false ↔ ¬ (48 ≤ c ∧ c ≤ 57) := by rw [← digI_iff]; simp
theorem in2_iff {c : Int} : in2 c = true ↔ letI' c = true ∨ digI c = true ∨ c = 95 := by simp [in2, or_assoc]
theorem okLet : Ok Try.prog 64 orcLet := by
  intro args H ret H' h
  unfold orcLet at h
  split at h
  · cases h
    refine fnP_res hm c0_ok (hs := h0) ?_
    rw [let_t]
    exact br_of (fun a => br_of (fun b => ⟨by simp [letI', a, b], rfl⟩) (fun b => br_of (fun d => ⟨by simp [letI', b, d], rfl⟩) (fun d => ⟨by simp [letI', b, d], rfl⟩)))
      (fun a => br_of (fun d => ⟨by simp [letI', a, d], rfl⟩) (fun d => ⟨by simp [letI', a, d], rfl⟩))
  · cases h
theorem okDig : Ok Try.prog 65 orcDig := by
  intro args H ret H' h
  unfold orcDig at h
  split at h
  · cases h
    refine fnP_res hm c0_ok (hs := h0) ?_
    rw [dig_t]
    exact br_of (fun a => ⟨by simp [digI, a], rfl⟩) (fun a => ⟨by simp [digI, a], rfl⟩)
  · cases h
theorem okLet8 : Ok Try.prog 68 orcLet8 := by
  intro args H ret H' h
  unfold orcLet8 at h
  split at h
  · cases h
    refine fnP_res hm c0_ok (hs := h0) ?_
    rw [let8_t]
    exact br_of (fun a => br_of (fun b => ⟨by simp [letI', a, b], rfl⟩) (fun b => br_of (fun d => ⟨by simp [letI', b, d], rfl⟩) (fun d => ⟨by simp [letI', b, d], rfl⟩)))
      (fun a => br_of (fun d => ⟨by simp [letI', a, d], rfl⟩) (fun d => ⟨by simp [letI', a, d], rfl⟩))
  · cases h
theorem okDig8 : Ok Try.prog 69 orcDig8 := by
  intro args H ret H' h
  unfold orcDig8 at h
  split at h
  · cases h
    refine fnP_res hm c0_ok (hs := h0) ?_
    rw [dig8_t]
    exact br_of (fun a => ⟨by simp [digI, a], rfl⟩) (fun a => ⟨by simp [digI, a], rfl⟩)
  · cases h
theorem name_iff (s : ByteArray) : nameB s = true ↔ 0 < s.size ∧ s.size ≤ 24 ∧ ∀ i, i < s.size → in2 (bt s i) = true ∧ (i = 0 → letI' (bt s i) = true) := by
  obtain ⟨⟨l⟩⟩ := s
  show nameL l = true ↔ 0 < l.length ∧ l.length ≤ 24 ∧ ∀ i, i < l.length → in2 (Int.ofNat (l.getD i 0).toNat) = true ∧ (i = 0 → letI' (Int.ofNat (l.getD i 0).toNat) = true)
  cases l with
  | nil => simp [nameL]
  | cons b r =>
    simp only [nameL, Bool.and_eq_true, decide_eq_true_eq, List.all_eq_true, List.length_cons]
    constructor
    · rintro ⟨⟨h1, h2⟩, h3⟩
      refine ⟨by omega, by omega, fun i hi => ?_⟩
      cases i with
      | zero => exact ⟨in2_iff.2 (.inl h2), fun _ => h2⟩
      | succ j =>
        refine ⟨?_, fun h => by omega⟩
        have hj : j < r.length := by omega
        have : (b :: r).getD (j + 1) 0 = r[j] := by simp [List.getD_eq_getElem?_getD, hj]
        rw [this]
        exact h3 _ (List.getElem_mem _)
    · rintro ⟨_, h1, h2⟩
      refine ⟨⟨by omega, (h2 0 (by omega)).2 rfl⟩, fun x hx => ?_⟩
      obtain ⟨j, hj, rfl⟩ := List.mem_iff_getElem.1 hx
      have := (h2 (j + 1) (by omega)).1
      have e : (b :: r).getD (j + 1) 0 = r[j] := by simp [List.getD_eq_getElem?_getD, hj]
      rw [e] at this
      exact this
theorem name_bad {s : ByteArray} {p : Nat} (hp : p < s.size) (h : in2 (bt s p) = true → p = 0 ∧ letI' (bt s p) = false) : nameB s = false := by
  cases hn : nameB s with
  | false => rfl
  | true =>
    obtain ⟨_, _, h3⟩ := (name_iff s).1 hn
    obtain ⟨a, b⟩ := h3 p hp
    obtain ⟨c, d⟩ := h a
    rw [b c] at d; cases d
theorem bt_at {s : ByteArray} {p : Nat} (hp : p < s.size) : (s[p]'hp).toNat = (s.data.toList.getD p 0).toNat := by
  have : p < s.data.size := hp
  simp only [List.getD_eq_getElem?_getD, Array.getElem?_toList, Array.getElem?_eq_getElem this, Option.getD_some]
  rfl
theorem bt_low {s : ByteArray} {p : Nat} (hp : p < s.size) (h : bt s p < 128) : ((Utf8.decode s p).1 : Int) = bt s p ∧ (Utf8.decode s p).2 = 1 := by
  have hb := bt_at hp
  have := decode_ascii s p hp (by rw [hb]; simp only [bt] at h; exact Int.ofNat_lt.1 h)
  rw [this, hb]
  exact ⟨rfl, rfl⟩
theorem bt_high {s : ByteArray} {p : Nat} (hp : p < s.size) (h : ¬ bt s p < 128) : (128 : Int) ≤ ((Utf8.decode s p).1 : Int) := by
  have hb := bt_at hp
  have := (decode_high s p hp (by rw [hb]; have e : bt s p = (((s.data.toList.getD p 0).toNat : Nat) : Int) := rfl; omega)).1
  omega
theorem in2_low {c : Int} (h : in2 c = true) : c < 128 := by
  rcases in2_iff.1 h with h | h | h
  · rw [letI_iff] at h; omega
  · rw [digI_iff] at h; omega
  · omega
theorem okN : CallOK Try.prog cN := ctx_ok hm (all_cons okLet (all_cons okDig all_nil))
theorem okN8 : CallOK Try.prog cN8 := ctx_ok hm (all_cons okLet8 (all_cons okDig8 all_nil))
set_option maxRecDepth 100000 in
theorem name_ok (s : ByteArray) : SmallRes Try.prog 53 [.string s] [] (.bool (nameB s)) [] := by
  refine fnP_res hm okN (hs := hsName s) ?_
  rw [name_t]
  refine ⟨⟨(0 : Nat), ⟨Nat.zero_le _, fun i hi => by omega⟩, rfl, rfl⟩, fun p hp => br_of (fun hlt => ?_) (fun hge => ?_)⟩
  · have hlt : p < s.size := of_decide_eq_true hlt
    obtain ⟨hp1, hp2⟩ := hp.out
    by_cases hb : bt s p < 128
    · obtain ⟨e1, e2⟩ := bt_low hlt hb
      simp only [e1, e2]
      have bad : (in2 (bt s p) = true → p = 0 ∧ letI' (bt s p) = false) → (Value.bool false = .bool (nameB s) ∧ True) := fun h => ⟨by rw [name_bad hlt h], trivial⟩
      have next : in2 (bt s p) = true → (p = 0 → letI' (bt s p) = true) → p + 1 ≤ s.size ∧ ∀ i, i < p + 1 → in2 (bt s i) = true ∧ (i = 0 → letI' (bt s i) = true) := fun h1 h2 => ⟨hlt, fun i hi => by
        rcases Nat.lt_succ_iff_lt_or_eq.1 hi with h | rfl
        · exact hp2 i h
        · exact ⟨h1, h2⟩⟩
      refine br_of (fun h1 => ?_) (fun h1 => ?_)
      · have h1 : letI' (bt s p) = false := by simpa using h1
        refine br_of (fun h2 => bad fun _ => ⟨by simpa using h2, h1⟩) (fun h2 => ?_)
        have h2 : p ≠ 0 := by simpa using h2
        refine br_of (fun h3 => br_of (fun h4 => bad fun h => ?_) (fun h4 => ?_)) (fun h3 => ?_)
        · have h3 : digI (bt s p) = false := by simpa using h3
          have h4 : bt s p ≠ 95 := by simpa using h4
          rcases in2_iff.1 h with h | h | h
          · rw [h1] at h; cases h
          · rw [h3] at h; cases h
          · exact absurd h h4
        · have h4 : bt s p = 95 := by simpa using h4
          exact ⟨p + 1, ⟨next (in2_iff.2 (.inr (.inr h4))) fun h => absurd h h2⟩, ⟨by omega⟩, by first | trivial | rfl, by first | trivial | rfl⟩
        · have h3 : digI (bt s p) = true := by simpa using h3
          exact ⟨p + 1, ⟨next (in2_iff.2 (.inr (.inl h3))) fun h => absurd h h2⟩, ⟨by omega⟩, by first | trivial | rfl, by first | trivial | rfl⟩
      · have h1 : letI' (bt s p) = true := by simpa using h1
        exact ⟨p + 1, ⟨next (in2_iff.2 (.inl h1)) fun _ => h1⟩, ⟨by omega⟩, by first | trivial | rfl, by first | trivial | rfl⟩
    · have hh := bt_high hlt hb
      have hf : nameB s = false := name_bad hlt fun h => absurd (in2_low h) hb
      have l1 : letI' (↑(Utf8.decode s p).1 : Int) = false := letI_not.2 (by omega)
      have l2 : digI (↑(Utf8.decode s p).1 : Int) = false := digI_not.2 (by omega)
      have l3 : ((↑(Utf8.decode s p).1 : Int) != 95) = true := by simp; omega
      simp only [l1, l2, l3, hf, Bool.not_false, br_t]
      exact br_of (fun _ => by first | trivial | exact ⟨rfl, rfl⟩) (fun _ => by first | trivial | exact ⟨rfl, rfl⟩)
  · have hge : ¬ p < s.size := of_decide_eq_false hge
    obtain ⟨hp1, hp2⟩ := hp.out
    have : p = s.size := by omega
    subst this
    have fin : nameB s = (decide ((0 : Int) < (s.size : Int)) && decide ((s.size : Int) ≤ 24)) := by
      rw [Bool.eq_iff_iff, name_iff]
      simp only [Bool.and_eq_true, decide_eq_true_eq]
      constructor
      · rintro ⟨a, b, _⟩; omega
      · rintro ⟨a, b⟩; exact ⟨by omega, by omega, hp2⟩
    rw [fin]
    exact br_of (fun h => ⟨by rw [h]; rfl, rfl⟩) (fun h => ⟨by rw [h]; rfl, rfl⟩)
set_option maxRecDepth 100000 in
theorem name8_ok (s : ByteArray) : SmallRes Try.prog 58 [.string s] [] (.bool (nameB s)) [] := by
  refine fnP_res hm okN8 (hs := hsName8 s) ?_
  rw [name8_t]
  have no : ∀ {p : Nat}, p < s.size → (in2 (bt s p) = true → p = 0 ∧ letI' (bt s p) = false) → Value.bool false = .bool (nameB s) := fun h1 h2 => by rw [name_bad h1 h2]
  have small : (s.size = 0 ∨ 24 < s.size) → Value.bool false = .bool (nameB s) := fun h => by
    cases hn : nameB s with
    | false => rfl
    | true => have := (name_iff s).1 hn; omega
  refine br_of (fun h => ⟨small (.inl (by simpa using h)), rfl⟩) (fun h1 => br_of (fun h => ⟨small (.inr (by have := of_decide_eq_true h; omega)), rfl⟩) (fun h2 => ?_))
  have h1 : s.size ≠ 0 := by simpa using h1
  have h2 : s.size ≤ 24 := by have := of_decide_eq_false h2; omega
  have z : Int.toNat 0 = 0 := rfl
  refine ⟨⟨by omega, by omega⟩, br_of (fun h => ⟨no (p := 0) (by omega) fun _ => ⟨rfl, by simpa using h⟩, by first | trivial | rfl⟩) (fun h3 => ?_)⟩
  have h3 : letI' (bt s 0) = true := by simpa using h3
  refine ⟨⟨(1 : Nat), ⟨⟨Nat.le_refl _, by omega, h3, h2, fun i hi => ?_⟩⟩, by first | trivial | rfl, by first | trivial | rfl⟩, fun p hp => br_of (fun hlt => ?_) (fun hge => ?_)⟩
  · obtain rfl : i = 0 := by omega
    exact in2_iff.2 (.inl h3)
  · have hlt := lt_of_dec hlt
    obtain ⟨p1, p2, p3, p4, p5⟩ := hp.out
    have bad : (in2 (bt s p) = false) → Value.bool false = .bool (nameB s) := fun h => no hlt fun h' => by rw [h] at h'; cases h'
    have next : in2 (bt s p) = true → 1 ≤ p + 1 ∧ p + 1 ≤ s.size ∧ letI' (bt s 0) = true ∧ s.size ≤ 24 ∧ ∀ i, i < p + 1 → in2 (bt s i) = true := fun h => ⟨by omega, hlt, p3, p4, fun i hi => by
      rcases Nat.lt_succ_iff_lt_or_eq.1 hi with h' | rfl
      · exact p5 i h'
      · exact h⟩
    have e1 : IntKind.wrap .i64 ((p : Int) + 1) = ((p + 1 : Nat) : Int) := up1 hlt (by omega)
    simp only [Int.toNat_natCast, e1]
    refine ⟨⟨by omega, by omega⟩, br_of (fun a1 => ⟨⟨by omega, by omega⟩, br_of (fun a2 => ⟨⟨by omega, by omega⟩, br_of (fun a3 => ⟨bad ?_, by first | trivial | rfl⟩) (fun a3 => ⟨p + 1, ⟨next (in2_iff.2 (.inr (.inr ?_)))⟩, ⟨by omega⟩, by first | trivial | rfl, by first | trivial | rfl⟩)⟩) (fun a2 => ⟨p + 1, ⟨next (in2_iff.2 (.inr (.inl ?_)))⟩, ⟨by omega⟩, by first | trivial | rfl, by first | trivial | rfl⟩)⟩) (fun a1 => ⟨p + 1, ⟨next (in2_iff.2 (.inl ?_))⟩, ⟨by omega⟩, by first | trivial | rfl, by first | trivial | rfl⟩)⟩
    · cases hi : in2 (bt s p) with
      | false => rfl
      | true =>
        rcases in2_iff.1 hi with h | h | h
        · simp [h] at a1
        · simp [h] at a2
        · simp [h] at a3
    · simpa using a3
    · simpa using a2
    · simpa using a1
  · have hge := ge_of_dec hge
    obtain ⟨p1, p2, p3, p4, p5⟩ := hp.out
    have : p = s.size := by omega
    subst this
    have : nameB s = true := (name_iff s).2 ⟨by omega, h2, fun i hi => ⟨p5 i hi, fun h => by subst h; exact h3⟩⟩
    rw [this]
    exact ⟨rfl, by first | trivial | rfl⟩
noncomputable def orcName : Orc
  | [.string s], [] => some (.bool (nameB s), [])
  | _, _ => none
theorem okName : Ok Try.prog 53 orcName := by
  intro args H ret H' h
  unfold orcName at h
  split at h
  · cases h; exact name_ok _
  · cases h
theorem okName8 : Ok Try.prog 58 orcName := by
  intro args H ret H' h
  unfold orcName at h
  split at h
  · cases h; exact name8_ok _
  · cases h
end
end Qq
end
section
/- Sections, checked. -/
open Go Go.Vm Go.Proofs Sp
namespace Sp
noncomputable section
end
end Sp
namespace Qq
noncomputable section
noncomputable def orcCn : Orc
  | [.string k], [] => some (.int .i64 (wh (!nameB k) 8), [])
  | _, _ => none
noncomputable def r10 : List (Nat × Orc) := (58, orcName) :: r2
theorem r10_all : ∀ p ∈ r10, Ok Try.prog p.1 p.2 := all_cons okName8 r2_all
noncomputable def cr10 : CallF := ctx Try.prog r10
theorem cr10_ok : CallOK Try.prog cr10 := ctx_ok hm r10_all
theorem cn_t (k : ByteArray) (K : Value → Heap → Prop) :
    (fnP Try.prog cr10 h0 (39 : FuncId) [Value.string k] [] K) =
    (K (Value.int IntKind.i64 (wh (!nameB k) (8 : Int))) noH) := by kernel_rfl
theorem okCn : Ok Try.prog 39 orcCn := by
  intro args H ret H' h
  unfold orcCn at h
  split at h
  · cases h
    refine fnP_res hm cr10_ok (hs := h0) ?_
    rw [cn_t]
    exact ⟨rfl, rfl⟩
  · cases h
noncomputable def r11 : List (Nat × Orc) := (39, orcCn) :: r2
theorem r11_all : ∀ p ∈ r11, Ok Try.prog p.1 p.2 := all_cons okCn r2_all
noncomputable def cr11 : CallF := ctx Try.prog r11
theorem cr11_ok : CallOK Try.prog cr11 := ctx_ok hm r11_all
noncomputable def z2 (zs : List Int) (off : Nat) : Value := .agg #[.int .i64 (zs.getD off 0), .int .i64 (zs.getD (off + 1) 0)]
noncomputable def k2 (ks : List (Int × ByteArray)) (off : Nat) : Value := .agg #[.int .i64 (ks.getD (off / 2) (0, ⟨#[]⟩)).1, .string (ks.getD (off / 2) (0, ⟨#[]⟩)).2]
noncomputable def hp2 (zs : List Int) (ks : List (Int × ByteArray)) (m1 w1 m2 w2 : Bool) (l : List (Option AObj)) : Heap := some (.row (ints zs) 2 m1 w1 true) :: some (.row (acs ks) 2 m2 w2 true) :: l
noncomputable def zI (zs : List Int) (off : Nat) : Value := .int .i64 (zs.getD off 0)
theorem zint_at {zs : List Int} {i : Nat} (h : i < zs.length) : (ints zs)[i]? = some (.int .i64 (zs.getD i 0)) := by
  simp [ints, List.getElem?_map, List.getElem?_eq_getElem h, List.getD_eq_getElem?_getD]
theorem sel_ne {e d : Int} (h : (e != 0) = true) : sel e d = e := by
  have : e ≠ 0 := by simpa using h
  simp [sel, this]
theorem sel_eq {e d : Int} (h : (e != 0) = false) : sel e d = d := by
  have : e = 0 := by simpa using h
  simp [sel, this]
theorem fi_late {a : Int} {b : Bool} (h : b = true → a ≠ 0) : fi [a, wh b 11] = fi [a, 0] := by
  cases hb : b with
  | false => rfl
  | true =>
    have := h hb
    simp [fi, this]
theorem pred1 {s n : Nat} (h : s < n) (hn : n ≤ 100000) : (if IntKind.wrap .i64 ((s : Int) - 1) > 0 then IntKind.wrap .i64 ((s : Int) - 1) else 0) = ((s - 1 : Nat) : Int) := by
  rw [wrap_eq (by omega) (by omega)]
  split <;> omega
end
end Qq
end
section
/- Periods of sections, and the law about them. -/
open Go Go.Vm Go.Proofs Sp
namespace Sp
noncomputable section
noncomputable def isInts (e : List Value) (n : Nat) : Prop := ∃ xs, e = ints xs ∧ xs.length = n * 2
end
end Sp
namespace Qq
noncomputable section
/- The reference's first. -/
/- The program's periods. -/
/- The reference's periods. -/
/- Equal lists of spans. -/
noncomputable def lpSS (xs ys : List Int) (n c m d : Nat) (m1 w1 m2 w2 : Bool) : Lp where
  σ := Nat
  E i := slots 26 [(0, .slice (some ⟨0, 0, none⟩) n c), (1, .slice (some ⟨1, 0, none⟩) m d), (5, .int .i64 (Int.ofNat i))]
  Hp _ := [some (.row (ints xs) 2 m1 w1 true), some (.row (ints ys) 2 m2 w2 true)]
  I i := i ≤ n ∧ xs.take (i * 2) = ys.take (i * 2)
  m i := n - i
noncomputable def hsSS (xs ys : List Int) (n c m d : Nat) (m1 w1 m2 w2 : Bool) : Hs Try.prog where
  op y := if [602, 606].contains y then some (hIa Try.prog) else if y = 603 then some (hLd Try.prog (z2 xs)) else if y = 607 then some (hLd Try.prog (z2 ys)) else none
  lp _ := some (lpSS xs ys n c m d m1 w1 m2 w2)
  cl _ := keep 26 [0, 1, 5]
  au := au0 Try.prog
theorem same_t (xs : List Int) (ys : List Int) (n : Nat) (c : Nat) (m : Nat) (d : Nat) (m1 : Bool) (w1 : Bool) (m2 : Bool) (w2 : Bool) (K : Value → Heap → Prop) :
    (fnP Try.prog c0 (hsSS xs ys n c m d m1 w1 m2 w2) (14 : FuncId) [Value.slice (some { block := (0 : Nat), off := (0 : Nat) }) n c, Value.slice (some { block := (1 : Nat), off := (0 : Nat) }) m d] [some (AObj.row (ints xs) (2 : Nat) m1 w1 true), some (AObj.row (ints ys) (2 : Nat) m2 w2 true)] K) =
    (br ((↑n : Int) != (↑m : Int)) (K (Value.bool false) (some (AObj.row (ints xs) (2 : Nat) m1 w1 true) :: some (AObj.row (ints ys) (2 : Nat) m2 w2 true) :: noH)) ((∃ s, Is (s ≤ n ∧ List.take (s * (2 : Nat)) xs = List.take (s * (2 : Nat)) ys) ∧ [Value.slice (some { block := (0 : Nat), off := (0 : Nat) }) n c, Value.slice (some { block := (1 : Nat), off := (0 : Nat) }) m d, poi, poi, poi, Value.int IntKind.i64 (0 : Int), poi, poi, poi, poi, poi, poi, poi, poi, poi, poi, poi, poi, poi, poi, poi, poi, poi, poi, poi, poi] = [Value.slice (some { block := (0 : Nat), off := (0 : Nat) }) n c, Value.slice (some { block := (1 : Nat), off := (0 : Nat) }) m d, poi, poi, poi, Value.int IntKind.i64 (↑s : Int), poi, poi, poi, poi, poi, poi, poi, poi, poi, poi, poi, poi, poi, poi, poi, poi, poi, poi, poi, poi] ∧ some (AObj.row (ints xs) (2 : Nat) m1 w1 true) :: some (AObj.row (ints ys) (2 : Nat) m2 w2 true) :: noH = some (AObj.row (ints xs) (2 : Nat) m1 w1 true) :: some (AObj.row (ints ys) (2 : Nat) m2 w2 true) :: noH) ∧ ∀ (s : Nat), Is (s ≤ n ∧ List.take (s * (2 : Nat)) xs = List.take (s * (2 : Nat)) ys) → br (decide ((↑s : Int) < (↑n : Int))) (Is ((0 : Int) ≤ (↑s : Int) ∧ (↑s : Int) < (↑n : Int)) ∧ Is ((if (0 : Nat) + Int.toNat (↑s : Int) * (2 : Nat) + (2 : Nat) ≤ List.length (ints xs) then some (Value.agg (List.toArray (List.take (2 : Nat) (List.drop ((0 : Nat) + Int.toNat (↑s : Int) * (2 : Nat)) (ints xs))))) else none) = some (Value.agg #[Value.int IntKind.i64 (List.getD xs ((0 : Nat) + Int.toNat (↑s : Int) * (2 : Nat)) (0 : Int)), Value.int IntKind.i64 (List.getD xs ((0 : Nat) + Int.toNat (↑s : Int) * (2 : Nat) + (1 : Nat)) (0 : Int))])) ∧ Is ((0 : Int) ≤ (↑s : Int) ∧ (↑s : Int) < (↑m : Int)) ∧ Is ((if (0 : Nat) + Int.toNat (↑s : Int) * (2 : Nat) + (2 : Nat) ≤ List.length (ints ys) then some (Value.agg (List.toArray (List.take (2 : Nat) (List.drop ((0 : Nat) + Int.toNat (↑s : Int) * (2 : Nat)) (ints ys))))) else none) = some (Value.agg #[Value.int IntKind.i64 (List.getD ys ((0 : Nat) + Int.toNat (↑s : Int) * (2 : Nat)) (0 : Int)), Value.int IntKind.i64 (List.getD ys ((0 : Nat) + Int.toNat (↑s : Int) * (2 : Nat) + (1 : Nat)) (0 : Int))])) ∧ Is True ∧ br (!(List.getD xs ((0 : Nat) + Int.toNat (↑s : Int) * (2 : Nat)) (0 : Int) == List.getD ys ((0 : Nat) + Int.toNat (↑s : Int) * (2 : Nat)) (0 : Int) && (List.getD xs ((0 : Nat) + Int.toNat (↑s : Int) * (2 : Nat) + (1 : Nat)) (0 : Int) == List.getD ys ((0 : Nat) + Int.toNat (↑s : Int) * (2 : Nat) + (1 : Nat)) (0 : Int) && true))) (K (Value.bool false) (some (AObj.row (ints xs) (2 : Nat) m1 w1 true) :: some (AObj.row (ints ys) (2 : Nat) m2 w2 true) :: noH)) (∃ s', Is (s' ≤ n ∧ List.take (s' * (2 : Nat)) xs = List.take (s' * (2 : Nat)) ys) ∧ Is (n - s' < n - s) ∧ [Value.slice (some { block := (0 : Nat), off := (0 : Nat) }) n c, Value.slice (some { block := (1 : Nat), off := (0 : Nat) }) m d, poi, poi, poi, Value.int IntKind.i64 (IntKind.wrap IntKind.i64 ((↑s : Int) + (1 : Int))), poi, poi, poi, poi, poi, poi, poi, poi, poi, poi, poi, poi, poi, poi, poi, poi, poi, poi, poi, poi] = [Value.slice (some { block := (0 : Nat), off := (0 : Nat) }) n c, Value.slice (some { block := (1 : Nat), off := (0 : Nat) }) m d, poi, poi, poi, Value.int IntKind.i64 (↑s' : Int), poi, poi, poi, poi, poi, poi, poi, poi, poi, poi, poi, poi, poi, poi, poi, poi, poi, poi, poi, poi] ∧ some (AObj.row (ints xs) (2 : Nat) m1 w1 true) :: some (AObj.row (ints ys) (2 : Nat) m2 w2 true) :: noH = some (AObj.row (ints xs) (2 : Nat) m1 w1 true) :: some (AObj.row (ints ys) (2 : Nat) m2 w2 true) :: noH)) (K (Value.bool true) (some (AObj.row (ints xs) (2 : Nat) m1 w1 true) :: some (AObj.row (ints ys) (2 : Nat) m2 w2 true) :: noH)))) := by kernel_rfl
/- Short. -/
set_option maxRecDepth 100000 in
theorem same_ok {xs ys : List Int} {n c m d : Nat} {m1 w1 m2 w2 : Bool} (hx : xs.length = n * 2) (hy : ys.length = m * 2) (hn : n ≤ 100000) (hm2 : m ≤ 100000) :
    SmallRes Try.prog 14 [.slice (some ⟨0, 0, none⟩) n c, .slice (some ⟨1, 0, none⟩) m d] [some (.row (ints xs) 2 m1 w1 true), some (.row (ints ys) 2 m2 w2 true)] (.bool (decide (xs = ys))) [some (.row (ints xs) 2 m1 w1 true), some (.row (ints ys) 2 m2 w2 true)] := by
  refine fnP_res hm c0_ok (hs := hsSS xs ys n c m d m1 w1 m2 w2) ?_
  rw [same_t]
  refine br_of (fun h => ?_) (fun h0 => ⟨⟨(0 : Nat), ⟨by omega, rfl⟩, by first | trivial | rfl, by first | trivial | rfl⟩, fun s hs => br_of (fun h => ?_) (fun h => ?_)⟩)
  · have h : n ≠ m := by intro e; subst e; simp at h
    rw [decide_eq_false (fun e => h (by subst e; omega))]
    exact ⟨rfl, rfl⟩
  · have h0 : n = m := by simp at h0; omega
    subst h0
    obtain ⟨a1, a2⟩ := hs.out
    have h := lt_of_dec h
    simp only [Nat.zero_add, Int.toNat_natCast]
    refine ⟨⟨by omega, by omega⟩, ⟨by rw [ints_len, if_pos (by omega), ints_pair (by omega)]⟩, ⟨by omega, by omega⟩, ⟨by rw [ints_len, if_pos (by omega), ints_pair (by omega)]⟩, ⟨trivial⟩, br_of (fun he => ?_) (fun he => ⟨s + 1, ⟨h, ?_⟩, ⟨by omega⟩, by rw [up1 h (by omega)], by first | trivial | rfl⟩)⟩
    · rw [decide_eq_false (fun e => by subst e; simp at he)]
      exact ⟨by first | trivial | rfl, by first | trivial | rfl⟩
    · have e : (s + 1) * 2 = s * 2 + 2 := by omega
      simp only [Bool.and_true, Bool.not_eq_false', Bool.and_eq_true, beq_iff_eq] at he
      rw [e, List.take_add, List.take_add, a2, pair_at (by omega), pair_at (by omega), he.1, he.2]
  · obtain ⟨a1, a2⟩ := hs.out
    have h := ge_of_dec h
    have h0 : n = m := by simp at h0; omega
    subst h0
    have e : s = n := by omega
    subst e
    rw [← hx, List.take_length, hx, ← hy, List.take_length] at a2
    rw [decide_eq_true a2]
    exact ⟨by first | trivial | rfl, rfl⟩
noncomputable def orcSameX : OrcV
  | [.slice (some ⟨0, 0, none⟩) n _c, .slice (some ⟨1, 0, none⟩) m _d], [some (.row e1 2 m1 w1 true), some (.row e2 2 m2 w2 true)] => some (.bool true, [some (.row e1 2 m1 w1 true), some (.row e2 2 m2 w2 true)], n = m ∧ e1 = e2 ∧ n ≤ 100000 ∧ isInts e1 n)
  | _, _ => none
theorem same_ok' {xs : List Int} {n c d : Nat} {m1 w1 m2 w2 : Bool} (hx : xs.length = n * 2) (hn : n ≤ 100000) :
    SmallRes Try.prog 14 [.slice (some ⟨0, 0, none⟩) n c, .slice (some ⟨1, 0, none⟩) n d] [some (.row (ints xs) 2 m1 w1 true), some (.row (ints xs) 2 m2 w2 true)] (.bool true) [some (.row (ints xs) 2 m1 w1 true), some (.row (ints xs) 2 m2 w2 true)] := by
  have h := same_ok (c := c) (d := d) (m1 := m1) (w1 := w1) (m2 := m2) (w2 := w2) hx hx hn hn
  rw [decide_eq_true (rfl : xs = xs)] at h
  exact h
theorem same_okX : OkV Try.prog 14 orcSameX := by
  intro args H ret H' vc h hv
  unfold orcSameX at h
  split at h
  · cases h
    obtain ⟨rfl, rfl, h1, xs, rfl, h2⟩ := hv
    exact same_ok' h2 h1
  · cases h
end
end Qq
end
section
/- Parts of a section, and their sums. -/
open Go Go.Vm Go.Proofs Sp
namespace Sp
noncomputable section
noncomputable def d0 (zs : List Int) (off : Nat) : Int := zs.getD off 0
end
end Sp
namespace Qq
noncomputable section
/- The program's sums. -/
/- The reference's sums. -/
/-- A part whose sums do not leave the machine's integers. -/
structure Part (zs : List Int) (off m : Nat) : Prop where
  len : off + m * 2 ≤ zs.length
  few : m ≤ 32
  day : ∀ i, i < m → d0 zs off ≤ zs.getD (off + i * 2) 0 ∧ zs.getD (off + i * 2) 0 ≤ 100000
  idx : ∀ i, i < m → 0 ≤ zs.getD (off + i * 2 + 1) 0 ∧ zs.getD (off + i * 2 + 1) 0 ≤ 100000
  z0 : 0 ≤ d0 zs off
end
end Qq
end
section
/- When a line reaches a limit: the contract. -/
open Go Go.Vm Go.Proofs Sp
namespace Sp
noncomputable section
structure RcOK (a b c d l f : Int) : Prop where
  a0 : 0 ≤ a
  a1 : a ≤ 100000
  f0 : 0 ≤ f
  f1 : f ≤ 100000
  b0 : -1024000000000000000 ≤ b
  b1 : b ≤ 1024000000000000000
  p0 : -1024000000000000000 ≤ c * (f - a)
  p1 : c * (f - a) ≤ 1024000000000000000
  c1 : c ≤ 10240000000000
  q0 : 0 ≤ l * d
  q1 : l * d ≤ 1024000000000000000
end
end Sp
namespace Qq
noncomputable section
end
end Qq
end
section
/- Quotients in lowest terms, and lines through two points: plain laws. -/
open Go Go.Vm Go.Proofs Sp
namespace Qq
noncomputable section

/-- A quotient in lowest terms. -/
structure Low (r : Int × Int) : Prop where
  pos : 0 < r.2
  one : r.1.natAbs.gcd r.2.natAbs = 1
structure LowIn (a d : Int) : Prop where
  h0 : 0 < d
  h1 : d < 9223372036854775808
  a0 : -9223372036854775808 < a
  a1 : a < 9223372036854775808
end
end Qq
end
section
/- Lines through two measurements, each plus or less an error: as the program lists them, and as the reference does. -/
open Go Go.Vm Go.Proofs Sp
namespace Sp
noncomputable section
/-- A line: a day, the level there, the slope, the denominator. -/
abbrev Ln := Int × Int × Int × Int
noncomputable def lnat (l : Ln) (x : Int) : Int := l.2.1 + l.2.2.1 * (x - l.1)
noncomputable def fitB (w : Int) (l : Ln) : List Int → Bool
  | t :: y :: r => !decide (w * l.2.2.2 < ((lnat l t - y * l.2.2.2).natAbs : Int)) && fitB w l r
  | _ => true
noncomputable def sgR (a : Nat) : Int := 2 * a - 1
noncomputable def cqR (L : List Int) (w : Int) (i k a b : Nat) : Ln := (L.getD (i * 2) 0, L.getD (i * 2 + 1) 0 + sgR a * w, L.getD (k * 2) 0, L.getD (k * 2 + 1) 0 + sgR b * w)
noncomputable def lnOf (c : Ln) : Ln := (c.1, c.2.1 * (c.2.2.1 - c.1), c.2.2.2 - c.2.1, c.2.2.1 - c.1)
noncomputable def oneR (L : List Int) (w : Int) (i k a b : Nat) : List Ln := if fitB w (lnOf (cqR L w i k a b)) L = true then [cqR L w i k a b] else []
end
end Sp
namespace Qq
noncomputable section
end
end Qq
end
section
/- Lines of measurements that are near each other: plain laws. -/
open Go Go.Vm Go.Proofs Sp
namespace Qq
noncomputable section
/-- Measurements near the first one. -/
structure Near (zs : List Int) (off m : Nat) : Prop where
  len : off + m * 2 ≤ zs.length
  few : m ≤ 8
  day : ∀ i, i < m → 0 ≤ zs.getD (off + i * 2) 0 - d0 zs off ∧ zs.getD (off + i * 2) 0 - d0 zs off ≤ 400
  idx : ∀ i, i < m → 0 ≤ zs.getD (off + i * 2 + 1) 0 ∧ zs.getD (off + i * 2 + 1) 0 ≤ 400
end
end Qq
end
section
/- Lines that fit: the loops. -/
open Go Go.Vm Go.Proofs Sp
namespace Qq
noncomputable section
/-- A line and measurements whose numbers do not leave the machine's integers. -/
structure FitIn (zs : List Int) (off m : Nat) (w a b s d : Int) : Prop where
  len : off + m * 2 ≤ zs.length
  few : m ≤ 1000
  w0 : 0 ≤ w
  w1 : w ≤ 100000
  a0 : 0 ≤ a
  a1 : a ≤ 100000
  b0 : -1000000000000 ≤ b
  b1 : b ≤ 1000000000000
  s0 : -1000000000000 ≤ s
  s1 : s ≤ 1000000000000
  d0 : 0 < d
  d1 : d ≤ 1000000000000
  day : ∀ i, i < m → 0 ≤ zs.getD (off + i * 2) 0 ∧ zs.getD (off + i * 2) 0 ≤ 100000
  idx : ∀ i, i < m → 0 ≤ zs.getD (off + i * 2 + 1) 0 ∧ zs.getD (off + i * 2 + 1) 0 ≤ 100000
/-- A line through two points, near measurements. -/
structure CoIn (zs : List Int) (off m : Nat) (w x y u v : Int) : Prop where
  len : off + m * 2 ≤ zs.length
  few : m ≤ 1000
  w0 : 0 ≤ w
  w1 : w ≤ 100000
  x0 : 0 ≤ x
  xu : x < u
  u1 : u ≤ 100000
  y0 : -200000 ≤ y
  y1 : y ≤ 200000
  v0 : -200000 ≤ v
  v1 : v ≤ 200000
  day : ∀ i, i < m → 0 ≤ zs.getD (off + i * 2) 0 ∧ zs.getD (off + i * 2) 0 ≤ 100000
  idx : ∀ i, i < m → 0 ≤ zs.getD (off + i * 2 + 1) 0 ∧ zs.getD (off + i * 2 + 1) 0 ≤ 100000
end
end Qq
end
section
/- Lines that are given, checked; Fits. -/
open Go Go.Vm Go.Proofs Sp
namespace Sp
noncomputable section
end
end Sp
namespace Qq
noncomputable section
theorem firstS_t (l : List Int) (n : Nat) (c : Nat) (es : Nat) (more : Bool) (rw : Bool) (K : Value → Heap → Prop) :
    (fnP Try.prog c0 (hFirst l n c es more rw) (25 : FuncId) [Value.slice (some { block := (0 : Nat), off := (0 : Nat) }) n c] [some (AObj.row (ints l) es more rw true)] K) =
    ((∃ s, Is (s ≤ List.length l ∧ fi (List.drop s l) = fi l) ∧ [poi, poi, poi, poi, poi, Value.slice (some { block := (0 : Nat), off := (0 : Nat) }) n c, Value.int IntKind.i64 (↑n : Int), Value.int IntKind.i64 (0 : Int), poi, poi, poi, poi, poi, poi, poi] = [poi, poi, poi, poi, poi, Value.slice (some { block := (0 : Nat), off := (0 : Nat) }) n c, Value.int IntKind.i64 (↑n : Int), Value.int IntKind.i64 (↑s : Int), poi, poi, poi, poi, poi, poi, poi] ∧ some (AObj.row (ints l) es more rw true) :: noH = some (AObj.row (ints l) es more rw true) :: noH) ∧ ∀ (s : Nat), Is (s ≤ List.length l ∧ fi (List.drop s l) = fi l) → br (decide ((↑s : Int) < (↑n : Int))) (Is ((0 : Int) ≤ (↑s : Int) ∧ (↑s : Int) < (↑n : Int)) ∧ Is ((ints l)[(0 : Nat) + Int.toNat (↑s : Int) * (1 : Nat)]? = some (Value.int IntKind.i64 (List.getD l ((0 : Nat) + Int.toNat (↑s : Int) * (1 : Nat)) (0 : Int)))) ∧ br (List.getD l ((0 : Nat) + Int.toNat (↑s : Int) * (1 : Nat)) (0 : Int) != (0 : Int)) (K (Value.int IntKind.i64 (List.getD l ((0 : Nat) + Int.toNat (↑s : Int) * (1 : Nat)) (0 : Int))) (some (AObj.row (ints l) es more rw true) :: noH)) (∃ s', Is (s' ≤ List.length l ∧ fi (List.drop s' l) = fi l) ∧ Is (List.length l - s' < List.length l - s) ∧ [poi, poi, poi, poi, poi, Value.slice (some { block := (0 : Nat), off := (0 : Nat) }) n c, Value.int IntKind.i64 (↑n : Int), Value.int IntKind.i64 (IntKind.wrap IntKind.i64 ((↑s : Int) + (1 : Int))), poi, poi, poi, poi, poi, poi, poi] = [poi, poi, poi, poi, poi, Value.slice (some { block := (0 : Nat), off := (0 : Nat) }) n c, Value.int IntKind.i64 (↑n : Int), Value.int IntKind.i64 (↑s' : Int), poi, poi, poi, poi, poi, poi, poi] ∧ some (AObj.row (ints l) es more rw true) :: noH = some (AObj.row (ints l) es more rw true) :: noH)) (K (Value.int IntKind.i64 (0 : Int)) (some (AObj.row (ints l) es more rw true) :: noH))) := by kernel_rfl
theorem whenS_t (b : Bool) (e : Int) (K : Value → Heap → Prop) :
    (fnP Try.prog c0 h0 (32 : FuncId) [Value.bool b, Value.int IntKind.i64 e] [] K) =
    (br b (K (Value.int IntKind.i64 e) noH) (K (Value.int IntKind.i64 (0 : Int)) noH)) := by kernel_rfl
theorem okWhenS : Ok Try.prog 32 orcWhen := by
  intro args H ret H' h
  unfold orcWhen at h
  split at h
  · cases h
    refine fnP_res hm c0_ok (hs := h0) ?_
    rw [whenS_t]
    exact br_of (fun h => by simp [wh, h]) (fun h => by simp [wh, h])
  · cases h
theorem okFirstS : Ok Try.prog 25 orcFirst := by
  intro args H ret H' h
  unfold orcFirst at h
  split at h
  · rename_i n c cells es more rw
    split at h
    · rename_i l hl
      split at h
      · rename_i hn
        cases h
        have := intsOf_eq hl
        subst this
        obtain ⟨hn, hlt⟩ := hn
        subst hn
        refine fnP_res hm c0_ok (hs := hFirst l l.length c es more rw) ?_
        rw [firstS_t]
        refine ⟨⟨(0 : Nat), ⟨by simp, by simp⟩, rfl, rfl⟩, fun s hs => ?_⟩
        obtain ⟨h1, h2⟩ := hs.out
        refine br_of (fun hc => ?_) (fun hc => ?_)
        · have hc : s < l.length := by simpa using hc
          refine ⟨⟨by omega, by omega⟩, ⟨by simpa using ints_at hc⟩, br_of (fun hd => ?_) (fun hd => ?_)⟩
          · have := fi_drop hc
            have hd' : l.getD s 0 ≠ 0 := by simpa using hd
            rw [if_neg hd'] at this
            simp [← h2, this]
          · have := fi_drop hc
            have hd' : l.getD s 0 = 0 := by simpa using hd
            rw [if_pos hd'] at this
            refine ⟨s + 1, ⟨hc, by rw [← this, h2]⟩, ⟨by omega⟩, ?_, rfl⟩
            rw [wrap_eq (by omega) (by omega)]
            rfl
        · have hc : l.length ≤ s := by simpa using hc
          have : s = l.length := by omega
          subst this
          simp [← h2, fi]
      · cases h
    · cases h
  · cases h
noncomputable def s1 : List (Nat × Orc) := [(32, orcWhen), (25, orcFirst)]
theorem s1_all : ∀ p ∈ s1, Ok Try.prog p.1 p.2 := all_cons okWhenS (all_cons okFirstS all_nil)
noncomputable def cs1 : CallF := ctx Try.prog s1
theorem cs1_ok : CallOK Try.prog cs1 := ctx_ok hm s1_all
theorem withinS_t (n : Int) (lo : Int) (hi : Int) (K : Value → Heap → Prop) :
    (fnP Try.prog cs1 h0 (27 : FuncId) [Value.int IntKind.i64 n, Value.int IntKind.i64 lo, Value.int IntKind.i64 hi] [] K) =
    (br (decide (n < lo)) (K (Value.int IntKind.i64 (3 : Int)) noH) (K (Value.int IntKind.i64 (wh (decide (hi < n)) (3 : Int))) noH)) := by kernel_rfl
theorem okWithinS : Ok Try.prog 27 orcWithin := by
  intro args H ret H' h
  unfold orcWithin at h
  split at h
  · cases h
    refine fnP_res hm cs1_ok (hs := h0) ?_
    rw [withinS_t]
    exact br_of (fun h => by simp [wi, of_decide_eq_true h]) (fun h => by simp [wi, wh, of_decide_eq_false h])
  · cases h
noncomputable def s2 : List (Nat × Orc) := (27, orcWithin) :: s1
theorem s2_all : ∀ p ∈ s2, Ok Try.prog p.1 p.2 := all_cons okWithinS s1_all
noncomputable def cs2 : CallF := ctx Try.prog s2
theorem cs2_ok : CallOK Try.prog cs2 := ctx_ok hm s2_all
/- The greatest common divisor. -/
/- The greatest of a list. -/
/- Lines, checked. -/
end
end Qq
end
section
/- Samples, checked. -/
open Go Go.Vm Go.Proofs Sp
namespace Sp
noncomputable section
/-- The integer of a sample. -/
noncomputable def lev (x : Nat) : Int := fInt (fMul x 1098907648)
noncomputable def sE (x : Nat) : Int := sel (wh (!Fl.finB x) 1) (wh (fLt x 3296722944 || (fGt x 1149239296 || fNe (fMul x 1098907648) (fOf (lev x)))) 3)
end
end Sp
namespace Qq
noncomputable section
noncomputable def orcSmp : Orc
  | [.float .f32 x, .int .i64 1024], [] => some (.int .i64 (sE x), [])
  | _, _ => none
noncomputable def orcSm1 : Orc
  | [.float .f32 x], [] => some (.int .i64 (sE x), [])
  | _, _ => none
end
end Qq
namespace Fl
open Ieee Sp
theorem of_val {n : Int} (h : n.natAbs < 2 ^ 24) : IsF (fOf n) ∧ val (fOf n) = n * (one : Int) := by
  have hs : Has (.number (decide (n < 0)) n.natAbs 0) (-149) (n * (one : Int)) := by
    refine ⟨_, _, _, rfl, by decide, ?_⟩
    have e : (0 + 400 : Int).toNat = 400 := rfl
    rw [e, sg_mul, sg_self, one_nat]
  have hp := one_pos
  refine has_fin (lo := -149) (hs.write (by decide) ⟨?_, n.natAbs, 400, ?_, h, by decide⟩)
  · rw [Int.natAbs_mul, Int.natAbs_natCast]
    have : n.natAbs * one ≤ 2 ^ 24 * one := Nat.mul_le_mul_right one (Nat.le_of_lt h)
    have h2 : 2 ^ 24 * one < 2 ^ 500 := by decide +kernel
    exact Nat.lt_of_le_of_lt this h2
  · rw [Int.natAbs_mul, Int.natAbs_natCast, one_nat]
/-- What a sample is. -/
structure Smp (x : Nat) : Prop where
  fin : IsF x
  v : val x * 16 = lev x * (one : Int)
  few : (lev x).natAbs ≤ 16384
  m1 : fMulOk x 1098907648
  m2 : fMulOk 1098907648 x
  i1 : fIntOk (fMul x 1098907648)
theorem fin_true {x : Nat} (h : IsF x) : finB x = true := (isF_iff x).1 h
theorem fin_false {x : Nat} (h : ¬ IsF x) : finB x = false := by
  cases hb : finB x
  · rfl
  · exact absurd ((isF_iff x).2 hb) h
theorem sE_not {x : Nat} (h : ¬ IsF x) : sE x = 1 := by
  rw [sE, fin_false h]; rfl
theorem sE_fin {x : Nat} (h : IsF x) : sE x = Sp.wh (fLt x 3296722944 || (fGt x 1149239296 || fNe (fMul x 1098907648) (fOf (lev x)))) 3 := by
  rw [sE, fin_true h]; rfl
theorem in_range {x : Nat} (h : IsF x) (h1 : fLt x 3296722944 = false) (h2 : fGt x 1149239296 = false) :
    (val x).natAbs ≤ 1024 * one ∧ fMulOk x 1098907648 ∧ fMulOk 1098907648 x ∧ fIntOk (fMul x 1098907648) ∧ IsF (fMul x 1098907648) ∧ val (fMul x 1098907648) = val x * 16 ∧ (lev x).natAbs ≤ 1048576 := by
  have hb := range_test h h1 h2
  obtain ⟨m1, m2, m3⟩ := mul_16 h hb
  obtain ⟨i1, i2, _⟩ := int_ok m2 (by rw [m3, Int.natAbs_mul, show Int.natAbs 16 = 16 from rfl]; omega)
  exact ⟨hb, m1, (mulOk_comm _ _).1 m1, i1, m2, m3, i2⟩
theorem smp {x : Nat} (h : sE x = 0) : Smp x := by
  have hf : IsF x := by
    by_cases hn : IsF x
    · exact hn
    · rw [sE_not hn] at h; cases h
  rw [sE_fin hf] at h
  have h := (Qq.wh_zero (by decide)).1 h
  simp only [Bool.or_eq_false_iff] at h
  obtain ⟨h1, h2, h3⟩ := h
  obtain ⟨hb, m1, m2, i1, f1, e1, l1⟩ := in_range hf h1 h2
  obtain ⟨f2, e2⟩ := of_val (n := lev x) (by omega)
  rw [ne_val f1 f2, e1, e2] at h3
  have h3 : val x * 16 = lev x * (one : Int) := by simpa using h3
  refine ⟨hf, h3, ?_, m1, m2, i1⟩
  have hp := one_pos
  have h4 : (lev x).natAbs * one ≤ 16384 * one := by
    have e := congrArg Int.natAbs h3
    rw [Int.natAbs_mul, Int.natAbs_mul] at e
    have e2 : (one : Int).natAbs = one := Int.natAbs_natCast one
    rw [e2, show Int.natAbs 16 = 16 from rfl] at e
    rw [← e]
    omega
  exact Nat.le_of_mul_le_mul_right h4 hp
theorem ne_comm {x y : Nat} (hx : IsF x) (hy : IsF y) : fNe x y = fNe y x := by
  rw [ne_val hx hy, ne_val hy hx]
  exact decide_eq_decide.2 ⟨fun h e => h e.symm, fun h e => h e.symm⟩
/-- A sample is not 0 just if its integer is not. -/
theorem nz_lev {x : Nat} (h : Smp x) : fNe x 0 = decide (lev x ≠ 0) := by
  rw [ne_val h.fin fin_zero.1, fin_zero.2]
  have hp := one_pos
  refine decide_eq_decide.2 (not_congr ⟨fun e => ?_, fun e => ?_⟩)
  · have := h.v
    rw [e, Int.zero_mul] at this
    rcases Int.mul_eq_zero.1 this.symm with h | h
    · exact h
    · omega
  · have := h.v
    rw [e, Int.zero_mul] at this
    omega
end Fl
namespace Qq
noncomputable section
noncomputable def hsFl1 : Hs Try.prog where
  nd y := if y = 102 then some (hDf Try.prog) else none
  au := auF []
noncomputable def hsFl0 : Hs Try.prog where
  au := auF []
theorem cpS_t (x : Nat) (K : Value → Heap → Prop) :
    (fnP Try.prog cs2 hsFl1 (61 : FuncId) [Value.float FloatKind.f32 x, Value.int IntKind.i64 (1024 : Int)] [] K) =
    (∀ (x_1 : Nat), Is (fDif x x x_1) → Is True ∧ br (fNe x_1 (0 : Nat)) (K (Value.int IntKind.i64 (1 : Int)) noH) (Is True ∧ Is True ∧ br (fLt x (3296722944 : Nat)) (K (Value.int IntKind.i64 (3 : Int)) noH) (Is True ∧ Is True ∧ br (fGt x (1149239296 : Nat)) (K (Value.int IntKind.i64 (3 : Int)) noH) (Is (fMulOk x (1098907648 : Nat)) ∧ Is (fMulOk x (1098907648 : Nat)) ∧ Is (fIntOk (fMul x (1098907648 : Nat))) ∧ Is True ∧ Is True ∧ K (Value.int IntKind.i64 (wh (fNe (fMul x (1098907648 : Nat)) (fOf (Sp.fInt (fMul x (1098907648 : Nat))))) (3 : Int))) noH)))) := by kernel_rfl
theorem cpSR_t (x : Nat) (K : Value → Heap → Prop) :
    (fnP Try.prog cs2 hsFl0 (73 : FuncId) [Value.float FloatKind.f32 x, Value.int IntKind.i64 (1024 : Int)] [] K) =
    (Is True ∧ br (fNe x x) (K (Value.int IntKind.i64 (1 : Int)) noH) (Is True ∧ br (fGt x (2139095039 : Nat)) (K (Value.int IntKind.i64 (1 : Int)) noH) (Is True ∧ br (fLt x (4286578687 : Nat)) (K (Value.int IntKind.i64 (1 : Int)) noH) (Is True ∧ Is True ∧ br (fLt x (3296722944 : Nat)) (K (Value.int IntKind.i64 (3 : Int)) noH) (Is True ∧ Is True ∧ br (fGt x (1149239296 : Nat)) (K (Value.int IntKind.i64 (3 : Int)) noH) (Is (fMulOk (1098907648 : Nat) x) ∧ Is (fIntOk (fMul (1098907648 : Nat) x)) ∧ Is True ∧ Is (fMulOk (1098907648 : Nat) x) ∧ Is True ∧ br (fNe (fOf (Sp.fInt (fMul (1098907648 : Nat) x))) (fMul (1098907648 : Nat) x)) (K (Value.int IntKind.i64 (3 : Int)) noH) (K (Value.int IntKind.i64 (0 : Int)) noH))))))) := by kernel_rfl
theorem nz_t (x : Nat) (K : Value → Heap → Prop) :
    (fnP Try.prog cs2 hsFl0 (67 : FuncId) [Value.float FloatKind.f32 x] [] K) =
    (Is True ∧ K (Value.bool (fNe x (0 : Nat))) noH) := by kernel_rfl
theorem okSmp : Ok Try.prog 61 orcSmp := by
  intro args H ret H' h
  unfold orcSmp at h
  split at h
  · rename_i x
    cases h
    refine fnP_res hm cs2_ok (hs := hsFl1) ?_
    rw [cpS_t]
    intro r hr
    by_cases hf : Fl.IsF x
    · rw [Fl.dif_fin hf hr.out, Fl.sE_fin hf]
      refine ⟨⟨trivial⟩, br_of (fun h => by cases h) (fun _ => ⟨⟨trivial⟩, ⟨trivial⟩, br_of (fun h1 => ?_) (fun h1 => ⟨⟨trivial⟩, ⟨trivial⟩, br_of (fun h2 => ?_) (fun h2 => ?_)⟩)⟩)⟩
      · rw [h1]; exact ⟨by first | trivial | rfl, by first | trivial | rfl⟩
      · rw [h1, h2]; exact ⟨by first | trivial | rfl, by first | trivial | rfl⟩
      · obtain ⟨_, m1, _, i1, _⟩ := Fl.in_range hf h1 h2
        rw [h1, h2]
        exact ⟨⟨m1⟩, ⟨m1⟩, ⟨i1⟩, ⟨trivial⟩, ⟨trivial⟩, by first | trivial | rfl, by first | trivial | rfl⟩
    · rw [Fl.dif_not hf hr.out, Fl.sE_not hf]
      exact ⟨⟨trivial⟩, br_of (fun _ => ⟨by first | trivial | rfl, by first | trivial | rfl⟩) (fun h => by cases h)⟩
  · cases h
theorem okSmpR : Ok Try.prog 73 orcSmp := by
  intro args H ret H' h
  unfold orcSmp at h
  split at h
  · rename_i x
    cases h
    refine fnP_res hm cs2_ok (hs := hsFl0) ?_
    rw [cpSR_t]
    have ht := Fl.form_test x
    by_cases hf : Fl.IsF x
    · rw [Fl.fin_true hf] at ht
      simp only [Bool.or_eq_false_iff, Bool.not_true] at ht
      obtain ⟨t1, t2, t3⟩ := ht
      rw [t1, t2, t3, Fl.sE_fin hf]
      refine ⟨⟨trivial⟩, br_of (fun h => by cases h) (fun _ => ⟨⟨trivial⟩, br_of (fun h => by cases h) (fun _ => ⟨⟨trivial⟩, br_of (fun h => by cases h) (fun _ => ⟨⟨trivial⟩, ⟨trivial⟩, br_of (fun h1 => ?_) (fun h1 => ⟨⟨trivial⟩, ⟨trivial⟩, br_of (fun h2 => ?_) (fun h2 => ?_)⟩)⟩)⟩)⟩)⟩
      · rw [h1]; exact ⟨by first | trivial | rfl, by first | trivial | rfl⟩
      · rw [h1, h2]; exact ⟨by first | trivial | rfl, by first | trivial | rfl⟩
      · obtain ⟨_, m1, m2, i1, f1, e1, l1⟩ := Fl.in_range hf h1 h2
        obtain ⟨f2, _⟩ := Fl.of_val (n := lev x) (by omega)
        rw [h1, h2, Fl.mul_comm16 1098907648 x]
        have ec : fNe (fOf (Sp.fInt (fMul x 1098907648))) (fMul x 1098907648) = fNe (fMul x 1098907648) (fOf (lev x)) := Fl.ne_comm f2 f1
        rw [ec]
        refine ⟨⟨m2⟩, ⟨i1⟩, ⟨trivial⟩, ⟨m2⟩, ⟨trivial⟩, br_of (fun h3 => ?_) (fun h3 => ?_)⟩
        · rw [h3]; exact ⟨by first | trivial | rfl, by first | trivial | rfl⟩
        · rw [h3]; exact ⟨by first | trivial | rfl, by first | trivial | rfl⟩
    · rw [Fl.fin_false hf] at ht
      simp only [Bool.not_false, Bool.or_eq_true] at ht
      rw [Fl.sE_not hf]
      refine ⟨⟨trivial⟩, br_of (fun _ => ⟨by first | trivial | rfl, by first | trivial | rfl⟩) (fun t1 => ⟨⟨trivial⟩, br_of (fun _ => ⟨by first | trivial | rfl, by first | trivial | rfl⟩) (fun t2 => ⟨⟨trivial⟩, br_of (fun _ => ⟨by first | trivial | rfl, by first | trivial | rfl⟩) (fun t3 => ?_)⟩)⟩)⟩
      rw [t1, t2, t3] at ht
      simp at ht
  · cases h
noncomputable def s3 : List (Nat × Orc) := (61, orcSmp) :: s2
theorem s3_all : ∀ p ∈ s3, Ok Try.prog p.1 p.2 := all_cons okSmp s2_all
noncomputable def cs3 : CallF := ctx Try.prog s3
theorem cs3_ok : CallOK Try.prog cs3 := ctx_ok hm s3_all
noncomputable def sr3 : List (Nat × Orc) := [(73, orcSmp)]
noncomputable def csr3 : CallF := ctx Try.prog sr3
theorem csr3_ok : CallOK Try.prog csr3 := ctx_ok hm (all_cons okSmpR all_nil)
theorem cs1_t (x : Nat) (K : Value → Heap → Prop) :
    (fnP Try.prog cs3 h0 (47 : FuncId) [Value.float FloatKind.f32 x] [] K) =
    (K (Value.int IntKind.i64 (sE x)) noH) := by kernel_rfl
theorem csr1_t (x : Nat) (K : Value → Heap → Prop) :
    (fnP Try.prog csr3 h0 (70 : FuncId) [Value.float FloatKind.f32 x] [] K) =
    (K (Value.int IntKind.i64 (sE x)) noH) := by kernel_rfl
theorem okSm1 : Ok Try.prog 47 orcSm1 := by
  intro args H ret H' h
  unfold orcSm1 at h
  split at h
  · cases h
    refine fnP_res hm cs3_ok (hs := h0) ?_
    rw [cs1_t]
    exact ⟨by first | trivial | rfl, by first | trivial | rfl⟩
  · cases h
theorem okSm1R : Ok Try.prog 70 orcSm1 := by
  intro args H ret H' h
  unfold orcSm1 at h
  split at h
  · cases h
    refine fnP_res hm csr3_ok (hs := h0) ?_
    rw [csr1_t]
    exact ⟨by first | trivial | rfl, by first | trivial | rfl⟩
  · cases h
/- The integer of a sample. -/
noncomputable def orcLev : OrcV
  | [.float .f32 x], [] => some (.int .i64 (lev x), [], sE x = 0)
  | _, _ => none
noncomputable def orcNz : Orc
  | [.float .f32 x], [] => some (.bool (fNe x 0), [])
  | _, _ => none
theorem okNz : Ok Try.prog 67 orcNz := by
  intro args H ret H' h
  unfold orcNz at h
  split at h
  · cases h
    refine fnP_res hm cs2_ok (hs := hsFl0) ?_
    rw [nz_t]
    exact ⟨⟨trivial⟩, by first | trivial | rfl, by first | trivial | rfl⟩
  · cases h
end
end Qq
end
section
/- Holes, and what is known. -/
open Go Go.Vm Go.Proofs Sp
namespace Sp
noncomputable section
noncomputable def flts (xs : List Nat) : List Value := xs.map (Value.float .f32)
/-- Whether an index lies in no hole. -/
noncomputable def knB : List Int → Int → Bool
  | a :: b :: r, i => !(decide (a ≤ i) && decide (i < b)) && knB r i
  | _, _ => true
noncomputable def hchk (n : Int) : List Int → Int → Int
  | a :: b :: r, last => sel (fi [wh (decide (a < 0) || (decide (b ≤ a) || decide (n < b))) 14, wh (decide (a ≤ last)) 11]) (hchk n r b)
  | _, _ => 0
noncomputable def nzB (x : Nat) : Bool := fNe x 0
noncomputable def nzI : List Nat → Nat → Int
  | [], _ => -1
  | x :: r, k => if nzB x = true then (k : Int) else nzI r (k + 1)
/-- Nothing but 0 in the holes. -/
noncomputable def hzH (xs : List Nat) : List Int → Bool
  | a :: b :: r => !((xs.drop a.toNat).take (b.toNat - a.toNat)).any nzB && hzH xs r
  | _ => true
end
end Sp
namespace Qq
noncomputable section
noncomputable def runA (nm : ByteArray) (f : Int) (i n c j k d : Nat) : List Value := [.string nm, .int .i64 f, .slice (some ⟨i, 0, none⟩) n c, .slice (some ⟨j, 0, none⟩) k d]
noncomputable def hp2r (xs : List Nat) (hs : List Int) (m1 w1 m2 w2 : Bool) (l : List (Option AObj)) : Heap := some (.row (flts xs) 1 m1 w1 true) :: some (.row (ints hs) 2 m2 w2 true) :: l
noncomputable def xF (xs : List Nat) (off : Nat) : Value := .float .f32 (xs.getD off 0)
/- An index within a hole. -/
/- IsKnown of the reference. -/
noncomputable def lpKn (nm : ByteArray) (f : Int) (n c k d : Nat) (xs : List Nat) (hs : List Int) (m1 w1 m2 w2 : Bool) (i : Int) : Lp where
  σ := Nat
  E s := slots 31 [(1, .int .i64 i), (2, .pointer (some ⟨2, 0, none⟩)), (5, .int .i64 (Int.ofNat s))]
  Hp _ := hp2r xs hs m1 w1 m2 w2 [some (.row (runA nm f 0 n c 1 k d) 0 false true false)]
  I s := s ≤ k ∧ knB (hs.drop (s * 2)) i = knB hs i
  m s := k - s
noncomputable def hsKn (nm : ByteArray) (f : Int) (n c k d : Nat) (xs : List Nat) (hs : List Int) (m1 w1 m2 w2 : Bool) (i : Int) : Hs Try.prog where
  op y := if [404, 413].contains y then some (hIa Try.prog) else if [406, 415].contains y then some (hLd Try.prog (zI hs)) else none
  lp _ := some (lpKn nm f n c k d xs hs m1 w1 m2 w2 i)
  cl _ := keep 31 [1, 2, 5]
  au := au0 Try.prog
theorem kn_t (nm : ByteArray) (f : Int) (n : Nat) (c : Nat) (k : Nat) (d : Nat) (xs : List Nat) (hs : List Int) (m1 : Bool) (w1 : Bool) (m2 : Bool) (w2 : Bool) (i : Int) (K : Value → Heap → Prop) :
    (fnP Try.prog c0 (hsKn nm f n c k d xs hs m1 w1 m2 w2 i) (44 : FuncId) [Value.agg (List.toArray (runA nm f (0 : Nat) n c (1 : Nat) k d)), Value.int IntKind.i64 i] (hp2r xs hs m1 w1 m2 w2 []) K) =
    ((∃ (s : Nat), Is (s ≤ k ∧ knB (List.drop (s * (2 : Nat)) hs) i = knB hs i) ∧ [poi, Value.int IntKind.i64 i, Value.pointer (some { block := (2 : Nat), off := (0 : Nat) }), poi, poi, Value.int IntKind.i64 (0 : Int), poi, poi, poi, poi, poi, poi, poi, poi, poi, poi, poi, poi, poi, poi, poi, poi, poi, poi, poi, poi, poi, poi, poi, poi, poi] = [poi, Value.int IntKind.i64 i, Value.pointer (some { block := (2 : Nat), off := (0 : Nat) }), poi, poi, Value.int IntKind.i64 (↑s : Int), poi, poi, poi, poi, poi, poi, poi, poi, poi, poi, poi, poi, poi, poi, poi, poi, poi, poi, poi, poi, poi, poi, poi, poi, poi] ∧ some (AObj.row (flts xs) (1 : Nat) m1 w1 true) :: some (AObj.row (ints hs) (2 : Nat) m2 w2 true) :: some (AObj.row [Value.string nm, Value.int IntKind.i64 f, Value.slice (some { block := (0 : Nat), off := (0 : Nat) }) n c, Value.slice (some { block := (1 : Nat), off := (0 : Nat) }) k d] (0 : Nat) false true (List.all [Value.string nm, Value.int IntKind.i64 f, Value.slice (some { block := (0 : Nat), off := (0 : Nat) }) n c, Value.slice (some { block := (1 : Nat), off := (0 : Nat) }) k d] atom)) :: noH = some (AObj.row (flts xs) (1 : Nat) m1 w1 true) :: some (AObj.row (ints hs) (2 : Nat) m2 w2 true) :: some (AObj.row [Value.string nm, Value.int IntKind.i64 f, Value.slice (some { block := (0 : Nat), off := (0 : Nat) }) n c, Value.slice (some { block := (1 : Nat), off := (0 : Nat) }) k d] (0 : Nat) false true false) :: noH) ∧ ∀ (s : Nat), Is (s ≤ k ∧ knB (List.drop (s * (2 : Nat)) hs) i = knB hs i) → br (decide ((↑s : Int) < (↑k : Int))) (Is ((0 : Int) ≤ (↑s : Int) ∧ (↑s : Int) < (↑k : Int)) ∧ Is ((ints hs)[(0 : Nat) + Int.toNat (↑s : Int) * (2 : Nat) + (0 : Nat)]? = some (Value.int IntKind.i64 (List.getD hs ((0 : Nat) + Int.toNat (↑s : Int) * (2 : Nat) + (0 : Nat)) (0 : Int)))) ∧ br (decide (List.getD hs ((0 : Nat) + Int.toNat (↑s : Int) * (2 : Nat) + (0 : Nat)) (0 : Int) ≤ i)) (Is ((0 : Int) ≤ (↑s : Int) ∧ (↑s : Int) < (↑k : Int)) ∧ Is ((ints hs)[(0 : Nat) + Int.toNat (↑s : Int) * (2 : Nat) + (1 : Nat)]? = some (Value.int IntKind.i64 (List.getD hs ((0 : Nat) + Int.toNat (↑s : Int) * (2 : Nat) + (1 : Nat)) (0 : Int)))) ∧ br (decide (i < List.getD hs ((0 : Nat) + Int.toNat (↑s : Int) * (2 : Nat) + (1 : Nat)) (0 : Int))) (K (Value.bool false) (some (AObj.row (flts xs) (1 : Nat) m1 w1 true) :: some (AObj.row (ints hs) (2 : Nat) m2 w2 true) :: noH)) (∃ (s' : Nat), Is (s' ≤ k ∧ knB (List.drop (s' * (2 : Nat)) hs) i = knB hs i) ∧ Is (k - s' < k - s) ∧ [poi, Value.int IntKind.i64 i, Value.pointer (some { block := (2 : Nat), off := (0 : Nat) }), poi, poi, Value.int IntKind.i64 (IntKind.wrap IntKind.i64 ((↑s : Int) + (1 : Int))), poi, poi, poi, poi, poi, poi, poi, poi, poi, poi, poi, poi, poi, poi, poi, poi, poi, poi, poi, poi, poi, poi, poi, poi, poi] = [poi, Value.int IntKind.i64 i, Value.pointer (some { block := (2 : Nat), off := (0 : Nat) }), poi, poi, Value.int IntKind.i64 (↑s' : Int), poi, poi, poi, poi, poi, poi, poi, poi, poi, poi, poi, poi, poi, poi, poi, poi, poi, poi, poi, poi, poi, poi, poi, poi, poi] ∧ some (AObj.row (flts xs) (1 : Nat) m1 w1 true) :: some (AObj.row (ints hs) (2 : Nat) m2 w2 true) :: some (AObj.row [Value.string nm, Value.int IntKind.i64 f, Value.slice (some { block := (0 : Nat), off := (0 : Nat) }) n c, Value.slice (some { block := (1 : Nat), off := (0 : Nat) }) k d] (0 : Nat) false true false) :: noH = some (AObj.row (flts xs) (1 : Nat) m1 w1 true) :: some (AObj.row (ints hs) (2 : Nat) m2 w2 true) :: some (AObj.row [Value.string nm, Value.int IntKind.i64 f, Value.slice (some { block := (0 : Nat), off := (0 : Nat) }) n c, Value.slice (some { block := (1 : Nat), off := (0 : Nat) }) k d] (0 : Nat) false true false) :: noH)) (∃ (s' : Nat), Is (s' ≤ k ∧ knB (List.drop (s' * (2 : Nat)) hs) i = knB hs i) ∧ Is (k - s' < k - s) ∧ [poi, Value.int IntKind.i64 i, Value.pointer (some { block := (2 : Nat), off := (0 : Nat) }), poi, poi, Value.int IntKind.i64 (IntKind.wrap IntKind.i64 ((↑s : Int) + (1 : Int))), poi, poi, poi, poi, poi, poi, poi, poi, poi, poi, poi, poi, poi, poi, poi, poi, poi, poi, poi, poi, poi, poi, poi, poi, poi] = [poi, Value.int IntKind.i64 i, Value.pointer (some { block := (2 : Nat), off := (0 : Nat) }), poi, poi, Value.int IntKind.i64 (↑s' : Int), poi, poi, poi, poi, poi, poi, poi, poi, poi, poi, poi, poi, poi, poi, poi, poi, poi, poi, poi, poi, poi, poi, poi, poi, poi] ∧ some (AObj.row (flts xs) (1 : Nat) m1 w1 true) :: some (AObj.row (ints hs) (2 : Nat) m2 w2 true) :: some (AObj.row [Value.string nm, Value.int IntKind.i64 f, Value.slice (some { block := (0 : Nat), off := (0 : Nat) }) n c, Value.slice (some { block := (1 : Nat), off := (0 : Nat) }) k d] (0 : Nat) false true false) :: noH = some (AObj.row (flts xs) (1 : Nat) m1 w1 true) :: some (AObj.row (ints hs) (2 : Nat) m2 w2 true) :: some (AObj.row [Value.string nm, Value.int IntKind.i64 f, Value.slice (some { block := (0 : Nat), off := (0 : Nat) }) n c, Value.slice (some { block := (1 : Nat), off := (0 : Nat) }) k d] (0 : Nat) false true false) :: noH)) (K (Value.bool true) (some (AObj.row (flts xs) (1 : Nat) m1 w1 true) :: some (AObj.row (ints hs) (2 : Nat) m2 w2 true) :: noH))) := by kernel_rfl
/- A sample that is not 0. -/
noncomputable def lpNz (xs : List Nat) (off n c : Nat) : Lp where
  σ := Nat
  E s := slots 19 [(0, .slice (some ⟨0, off, none⟩) n c), (1, .func (.func 67) #[] #[]), (7, .int .i64 (Int.ofNat n)), (8, .int .i64 (Int.ofNat s))]
  Hp _ := [some (.row (flts xs) 1 true true true)]
  I s := s ≤ n ∧ nzI (((xs.drop off).take n).drop s) s = nzI ((xs.drop off).take n) 0
  m s := n - s
noncomputable def hsNz (xs : List Nat) (off n c : Nat) : Hs Try.prog where
  op y := if y = 403 then some (hIa Try.prog) else if y = 404 then some (hLd Try.prog (xF xs)) else none
  lp _ := some (lpNz xs off n c)
  cl _ := keep 19 [0, 1, 7, 8]
  au := au0 Try.prog
noncomputable def tNz : List (Nat × Orc) := [(67, orcNz)]
noncomputable def cNz : CallF := ctx Try.prog tNz
theorem cNz_ok : CallOK Try.prog cNz := ctx_ok hm (all_cons okNz all_nil)
theorem nzi_t (xs : List Nat) (off : Nat) (n : Nat) (c : Nat) (K : Value → Heap → Prop) :
    (fnP Try.prog cNz (hsNz xs off n c) (72 : FuncId) [Value.slice (some { block := (0 : Nat), off := off }) n c, Value.func (Fn.func (67 : FuncId)) #[] #[]] [some (AObj.row (flts xs) (1 : Nat) true true true)] K) =
    ((∃ (s : Nat), Is (s ≤ n ∧ nzI (List.drop s (List.take n (List.drop off xs))) s = nzI (List.take n (List.drop off xs)) (0 : Nat)) ∧ [Value.slice (some { block := (0 : Nat), off := off }) n c, Value.func (Fn.func (67 : Nat)) #[] #[], poi, poi, poi, poi, poi, Value.int IntKind.i64 (↑n : Int), Value.int IntKind.i64 (0 : Int), poi, poi, poi, poi, poi, poi, poi, poi, poi, poi] = [Value.slice (some { block := (0 : Nat), off := off }) n c, Value.func (Fn.func (67 : Nat)) #[] #[], poi, poi, poi, poi, poi, Value.int IntKind.i64 (↑n : Int), Value.int IntKind.i64 (↑s : Int), poi, poi, poi, poi, poi, poi, poi, poi, poi, poi] ∧ some (AObj.row (flts xs) (1 : Nat) true true true) :: noH = some (AObj.row (flts xs) (1 : Nat) true true true) :: noH) ∧ ∀ (s : Nat), Is (s ≤ n ∧ nzI (List.drop s (List.take n (List.drop off xs))) s = nzI (List.take n (List.drop off xs)) (0 : Nat)) → br (decide ((↑s : Int) < (↑n : Int))) (Is ((0 : Int) ≤ (↑s : Int) ∧ (↑s : Int) < (↑n : Int)) ∧ Is ((flts xs)[off + Int.toNat (↑s : Int) * (1 : Nat)]? = some (Value.float FloatKind.f32 (List.getD xs (off + Int.toNat (↑s : Int) * (1 : Nat)) (0 : Nat)))) ∧ br (fNe (List.getD xs (off + Int.toNat (↑s : Int) * (1 : Nat)) (0 : Nat)) (0 : Nat)) (K (Value.int IntKind.i64 (↑s : Int)) (some (AObj.row (flts xs) (1 : Nat) true true true) :: noH)) (∃ (s' : Nat), Is (s' ≤ n ∧ nzI (List.drop s' (List.take n (List.drop off xs))) s' = nzI (List.take n (List.drop off xs)) (0 : Nat)) ∧ Is (n - s' < n - s) ∧ [Value.slice (some { block := (0 : Nat), off := off }) n c, Value.func (Fn.func (67 : Nat)) #[] #[], poi, poi, poi, poi, poi, Value.int IntKind.i64 (↑n : Int), Value.int IntKind.i64 (IntKind.wrap IntKind.i64 ((↑s : Int) + (1 : Int))), poi, poi, poi, poi, poi, poi, poi, poi, poi, poi] = [Value.slice (some { block := (0 : Nat), off := off }) n c, Value.func (Fn.func (67 : Nat)) #[] #[], poi, poi, poi, poi, poi, Value.int IntKind.i64 (↑n : Int), Value.int IntKind.i64 (↑s' : Int), poi, poi, poi, poi, poi, poi, poi, poi, poi, poi] ∧ some (AObj.row (flts xs) (1 : Nat) true true true) :: noH = some (AObj.row (flts xs) (1 : Nat) true true true) :: noH)) (K (Value.int IntKind.i64 (-1 : Int)) (some (AObj.row (flts xs) (1 : Nat) true true true) :: noH))) := by kernel_rfl
theorem flts_len (xs : List Nat) : (flts xs).length = xs.length := by simp [flts]
theorem flts_at {xs : List Nat} {i : Nat} (h : i < xs.length) : (flts xs)[i]? = some (.float .f32 (xs.getD i 0)) := by
  simp [flts, List.getElem?_map, List.getElem?_eq_getElem h, List.getD_eq_getElem?_getD]
theorem flts_atom (xs : List Nat) : ∀ v ∈ flts xs, atom v = true := fun v hv => by
  obtain ⟨x, _, rfl⟩ := List.mem_map.1 hv
  rfl
theorem spn_drop {hs : List Int} {s : Nat} (h : s * 2 + 2 ≤ hs.length) : hs.drop (s * 2) = hs.getD (s * 2) 0 :: hs.getD (s * 2 + 1) 0 :: hs.drop ((s + 1) * 2) := by
  have h1 : s * 2 < hs.length := by omega
  have h2 : s * 2 + 1 < hs.length := by omega
  have e : (s + 1) * 2 = s * 2 + 1 + 1 := by omega
  rw [List.drop_eq_getElem_cons h1, List.drop_eq_getElem_cons h2, e]
  simp only [List.getD_eq_getElem?_getD, List.getElem?_eq_getElem h1, List.getElem?_eq_getElem h2, Option.getD_some]
theorem ldh {hs : List Int} {i : Nat} (h : i + 2 ≤ hs.length) : (if i + 2 ≤ (ints hs).length then some (Value.agg (List.toArray (List.take 2 (List.drop i (ints hs))))) else none) =
    some (.agg #[.int .i64 (hs.getD i 0), .int .i64 (hs.getD (i + 1) 0)]) := by
  rw [ints_len, if_pos h, ints_pair h]
noncomputable def isRn0 (xs : List Nat) (hs : List Int) (k : Nat) (e1 e2 : List Value) : Prop := e1 = flts xs ∧ e2 = ints hs ∧ hs.length = k * 2 ∧ k ≤ 100000
set_option maxRecDepth 100000 in
theorem kn_ok {nm : ByteArray} {f : Int} {n c k d : Nat} {xs : List Nat} {hs : List Int} {m1 w1 m2 w2 : Bool} {i : Int} (hk : hs.length = k * 2) (h9 : k ≤ 100000) :
    SmallRes Try.prog 44 [.agg (runA nm f 0 n c 1 k d).toArray, .int .i64 i] (hp2r xs hs m1 w1 m2 w2 []) (.bool (knB hs i)) (hp2r xs hs m1 w1 m2 w2 []) := by
  refine fnP_res hm c0_ok (hs := hsKn nm f n c k d xs hs m1 w1 m2 w2 i) ?_
  rw [kn_t]
  refine ⟨⟨(0 : Nat), ⟨by omega, by rw [Nat.zero_mul, List.drop_zero]⟩, by first | trivial | rfl, by first | trivial | rfl⟩, fun s hs' => br_of (fun hc => ?_) (fun hc => ?_)⟩
  · have hc := lt_of_dec hc
    obtain ⟨i1, i2⟩ := hs'.out
    rw [spn_drop (show s * 2 + 2 ≤ hs.length by omega), knB] at i2
    simp only [Nat.zero_add, Nat.add_zero, Int.toNat_natCast]
    have b1 : 0 ≤ (s : Int) ∧ (s : Int) < (k : Int) := by omega
    have next : knB (hs.drop ((s + 1) * 2)) i = knB hs i → ∃ s' : Nat, (s' ≤ k ∧ knB (hs.drop (s' * 2)) i = knB hs i) ∧ k - s' < k - s := fun h => ⟨s + 1, ⟨hc, h⟩, by omega⟩
    refine ⟨⟨b1⟩, ⟨zint_at (by omega)⟩, br_of (fun h1 => ⟨⟨b1⟩, ⟨zint_at (by omega)⟩, br_of (fun h2 => ?_) (fun h2 => ⟨s + 1, ⟨hc, ?_⟩, ⟨by omega⟩, by rw [up1 hc (by omega)], by first | trivial | rfl⟩)⟩) (fun h1 => ⟨s + 1, ⟨hc, ?_⟩, ⟨by omega⟩, by rw [up1 hc (by omega)], by first | trivial | rfl⟩)⟩
    · rw [h1, h2] at i2
      rw [← i2]
      exact ⟨by first | trivial | rfl, by first | trivial | rfl⟩
    · rw [h2, Bool.and_false, Bool.not_false, Bool.true_and] at i2
      exact i2
    · rw [h1, Bool.false_and, Bool.not_false, Bool.true_and] at i2
      exact i2
  · have hc := ge_of_dec hc
    obtain ⟨i1, i2⟩ := hs'.out
    rw [List.drop_eq_nil_of_le (by omega)] at i2
    rw [← i2]
    exact ⟨by first | trivial | rfl, by first | trivial | rfl⟩
noncomputable def orcKn (xs : List Nat) (hs : List Int) : OrcV
  | [.agg ⟨[.string _, .int .i64 _, .slice (some ⟨0, 0, none⟩) _ _, .slice (some ⟨1, 0, none⟩) k _]⟩, .int .i64 i], [some (.row e1 1 m1 w1 true), some (.row e2 2 m2 w2 true)] =>
    some (.bool (knB hs i), [some (.row e1 1 m1 w1 true), some (.row e2 2 m2 w2 true)], isRn0 xs hs k e1 e2)
  | _, _ => none
theorem okKn (xs : List Nat) (hs : List Int) : OkV Try.prog 44 (orcKn xs hs) := by
  intro args H ret H' vc h hv
  unfold orcKn at h
  split at h
  · cases h
    obtain ⟨rfl, rfl, h1, h2⟩ := hv
    exact kn_ok h1 h2
  · cases h
set_option maxRecDepth 100000 in
theorem nzi_ok {xs : List Nat} {off n c : Nat} (hn : off + n ≤ xs.length) (h9 : n ≤ 100000) :
    SmallRes Try.prog 72 [.slice (some ⟨0, off, none⟩) n c, .func (.func 67) #[] #[]] [some (.row (flts xs) 1 true true true)] (.int .i64 (nzI ((xs.drop off).take n) 0)) [some (.row (flts xs) 1 true true true)] := by
  refine fnP_res hm cNz_ok (hs := hsNz xs off n c) ?_
  rw [nzi_t]
  have hl : ((xs.drop off).take n).length = n := by rw [List.length_take, List.length_drop]; omega
  refine ⟨⟨(0 : Nat), ⟨by omega, by rw [List.drop_zero]⟩, by first | trivial | rfl, by first | trivial | rfl⟩, fun s hs' => br_of (fun hc => ?_) (fun hc => ?_)⟩
  · have hc := lt_of_dec hc
    obtain ⟨i1, i2⟩ := hs'.out
    have e : ((xs.drop off).take n).drop s = xs.getD (off + s) 0 :: ((xs.drop off).take n).drop (s + 1) := by
      rw [List.drop_eq_getElem_cons (by omega)]
      congr 1
      simp only [List.getElem_take, List.getElem_drop, List.getD_eq_getElem?_getD, List.getElem?_eq_getElem (show off + s < xs.length by omega), Option.getD_some]
    rw [e, nzI] at i2
    simp only [Nat.mul_one, Int.toNat_natCast]
    refine ⟨⟨by omega, by omega⟩, ⟨flts_at (by omega)⟩, br_of (fun hb => ?_) (fun hb => ⟨s + 1, ⟨hc, ?_⟩, ⟨by omega⟩, by rw [up1 hc (by omega)], by first | trivial | rfl⟩)⟩
    · have hb : nzB (xs.getD (off + s) 0) = true := hb
      rw [if_pos hb] at i2
      rw [← i2]
      exact ⟨by first | trivial | rfl, by first | trivial | rfl⟩
    · have hb : nzB (xs.getD (off + s) 0) = false := hb
      rw [if_neg (by rw [hb]; decide)] at i2
      exact i2
  · have hc := ge_of_dec hc
    obtain ⟨i1, i2⟩ := hs'.out
    rw [List.drop_eq_nil_of_le (by omega), nzI] at i2
    rw [← i2]
    exact ⟨by first | trivial | rfl, by first | trivial | rfl⟩
theorem nzI_any : ∀ (l : List Nat) (k : Nat), decide (0 ≤ nzI l k) = l.any nzB
  | [], _ => rfl
  | x :: r, k => by
    rw [nzI, List.any_cons]
    cases h : nzB x with
    | true => simp
    | false => simpa using nzI_any r (k + 1)
noncomputable def orcNzi (xs : List Nat) : OrcV
  | [.slice (some ⟨0, off, none⟩) n _, .func (.func 67) ⟨[]⟩ ⟨[]⟩], [some (.row e1 1 true true true)] => some (.int .i64 (nzI ((xs.drop off).take n) 0), [some (.row e1 1 true true true)], e1 = flts xs ∧ off + n ≤ xs.length ∧ n ≤ 100000)
  | _, _ => none
theorem okNzi (xs : List Nat) : OkV Try.prog 72 (orcNzi xs) := by
  intro args H ret H' vc h hv
  unfold orcNzi at h
  split at h
  · cases h
    obtain ⟨rfl, h1, h2⟩ := hv
    exact nzi_ok h1 h2
  · cases h
noncomputable def hsNc (xs : List Nat) : Hs Try.prog where
  au := auCalls [(72, hCa Try.prog 72 (orcNzi xs) (okNzi xs))]
theorem nc_t (xs : List Nat) (off : Nat) (n : Nat) (c : Nat) (K : Value → Heap → Prop) :
    (fnP Try.prog c0 (hsNc xs) (66 : FuncId) [Value.slice (some { block := (0 : Nat), off := off }) n c, Value.func (Fn.func (67 : FuncId)) #[] #[]] [some (AObj.row (flts xs) (1 : Nat) true true true)] K) =
    (Is (flts xs = flts xs ∧ off + n ≤ List.length xs ∧ n ≤ (100000 : Nat)) ∧ K (Value.bool (decide ((0 : Int) ≤ nzI (List.take n (List.drop off xs)) (0 : Nat)))) (some (AObj.row (flts xs) (1 : Nat) true true true) :: noH)) := by kernel_rfl
noncomputable def orcNc (xs : List Nat) : OrcV
  | [.slice (some ⟨0, off, none⟩) n _, .func (.func 67) ⟨[]⟩ ⟨[]⟩], [some (.row e1 1 true true true)] => some (.bool (((xs.drop off).take n).any nzB), [some (.row e1 1 true true true)], e1 = flts xs ∧ off + n ≤ xs.length ∧ n ≤ 100000)
  | _, _ => none
theorem okNc (xs : List Nat) : OkV Try.prog 66 (orcNc xs) := by
  intro args H ret H' vc h hv
  unfold orcNc at h
  split at h
  · rename_i off n c e1
    cases h
    obtain ⟨rfl, h1, h2⟩ := hv
    refine fnP_res hm c0_ok (hs := hsNc xs) ?_
    show fnP Try.prog c0 (hsNc xs) 66 [_, .func (.func 67) #[] #[]] _ _
    rw [nc_t, ← nzI_any _ 0]
    exact ⟨⟨by first | trivial | rfl, h1, h2⟩, by first | trivial | rfl, by first | trivial | rfl⟩
  · cases h
end
end Qq
end
section
/- Runs, checked: the program. -/
open Go Go.Vm Go.Proofs Sp
namespace Sp
noncomputable section
noncomputable def runE (nm : ByteArray) (f : Int) (xs : List Nat) (n : Nat) (hs : List Int) : Int :=
  sel (fi [wh (!nameB nm) 8, wi f 0 100000000, wh (decide ((4096 : Int) < n)) 5]) (sel (fi [fi (xs.map sE), wh (decide ((100000000 : Int) < f + n)) 4]) (sel (hchk n hs (-1)) (wh (!hzH xs hs) 1)))
end
end Sp
namespace Qq
noncomputable section
/- The errors of samples. -/
noncomputable def fS1 : Value := .func (.func 47) #[] #[]
noncomputable def oneR (l : List Int) : Option AObj := some (.row (ints l) 1 true true true)
noncomputable def fR (xs : List Nat) : Option AObj := some (.row (flts xs) 1 true true true)
noncomputable def lpMe0 (xs : List Nat) (n c : Nat) : Lp where
  σ := Nat
  E _ := slots 22 [(0, .slice (some ⟨0, 0, none⟩) n c), (1, fS1), (5, .slice (some ⟨1, 0, none⟩) 0 0)]
  Hp _ := [fR xs, oneR []]
  I s := s = 0
  m _ := 0
noncomputable def lpMe (xs : List Nat) (n c : Nat) : Lp where
  σ := Nat
  E i := slots 22 [(1, fS1), (5, .slice (some ⟨1, 0, none⟩) i 0), (8, .slice (some ⟨0, 0, none⟩) n c), (9, .int .i64 (Int.ofNat n)), (10, .int .i64 (Int.ofNat i))]
  Hp i := [fR xs, oneR ((xs.take i).map sE)]
  I i := i ≤ n
  m i := n - i
noncomputable def hsMe (xs : List Nat) (n c : Nat) : Hs Try.prog where
  op y := if y = 400 then some (hIa Try.prog) else if y = 401 then some (hLd Try.prog (xF xs)) else if y = 505 then some (hAp Try.prog) else none
  cut y := if y = 2 then some (lpMe0 xs n c) else none
  lp _ := some (lpMe xs n c)
  cl y := if y = 2 then keep 22 [0, 1, 5] else keep 22 [1, 5, 8, 9, 10]
  nl y := if y = 2 then [.slot 5 1] else []
  au := au0 Try.prog
noncomputable def tMe : List (Nat × Orc) := [(47, orcSm1)]
noncomputable def cMe : CallF := ctx Try.prog tMe
theorem cMe_ok : CallOK Try.prog cMe := ctx_ok hm (all_cons okSm1 all_nil)
theorem me_t (xs : List Nat) (n : Nat) (c : Nat) (K : Value → Heap → Prop) :
    (fnP Try.prog cMe (hsMe xs n c) (46 : FuncId) [Value.slice (some { block := (0 : Nat), off := (0 : Nat) }) n c, fS1] [fR xs] K) =
    ((∃ (s : Nat), Is (s = (0 : Nat)) ∧ [Value.slice (some { block := (0 : Nat), off := (0 : Nat) }) n c, Value.func (Fn.func (47 : Nat)) #[] #[], poi, poi, poi, Value.slice (some { block := (1 : Nat), off := (0 : Nat) }) (0 : Nat) (0 : Nat), poi, poi, poi, poi, poi, poi, poi, poi, poi, poi, poi, poi, poi, poi, poi, poi] = [Value.slice (some { block := (0 : Nat), off := (0 : Nat) }) n c, Value.func (Fn.func (47 : Nat)) #[] #[], poi, poi, poi, Value.slice (some { block := (1 : Nat), off := (0 : Nat) }) (0 : Nat) (0 : Nat), poi, poi, poi, poi, poi, poi, poi, poi, poi, poi, poi, poi, poi, poi, poi, poi] ∧ some (AObj.row (flts xs) (1 : Nat) true true true) :: some (AObj.row [] (1 : Nat) true true true) :: noH = some (AObj.row (flts xs) (1 : Nat) true true true) :: some (AObj.row [] (1 : Nat) true true true) :: noH) ∧ ∀ (s : Nat), Is (s = (0 : Nat)) → (∃ (s : Nat), Is (s ≤ n) ∧ [poi, Value.func (Fn.func (47 : Nat)) #[] #[], poi, poi, poi, Value.slice (some { block := (1 : Nat), off := (0 : Nat) }) (0 : Nat) (0 : Nat), poi, poi, Value.slice (some { block := (0 : Nat), off := (0 : Nat) }) n c, Value.int IntKind.i64 (↑n : Int), Value.int IntKind.i64 (0 : Int), poi, poi, poi, poi, poi, poi, poi, poi, poi, poi, poi] = [poi, Value.func (Fn.func (47 : Nat)) #[] #[], poi, poi, poi, Value.slice (some { block := (1 : Nat), off := (0 : Nat) }) s (0 : Nat), poi, poi, Value.slice (some { block := (0 : Nat), off := (0 : Nat) }) n c, Value.int IntKind.i64 (↑n : Int), Value.int IntKind.i64 (↑s : Int), poi, poi, poi, poi, poi, poi, poi, poi, poi, poi, poi] ∧ some (AObj.row (flts xs) (1 : Nat) true true true) :: some (AObj.row [] (1 : Nat) true true true) :: noH = some (AObj.row (flts xs) (1 : Nat) true true true) :: some (AObj.row (ints (List.map sE (List.take s xs))) (1 : Nat) true true true) :: noH) ∧ ∀ (s : Nat), Is (s ≤ n) → br (decide ((↑s : Int) < (↑n : Int))) (Is ((0 : Int) ≤ (↑s : Int) ∧ (↑s : Int) < (↑n : Int)) ∧ Is ((flts xs)[(0 : Nat) + Int.toNat (↑s : Int) * (1 : Nat)]? = some (Value.float FloatKind.f32 (List.getD xs ((0 : Nat) + Int.toNat (↑s : Int) * (1 : Nat)) (0 : Nat)))) ∧ Is (List.length (ints (List.map sE (List.take s xs))) = s * (1 : Nat) ∧ (s + (1 : Nat)) * (8 : Nat) ≤ (140737488355328 : Nat) ∧ s + (1 : Nat) ≤ (9223372036854775807 : Nat)) ∧ ∃ (s' : Nat), Is (s' ≤ n) ∧ Is (n - s' < n - s) ∧ [poi, Value.func (Fn.func (47 : Nat)) #[] #[], poi, poi, poi, Value.slice (some { block := (1 : Nat), off := (0 : Nat) }) (s + (1 : Nat)) (0 : Nat), poi, poi, Value.slice (some { block := (0 : Nat), off := (0 : Nat) }) n c, Value.int IntKind.i64 (↑n : Int), Value.int IntKind.i64 (IntKind.wrap IntKind.i64 ((↑s : Int) + (1 : Int))), poi, poi, poi, poi, poi, poi, poi, poi, poi, poi, poi] = [poi, Value.func (Fn.func (47 : Nat)) #[] #[], poi, poi, poi, Value.slice (some { block := (1 : Nat), off := (0 : Nat) }) s' (0 : Nat), poi, poi, Value.slice (some { block := (0 : Nat), off := (0 : Nat) }) n c, Value.int IntKind.i64 (↑n : Int), Value.int IntKind.i64 (↑s' : Int), poi, poi, poi, poi, poi, poi, poi, poi, poi, poi, poi] ∧ some (AObj.row (flts xs) (1 : Nat) true true true) :: some (AObj.row (ints (List.map sE (List.take s xs)) ++ [Value.int IntKind.i64 (sE (List.getD xs ((0 : Nat) + Int.toNat (↑s : Int) * (1 : Nat)) (0 : Nat)))]) (1 : Nat) true true (List.all [Value.int IntKind.i64 (sE (List.getD xs ((0 : Nat) + Int.toNat (↑s : Int) * (1 : Nat)) (0 : Nat)))] atom)) :: noH = some (AObj.row (flts xs) (1 : Nat) true true true) :: some (AObj.row (ints (List.map sE (List.take s' xs))) (1 : Nat) true true true) :: noH) (K (Value.slice (some { block := (1 : Nat), off := (0 : Nat) }) s (0 : Nat)) (some (AObj.row (flts xs) (1 : Nat) true true true) :: some (AObj.row (ints (List.map sE (List.take s xs))) (1 : Nat) true true true) :: noH))) := by kernel_rfl
/- Holes. -/
noncomputable def runO (nm : ByteArray) (f : Int) (n c k d : Nat) : Option AObj := some (.row (runA nm f 0 n c 1 k d) 0 false true false)
noncomputable def lpCh1 (nm : ByteArray) (f : Int) (n c k d : Nat) (xs : List Nat) (hs : List Int) : Lp where
  σ := Nat × Int
  E s := slots 64 [(1, .pointer (some ⟨2, 0, none⟩)), (3, .int .i64 s.2), (10, .slice (some ⟨1, 0, none⟩) k d), (11, .int .i64 (Int.ofNat k)), (12, .int .i64 (Int.ofNat s.1))]
  Hp _ := hp2r xs hs true true true true [runO nm f n c k d]
  I s := s.1 ≤ k ∧ hchk n (hs.drop (s.1 * 2)) s.2 = hchk n hs (-1)
  m s := k - s.1
noncomputable def lpCh2 (nm : ByteArray) (f : Int) (n c k d : Nat) (xs : List Nat) (hs : List Int) : Lp where
  σ := Nat
  E s := slots 64 [(1, .pointer (some ⟨2, 0, none⟩)), (49, .slice (some ⟨1, 0, none⟩) k d), (50, .int .i64 (Int.ofNat k)), (51, .int .i64 (Int.ofNat s))]
  Hp _ := hp2r xs hs true true true true [runO nm f n c k d]
  I s := s ≤ k ∧ hzH xs (hs.drop (s * 2)) = hzH xs hs
  m s := k - s
noncomputable def hsCh (nm : ByteArray) (f : Int) (n c k d : Nat) (xs : List Nat) (hs : List Int) : Hs Try.prog where
  op y := if [400, 1200].contains y then some (hIa Try.prog) else if [401, 1201].contains y then some (hLd Try.prog (z2 hs)) else if y = 1306 then some (hSl Try.prog) else none
  lp y := if y = 3 then some (lpCh1 nm f n c k d xs hs) else some (lpCh2 nm f n c k d xs hs)
  cl y := if y = 3 then keep 64 [1, 3, 10, 11, 12] else keep 64 [1, 49, 50, 51]
  au := auCalls [(66, hCa Try.prog 66 (orcNc xs) (okNc xs))]
theorem ch_t (nm : ByteArray) (f : Int) (n : Nat) (c : Nat) (k : Nat) (d : Nat) (xs : List Nat) (hs : List Int) (K : Value → Heap → Prop) :
    (fnP Try.prog cs2 (hsCh nm f n c k d xs hs) (54 : FuncId) [Value.agg (List.toArray (runA nm f (0 : Nat) n c (1 : Nat) k d))] (hp2r xs hs true true true true []) K) =
    ((∃ (s : Nat × Int), Is (Prod.fst s ≤ k ∧ hchk (↑n : Int) (List.drop (Prod.fst s * (2 : Nat)) hs) (Prod.snd s) = hchk (↑n : Int) hs (-1 : Int)) ∧ [poi, Value.pointer (some { block := (2 : Nat), off := (0 : Nat) }), poi, Value.int IntKind.i64 (-1 : Int), poi, poi, poi, poi, poi, poi, Value.slice (some { block := (1 : Nat), off := (0 : Nat) }) k d, Value.int IntKind.i64 (↑k : Int), Value.int IntKind.i64 (0 : Int), poi, poi, poi, poi, poi, poi, poi, poi, poi, poi, poi, poi, poi, poi, poi, poi, poi, poi, poi, poi, poi, poi, poi, poi, poi, poi, poi, poi, poi, poi, poi, poi, poi, poi, poi, poi, poi, poi, poi, poi, poi, poi, poi, poi, poi, poi, poi, poi, poi, poi, poi] = [poi, Value.pointer (some { block := (2 : Nat), off := (0 : Nat) }), poi, Value.int IntKind.i64 (Prod.snd s), poi, poi, poi, poi, poi, poi, Value.slice (some { block := (1 : Nat), off := (0 : Nat) }) k d, Value.int IntKind.i64 (↑k : Int), Value.int IntKind.i64 (↑(Prod.fst s) : Int), poi, poi, poi, poi, poi, poi, poi, poi, poi, poi, poi, poi, poi, poi, poi, poi, poi, poi, poi, poi, poi, poi, poi, poi, poi, poi, poi, poi, poi, poi, poi, poi, poi, poi, poi, poi, poi, poi, poi, poi, poi, poi, poi, poi, poi, poi, poi, poi, poi, poi, poi] ∧ some (AObj.row (flts xs) (1 : Nat) true true true) :: some (AObj.row (ints hs) (2 : Nat) true true true) :: some (AObj.row [Value.string nm, Value.int IntKind.i64 f, Value.slice (some { block := (0 : Nat), off := (0 : Nat) }) n c, Value.slice (some { block := (1 : Nat), off := (0 : Nat) }) k d] (0 : Nat) false true (List.all [Value.string nm, Value.int IntKind.i64 f, Value.slice (some { block := (0 : Nat), off := (0 : Nat) }) n c, Value.slice (some { block := (1 : Nat), off := (0 : Nat) }) k d] atom)) :: noH = some (AObj.row (flts xs) (1 : Nat) true true true) :: some (AObj.row (ints hs) (2 : Nat) true true true) :: some (AObj.row [Value.string nm, Value.int IntKind.i64 f, Value.slice (some { block := (0 : Nat), off := (0 : Nat) }) n c, Value.slice (some { block := (1 : Nat), off := (0 : Nat) }) k d] (0 : Nat) false true false) :: noH) ∧ ∀ (s : Nat × Int), Is (Prod.fst s ≤ k ∧ hchk (↑n : Int) (List.drop (Prod.fst s * (2 : Nat)) hs) (Prod.snd s) = hchk (↑n : Int) hs (-1 : Int)) → br (decide ((↑(Prod.fst s) : Int) < (↑k : Int))) (Is ((0 : Int) ≤ (↑(Prod.fst s) : Int) ∧ (↑(Prod.fst s) : Int) < (↑k : Int)) ∧ Is ((if (0 : Nat) + Int.toNat (↑(Prod.fst s) : Int) * (2 : Nat) + (2 : Nat) ≤ List.length (ints hs) then some (Value.agg (List.toArray (List.take (2 : Nat) (List.drop ((0 : Nat) + Int.toNat (↑(Prod.fst s) : Int) * (2 : Nat)) (ints hs))))) else none) = some (Value.agg #[Value.int IntKind.i64 (List.getD hs ((0 : Nat) + Int.toNat (↑(Prod.fst s) : Int) * (2 : Nat)) (0 : Int)), Value.int IntKind.i64 (List.getD hs ((0 : Nat) + Int.toNat (↑(Prod.fst s) : Int) * (2 : Nat) + (1 : Nat)) (0 : Int))])) ∧ br (decide (List.getD hs ((0 : Nat) + Int.toNat (↑(Prod.fst s) : Int) * (2 : Nat)) (0 : Int) < (0 : Int))) (K (Value.int IntKind.i64 (fi [(14 : Int), wh (decide (List.getD hs ((0 : Nat) + Int.toNat (↑(Prod.fst s) : Int) * (2 : Nat)) (0 : Int) ≤ Prod.snd s)) (11 : Int)])) (some (AObj.row (flts xs) (1 : Nat) true true true) :: some (AObj.row (ints hs) (2 : Nat) true true true) :: noH)) (br (decide (List.getD hs ((0 : Nat) + Int.toNat (↑(Prod.fst s) : Int) * (2 : Nat) + (1 : Nat)) (0 : Int) ≤ List.getD hs ((0 : Nat) + Int.toNat (↑(Prod.fst s) : Int) * (2 : Nat)) (0 : Int))) (K (Value.int IntKind.i64 (fi [(14 : Int), wh (decide (List.getD hs ((0 : Nat) + Int.toNat (↑(Prod.fst s) : Int) * (2 : Nat)) (0 : Int) ≤ Prod.snd s)) (11 : Int)])) (some (AObj.row (flts xs) (1 : Nat) true true true) :: some (AObj.row (ints hs) (2 : Nat) true true true) :: noH)) (br (fi [wh (decide ((↑n : Int) < List.getD hs ((0 : Nat) + Int.toNat (↑(Prod.fst s) : Int) * (2 : Nat) + (1 : Nat)) (0 : Int))) (14 : Int), wh (decide (List.getD hs ((0 : Nat) + Int.toNat (↑(Prod.fst s) : Int) * (2 : Nat)) (0 : Int) ≤ Prod.snd s)) (11 : Int)] != (0 : Int)) (K (Value.int IntKind.i64 (fi [wh (decide ((↑n : Int) < List.getD hs ((0 : Nat) + Int.toNat (↑(Prod.fst s) : Int) * (2 : Nat) + (1 : Nat)) (0 : Int))) (14 : Int), wh (decide (List.getD hs ((0 : Nat) + Int.toNat (↑(Prod.fst s) : Int) * (2 : Nat)) (0 : Int) ≤ Prod.snd s)) (11 : Int)])) (some (AObj.row (flts xs) (1 : Nat) true true true) :: some (AObj.row (ints hs) (2 : Nat) true true true) :: noH)) (∃ (s' : Nat × Int), Is (Prod.fst s' ≤ k ∧ hchk (↑n : Int) (List.drop (Prod.fst s' * (2 : Nat)) hs) (Prod.snd s') = hchk (↑n : Int) hs (-1 : Int)) ∧ Is (k - Prod.fst s' < k - Prod.fst s) ∧ [poi, Value.pointer (some { block := (2 : Nat), off := (0 : Nat) }), poi, Value.int IntKind.i64 (List.getD hs ((0 : Nat) + Int.toNat (↑(Prod.fst s) : Int) * (2 : Nat) + (1 : Nat)) (0 : Int)), poi, poi, poi, poi, poi, poi, Value.slice (some { block := (1 : Nat), off := (0 : Nat) }) k d, Value.int IntKind.i64 (↑k : Int), Value.int IntKind.i64 (IntKind.wrap IntKind.i64 ((↑(Prod.fst s) : Int) + (1 : Int))), poi, poi, poi, poi, poi, poi, poi, poi, poi, poi, poi, poi, poi, poi, poi, poi, poi, poi, poi, poi, poi, poi, poi, poi, poi, poi, poi, poi, poi, poi, poi, poi, poi, poi, poi, poi, poi, poi, poi, poi, poi, poi, poi, poi, poi, poi, poi, poi, poi, poi, poi] = [poi, Value.pointer (some { block := (2 : Nat), off := (0 : Nat) }), poi, Value.int IntKind.i64 (Prod.snd s'), poi, poi, poi, poi, poi, poi, Value.slice (some { block := (1 : Nat), off := (0 : Nat) }) k d, Value.int IntKind.i64 (↑k : Int), Value.int IntKind.i64 (↑(Prod.fst s') : Int), poi, poi, poi, poi, poi, poi, poi, poi, poi, poi, poi, poi, poi, poi, poi, poi, poi, poi, poi, poi, poi, poi, poi, poi, poi, poi, poi, poi, poi, poi, poi, poi, poi, poi, poi, poi, poi, poi, poi, poi, poi, poi, poi, poi, poi, poi, poi, poi, poi, poi, poi] ∧ some (AObj.row (flts xs) (1 : Nat) true true true) :: some (AObj.row (ints hs) (2 : Nat) true true true) :: some (AObj.row [Value.string nm, Value.int IntKind.i64 f, Value.slice (some { block := (0 : Nat), off := (0 : Nat) }) n c, Value.slice (some { block := (1 : Nat), off := (0 : Nat) }) k d] (0 : Nat) false true false) :: noH = some (AObj.row (flts xs) (1 : Nat) true true true) :: some (AObj.row (ints hs) (2 : Nat) true true true) :: some (AObj.row [Value.string nm, Value.int IntKind.i64 f, Value.slice (some { block := (0 : Nat), off := (0 : Nat) }) n c, Value.slice (some { block := (1 : Nat), off := (0 : Nat) }) k d] (0 : Nat) false true false) :: noH)))) ((∃ (s : Nat), Is (s ≤ k ∧ hzH xs (List.drop (s * (2 : Nat)) hs) = hzH xs hs) ∧ [poi, Value.pointer (some { block := (2 : Nat), off := (0 : Nat) }), poi, poi, poi, poi, poi, poi, poi, poi, poi, poi, poi, poi, poi, poi, poi, poi, poi, poi, poi, poi, poi, poi, poi, poi, poi, poi, poi, poi, poi, poi, poi, poi, poi, poi, poi, poi, poi, poi, poi, poi, poi, poi, poi, poi, poi, poi, poi, Value.slice (some { block := (1 : Nat), off := (0 : Nat) }) k d, Value.int IntKind.i64 (↑k : Int), Value.int IntKind.i64 (0 : Int), poi, poi, poi, poi, poi, poi, poi, poi, poi, poi, poi, poi] = [poi, Value.pointer (some { block := (2 : Nat), off := (0 : Nat) }), poi, poi, poi, poi, poi, poi, poi, poi, poi, poi, poi, poi, poi, poi, poi, poi, poi, poi, poi, poi, poi, poi, poi, poi, poi, poi, poi, poi, poi, poi, poi, poi, poi, poi, poi, poi, poi, poi, poi, poi, poi, poi, poi, poi, poi, poi, poi, Value.slice (some { block := (1 : Nat), off := (0 : Nat) }) k d, Value.int IntKind.i64 (↑k : Int), Value.int IntKind.i64 (↑s : Int), poi, poi, poi, poi, poi, poi, poi, poi, poi, poi, poi, poi] ∧ some (AObj.row (flts xs) (1 : Nat) true true true) :: some (AObj.row (ints hs) (2 : Nat) true true true) :: some (AObj.row [Value.string nm, Value.int IntKind.i64 f, Value.slice (some { block := (0 : Nat), off := (0 : Nat) }) n c, Value.slice (some { block := (1 : Nat), off := (0 : Nat) }) k d] (0 : Nat) false true false) :: noH = some (AObj.row (flts xs) (1 : Nat) true true true) :: some (AObj.row (ints hs) (2 : Nat) true true true) :: some (AObj.row [Value.string nm, Value.int IntKind.i64 f, Value.slice (some { block := (0 : Nat), off := (0 : Nat) }) n c, Value.slice (some { block := (1 : Nat), off := (0 : Nat) }) k d] (0 : Nat) false true false) :: noH) ∧ ∀ (s : Nat), Is (s ≤ k ∧ hzH xs (List.drop (s * (2 : Nat)) hs) = hzH xs hs) → br (decide ((↑s : Int) < (↑k : Int))) (Is ((0 : Int) ≤ (↑s : Int) ∧ (↑s : Int) < (↑k : Int)) ∧ Is ((if (0 : Nat) + Int.toNat (↑s : Int) * (2 : Nat) + (2 : Nat) ≤ List.length (ints hs) then some (Value.agg (List.toArray (List.take (2 : Nat) (List.drop ((0 : Nat) + Int.toNat (↑s : Int) * (2 : Nat)) (ints hs))))) else none) = some (Value.agg #[Value.int IntKind.i64 (List.getD hs ((0 : Nat) + Int.toNat (↑s : Int) * (2 : Nat)) (0 : Int)), Value.int IntKind.i64 (List.getD hs ((0 : Nat) + Int.toNat (↑s : Int) * (2 : Nat) + (1 : Nat)) (0 : Int))])) ∧ Is ((0 : Int) ≤ List.getD hs ((0 : Nat) + Int.toNat (↑s : Int) * (2 : Nat)) (0 : Int) ∧ List.getD hs ((0 : Nat) + Int.toNat (↑s : Int) * (2 : Nat)) (0 : Int) ≤ List.getD hs ((0 : Nat) + Int.toNat (↑s : Int) * (2 : Nat) + (1 : Nat)) (0 : Int) ∧ List.getD hs ((0 : Nat) + Int.toNat (↑s : Int) * (2 : Nat) + (1 : Nat)) (0 : Int) ≤ (↑n : Int)) ∧ Is (flts xs = flts xs ∧ (0 : Nat) + Int.toNat (List.getD hs ((0 : Nat) + Int.toNat (↑s : Int) * (2 : Nat)) (0 : Int)) * (1 : Nat) + (Int.toNat (List.getD hs ((0 : Nat) + Int.toNat (↑s : Int) * (2 : Nat) + (1 : Nat)) (0 : Int)) - Int.toNat (List.getD hs ((0 : Nat) + Int.toNat (↑s : Int) * (2 : Nat)) (0 : Int))) ≤ List.length xs ∧ Int.toNat (List.getD hs ((0 : Nat) + Int.toNat (↑s : Int) * (2 : Nat) + (1 : Nat)) (0 : Int)) - Int.toNat (List.getD hs ((0 : Nat) + Int.toNat (↑s : Int) * (2 : Nat)) (0 : Int)) ≤ (100000 : Nat)) ∧ br (List.any (List.take (Int.toNat (List.getD hs ((0 : Nat) + Int.toNat (↑s : Int) * (2 : Nat) + (1 : Nat)) (0 : Int)) - Int.toNat (List.getD hs ((0 : Nat) + Int.toNat (↑s : Int) * (2 : Nat)) (0 : Int))) (List.drop ((0 : Nat) + Int.toNat (List.getD hs ((0 : Nat) + Int.toNat (↑s : Int) * (2 : Nat)) (0 : Int)) * (1 : Nat)) xs)) nzB) (K (Value.int IntKind.i64 (1 : Int)) (some (AObj.row (flts xs) (1 : Nat) true true true) :: some (AObj.row (ints hs) (2 : Nat) true true true) :: noH)) (∃ (s' : Nat), Is (s' ≤ k ∧ hzH xs (List.drop (s' * (2 : Nat)) hs) = hzH xs hs) ∧ Is (k - s' < k - s) ∧ [poi, Value.pointer (some { block := (2 : Nat), off := (0 : Nat) }), poi, poi, poi, poi, poi, poi, poi, poi, poi, poi, poi, poi, poi, poi, poi, poi, poi, poi, poi, poi, poi, poi, poi, poi, poi, poi, poi, poi, poi, poi, poi, poi, poi, poi, poi, poi, poi, poi, poi, poi, poi, poi, poi, poi, poi, poi, poi, Value.slice (some { block := (1 : Nat), off := (0 : Nat) }) k d, Value.int IntKind.i64 (↑k : Int), Value.int IntKind.i64 (IntKind.wrap IntKind.i64 ((↑s : Int) + (1 : Int))), poi, poi, poi, poi, poi, poi, poi, poi, poi, poi, poi, poi] = [poi, Value.pointer (some { block := (2 : Nat), off := (0 : Nat) }), poi, poi, poi, poi, poi, poi, poi, poi, poi, poi, poi, poi, poi, poi, poi, poi, poi, poi, poi, poi, poi, poi, poi, poi, poi, poi, poi, poi, poi, poi, poi, poi, poi, poi, poi, poi, poi, poi, poi, poi, poi, poi, poi, poi, poi, poi, poi, Value.slice (some { block := (1 : Nat), off := (0 : Nat) }) k d, Value.int IntKind.i64 (↑k : Int), Value.int IntKind.i64 (↑s' : Int), poi, poi, poi, poi, poi, poi, poi, poi, poi, poi, poi, poi] ∧ some (AObj.row (flts xs) (1 : Nat) true true true) :: some (AObj.row (ints hs) (2 : Nat) true true true) :: some (AObj.row [Value.string nm, Value.int IntKind.i64 f, Value.slice (some { block := (0 : Nat), off := (0 : Nat) }) n c, Value.slice (some { block := (1 : Nat), off := (0 : Nat) }) k d] (0 : Nat) false true false) :: noH = some (AObj.row (flts xs) (1 : Nat) true true true) :: some (AObj.row (ints hs) (2 : Nat) true true true) :: some (AObj.row [Value.string nm, Value.int IntKind.i64 f, Value.slice (some { block := (0 : Nat), off := (0 : Nat) }) n c, Value.slice (some { block := (1 : Nat), off := (0 : Nat) }) k d] (0 : Nat) false true false) :: noH)) (K (Value.int IntKind.i64 (0 : Int)) (some (AObj.row (flts xs) (1 : Nat) true true true) :: some (AObj.row (ints hs) (2 : Nat) true true true) :: noH)))) := by kernel_rfl
theorem take_one {xs : List Nat} {s : Nat} (h : s < xs.length) : xs.take (s + 1) = xs.take s ++ [xs.getD s 0] := by
  rw [List.take_add_one]
  simp [List.getD_eq_getElem?_getD, h]
set_option maxRecDepth 100000 in
theorem me_ok {xs : List Nat} {n c : Nat} (hn : xs.length = n) (h9 : n ≤ 100000) :
    SmallRes Try.prog 46 [.slice (some ⟨0, 0, none⟩) n c, fS1] [fR xs] (.slice (some ⟨1, 0, none⟩) n 0) [fR xs, oneR (xs.map sE)] := by
  refine fnP_res hm cMe_ok (hs := hsMe xs n c) ?_
  rw [me_t]
  refine ⟨⟨(0 : Nat), ⟨rfl⟩, by first | trivial | rfl, by first | trivial | rfl⟩, fun _ _ => ⟨⟨(0 : Nat), ⟨by omega⟩, by first | trivial | rfl, by first | trivial | rfl⟩, fun s hs' => br_of (fun hc => ?_) (fun hc => ?_)⟩⟩
  · have hc := lt_of_dec hc
    simp only [Nat.zero_add, Nat.mul_one, Int.toNat_natCast]
    refine ⟨⟨by omega, by omega⟩, ⟨flts_at (by omega)⟩, ⟨by rw [ints_len, List.length_map, List.length_take]; omega, by omega, by omega⟩, s + 1, ⟨hc⟩, ⟨by omega⟩, ?_, ?_⟩
    · rw [up1 hc (by omega)]
    · rw [take_one (by omega), List.map_append, ← ints_app]; rfl
  · have hc := ge_of_dec hc
    have : s = n := by have := hs'.out; omega
    subst this
    rw [← hn, List.take_length]
    exact ⟨by first | trivial | rfl, by first | trivial | rfl⟩
noncomputable def orcMe (xs : List Nat) : OrcV
  | [.slice (some ⟨0, 0, none⟩) n _, .func (.func 47) ⟨[]⟩ ⟨[]⟩], [some (.row e1 1 true true true)] => some (.slice (some ⟨1, 0, none⟩) n 0, [some (.row e1 1 true true true), oneR (xs.map sE)], e1 = flts xs ∧ xs.length = n ∧ n ≤ 100000)
  | _, _ => none
theorem okMe (xs : List Nat) : OkV Try.prog 46 (orcMe xs) := by
  intro args H ret H' vc h hv
  unfold orcMe at h
  split at h
  · cases h
    obtain ⟨rfl, h1, h2⟩ := hv
    exact me_ok h1 h2
  · cases h
set_option maxRecDepth 100000 in
theorem firstS_ok {l : List Int} {n c : Nat} {more rw' : Bool} (hn : l.length = n) (hlt : n ≤ 100000) :
    SmallRes Try.prog 25 [.slice (some ⟨0, 0, none⟩) n c] [some (.row (ints l) 1 more rw' true)] (.int .i64 (fi l)) [some (.row (ints l) 1 more rw' true)] := by
  subst hn
  refine fnP_res hm c0_ok (hs := hFirst l l.length c 1 more rw') ?_
  rw [firstS_t]
  refine ⟨⟨(0 : Nat), ⟨by simp, by simp⟩, rfl, rfl⟩, fun s hs => ?_⟩
  obtain ⟨h1, h2⟩ := hs.out
  refine br_of (fun hc => ?_) (fun hc => ?_)
  · have hc : s < l.length := by simpa using hc
    refine ⟨⟨by omega, by omega⟩, ⟨by simpa using ints_at hc⟩, br_of (fun hd => ?_) (fun hd => ?_)⟩
    · have := fi_drop hc
      have hd' : l.getD s 0 ≠ 0 := by simpa using hd
      rw [if_neg hd'] at this
      simp [← h2, this]
    · have := fi_drop hc
      have hd' : l.getD s 0 = 0 := by simpa using hd
      rw [if_pos hd'] at this
      refine ⟨s + 1, ⟨hc, by rw [← this, h2]⟩, ⟨by omega⟩, ?_, rfl⟩
      rw [wrap_eq (by omega) (by omega)]
      rfl
  · have hc : l.length ≤ s := by simpa using hc
    have : s = l.length := by omega
    subst this
    simp [← h2, fi]
noncomputable def orcFiV (l : List Int) : OrcV
  | [.slice (some ⟨0, 0, none⟩) n _], [some (.row e1 1 m w true)] => some (.int .i64 (fi l), [some (.row e1 1 m w true)], e1 = ints l ∧ l.length = n ∧ n ≤ 100000)
  | _, _ => none
theorem okFiV (l : List Int) : OkV Try.prog 25 (orcFiV l) := by
  intro args H ret H' vc h hv
  unfold orcFiV at h
  split at h
  · cases h
    obtain ⟨rfl, h1, h2⟩ := hv
    exact firstS_ok h1 h2
  · cases h
/-- A span that is checked. -/
theorem hchk_all {n : Int} : ∀ (hs : List Int) (last : Int), hchk n hs last = 0 → ∀ i, i * 2 + 2 ≤ hs.length → last < hs.getD (i * 2) 0 ∧ 0 ≤ hs.getD (i * 2) 0 ∧ hs.getD (i * 2) 0 < hs.getD (i * 2 + 1) 0 ∧ hs.getD (i * 2 + 1) 0 ≤ n
  | [], _, _, i, h => by simp at h
  | [_], _, _, i, h => by simp only [List.length_cons, List.length_nil] at h; omega
  | a :: b :: r, last, h, i, hi => by
    rw [hchk] at h
    obtain ⟨h1, h2⟩ := sel_zero.1 h
    have k1 := (wh_zero (by decide)).1 (fi_zero.1 h1 (wh (decide (a < 0) || (decide (b ≤ a) || decide (n < b))) 14) (by simp))
    have k2 := (wh_zero (by decide)).1 (fi_zero.1 h1 (wh (decide (a ≤ last)) 11) (by simp))
    simp only [Bool.or_eq_false_iff, decide_eq_false_iff_not] at k1 k2
    match i with
    | 0 => simp only [Nat.zero_mul, Nat.zero_add, List.getD_cons_zero, List.getD_cons_succ]; omega
    | i + 1 =>
      have := hchk_all r b h2 i (by simp only [List.length_cons] at hi; omega)
      rw [show (i + 1) * 2 = i * 2 + 1 + 1 by omega]
      simp only [List.getD_cons_succ]
      omega
set_option maxRecDepth 100000 in
theorem ch_ok {nm : ByteArray} {f : Int} {n c k d : Nat} {xs : List Nat} {hs : List Int} (hn : xs.length = n) (h9 : n ≤ 100000) (hk : hs.length = k * 2) (hk9 : k ≤ 100000) :
    SmallRes Try.prog 54 [.agg (runA nm f 0 n c 1 k d).toArray] (hp2r xs hs true true true true []) (.int .i64 (sel (hchk n hs (-1)) (wh (!hzH xs hs) 1))) (hp2r xs hs true true true true []) := by
  refine fnP_res hm cs2_ok (hs := hsCh nm f n c k d xs hs) ?_
  rw [ch_t]
  refine ⟨⟨((0 : Nat), (-1 : Int)), ⟨by omega, by rw [Nat.zero_mul, List.drop_zero]⟩, by first | trivial | rfl, by first | trivial | rfl⟩, fun s hs' => br_of (fun hc => ?_) (fun hc => ?_)⟩
  · have hc := lt_of_dec hc
    obtain ⟨i1, i2⟩ := hs'.out
    rw [spn_drop (show s.1 * 2 + 2 ≤ hs.length by omega), hchk] at i2
    simp only [Nat.zero_add, Int.toNat_natCast]
    have out : ∀ {e : Int}, fi [wh (decide (hs.getD (s.1 * 2) 0 < 0) || (decide (hs.getD (s.1 * 2 + 1) 0 ≤ hs.getD (s.1 * 2) 0) || decide ((n : Int) < hs.getD (s.1 * 2 + 1) 0))) 14, wh (decide (hs.getD (s.1 * 2) 0 ≤ s.2)) 11] = e → e ≠ 0 → sel (hchk n hs (-1)) (wh (!hzH xs hs) 1) = e := fun h h0 => by
      rw [h, sel, if_neg h0] at i2
      rw [← i2, sel, if_neg h0]
    refine ⟨⟨by omega, by omega⟩, ⟨ldh (by omega)⟩, br_of (fun h1 => ?_) (fun h1 => br_of (fun h2 => ?_) (fun h2 => br_of (fun h3 => ?_) (fun h3 => ⟨(s.1 + 1, hs.getD (s.1 * 2 + 1) 0), ⟨hc, ?_⟩, ⟨by simp only; omega⟩, ?_, by first | trivial | rfl⟩)))⟩
    · rw [out (e := fi [14, wh (decide (hs.getD (s.1 * 2) 0 ≤ s.2)) 11]) (by rw [h1]; rfl) (by simp [fi])]
      exact ⟨by first | trivial | rfl, by first | trivial | rfl⟩
    · rw [out (e := fi [14, wh (decide (hs.getD (s.1 * 2) 0 ≤ s.2)) 11]) (by rw [h1, h2]; rfl) (by simp [fi])]
      exact ⟨by first | trivial | rfl, by first | trivial | rfl⟩
    · rw [out (e := fi [wh (decide ((n : Int) < hs.getD (s.1 * 2 + 1) 0)) 14, wh (decide (hs.getD (s.1 * 2) 0 ≤ s.2)) 11]) (by rw [h1, h2]; rfl) (by simpa using h3)]
      exact ⟨by first | trivial | rfl, by first | trivial | rfl⟩
    · have h3 : fi [wh (decide ((n : Int) < hs.getD (s.1 * 2 + 1) 0)) 14, wh (decide (hs.getD (s.1 * 2) 0 ≤ s.2)) 11] = 0 := by simpa using h3
      rw [h1, h2, Bool.false_or, Bool.false_or, h3, sel, if_pos rfl] at i2
      exact i2
    · rw [up1 hc (by omega)]
  · have hc := ge_of_dec hc
    obtain ⟨i1, i2⟩ := hs'.out
    have m0 : hchk n hs (-1) = 0 := by
      rw [← i2, List.drop_eq_nil_of_le (by omega)]
      rfl
    have hall := hchk_all hs (-1) m0
    rw [m0]
    refine ⟨⟨(0 : Nat), ⟨by omega, by rw [Nat.zero_mul, List.drop_zero]⟩, by first | trivial | rfl, by first | trivial | rfl⟩, fun r hr => br_of (fun hc2 => ?_) (fun hc2 => ?_)⟩
    · have hc2 := lt_of_dec hc2
      obtain ⟨j1, j2⟩ := hr.out
      obtain ⟨_, a0, a1, a2⟩ := hall r (by omega)
      rw [spn_drop (show r * 2 + 2 ≤ hs.length by omega), hzH] at j2
      simp only [Nat.zero_add, Nat.mul_one, Int.toNat_natCast]
      refine ⟨⟨by omega, by omega⟩, ⟨ldh (by omega)⟩, ⟨by omega, by omega, by omega⟩, ⟨by first | trivial | rfl, by omega, by omega⟩, br_of (fun hb => ?_) (fun hb => ⟨r + 1, ⟨hc2, ?_⟩, ⟨by omega⟩, by rw [up1 hc2 (by omega)], by first | trivial | rfl⟩)⟩
      · rw [hb] at j2
        rw [← j2]
        exact ⟨by first | trivial | rfl, by first | trivial | rfl⟩
      · rw [hb, Bool.not_false, Bool.true_and] at j2
        exact j2
    · have hc2 := ge_of_dec hc2
      obtain ⟨j1, j2⟩ := hr.out
      rw [List.drop_eq_nil_of_le (by omega)] at j2
      rw [← j2]
      exact ⟨by first | trivial | rfl, by first | trivial | rfl⟩
noncomputable def isRun (xs : List Nat) (hs : List Int) (n k : Nat) (e1 e2 : List Value) : Prop := e1 = flts xs ∧ e2 = ints hs ∧ xs.length = n ∧ n ≤ 100000 ∧ hs.length = k * 2 ∧ k ≤ 100000
noncomputable def orcCh (xs : List Nat) (hs : List Int) : OrcV
  | [.agg ⟨[.string _, .int .i64 _, .slice (some ⟨0, 0, none⟩) n _, .slice (some ⟨1, 0, none⟩) k _]⟩], [some (.row e1 1 true true true), some (.row e2 2 true true true)] =>
    some (.int .i64 (sel (hchk n hs (-1)) (wh (!hzH xs hs) 1)), [some (.row e1 1 true true true), some (.row e2 2 true true true)], isRun xs hs n k e1 e2)
  | _, _ => none
theorem okCh (xs : List Nat) (hs : List Int) : OkV Try.prog 54 (orcCh xs hs) := by
  intro args H ret H' vc h hv
  unfold orcCh at h
  split at h
  · cases h
    obtain ⟨rfl, rfl, h1, h2, h3, h4⟩ := hv
    exact ch_ok h1 h2 h3 h4
  · cases h
noncomputable def s4 : List (Nat × Orc) := (53, orcName) :: s2
theorem s4_all : ∀ p ∈ s4, Ok Try.prog p.1 p.2 := all_cons okName s2_all
noncomputable def cs4 : CallF := ctx Try.prog s4
theorem cs4_ok : CallOK Try.prog cs4 := ctx_ok hm s4_all
noncomputable def hsCr (xs : List Nat) (hs : List Int) : Hs Try.prog where
  op y := if y = 403 then some (hCa Try.prog 25 (orcFiV (xs.map sE)) (okFiV _)) else none
  au := auCalls [(46, hCa Try.prog 46 (orcMe xs) (okMe xs)), (54, hCa Try.prog 54 (orcCh xs hs) (okCh xs hs))]
theorem cr_t (nm : ByteArray) (f : Int) (n : Nat) (c : Nat) (k : Nat) (d : Nat) (xs : List Nat) (hs : List Int) (K : Value → Heap → Prop) :
    (fnP Try.prog cs4 (hsCr xs hs) (31 : FuncId) [Value.agg (List.toArray (runA nm f (0 : Nat) n c (1 : Nat) k d))] (hp2r xs hs true true true true []) K) =
    (br (fi [wh (!nameB nm) (8 : Int), wi f (0 : Int) (100000000 : Int), wh (decide ((4096 : Int) < (↑n : Int))) (5 : Int)] != (0 : Int)) (K (Value.int IntKind.i64 (fi [wh (!nameB nm) (8 : Int), wi f (0 : Int) (100000000 : Int), wh (decide ((4096 : Int) < (↑n : Int))) (5 : Int)])) (some (AObj.row (flts xs) (1 : Nat) true true true) :: some (AObj.row (ints hs) (2 : Nat) true true true) :: noH)) (Is (flts xs = flts xs ∧ List.length xs = n ∧ n ≤ (100000 : Nat)) ∧ Is (ints (List.map sE xs) = ints (List.map sE xs) ∧ List.length (List.map sE xs) = n ∧ n ≤ (100000 : Nat)) ∧ br (fi [fi (List.map sE xs), wh (decide ((100000000 : Int) < IntKind.wrap IntKind.i64 (f + (↑n : Int)))) (4 : Int)] != (0 : Int)) (K (Value.int IntKind.i64 (fi [fi (List.map sE xs), wh (decide ((100000000 : Int) < IntKind.wrap IntKind.i64 (f + (↑n : Int)))) (4 : Int)])) (some (AObj.row (flts xs) (1 : Nat) true true true) :: some (AObj.row (ints hs) (2 : Nat) true true true) :: noH)) (Is (isRun xs hs n k (flts xs) (ints hs)) ∧ K (Value.int IntKind.i64 (sel (hchk (↑n : Int) hs (-1 : Int)) (wh (!hzH xs hs) (1 : Int)))) (some (AObj.row (flts xs) (1 : Nat) true true true) :: some (AObj.row (ints hs) (2 : Nat) true true true) :: noH)))) := by kernel_rfl
end
end Qq
end
section
/- Runs, checked: the reference; both say the same. -/
open Go Go.Vm Go.Proofs Sp
namespace Qq
noncomputable section
noncomputable def orcCrP (xs : List Nat) (hs : List Int) : OrcV
  | [.agg ⟨[.string nm, .int .i64 f, .slice (some ⟨0, 0, none⟩) n _, .slice (some ⟨1, 0, none⟩) k _]⟩], [some (.row e1 1 true true true), some (.row e2 2 true true true)] =>
    some (.int .i64 (runE nm f xs n hs), [some (.row e1 1 true true true), some (.row e2 2 true true true)], isRun xs hs n k e1 e2)
  | _, _ => none
theorem okCrP (xs : List Nat) (hs : List Int) : OkV Try.prog 31 (orcCrP xs hs) := by
  intro args H ret H' vc h hv
  unfold orcCrP at h
  split at h
  · rename_i nm f n c k d e1 e2
    cases h
    obtain ⟨rfl, rfl, h1, h2, h3, h4⟩ := hv
    refine fnP_res hm cs4_ok (hs := hsCr xs hs) ?_
    show fnP Try.prog cs4 (hsCr xs hs) 31 [.agg (runA nm f 0 n c 1 k d).toArray] (hp2r xs hs true true true true []) _
    rw [cr_t]
    refine br_of (fun h => ?_) (fun h => ⟨⟨rfl, h1, h2⟩, ⟨rfl, by rw [List.length_map]; exact h1, h2⟩, ?_⟩)
    · rw [runE, sel_ne h]; exact ⟨by first | trivial | rfl, by first | trivial | rfl⟩
    have h0 : fi [wh (!nameB nm) 8, wi f 0 100000000, wh (decide ((4096 : Int) < n)) 5] = 0 := by simpa using h
    have hf := wi_zero.1 (fi_zero.1 h0 (wi f 0 100000000) (by simp))
    rw [wrap_eq (x := f + n) (by omega) (by omega)]
    refine br_of (fun h3' => ?_) (fun h3' => ⟨⟨rfl, rfl, h1, h2, h3, h4⟩, ?_⟩)
    · rw [runE, sel_eq h, sel_ne h3']; exact ⟨by first | trivial | rfl, by first | trivial | rfl⟩
    · rw [runE, sel_eq h, sel_eq h3']; exact ⟨by first | trivial | rfl, by first | trivial | rfl⟩
  · cases h
/- The reference. -/
theorem sp_t (a : Int) (b : Int) (n : Int) (K : Value → Heap → Prop) :
    (fnP Try.prog cr11 h0 (71 : FuncId) [Value.agg #[Value.int IntKind.i64 a, Value.int IntKind.i64 b], Value.int IntKind.i64 n] [] K) =
    (br (decide (a < (0 : Int))) (K (Value.int IntKind.i64 (14 : Int)) noH) (br (decide (b < a)) (K (Value.int IntKind.i64 (14 : Int)) noH) (K (Value.int IntKind.i64 (wh (decide (n < b)) (14 : Int))) noH))) := by kernel_rfl
noncomputable def orcSpn : Orc
  | [.agg ⟨[.int .i64 a, .int .i64 b]⟩, .int .i64 n], [] => some (.int .i64 (wh (decide (a < 0) || (decide (b < a) || decide (n < b))) 14), [])
  | _, _ => none
noncomputable def orcFul : Orc
  | [.agg ⟨[.int .i64 a, .int .i64 b]⟩, .int .i64 n], [] => some (.int .i64 (wh (decide (a < 0) || (decide (b ≤ a) || decide (n < b))) 14), [])
  | _, _ => none
theorem okSpn : Ok Try.prog 71 orcSpn := by
  intro args H ret H' h
  unfold orcSpn at h
  split at h
  · cases h
    refine fnP_res hm cr11_ok (hs := h0) ?_
    rw [sp_t]
    refine br_of (fun h1 => ?_) (fun h1 => br_of (fun h2 => ?_) (fun h2 => ?_))
    · rw [h1]; exact ⟨by first | trivial | rfl, by first | trivial | rfl⟩
    · rw [h1, h2]; exact ⟨by first | trivial | rfl, by first | trivial | rfl⟩
    · rw [h1, h2]; exact ⟨by first | trivial | rfl, by first | trivial | rfl⟩
  · cases h
noncomputable def r13 : List (Nat × Orc) := (71, orcSpn) :: r11
theorem r13_all : ∀ p ∈ r13, Ok Try.prog p.1 p.2 := all_cons okSpn (all_cons okCn r2_all)
noncomputable def cr13 : CallF := ctx Try.prog r13
theorem cr13_ok : CallOK Try.prog cr13 := ctx_ok hm r13_all
theorem ful_t (a : Int) (b : Int) (n : Int) (K : Value → Heap → Prop) :
    (fnP Try.prog cr13 h0 (60 : FuncId) [Value.agg #[Value.int IntKind.i64 a, Value.int IntKind.i64 b], Value.int IntKind.i64 n] [] K) =
    (K (Value.int IntKind.i64 (fi [wh (decide (a < (0 : Int)) || (decide (b < a) || decide (n < b))) (14 : Int), wh (a == b) (14 : Int)])) noH) := by kernel_rfl
theorem okFul : Ok Try.prog 60 orcFul := by
  intro args H ret H' h
  unfold orcFul at h
  split at h
  · rename_i a b n
    cases h
    refine fnP_res hm cr13_ok (hs := h0) ?_
    rw [ful_t]
    refine ⟨?_, by first | trivial | rfl⟩
    by_cases h1 : a < 0 <;> by_cases h2 : b < a <;> by_cases h3 : n < b <;> by_cases h4 : b ≤ a <;> by_cases h5 : a = b <;> simp [wh, fi, h1, h2, h3, h4, h5] <;> omega
  · cases h
noncomputable def r14 : List (Nat × Orc) := (60, orcFul) :: r13
theorem r14_all : ∀ p ∈ r14, Ok Try.prog p.1 p.2 := all_cons okFul r13_all
noncomputable def cr14 : CallF := ctx Try.prog r14
theorem cr14_ok : CallOK Try.prog cr14 := ctx_ok hm r14_all
noncomputable def csr4 : CallF := ctx Try.prog [(70, orcSm1)]
theorem csr4_ok : CallOK Try.prog csr4 := ctx_ok hm (all_cons okSm1R all_nil)
theorem fi_one {l : List Int} {i : Nat} (h : i < l.length) : fi (l.drop i) = if l.getD i 0 ≠ 0 then l.getD i 0 else fi (l.drop (i + 1)) := by
  rw [List.drop_eq_getElem_cons h, fi]
  simp only [List.getD_eq_getElem?_getD, List.getElem?_eq_getElem h, Option.getD_some]
  by_cases h0 : l[i] = 0 <;> simp [h0]
theorem map_getD {xs : List Nat} {i : Nat} (h : i < xs.length) : (xs.map sE).getD i 0 = sE (xs.getD i 0) := by
  simp [List.getD_eq_getElem?_getD, List.getElem?_eq_getElem h]
noncomputable def runOs (nm : ByteArray) (f : Int) (n c k d : Nat) : Option AObj := some (.row (runA nm f 0 n c 1 k d) 0 false true false)
end
end Qq
end
section
/- The reference's CheckRun says what the program's does. -/
open Go Go.Vm Go.Proofs Sp
namespace Qq
noncomputable section
theorem any_none {xs : List Nat} {A B : Nat} (h : B ≤ xs.length) : ((xs.drop A).take (B - A)).any nzB = false ↔ ∀ j, A ≤ j → j < B → nzB (xs.getD j 0) = false := by
  rw [List.any_eq_false]
  constructor
  · intro h1 j hj hB
    have : xs.getD j 0 ∈ (xs.drop A).take (B - A) := by
      rw [List.mem_iff_getElem]
      refine ⟨j - A, by rw [List.length_take, List.length_drop]; omega, ?_⟩
      simp only [List.getElem_take, List.getElem_drop, List.getD_eq_getElem?_getD, List.getElem?_eq_getElem (show j < xs.length by omega), Option.getD_some]
      congr 1
      omega
    simpa using h1 _ this
  · intro h1 x hx
    obtain ⟨i, hi, rfl⟩ := List.mem_iff_getElem.1 hx
    rw [List.length_take, List.length_drop] at hi
    have := h1 (A + i) (by omega) (by omega)
    simp only [List.getElem_take, List.getElem_drop, List.getD_eq_getElem?_getD, List.getElem?_eq_getElem (show A + i < xs.length by omega), Option.getD_some] at this ⊢
    simpa using this
theorem hz_iff {xs : List Nat} : ∀ (hs : List Int) (last : Int), hchk xs.length hs last = 0 → (hzH xs hs = true ↔ ∀ j, j < xs.length → nzB (xs.getD j 0) = true → knB hs (j : Int) = true)
  | [], _, _ => ⟨fun _ _ _ _ => rfl, fun _ => rfl⟩
  | [_], _, _ => ⟨fun _ _ _ _ => rfl, fun _ => rfl⟩
  | a :: b :: r, last, h => by
    obtain ⟨_, a0, ab, bn⟩ := hchk_all (a :: b :: r) last h 0 (by simp only [List.length_cons]; omega)
    simp only [Nat.zero_mul, Nat.zero_add, List.getD_cons_zero, List.getD_cons_succ] at a0 ab bn
    have hr : hchk xs.length r b = 0 := by rw [hchk] at h; exact (sel_zero.1 h).2
    have ih := hz_iff r b hr
    rw [hzH, Bool.and_eq_true, Bool.not_eq_true', any_none (by omega), ih]
    simp only [knB, Bool.and_eq_true, Bool.not_eq_true', Bool.and_eq_false_iff, decide_eq_false_iff_not]
    constructor
    · rintro ⟨h1, h2⟩ j hj hz
      refine ⟨?_, h2 j hj hz⟩
      by_cases hin : a ≤ (j : Int) ∧ (j : Int) < b
      · rw [h1 j (by omega) (by omega)] at hz; cases hz
      · omega
    · intro h1
      refine ⟨fun j hj hB => ?_, fun j hj hz => (h1 j hj hz).2⟩
      cases hz : nzB (xs.getD j 0)
      · rfl
      · have := (h1 j (by omega) hz).1
        omega
end
end Qq
end
section
/- Moments of a run. -/
open Go Go.Vm Go.Proofs Sp
namespace Sp
noncomputable section
end
end Sp
namespace Qq
noncomputable section
/- The reference. -/
/- Copies; short runs. -/
noncomputable def hsOw : Hs Try.prog where
  op y := if [107, 111].contains y then some (hAe Try.prog true) else none
/-- What a run that is checked says. -/
theorem run_zero {nm : ByteArray} {f : Int} {xs : List Nat} {n : Nat} {hs : List Int} (h : runE nm f xs n hs = 0) :
    nameB nm = true ∧ (0 ≤ f ∧ f ≤ 100000000) ∧ n ≤ 4096 ∧ f + n ≤ 100000000 ∧ fi (xs.map sE) = 0 ∧ hchk n hs (-1) = 0 ∧ hzH xs hs = true := by
  obtain ⟨h1, h2⟩ := sel_zero.1 h
  obtain ⟨h3, h4⟩ := sel_zero.1 h2
  obtain ⟨h5, h6⟩ := sel_zero.1 h4
  have k1 := (wh_zero (by decide)).1 (fi_zero.1 h1 (wh (!nameB nm) 8) (by simp))
  have k2 := wi_zero.1 (fi_zero.1 h1 (wi f 0 100000000) (by simp))
  have k3 := of_decide_eq_false ((wh_zero (by decide)).1 (fi_zero.1 h1 (wh (decide ((4096 : Int) < n)) 5) (by simp)))
  have k4 := fi_zero.1 h3 (fi (xs.map sE)) (by simp)
  have k5 := of_decide_eq_false ((wh_zero (by decide)).1 (fi_zero.1 h3 (wh (decide ((100000000 : Int) < f + n)) 4) (by simp)))
  have k6 := (wh_zero (by decide)).1 h6
  exact ⟨by simpa using k1, k2, by omega, by omega, k4, h5, by simpa using k6⟩
theorem smps {xs : List Nat} (h : fi (xs.map sE) = 0) {j : Nat} (hj : j < xs.length) : sE (xs.getD j 0) = 0 := by
  refine fi_zero.1 h _ (List.mem_map.2 ⟨xs.getD j 0, ?_, rfl⟩)
  rw [List.getD_eq_getElem?_getD, List.getElem?_eq_getElem hj]
  exact List.getElem_mem _
/-- Moments are bounded. -/
structure MoB (m : Int × Int × Int) (i : Nat) : Prop where
  c0 : 0 ≤ m.1
  c1 : m.1 ≤ i
  s0 : -(16384 * (i : Int)) ≤ m.2.1
  s1 : m.2.1 ≤ 16384 * i
  q0 : 0 ≤ m.2.2
  q1 : m.2.2 ≤ 268435456 * i
theorem MoB.zero : MoB (0, 0, 0) 0 := ⟨by simp, by simp, by simp, by simp, by simp, by simp⟩
theorem MoB.more {m : Int × Int × Int} {i : Nat} (h : MoB m i) : MoB m (i + 1) := by
  obtain ⟨a, b, c, d, e, f⟩ := h
  exact ⟨a, by omega, by omega, by omega, e, by omega⟩
end
end Qq
end
section
/- Samples that are made of integers. -/
open Go
namespace Sp
noncomputable section
/-- The sample of an integer. -/
def smO (n : Int) : Nat := fDiv (fOf n) 1098907648
end
end Sp
namespace Fl
open Ieee Sp
theorem shl_div {m a b : Nat} (h : b ≤ a) : m <<< a / 2 ^ b = m * 2 ^ (a - b) ∧ m <<< a % 2 ^ b = 0 := by
  have e : m <<< a = m * 2 ^ (a - b) * 2 ^ b := by rw [Nat.shiftLeft_eq, Nat.mul_assoc, ← Nat.pow_add, Nat.sub_add_cancel h]
  rw [e]
  exact ⟨Nat.mul_div_cancel _ (Nat.pow_pos (by decide)), Nat.mul_mod_left _ _⟩
theorem pow4 {m a b c : Nat} (h : a + c + 1 + 4 = b) : 2 * (m * 2 ^ a) * 2 ^ c * 16 = m * 2 ^ b := by
  subst h
  simp only [Nat.pow_add, Nat.pow_one]
  have e : (2 : Nat) ^ 4 = 16 := rfl
  rw [e]
  generalize 2 ^ a = x
  generalize 2 ^ c = y
  grind
theorem read_16 : single.read 1098907648 = .number false (2 ^ 23) (-19) := by decide +kernel
theorem log_23 : (2 ^ 23).log2 = 23 := by decide +kernel
theorem Has.div16 {x : Nat} (h : IsF x) : ∃ r t, (single.read x).quotient 25 (single.read 1098907648) = some r ∧ Has r (-200) t ∧ t * 16 = val x := by
  obtain ⟨s, m, i, h1, h2, h3, h4⟩ := h
  rw [h1, read_16]
  have hl : m.log2 ≤ 23 := by
    by_cases h0 : m = 0
    · subst h0; decide
    · exact Nat.le_of_lt_succ ((Nat.log2_lt h0).2 h2)
  have hv : val x = sg s (m * 2 ^ (i + 400).toNat) := by rw [val, h1]
  rw [hv]
  obtain ⟨q1, q2⟩ := shl_div (m := m) (a := 25 + 23 - m.log2) (b := 23) (by omega)
  have e0 : (2 ^ 23 : Nat) ≠ 0 := by decide
  have hq : Datum.quotient 25 (.number s m i) (.number false (2 ^ 23) (-19)) = some (.number s (2 * (m * 2 ^ (25 + 23 - m.log2 - 23))) (i - -19 - ((25 + 23 - m.log2 : Nat) : Int) - 1)) := by
    simp only [Datum.quotient, if_neg e0, log_23, q1, q2, Bool.xor_false]
    rfl
  refine ⟨_, _, hq, ⟨_, _, _, rfl, by omega, rfl⟩, ?_⟩
  have e16 : (16 : Int) = ((16 : Nat) : Int) := rfl
  rw [e16, ← sg_mul]
  refine congrArg (sg s) ?_
  generalize hA : (i - -19 - ((25 + 23 - m.log2 : Nat) : Int) - 1 + 400).toNat = c
  generalize hB : (i + 400).toNat = b
  exact pow4 (by omega)
theorem pow_at {a b : Nat} (h : a + b = 400) : (2 : Nat) ^ a * 2 ^ b = one := by
  rw [← Nat.pow_add, h, one_nat]
theorem one_split {a b k : Nat} (h : a + b = 400) (hk : 2 ^ b = k) : ((2 ^ a : Nat) : Int) * (k : Int) = (one : Int) := by
  rw [← pow_at h, hk, Int.natCast_mul]
theorem rep_pow {n t : Int} {K : Nat} (h : n.natAbs < 2 ^ 24) (h1 : 24 + K ≤ 500) (h2 : 251 ≤ K) (ht : t = n * ((2 ^ K : Nat) : Int)) : Rep t := by
  have h3 := pow_up h1
  rw [ht]
  refine ⟨?_, n.natAbs, K, ?_, h, h2⟩
  · rw [Int.natAbs_mul, Int.natAbs_natCast]
    exact Nat.lt_of_lt_of_le (Nat.mul_lt_mul_of_pos_right h (Nat.pow_pos (by decide))) (by rw [← Nat.pow_add]; exact h3)
  · rw [Int.natAbs_mul, Int.natAbs_natCast]
theorem sm_ok {n : Int} (h : n.natAbs < 2 ^ 24) : fDivOk (fOf n) 1098907648 ∧ IsF (smO n) ∧ val (smO n) * 16 = n * (one : Int) := by
  obtain ⟨f1, f2⟩ := of_val h
  obtain ⟨r, t, e1, h1, e2⟩ := Has.div16 f1
  rw [f2] at e2
  have es : single.div (fOf n) 1098907648 = some (single.write r) := by
    have e3 : single.div (fOf n) 1098907648 = ((single.read (fOf n)).quotient 25 (single.read 1098907648)).map single.write := rfl
    rw [e3, e1]; rfl
  have ht : t = n * ((2 ^ 396 : Nat) : Int) := by
    have e4 : ((2 ^ 396 : Nat) : Int) * 16 = (one : Int) := one_split (a := 396) (b := 4) (k := 16) rfl rfl
    rw [← e4, ← Int.mul_assoc] at e2
    omega
  have hr : Rep t := rep_pow h (by decide) (by decide) ht
  have hw := has_fin (h1.write (by decide) hr)
  have em : smO n = single.write r := by rw [smO, fDiv, fmt32, es]; rfl
  exact ⟨by rw [fDivOk, fmt32, es]; rfl, by rw [em]; exact hw.1, by rw [em, hw.2, e2]⟩
theorem lev_sm {n : Int} (h : n.natAbs ≤ 16384) : lev (smO n) = n ∧ sE (smO n) = 0 := by
  obtain ⟨_, f1, e1⟩ := sm_ok (n := n) (by omega)
  have hp := one_pos
  have hb : (val (smO n)).natAbs ≤ 1024 * one := by
    have e := congrArg Int.natAbs e1
    rw [Int.natAbs_mul, Int.natAbs_mul] at e
    have e2 : (one : Int).natAbs = one := Int.natAbs_natCast one
    rw [e2, show Int.natAbs 16 = 16 from rfl] at e
    have := Nat.mul_le_mul_right one h
    omega
  obtain ⟨m1, m2, m3⟩ := mul_16 f1 hb
  rw [e1] at m3
  obtain ⟨i1, _, s, i3, i4⟩ := int_ok m2 (by
    rw [m3, Int.natAbs_mul, show Int.natAbs (one : Int) = one from Int.natAbs_natCast one]
    exact Nat.mul_le_mul_right one (by omega))
  have hl : lev (smO n) = n := by
    rw [lev, i4]
    rw [m3] at i3 ⊢
    rw [Int.natAbs_mul, show Int.natAbs (one : Int) = one from Int.natAbs_natCast one] at i3 ⊢
    rw [Nat.mul_div_cancel _ hp]
    rw [sg_mul] at i3
    exact Int.eq_of_mul_eq_mul_right (by omega) i3
  refine ⟨hl, ?_⟩
  obtain ⟨f2, e2⟩ := of_val (n := n) (by omega)
  rw [sE_fin f1, hl]
  refine (Qq.wh_zero (by decide)).2 ?_
  have q1 : fLt (smO n) 3296722944 = false := by
    rw [lt_val f1 fin_m1024.1, fin_m1024.2]; exact decide_eq_false (by omega)
  have q2 : fGt (smO n) 1149239296 = false := by
    rw [gt_val f1 fin_1024.1, fin_1024.2]; exact decide_eq_false (by omega)
  have q3 : fNe (fMul (smO n) 1098907648) (fOf n) = false := by
    rw [ne_val m2 f2, m3, e2]; exact decide_eq_false (by simp)
  rw [q1, q2, q3]; rfl
end Fl
end
