/- Parts of the proof: FlA, FlB, QA, QB, QF, QG, QH, QI, QO, QP, QT, QU, QV, QW, QX, QY, QZ, QAA, QBB. -/
import Ieee.Arith
import Derived.Test.YtbamclejfkddmaaZC
import Derived.Test.YtbamclejfkddmaaProg
import Derived.Laws.RangeString
import Derived.Laws.RangeAny
section
/- Floats of 32 bits as exact numbers: what a word stands for, times 2^400. -/
namespace Fl
open Ieee
/-- A number with its sign. -/
def sg (s : Bool) (n : Nat) : Int := if s then -(n : Int) else n
theorem sg_abs (s : Bool) (n : Nat) : (sg s n).natAbs = n := by cases s <;> simp [sg]
theorem sg_mul (s : Bool) (n k : Nat) : sg s (n * k) = sg s n * k := by cases s <;> simp [sg, Int.neg_mul]
theorem sg_zero (s : Bool) : sg s 0 = 0 := by cases s <;> rfl
theorem sg_xor (s t : Bool) (m n : Nat) : sg (s ^^ t) (m * n) = sg s m * sg t n := by cases s <;> cases t <;> simp [sg, Int.neg_mul, Int.mul_neg]
theorem sg_not (s : Bool) (n : Nat) : sg (!s) n = -sg s n := by cases s <;> simp [sg]
theorem sg_self (n : Int) : sg (decide (n < 0)) n.natAbs = n := by
  by_cases h : n < 0
  · rw [decide_eq_true h]; simp only [sg, if_true]; omega
  · rw [decide_eq_false h]; simp only [sg, Bool.false_eq_true, if_false]; omega
theorem signed_sg (s : Bool) (m k : Nat) : signed s m k = sg s (m * 2 ^ k) := by
  simp only [signed, sg, Nat.shiftLeft_eq]

/-- A datum that is a number: no digit below 2^lo, and its value times 2^400. -/
def Has (d : Datum) (lo v : Int) : Prop := ∃ s m i, d = .number s m i ∧ lo ≤ i ∧ sg s (m * 2 ^ (i + 400).toNat) = v

theorem Has.opposite {d : Datum} {lo v : Int} (h : Has d lo v) : Has d.opposite lo (-v) := by
  obtain ⟨s, m, i, rfl, h2, rfl⟩ := h
  exact ⟨!s, m, i, rfl, h2, sg_not _ _⟩

theorem at_base {s : Bool} {m : Nat} {i b : Int} (h0 : -400 ≤ b) (h : b ≤ i) : signed s m (i - b).toNat * 2 ^ (b + 400).toNat = sg s (m * 2 ^ (i + 400).toNat) := by
  rw [signed_sg]
  have e : (i + 400).toNat = (i - b).toNat + (b + 400).toNat := by omega
  rw [e, Nat.pow_add, ← Nat.mul_assoc]
  simp only [sg_mul, Int.natCast_pow, Int.cast_ofNat_Int]

theorem Has.sum {d e : Datum} {lo v u : Int} (h0 : -400 ≤ lo) (h : Has d lo v) (k : Has e lo u) : ∃ r, d.sum e = some r ∧ Has r lo (v + u) := by
  obtain ⟨s, m, i, rfl, h2, rfl⟩ := h
  obtain ⟨t, n, j, rfl, k2, rfl⟩ := k
  refine ⟨_, rfl, ?_⟩
  have hb : lo ≤ min i j := by omega
  generalize hT : signed s m (i - min i j).toNat + signed t n (j - min i j).toNat = T
  refine ⟨_, _, _, rfl, hb, ?_⟩
  have e1 := at_base (s := s) (m := m) (i := i) (b := min i j) (by omega) (by omega)
  have e2 := at_base (s := t) (m := n) (i := j) (b := min i j) (by omega) (by omega)
  rw [← e1, ← e2, ← Int.add_mul, hT, sg_mul]
  have : sg (if T = 0 then s && t else decide (T < 0)) T.natAbs = T := by
    split
    · rename_i h; rw [h]; exact sg_zero _
    · exact sg_self T
  rw [this]; simp

theorem pow3 {m n a b c K : Nat} (h : a + b = c + K) : m * 2 ^ a * (n * 2 ^ b) = m * n * 2 ^ c * 2 ^ K := by
  rw [Nat.mul_mul_mul_comm, ← Nat.pow_add, h, Nat.pow_add, Nat.mul_assoc (m * n)]
theorem cut_hi {m a b K : Nat} (h : a = b + K) : m * 2 ^ a / 2 ^ K = m * 2 ^ b := by
  rw [h, Nat.pow_add, ← Nat.mul_assoc, Nat.mul_div_cancel _ (Nat.pow_pos (by decide))]
theorem Has.product {d e : Datum} {lo v u : Int} (h0 : -200 ≤ lo) (h : Has d lo v) (k : Has e lo u) : ∃ r t, d.product e = some r ∧ Has r (lo + lo) t ∧ t * 2 ^ 400 = v * u := by
  obtain ⟨s, m, i, rfl, h2, rfl⟩ := h
  obtain ⟨t, n, j, rfl, k2, rfl⟩ := k
  refine ⟨_, _, rfl, ⟨_, _, _, rfl, by omega, rfl⟩, ?_⟩
  rw [← sg_xor]
  have e : (i + 400).toNat + (j + 400).toNat = (i + j + 400).toNat + 400 := by omega
  have e2 := pow3 (m := m) (n := n) e
  rw [e2]
  simp only [sg_mul, Int.natCast_pow, Int.cast_ofNat_Int]

theorem compare_mul {a b : Int} {k : Nat} (hk : 0 < k) : compare (a * k) (b * k) = compare a b := by
  have hk : (0 : Int) < k := by omega
  rcases Int.lt_trichotomy a b with h | h | h
  · have : a * k < b * k := Int.mul_lt_mul_of_pos_right h hk
    rw [Int.compare_eq_lt.2 h, Int.compare_eq_lt.2 this]
  · subst h; simp
  · have : b * k < a * k := Int.mul_lt_mul_of_pos_right h hk
    rw [Int.compare_eq_gt.2 h, Int.compare_eq_gt.2 this]

theorem Has.order {d e : Datum} {lo v u : Int} (h0 : -400 ≤ lo) (h : Has d lo v) (k : Has e lo u) : d.order e = some (compare v u) := by
  obtain ⟨s, m, i, rfl, h2, rfl⟩ := h
  obtain ⟨t, n, j, rfl, k2, rfl⟩ := k
  have e1 := at_base (s := s) (m := m) (i := i) (b := min i j) (by omega) (by omega)
  have e2 := at_base (s := t) (m := n) (i := j) (b := min i j) (by omega) (by omega)
  rw [← e1, ← e2]
  have := compare_mul (a := signed s m (i - min i j).toNat) (b := signed t n (j - min i j).toNat) (k := 2 ^ (min i j + 400).toNat) (Nat.pow_pos (by decide))
  rw [show ((2 : Int) ^ (min i j + 400).toNat) = ((2 ^ (min i j + 400).toNat : Nat) : Int) by simp, this]
  rfl

theorem cut_zero (s : Bool) (n k : Nat) : Toward.zero.cut s n k = n / 2 ^ k := by
  unfold Toward.cut
  simp only [Nat.shiftLeft_eq, Nat.one_mul, Bool.toNat_false, Nat.add_zero]
  by_cases h : k ≤ n.log2 + 2
  · rw [Nat.min_eq_left h]
  · have h1 : n < 2 ^ (n.log2 + 1) := Nat.lt_log2_self
    have h2 : 2 ^ (n.log2 + 1) ≤ 2 ^ (n.log2 + 2) := Nat.pow_le_pow_right (by decide) (by omega)
    have h3 : 2 ^ (n.log2 + 1) ≤ 2 ^ k := Nat.pow_le_pow_right (by decide) (by omega)
    rw [Nat.min_eq_right (by omega), Nat.div_eq_of_lt (by omega), Nat.div_eq_of_lt (by omega)]

/-- A value made whole: cut towards zero. -/
theorem Has.toInt {d : Datum} {lo v : Int} (h0 : -400 ≤ lo) (h : Has d lo v) : ∃ s, sg s v.natAbs = v ∧ d.toInt .zero = some (sg s (v.natAbs / 2 ^ 400)) := by
  obtain ⟨s, m, i, rfl, h2, rfl⟩ := h
  refine ⟨s, by rw [sg_abs], ?_⟩
  simp only [Datum.toInt, Datum.integral, cut_zero, signed_sg, Nat.pow_zero, Nat.mul_one, sg_abs, Nat.shiftLeft_eq]
  congr 2
  by_cases hi : 0 ≤ i
  · have e1 : (i + 400).toNat = i.toNat + 400 := by omega
    have e2 : (-i).toNat = 0 := by omega
    rw [e2, cut_hi e1]
    simp
  · have e1 : i.toNat = 0 := by omega
    have e2 : 400 = (i + 400).toNat + (-i).toNat := by omega
    rw [e1, Nat.pow_zero, Nat.mul_one]
    conv => rhs; rw [e2]
    rw [Nat.pow_add, ← Nat.div_div_eq_div_mul, Nat.mul_div_cancel _ (Nat.pow_pos (by decide))]

/-! ### Writing -/
theorem cut_even {s : Bool} {n k : Nat} (h : 2 ^ k ∣ n) : Toward.even.cut s n k = n / 2 ^ k := by
  obtain ⟨q, rfl⟩ := h
  unfold Toward.cut
  simp only [Nat.shiftLeft_eq, Nat.one_mul]
  by_cases hq : q = 0
  · subst hq; simp
  · have h1 : k ≤ (2 ^ k * q).log2 := by
      refine (Nat.le_log2 (Nat.ne_of_gt (Nat.mul_pos (Nat.pow_pos (by decide)) (by omega)))).2 ?_
      exact Nat.le_mul_of_pos_right _ (by omega)
    rw [Nat.min_eq_left (by omega), Nat.mul_mod_right]
    have h2 : (0 : Nat) < 2 ^ k := Nat.pow_pos (by decide)
    have h3 : decide (2 ^ k < 2 * 0) = false := by simp
    have h4 : (2 ^ k == 2 * 0) = false := by simp
    rw [h3, h4]; rfl

theorem read_word {s : Bool} {r : Nat} (h : r < 2 ^ 31) : single.read (single.word s r) =
    (if r < 2 ^ 23 then .number s r (-149) else if r < 255 * 2 ^ 23 then .number s (2 ^ 23 + r % 2 ^ 23) (-149 + (r / 2 ^ 23 - 1 : Nat)) else if r = 255 * 2 ^ 23 then .infinity s else .nan s (r - 255 * 2 ^ 23)) := by
  have e1 : single.word s r / single.signWeight % 2 = s.toNat := by
    have : single.signWeight = 2 ^ 31 := by decide
    rw [this]
    cases s <;> simp only [Format.word, this, Bool.toNat, cond, if_true, Bool.false_eq_true, if_false] <;> omega
  have e2 : single.word s r % single.signWeight = r := by
    have : single.signWeight = 2 ^ 31 := by decide
    rw [this]
    cases s <;> simp only [Format.word, this, if_true, Bool.false_eq_true, if_false] <;> omega
  have e3 : (single.word s r / single.signWeight % 2 == 1) = s := by rw [e1]; cases s <;> rfl
  have e4 : single.binade = 2 ^ 23 := by decide
  have e5 : single.infRung = 255 * 2 ^ 23 := by decide
  have e6 : single.leastPlace = -149 := by decide
  unfold Format.read
  simp only [e2, e3, e4, e5, e6]

/-- A number that the format has, written, is read as it was. -/
theorem read_near {s : Bool} {m : Nat} {i : Int} (h : ∃ n d : Nat, m = n * 2 ^ d ∧ n < 2 ^ 24 ∧ -149 ≤ i + d) (hb : m.log2 + i ≤ 100) :
    ∃ m' i', single.read (single.nearest s m i) = .number s m' i' ∧ -149 ≤ i' ∧ ∀ c : Int, 400 ≤ c → -c ≤ i → m' * 2 ^ (i' + c).toNat = m * 2 ^ (i + c).toNat := by
  have e6 : single.leastPlace = -149 := by decide
  have e4 : single.binade = 2 ^ 23 := by decide
  have e5 : single.infRung = 255 * 2 ^ 23 := by decide
  have e7 : single.fractionBits = 23 := rfl
  by_cases h0 : m = 0
  · subst h0
    refine ⟨0, -149, ?_, by omega, fun c _ _ => by simp⟩
    unfold Format.nearest
    rw [if_pos rfl, read_word (by decide), if_pos (by decide)]
  · obtain ⟨n, d, hm, hn, hd⟩ := h
    unfold Format.nearest
    rw [if_neg h0]
    simp only [e4, e5, e6, e7]
    have hL1 : 2 ^ m.log2 ≤ m := Nat.log2_self_le h0
    have hL2 : m < 2 ^ (m.log2 + 1) := Nat.lt_log2_self
    generalize m.log2 = L at *
    have hLd : L < 24 + d := by
      have : 2 ^ L < 2 ^ (24 + d) := by
        have : n * 2 ^ d < 2 ^ 24 * 2 ^ d := Nat.mul_lt_mul_of_pos_right hn (Nat.pow_pos (by decide))
        rw [Nat.pow_add]; omega
      exact (Nat.pow_lt_pow_iff_right (by decide)).1 this
    generalize hlast : max (i + (L : Int) - (23 : Nat)) (-149) = last
    have hl1 : last - i ≤ d := by omega
    have hdiv : 2 ^ (last - i).toNat ∣ m <<< (i - last).toNat := by
      rw [Nat.shiftLeft_eq, hm]
      refine Nat.dvd_trans ?_ (Nat.dvd_mul_right _ _)
      refine Nat.dvd_trans ?_ (Nat.dvd_mul_left _ _)
      exact Nat.pow_dvd_pow 2 (by omega)
    rw [cut_even hdiv]
    generalize hk : m <<< (i - last).toNat / 2 ^ (last - i).toNat = kept
    have hkm : kept * 2 ^ (last - i).toNat = m * 2 ^ (i - last).toNat := by
      rw [← hk, Nat.div_mul_cancel hdiv, Nat.shiftLeft_eq]
    have hval : ∀ c : Int, 400 ≤ c → -c ≤ i → kept * 2 ^ (last + c).toNat = m * 2 ^ (i + c).toNat := by
      intro c hc hi
      by_cases hli : i ≤ last
      · have e1 : (i - last).toNat = 0 := by omega
        rw [e1, Nat.pow_zero, Nat.mul_one] at hkm
        rw [← hkm, Nat.mul_assoc, ← Nat.pow_add]
        congr 2
        omega
      · have e1 : (last - i).toNat = 0 := by omega
        rw [e1, Nat.pow_zero, Nat.mul_one] at hkm
        rw [hkm, Nat.mul_assoc, ← Nat.pow_add]
        congr 2
        omega
    have hup : kept < 2 ^ 24 := by
      by_cases hli : i ≤ last
      · have e1 : (i - last).toNat = 0 := by omega
        rw [e1, Nat.pow_zero, Nat.mul_one] at hkm
        have h3 : kept * 2 ^ (last - i).toNat < 2 ^ 24 * 2 ^ (last - i).toNat := by
          rw [hkm, ← Nat.pow_add]
          exact Nat.lt_of_lt_of_le hL2 (Nat.pow_le_pow_right (by decide) (by omega))
        exact Nat.lt_of_mul_lt_mul_right h3
      · have e1 : (last - i).toNat = 0 := by omega
        rw [e1, Nat.pow_zero, Nat.mul_one] at hkm
        rw [hkm]
        have h3 : m * 2 ^ (i - last).toNat < 2 ^ (L + 1) * 2 ^ (i - last).toNat := Nat.mul_lt_mul_of_pos_right hL2 (Nat.pow_pos (by decide))
        rw [← Nat.pow_add] at h3
        exact Nat.lt_of_lt_of_le h3 (Nat.pow_le_pow_right (by decide) (by omega))
    have hlow : -149 < last → 2 ^ 23 ≤ kept := by
      intro hla
      have hla : last = i + L - 23 := by omega
      by_cases hli : i ≤ last
      · have e1 : (i - last).toNat = 0 := by omega
        rw [e1, Nat.pow_zero, Nat.mul_one] at hkm
        have h3 : 2 ^ 23 * 2 ^ (last - i).toNat ≤ kept * 2 ^ (last - i).toNat := by
          rw [hkm, ← Nat.pow_add]
          exact Nat.le_trans (Nat.pow_le_pow_right (by decide) (by omega)) hL1
        exact Nat.le_of_mul_le_mul_right h3 (Nat.pow_pos (by decide))
      · have e1 : (last - i).toNat = 0 := by omega
        rw [e1, Nat.pow_zero, Nat.mul_one] at hkm
        rw [hkm]
        have h3 : 2 ^ L * 2 ^ (i - last).toNat ≤ m * 2 ^ (i - last).toNat := Nat.mul_le_mul_right _ hL1
        rw [← Nat.pow_add] at h3
        exact Nat.le_trans (Nat.pow_le_pow_right (by decide) (by omega)) h3
    have hla1 : -149 ≤ last := by omega
    have hla2 : last ≤ 100 := by omega
    obtain ⟨a, ha⟩ : ∃ a : Nat, last = -149 + a := ⟨(last + 149).toNat, by omega⟩
    subst ha
    have e8 : (-149 + (a : Int) - -149).toNat = a := by omega
    rw [e8]
    obtain ⟨B, hB⟩ : ∃ B : Nat, B = 2 ^ 23 := ⟨_, rfl⟩
    have hB2 : (2 : Nat) ^ 24 = 2 * B := by rw [hB]
    have hB0 : 0 < B := by rw [hB]; decide
    rw [hB2] at hup
    rw [← hB] at hlow ⊢
    have ha9 : a ≤ 249 := by omega
    have hle : a * B ≤ 249 * B := Nat.mul_le_mul_right _ ha9
    rw [Nat.min_eq_left (by omega)]
    refine ⟨kept, -149 + a, ?_, by omega, hval⟩
    have hr := read_word (s := s) (r := a * B + kept) (by rw [show (2 : Nat) ^ 31 = 256 * B by rw [hB]]; omega)
    rw [← hB] at hr
    rw [hr]
    rcases Nat.eq_zero_or_pos a with h0 | h0
    · subst h0
      rw [Nat.zero_mul, Nat.zero_add]
      by_cases hs : kept < B
      · rw [if_pos hs]; simp
      · rw [if_neg hs, if_pos (by omega)]
        have e1 : kept % B = kept - B := by rw [Nat.mod_eq_sub_mod (by omega), Nat.mod_eq_of_lt (by omega)]
        have e2 : kept / B = 1 := by rw [Nat.div_eq_sub_div hB0 (by omega), Nat.div_eq_of_lt (by omega)]
        rw [e1, e2, show B + (kept - B) = kept by omega]
    · have h23 : B ≤ kept := hlow (by omega)
      have h1 : B ≤ a * B := Nat.le_mul_of_pos_left _ h0
      rw [if_neg (by omega), if_pos (by omega)]
      have e1 : (a * B + kept) % B = kept - B := by
        rw [Nat.add_comm, Nat.add_mul_mod_self_right, Nat.mod_eq_sub_mod (by omega), Nat.mod_eq_of_lt (by omega)]
      have e2 : (a * B + kept) / B - 1 = a := by
        rw [Nat.add_comm, Nat.add_mul_div_right _ _ hB0, Nat.div_eq_sub_div hB0 (by omega), Nat.div_eq_of_lt (by omega)]; omega
      rw [e1, e2, show B + (kept - B) = kept by omega]

/-- Few digits, none below 2^-149, not too great: a number of the format. -/
def Rep (v : Int) : Prop := v.natAbs < 2 ^ 500 ∧ ∃ n k : Nat, v.natAbs = n * 2 ^ k ∧ n < 2 ^ 24 ∧ 251 ≤ k

theorem pow_split {n k m e : Nat} (h : m * 2 ^ e = n * 2 ^ k) (hn : n < 2 ^ 24) : ∃ n' d : Nat, m = n' * 2 ^ d ∧ n' < 2 ^ 24 ∧ k ≤ d + e := by
  by_cases hk : e ≤ k
  · refine ⟨n, k - e, ?_, hn, by omega⟩
    have : m * 2 ^ e = n * 2 ^ (k - e) * 2 ^ e := by rw [h, Nat.mul_assoc, ← Nat.pow_add]; congr 2; omega
    exact Nat.mul_right_cancel (Nat.pow_pos (by decide)) this
  · have hk : k ≤ e := by omega
    have : n = m * 2 ^ (e - k) := by
      have : n * 2 ^ k = m * 2 ^ (e - k) * 2 ^ k := by rw [← h, Nat.mul_assoc, ← Nat.pow_add]; congr 2; omega
      exact Nat.mul_right_cancel (Nat.pow_pos (by decide)) this
    refine ⟨m, 0, by simp, ?_, by omega⟩
    have : m ≤ n := by rw [this]; exact Nat.le_mul_of_pos_right _ (Nat.pow_pos (by decide))
    omega

theorem zp (k : Nat) : 0 = 0 * 2 ^ k := (Nat.zero_mul _).symm
theorem Has.write {d : Datum} {lo v : Int} (h0 : -400 ≤ lo) (h : Has d lo v) (hr : Rep v) : Has (single.read (single.write d)) (-149) v := by
  obtain ⟨s, m, i, rfl, h2, rfl⟩ := h
  obtain ⟨hb, n, k, e, hn, hk⟩ := hr
  rw [sg_abs] at hb e
  by_cases hm : m = 0
  · subst hm
    obtain ⟨m', i', q1, q2, q3⟩ := read_near (s := s) (m := 0) (i := -400) ⟨0, 400, zp 400, by decide, by decide⟩ (by decide)
    refine ⟨s, m', i', ?_, q2, ?_⟩
    · simp only [Format.write]
      rw [← q1]
      unfold Format.nearest
      simp
    · have := q3 400 (by omega) (by omega)
      rw [this]; simp
  · obtain ⟨n', d', f1, f2, f3⟩ := pow_split e hn
    have hlog : m.log2 + i ≤ 100 := by
      have h1 : 2 ^ m.log2 ≤ m := Nat.log2_self_le hm
      have h3 : 2 ^ m.log2 * 2 ^ (i + 400).toNat < 2 ^ 500 := Nat.lt_of_le_of_lt (Nat.mul_le_mul_right _ h1) hb
      rw [← Nat.pow_add] at h3
      have := (Nat.pow_lt_pow_iff_right (by decide : 1 < 2)).1 h3
      omega
    obtain ⟨m', i', q1, q2, q3⟩ := read_near (s := s) (m := m) (i := i) ⟨n', d', f1, f2, by omega⟩ hlog
    exact ⟨s, m', i', q1, q2, by rw [q3 400 (by omega) (by omega)]⟩
end Fl
end
section
/- Samples: what is known of their floats. -/
open Go
namespace Fl
open Ieee Sp
theorem fmt32 : FloatKind.f32.format = single := rfl
theorem read_any (x : Nat) : single.read x =
    (if x % 2 ^ 31 < 2 ^ 23 then .number (x / 2 ^ 31 % 2 == 1) (x % 2 ^ 31) (-149) else if x % 2 ^ 31 < 255 * 2 ^ 23 then .number (x / 2 ^ 31 % 2 == 1) (2 ^ 23 + x % 2 ^ 31 % 2 ^ 23) (-149 + (x % 2 ^ 31 / 2 ^ 23 - 1 : Nat)) else if x % 2 ^ 31 = 255 * 2 ^ 23 then .infinity (x / 2 ^ 31 % 2 == 1) else .nan (x / 2 ^ 31 % 2 == 1) (x % 2 ^ 31 - 255 * 2 ^ 23)) := by
  have e1 : single.signWeight = 2 ^ 31 := by decide
  have e4 : single.binade = 2 ^ 23 := by decide
  have e5 : single.infRung = 255 * 2 ^ 23 := by decide
  have e6 : single.leastPlace = -149 := by decide
  unfold Format.read
  simp only [e1, e4, e5, e6]
/-- Bits that are a number. -/
def IsF (x : Nat) : Prop := ∃ s m i, single.read x = .number s m i ∧ m < 2 ^ 24 ∧ -149 ≤ i ∧ i ≤ 104
noncomputable def finB (x : Nat) : Bool := match single.read x with
  | .number .. => true
  | _ => false
def one : Nat := 2 ^ 400
def top : Nat := (2 ^ 24 - 1) * 2 ^ 504
theorem fin_or (x : Nat) : IsF x ∨ (∃ s, single.read x = .infinity s) ∨ ∃ s p, single.read x = .nan s p := by
  have h := read_any x
  have hr : x % 2 ^ 31 < 2 ^ 31 := Nat.mod_lt _ (by decide)
  by_cases h1 : x % 2 ^ 31 < 2 ^ 23
  · rw [if_pos h1] at h
    exact .inl ⟨_, _, _, h, by omega, by omega, by omega⟩
  · rw [if_neg h1] at h
    by_cases h2 : x % 2 ^ 31 < 255 * 2 ^ 23
    · rw [if_pos h2] at h
      refine .inl ⟨_, _, _, h, ?_, by omega, ?_⟩
      · have := Nat.mod_lt (x % 2 ^ 31) (show 0 < 2 ^ 23 by decide); omega
      · have : x % 2 ^ 31 / 2 ^ 23 < 255 := (Nat.div_lt_iff_lt_mul (by decide)).2 h2
        omega
    · rw [if_neg h2] at h
      by_cases h3 : x % 2 ^ 31 = 255 * 2 ^ 23
      · rw [if_pos h3] at h
        exact .inr (.inl ⟨_, h⟩)
      · rw [if_neg h3] at h
        exact .inr (.inr ⟨_, _, h⟩)
theorem nan_read {r : Nat} (h : isNaN r) : ∃ s p, single.read r = .nan s p := by
  obtain ⟨t, rfl⟩ := h
  have hq : t / 2 % (2 ^ 23 - 1) < 2 ^ 23 - 1 := Nat.mod_lt _ (by decide)
  have h := read_any (t % 2 * 2 ^ 31 + 0x7f800000 + 1 + t / 2 % (2 ^ 23 - 1))
  generalize t / 2 % (2 ^ 23 - 1) = q at *
  have hb : t % 2 < 2 := Nat.mod_lt _ (by decide)
  have e : (t % 2 * 2 ^ 31 + 0x7f800000 + 1 + q) % 2 ^ 31 = 0x7f800000 + 1 + q := by omega
  rw [e, if_neg (by omega), if_neg (by omega), if_neg (by omega)] at h
  exact ⟨_, _, h⟩
theorem isF_iff (x : Nat) : IsF x ↔ finB x = true := by
  constructor
  · intro ⟨s, m, i, h, _⟩
    rw [finB, h]
  · intro h
    rcases fin_or x with h1 | ⟨s, h1⟩ | ⟨s, p, h1⟩
    · exact h1
    · rw [finB, h1] at h; cases h
    · rw [finB, h1] at h; cases h
/-- The value of a number, times 2^400. -/
noncomputable def val (x : Nat) : Int := match single.read x with
  | .number s m i => sg s (m * 2 ^ (i + 400).toNat)
  | _ => 0
theorem IsF.has {x : Nat} (h : IsF x) : Has (single.read x) (-149) (val x) := by
  obtain ⟨s, m, i, h1, h2, h3, h4⟩ := h
  exact ⟨s, m, i, h1, h3, by rw [val, h1]⟩
theorem IsF.rep {x : Nat} (h : IsF x) : ∃ n k : Nat, (val x).natAbs = n * 2 ^ k ∧ n < 2 ^ 24 ∧ 251 ≤ k ∧ k ≤ 504 := by
  obtain ⟨s, m, i, h1, h2, h3, h4⟩ := h
  exact ⟨m, (i + 400).toNat, by rw [val, h1]; exact sg_abs _ _, h2, by omega, by omega⟩
theorem has_fin {x : Nat} {v lo : Int} (h : Has (single.read x) lo v) : IsF x ∧ val x = v := by
  obtain ⟨s, m, i, h1, _, h3⟩ := h
  refine ⟨?_, by rw [val, h1]; exact h3⟩
  rcases fin_or x with h | ⟨_, h⟩ | ⟨_, _, h⟩
  · exact h
  · rw [h] at h1; cases h1
  · rw [h] at h1; cases h1
theorem order_val {x y : Nat} (hx : IsF x) (hy : IsF y) : single.order x y = some (compare (val x) (val y)) := Has.order (by decide) hx.has hy.has
theorem lt_val {x y : Nat} (hx : IsF x) (hy : IsF y) : fLt x y = decide (val x < val y) := by
  rw [fLt, fmt32, order_val hx hy]
  by_cases h : val x < val y
  · rw [decide_eq_true h, Int.compare_eq_lt.2 h]; rfl
  · rw [decide_eq_false h]
    have : compare (val x) (val y) ≠ .lt := fun e => h (Int.compare_eq_lt.1 e)
    cases hc : compare (val x) (val y) <;> first | (exact absurd hc this) | rfl
theorem gt_val {x y : Nat} (hx : IsF x) (hy : IsF y) : fGt x y = decide (val y < val x) := by
  rw [fGt, fmt32, order_val hx hy]
  by_cases h : val y < val x
  · rw [decide_eq_true h, Int.compare_eq_gt.2 h]; rfl
  · rw [decide_eq_false h]
    have : compare (val x) (val y) ≠ .gt := fun e => h (Int.compare_eq_gt.1 e)
    cases hc : compare (val x) (val y) <;> first | (exact absurd hc this) | rfl
theorem ne_val {x y : Nat} (hx : IsF x) (hy : IsF y) : fNe x y = decide (val x ≠ val y) := by
  rw [fNe, fmt32, order_val hx hy]
  by_cases h : val x = val y
  · rw [decide_eq_false (by simpa using h), h, Int.compare_eq_eq.2 rfl]; rfl
  · rw [decide_eq_true h]
    have : compare (val x) (val y) ≠ .eq := fun e => h (Int.compare_eq_eq.1 e)
    cases hc : compare (val x) (val y) <;> first | (exact absurd hc this) | rfl
theorem fin_zero : IsF 0 ∧ val 0 = 0 := by
  refine has_fin (lo := -149) ⟨false, 0, -149, by decide, by decide, by decide⟩
/-- A sample less itself: it is 0 just if it is a number. -/
theorem dif_fin {x r : Nat} (h : IsF x) (hd : fDif x x r) : fNe r 0 = false := by
  obtain ⟨d, e, hs⟩ := Has.sum (lo := -149) (by decide) h.has h.has.opposite
  have es : single.sub x x = some (single.write d) := by rw [Format.sub, e]; rfl
  rcases hd with hd | ⟨hd, _⟩
  · rw [fmt32, es] at hd
    cases hd
    have hw := has_fin (hs.write (by decide) (by rw [Int.add_right_neg]; exact ⟨by decide +kernel, 0, 251, by decide +kernel, by decide, by decide⟩))
    rw [ne_val hw.1 fin_zero.1, hw.2, fin_zero.2, Int.add_right_neg]
    simp
  · rw [fmt32, es] at hd
    cases hd
theorem dif_not {x r : Nat} (h : ¬ IsF x) (hd : fDif x x r) : fNe r 0 = true := by
  have es : single.sub x x = none := by
    rcases fin_or x with h1 | ⟨s, h1⟩ | ⟨s, p, h1⟩
    · exact absurd h1 h
    · rw [Format.sub, h1]
      cases s <;> rfl
    · rw [Format.sub, h1]; rfl
  rcases hd with hd | ⟨_, hn⟩
  · rw [fmt32, es] at hd
    cases hd
  · obtain ⟨s, p, e⟩ := nan_read hn
    rw [fNe, fmt32, Format.order, e]; rfl
/-- The reference's test for numbers. -/
theorem fin_max : IsF 0x7f7fffff ∧ val 0x7f7fffff = (top : Int) :=
  has_fin (lo := -149) ⟨false, 2 ^ 24 - 1, 104, by decide +kernel, by decide, by decide +kernel⟩
theorem fin_min : IsF 0xff7fffff ∧ val 0xff7fffff = -(top : Int) :=
  has_fin (lo := -149) ⟨true, 2 ^ 24 - 1, 104, by decide +kernel, by decide, by decide +kernel⟩
theorem pow_up {k j : Nat} (h : k ≤ j) : (2 : Nat) ^ k ≤ 2 ^ j := Nat.pow_le_pow_right (by decide) h
theorem most_of {n k c K : Nat} (hn : n ≤ c) (hk : k ≤ K) : n * 2 ^ k ≤ c * 2 ^ K := Nat.mul_le_mul hn (pow_up hk)
theorem IsF.most {x : Nat} (h : IsF x) : (val x).natAbs ≤ top := by
  obtain ⟨n, k, e, hn, _, hk⟩ := h.rep
  have h2 := most_of (n := n) (k := k) (c := 2 ^ 24 - 1) (K := 504) (by omega) hk
  rw [e]
  unfold top
  exact h2
theorem form_test (x : Nat) : (fNe x x || (fGt x 0x7f7fffff || fLt x 0xff7fffff)) = !finB x := by
  by_cases h : IsF x
  · have hm := h.most
    rw [(isF_iff x).1 h, ne_val h h, gt_val h fin_max.1, lt_val h fin_min.1, fin_max.2, fin_min.2]
    rw [decide_eq_false (by simp), decide_eq_false (by omega), decide_eq_false (by omega)]; rfl
  · have hf : finB x = false := by
      cases hb : finB x
      · rfl
      · exact absurd ((isF_iff x).2 hb) h
    rw [hf]
    rcases fin_or x with h1 | ⟨s, h1⟩ | ⟨s, p, h1⟩
    · exact absurd h1 h
    · obtain ⟨⟨s1, m1, i1, e1, _⟩, _⟩ := fin_max
      obtain ⟨⟨s2, m2, i2, e2, _⟩, _⟩ := fin_min
      rw [fNe, fGt, fLt, fmt32, Format.order, Format.order, Format.order, h1, e1, e2]
      cases s <;> rfl
    · rw [fNe, fmt32, Format.order, h1]; rfl
/-- Sixteen times a sample that is not too great. -/
theorem fin_16 : IsF 0x41800000 ∧ val 0x41800000 = 16 * (one : Int) :=
  has_fin (lo := -149) ⟨false, 2 ^ 23, -19, by decide +kernel, by decide, by decide +kernel⟩
theorem product_comm (d e : Datum) : d.product e = e.product d := by
  cases d <;> cases e <;> simp [Datum.product, Bool.xor_comm, Nat.mul_comm, Int.add_comm]
theorem mul_comm16 (x y : Nat) : fMul x y = fMul y x := by
  rw [fMul, fMul, fmt32, Format.mul, Format.mul, product_comm]
theorem mulOk_comm (x y : Nat) : fMulOk x y ↔ fMulOk y x := by
  rw [fMulOk, fMulOk, fmt32, Format.mul, Format.mul, product_comm]
theorem one_pos : 0 < one := by decide +kernel
theorem one_pow : (2 : Int) ^ 400 = (one : Int) := by decide +kernel
theorem one_nat : (2 : Nat) ^ 400 = one := by unfold one; rfl
theorem one_few : 1024 * one * 16 < 2 ^ 500 := by decide +kernel
theorem mul_16 {x : Nat} (h : IsF x) (hb : (val x).natAbs ≤ 1024 * one) : fMulOk x 0x41800000 ∧ IsF (fMul x 0x41800000) ∧ val (fMul x 0x41800000) = val x * 16 := by
  obtain ⟨r, t, e1, h1, e2⟩ := Has.product (lo := -149) (by decide) h.has fin_16.1.has
  rw [fin_16.2, one_pow] at e2
  have hp := one_pos
  have ht : t = val x * 16 := by
    have : t * (one : Int) = val x * 16 * (one : Int) := by rw [e2, Int.mul_assoc]
    exact Int.eq_of_mul_eq_mul_right (by omega) this
  have es : single.mul x 0x41800000 = some (single.write r) := by rw [Format.mul, e1]; rfl
  obtain ⟨n, k, f1, f2, f3, f4⟩ := h.rep
  have hr : Rep t := by
    rw [ht]
    refine ⟨?_, n, k + 4, ?_, f2, by omega⟩
    · rw [Int.natAbs_mul]
      have h16 : (val x).natAbs * 16 ≤ 1024 * one * 16 := Nat.mul_le_mul_right 16 hb
      have e16 : Int.natAbs 16 = 16 := rfl
      rw [e16]
      exact Nat.lt_of_le_of_lt h16 one_few
    · rw [Int.natAbs_mul, f1, Nat.pow_add, Nat.mul_assoc]; rfl
  have hw := has_fin (h1.write (by decide) hr)
  have em : fMul x 0x41800000 = single.write r := by rw [fMul, fmt32, es]; rfl
  refine ⟨by rw [fMulOk, fmt32, es]; rfl, by rw [em]; exact hw.1, by rw [em, hw.2, ht]⟩
theorem int_ok {x : Nat} (h : IsF x) (hb : (val x).natAbs ≤ 1048576 * one) : fIntOk x ∧ (fInt x).natAbs ≤ 1048576 ∧ ∃ s, sg s (val x).natAbs = val x ∧ fInt x = sg s ((val x).natAbs / one) := by
  obtain ⟨s, e1, e2⟩ := Has.toInt (by decide) h.has
  rw [one_nat] at e2
  have hq : (val x).natAbs / one ≤ 1048576 := Nat.div_le_of_le_mul (by rw [Nat.mul_comm]; exact hb)
  have e3 : floatToIntVal .f32 x .i64 = some (sg s ((val x).natAbs / one)) := by
    have : (FloatKind.f32.decode x).toInt .zero = some (sg s ((val x).natAbs / one)) := e2
    rw [floatToIntVal, this]
    simp only
    generalize (val x).natAbs / one = q at *
    have b1 : IntKind.i64.min = -9223372036854775808 := by decide
    have b2 : IntKind.i64.max = 9223372036854775807 := by decide
    rw [if_pos]
    rw [b1, b2]
    cases s <;> simp only [sg, if_true, Bool.false_eq_true, if_false] <;> omega
  refine ⟨by rw [fIntOk, e3]; rfl, by rw [fInt, e3]; simp only [Option.getD_some]; rw [sg_abs]; exact hq, s, e1, by rw [fInt, e3]; rfl⟩
theorem fin_1024 : IsF 0x44800000 ∧ val 0x44800000 = 1024 * (one : Int) :=
  has_fin (lo := -149) ⟨false, 2 ^ 23, -13, by decide +kernel, by decide, by decide +kernel⟩
theorem fin_m1024 : IsF 0xc4800000 ∧ val 0xc4800000 = -(1024 * (one : Int)) :=
  has_fin (lo := -149) ⟨true, 2 ^ 23, -13, by decide +kernel, by decide, by decide +kernel⟩
theorem range_test {x : Nat} (h : IsF x) (h1 : fLt x 0xc4800000 = false) (h2 : fGt x 0x44800000 = false) : (val x).natAbs ≤ 1024 * one := by
  rw [lt_val h fin_m1024.1, fin_m1024.2] at h1
  rw [gt_val h fin_1024.1, fin_1024.2] at h2
  have h1 := of_decide_eq_false h1
  have h2 := of_decide_eq_false h2
  omega
end Fl
end
section
/- Contracts of the small functions of chapter 8: errors, ranges, moments, quotients in lowest terms. -/
open Go Go.Vm Go.Proofs Sp
namespace Qq
noncomputable section

theorem hm : Try.prog.follows .mixedOrders = true := by kernel_rfl
theorem ints_at {l : List Int} {i : Nat} (h : i < l.length) : (ints l)[i]? = some (.int .i64 (l.getD i 0)) := by
  simp [ints, List.getD_eq_getElem?_getD, h]
theorem fi_drop {l : List Int} {i : Nat} (h : i < l.length) : fi (l.drop i) = if l.getD i 0 = 0 then fi (l.drop (i + 1)) else l.getD i 0 := by
  rw [List.drop_eq_getElem_cons h]
  simp [fi, List.getD_eq_getElem?_getD, h]

noncomputable def orcWhen : Orc
  | [.bool b, .int .i64 e], [] => some (.int .i64 (wh b e), [])
  | _, _ => none
noncomputable def orcFirst : Orc
  | [.slice (some ⟨0, 0, none⟩) n _c], [some (.row cells es more rw true)] =>
    match intsOf cells with
    | some l => if n = l.length ∧ n < 1000 then some (.int .i64 (fi l), [some (.row cells es more rw true)]) else none
    | none => none
  | _, _ => none

noncomputable def c0 : CallF := ctx Try.prog []
theorem c0_ok : CallOK Try.prog c0 := ctx_ok hm all_nil
noncomputable def h0 : Hs Try.prog := {au := au0 Try.prog}
noncomputable def lpFirst (l : List Int) (n c es : Nat) (more rw : Bool) : Lp where
  σ := Nat
  E i := slots 15 [(5, .slice (some ⟨0, 0, none⟩) n c), (6, .int .i64 (Int.ofNat n)), (7, .int .i64 (Int.ofNat i))]
  Hp _ := [some (.row (ints l) es more rw true)]
  I i := i ≤ l.length ∧ fi (l.drop i) = fi l
  m i := l.length - i
noncomputable def hFirst (l : List Int) (n c es : Nat) (more rw : Bool) : Hs Try.prog where
  op k := if k = 300 then some (hIa Try.prog) else if k = 301 then some (hLd Try.prog fun off => .int .i64 (l.getD off 0)) else none
  lp _ := some (lpFirst l n c es more rw)
  cl _ := keep 15 [5, 6, 7]
noncomputable def orcWithin : Orc
  | [.int .i64 n, .int .i64 lo, .int .i64 hi], [] => some (.int .i64 (wi n lo hi), [])
  | _, _ => none
/-- CheckMoments. -/
noncomputable def ckM (n a b : Int) : Int :=
  sel (fi [wi n 0 4096, wi a (W (W (0 - n) * 16384)) (W (n * 16384)), wi b 0 (W (n * 268435456))]) (wh (decide (W (n * b) < W (a * a))) 24)
noncomputable def orcCkM : Orc
  | [.agg ⟨[.int .i64 n, .int .i64 a, .int .i64 b]⟩], [] => some (.int .i64 (ckM n a b), [])
  | _, _ => none
theorem max_abs {n : Int} (h1 : -9223372036854775808 < n) (h2 : n < 9223372036854775808) : (if W (0 - n) > n then W (0 - n) else n) = (n.natAbs : Int) := by
  rw [W, wrap_eq (by omega) (by omega)]
  split <;> omega
theorem gcd_step {a b : Nat} : Nat.gcd b (a % b) = Nat.gcd a b := by
  rw [Nat.gcd_comm a b, Nat.gcd_rec b a, Nat.gcd_comm]
noncomputable def lowN (num den : Int) : Int := W (num.tdiv (Nat.gcd num.natAbs den.natAbs))
noncomputable def lowD (num den : Int) : Int := W (den.tdiv (Nat.gcd num.natAbs den.natAbs))
noncomputable def orcLow : OrcV
  | [.int .i64 num, .int .i64 den], [] => some (.agg #[.int .i64 (lowN num den), .int .i64 (lowD num den)], [], 0 < den ∧ den < 9223372036854775808 ∧ -9223372036854775808 < num ∧ num < 9223372036854775808)
  | _, _ => none
/-! ### Plain facts -/
theorem fi_zero : ∀ {l : List Int}, fi l = 0 ↔ ∀ e ∈ l, e = 0
  | [] => by simp [fi]
  | e :: r => by
    simp only [fi, List.mem_cons, forall_eq_or_imp]
    split
    · rename_i h; rw [fi_zero (l := r)]; simp [h]
    · rename_i h; simp [h]
theorem wi_zero {n lo hi : Int} : wi n lo hi = 0 ↔ lo ≤ n ∧ n ≤ hi := by
  unfold wi
  split <;> omega
theorem wh_zero {b : Bool} {e : Int} (he : e ≠ 0) : wh b e = 0 ↔ b = false := by
  cases b <;> simp [wh, he]
theorem sel_zero {e d : Int} : sel e d = 0 ↔ e = 0 ∧ d = 0 := by
  unfold sel
  split <;> simp_all
/-- Moments that pass. -/
structure MomOK (n a b : Int) : Prop where
  n0 : 0 ≤ n
  n1 : n ≤ 4096
  a0 : -(n * 16384) ≤ a
  a1 : a ≤ n * 16384
  b0 : 0 ≤ b
  b1 : b ≤ n * 268435456
  ab : a * a ≤ n * b
  aa : a * a ≤ 4503599627370496
  nb : n * b ≤ 4503599627370496
  nb0 : 0 ≤ n * b
  aa0 : 0 ≤ a * a

noncomputable def ifz (e x : Int) : Int := if e = 0 then x else 0
noncomputable def addE (n a b m c d : Int) : Int := sel (fi [ckM n a b, ckM m c d]) (wh (decide (4096 < W (n + m))) 5)
noncomputable def orcAdd : Orc
  | [.agg ⟨[.int .i64 n, .int .i64 a, .int .i64 b]⟩, .agg ⟨[.int .i64 m, .int .i64 c, .int .i64 d]⟩], [] =>
    some (.tuple #[.agg #[.int .i64 (ifz (addE n a b m c d) (W (n + m))), .int .i64 (ifz (addE n a b m c d) (W (a + c))), .int .i64 (ifz (addE n a b m c d) (W (b + d)))], .int .i64 (addE n a b m c d)], [])
  | _, _ => none
noncomputable def h4 : Hs Try.prog := {au := au0 Try.prog}
noncomputable def varE (n a b : Int) : Int := fi [ckM n a b, wh (n == 0) 12]
noncomputable def varN (n a b : Int) : Int := lowN (W (W (n * b) - W (a * a))) (W (n * n))
noncomputable def varD (n a b : Int) : Int := lowD (W (W (n * b) - W (a * a))) (W (n * n))
noncomputable def orcVar : Orc
  | [.agg ⟨[.int .i64 n, .int .i64 a, .int .i64 b]⟩], [] => some (.tuple #[.agg #[.int .i64 (ifz (varE n a b) (varN n a b)), .int .i64 (ifz (varE n a b) (varD n a b))], .int .i64 (varE n a b)], [])
  | _, _ => none
/-! ### The reference -/
theorem whenR_t (b : Bool) (e : Int) (K : Value → Heap → Prop) :
    (fnP Try.prog c0 h0 (27 : FuncId) [Value.bool b, Value.int IntKind.i64 e] [] K) =
    (br b (K (Value.int IntKind.i64 e) noH) (K (Value.int IntKind.i64 (0 : Int)) noH)) := by kernel_rfl
theorem okWhenR : Ok Try.prog 27 orcWhen := by
  intro args H ret H' h
  unfold orcWhen at h
  split at h
  · cases h
    refine fnP_res hm c0_ok (hs := h0) ?_
    rw [whenR_t]
    exact br_of (fun h => by simp [wh, h]) (fun h => by simp [wh, h])
  · cases h
noncomputable def lpFirstR (l : List Int) (n c es : Nat) (more rw : Bool) : Lp where
  σ := Nat
  E i := slots 19 [(0, .slice (some ⟨0, 0, none⟩) n c), (3, .int .i64 (Int.ofNat i))]
  Hp _ := [some (.row (ints l) es more rw true)]
  I i := i ≤ l.length ∧ fi (l.drop i) = fi l
  m i := l.length - i
noncomputable def hFirstR (l : List Int) (n c es : Nat) (more rw : Bool) : Hs Try.prog where
  op k := if k = 402 then some (hIa Try.prog) else if k = 502 then some (hIa Try.prog) else if k = 403 then some (hLd Try.prog fun off => .int .i64 (l.getD off 0)) else if k = 503 then some (hLd Try.prog fun off => .int .i64 (l.getD off 0)) else none
  lp _ := some (lpFirstR l n c es more rw)
  cl _ := keep 19 [0, 3]
theorem firstR_t (l : List Int) (n : Nat) (c : Nat) (es : Nat) (more : Bool) (rw : Bool) (K : Value → Heap → Prop) :
    (fnP Try.prog c0 (hFirstR l n c es more rw) (23 : FuncId) [Value.slice (some { block := (0 : Nat), off := (0 : Nat) }) n c] [some (AObj.row (ints l) es more rw true)] K) =
    ((∃ s, Is (s ≤ List.length l ∧ fi (List.drop s l) = fi l) ∧ [Value.slice (some { block := (0 : Nat), off := (0 : Nat) }) n c, poi, poi, Value.int IntKind.i64 (0 : Int), poi, poi, poi, poi, poi, poi, poi, poi, poi, poi, poi, poi, poi, poi, poi] = [Value.slice (some { block := (0 : Nat), off := (0 : Nat) }) n c, poi, poi, Value.int IntKind.i64 (↑s : Int), poi, poi, poi, poi, poi, poi, poi, poi, poi, poi, poi, poi, poi, poi, poi] ∧ some (AObj.row (ints l) es more rw true) :: noH = some (AObj.row (ints l) es more rw true) :: noH) ∧ ∀ (s : Nat), Is (s ≤ List.length l ∧ fi (List.drop s l) = fi l) → br (decide ((↑s : Int) < (↑n : Int))) (Is ((0 : Int) ≤ (↑s : Int) ∧ (↑s : Int) < (↑n : Int)) ∧ Is ((ints l)[(0 : Nat) + Int.toNat (↑s : Int) * (1 : Nat)]? = some (Value.int IntKind.i64 (List.getD l ((0 : Nat) + Int.toNat (↑s : Int) * (1 : Nat)) (0 : Int)))) ∧ br (List.getD l ((0 : Nat) + Int.toNat (↑s : Int) * (1 : Nat)) (0 : Int) != (0 : Int)) (Is ((0 : Int) ≤ (↑s : Int) ∧ (↑s : Int) < (↑n : Int)) ∧ Is ((ints l)[(0 : Nat) + Int.toNat (↑s : Int) * (1 : Nat)]? = some (Value.int IntKind.i64 (List.getD l ((0 : Nat) + Int.toNat (↑s : Int) * (1 : Nat)) (0 : Int)))) ∧ K (Value.int IntKind.i64 (List.getD l ((0 : Nat) + Int.toNat (↑s : Int) * (1 : Nat)) (0 : Int))) (some (AObj.row (ints l) es more rw true) :: noH)) (∃ s', Is (s' ≤ List.length l ∧ fi (List.drop s' l) = fi l) ∧ Is (List.length l - s' < List.length l - s) ∧ [Value.slice (some { block := (0 : Nat), off := (0 : Nat) }) n c, poi, poi, Value.int IntKind.i64 (IntKind.wrap IntKind.i64 ((↑s : Int) + (1 : Int))), poi, poi, poi, poi, poi, poi, poi, poi, poi, poi, poi, poi, poi, poi, poi] = [Value.slice (some { block := (0 : Nat), off := (0 : Nat) }) n c, poi, poi, Value.int IntKind.i64 (↑s' : Int), poi, poi, poi, poi, poi, poi, poi, poi, poi, poi, poi, poi, poi, poi, poi] ∧ some (AObj.row (ints l) es more rw true) :: noH = some (AObj.row (ints l) es more rw true) :: noH)) (K (Value.int IntKind.i64 (0 : Int)) (some (AObj.row (ints l) es more rw true) :: noH))) := by kernel_rfl
theorem okFirstR : Ok Try.prog 23 orcFirst := by
  intro args H ret H' h
  unfold orcFirst at h
  split at h
  · rename_i n c cells es more rw
    split at h
    · rename_i l hl
      split at h
      · rename_i hn
        cases h
        have := intsOf_eq hl
        subst this
        obtain ⟨hn, hlt⟩ := hn
        subst hn
        refine fnP_res hm c0_ok (hs := hFirstR l l.length c es more rw) ?_
        rw [firstR_t]
        refine ⟨⟨(0 : Nat), ⟨by simp, by simp⟩, rfl, rfl⟩, fun s hs => ?_⟩
        obtain ⟨h1, h2⟩ := hs.out
        refine br_of (fun hc => ?_) (fun hc => ?_)
        · have hc : s < l.length := by simpa using hc
          have hat := ints_at hc
          refine ⟨⟨by omega, by omega⟩, ⟨by simpa using hat⟩, br_of (fun hd => ?_) (fun hd => ?_)⟩
          · have := fi_drop hc
            have hd' : l.getD s 0 ≠ 0 := by simpa using hd
            rw [if_neg hd'] at this
            refine ⟨⟨by omega, by omega⟩, ⟨by simpa using hat⟩, ?_⟩
            simp [← h2, this]
          · have := fi_drop hc
            have hd' : l.getD s 0 = 0 := by simpa using hd
            rw [if_pos hd'] at this
            refine ⟨s + 1, ⟨hc, by rw [← this, h2]⟩, ⟨by omega⟩, ?_, rfl⟩
            rw [wrap_eq (by omega) (by omega)]
            rfl
        · have hc : l.length ≤ s := by simpa using hc
          have : s = l.length := by omega
          subst this
          simp [← h2, fi]
      · cases h
    · cases h
  · cases h
noncomputable def r1 : List (Nat × Orc) := [(27, orcWhen), (23, orcFirst)]
theorem r1_all : ∀ p ∈ r1, Ok Try.prog p.1 p.2 := all_cons okWhenR (all_cons okFirstR all_nil)
noncomputable def cr1 : CallF := ctx Try.prog r1
theorem cr1_ok : CallOK Try.prog cr1 := ctx_ok hm r1_all
theorem rangeR_t (n : Int) (lo : Int) (hi : Int) (K : Value → Heap → Prop) :
    (fnP Try.prog cr1 h0 (25 : FuncId) [Value.int IntKind.i64 n, Value.int IntKind.i64 lo, Value.int IntKind.i64 hi] [] K) =
    (br (decide (n < lo)) (K (Value.int IntKind.i64 (3 : Int)) noH) (K (Value.int IntKind.i64 (wh (decide (hi < n)) (3 : Int))) noH)) := by kernel_rfl
theorem okRangeR : Ok Try.prog 25 orcWithin := by
  intro args H ret H' h
  unfold orcWithin at h
  split at h
  · cases h
    refine fnP_res hm cr1_ok (hs := h0) ?_
    rw [rangeR_t]
    exact br_of (fun h => by simp [wi, of_decide_eq_true h]) (fun h => by simp [wi, wh, of_decide_eq_false h])
  · cases h
noncomputable def r2 : List (Nat × Orc) := (25, orcWithin) :: r1
theorem r2_all : ∀ p ∈ r2, Ok Try.prog p.1 p.2 := all_cons okRangeR r1_all
noncomputable def cr2 : CallF := ctx Try.prog r2
theorem cr2_ok : CallOK Try.prog cr2 := ctx_ok hm r2_all
noncomputable def lpDiv (g : Nat) : Lp where
  σ := Nat × Nat
  E s := slots 20 [(0, .int .i64 (Int.ofNat s.1)), (1, .int .i64 (Int.ofNat s.2))]
  Hp _ := []
  I s := Nat.gcd s.1 s.2 = g ∧ s.1 < 9223372036854775808 ∧ s.2 < 9223372036854775808
  m s := s.2
noncomputable def hDiv (g : Nat) : Hs Try.prog where
  lp _ := some (lpDiv g)
  cl _ := keep 20 [0, 1]
  au := au0 Try.prog
end
end Qq
end
section
/- The reference's moments and quotients; the statement on moments. -/
open Go Go.Vm Go.Proofs Sp
namespace Qq
noncomputable section

noncomputable def orcDiv : OrcV
  | [.int .i64 a, .int .i64 b], [] => some (.int .i64 (Int.ofNat (Nat.gcd a.natAbs b.natAbs)), [], -9223372036854775808 < a ∧ a < 9223372036854775808 ∧ -9223372036854775808 < b ∧ b < 9223372036854775808)
  | _, _ => none
/-- The reference's CheckMoments. -/
noncomputable def ckR (n a b : Int) : Int :=
  sel (wi n 0 4096) (sel (fi [wi a (W (0 - W (n * 16384))) (W (n * 16384)), wi b 0 (W (n * 268435456))]) (wh (decide (W (n * b) < W (a * a))) 24))
noncomputable def orcCkR : Orc
  | [.agg ⟨[.int .i64 n, .int .i64 a, .int .i64 b]⟩], [] => some (.int .i64 (ckR n a b), [])
  | _, _ => none
noncomputable def orcAddR : Orc
  | [.agg ⟨[.int .i64 n, .int .i64 a, .int .i64 b]⟩, .agg ⟨[.int .i64 m, .int .i64 c, .int .i64 d]⟩], [] =>
    some (.agg #[.int .i64 (W (n + m)), .int .i64 (W (a + c)), .int .i64 (W (b + d))], [])
  | _, _ => none
noncomputable def orcTrue : Orc
  | [], [] => some (.bool true, [])
  | _, _ => none
end
end Qq
end
section
/- Sections: copies of them. -/
open Go Go.Vm Go.Proofs Sp
namespace Qq
noncomputable section

/-- The cells of interventions. -/
noncomputable def acs : List (Int × ByteArray) → List Value
  | [] => []
  | a :: r => .int .i64 a.1 :: .string a.2 :: acs r
theorem ints_len (zs : List Int) : (ints zs).length = zs.length := by simp [ints]
theorem ints_take (zs : List Int) (i : Nat) : (ints zs).take i = ints (zs.take i) := by simp [ints, List.map_take]
theorem ints_drop (zs : List Int) (i : Nat) : (ints zs).drop i = ints (zs.drop i) := by simp [ints, List.map_drop]
theorem ints_app (zs ys : List Int) : ints zs ++ ints ys = ints (zs ++ ys) := by simp [ints]
theorem pair_at {zs : List Int} {i : Nat} (h : i + 2 ≤ zs.length) : (zs.drop i).take 2 = [zs.getD i 0, zs.getD (i + 1) 0] := by
  have h1 : i < zs.length := by omega
  have h2 : i + 1 < zs.length := by omega
  rw [List.drop_eq_getElem_cons h1, List.drop_eq_getElem_cons h2]
  simp only [List.take_succ_cons, List.take_zero, List.getD_eq_getElem?_getD, List.getElem?_eq_getElem h1, List.getElem?_eq_getElem h2, Option.getD_some]
theorem ints_pair {zs : List Int} {i : Nat} (h : i + 2 ≤ zs.length) : ((ints zs).drop i).take 2 = [.int .i64 (zs.getD i 0), .int .i64 (zs.getD (i + 1) 0)] := by
  rw [ints_drop, ints_take, pair_at h]; rfl
/-- The program's loops count in 64 bits. -/
theorem up1 {s n : Nat} (h : s < n) (hn : n ≤ 100000) : IntKind.wrap .i64 ((s : Int) + 1) = ((s + 1 : Nat) : Int) := by
  rw [wrap_eq (by omega) (by omega)]; rfl
theorem lt_of_dec {s n : Nat} (h : decide ((s : Int) < (n : Int)) = true) : s < n := by simpa using h
theorem ge_of_dec {s n : Nat} (h : decide ((s : Int) < (n : Int)) = false) : n ≤ s := by simpa using h
end
end Qq
end
section
/- Names. -/
open Go Go.Vm Go.Proofs Sp
namespace Sp
noncomputable section
noncomputable def letI' (c : Int) : Bool := (decide (97 ≤ c) && decide (c ≤ 122)) || (decide (65 ≤ c) && decide (c ≤ 90))
noncomputable def digI (c : Int) : Bool := decide (48 ≤ c) && decide (c ≤ 57)
noncomputable def in2 (c : Int) : Bool := letI' c || digI c || c == 95
noncomputable def nameL (l : List UInt8) : Bool :=
  match l with
  | [] => false
  | b :: r => decide (r.length < 24) && letI' b.toNat && r.all fun b => in2 b.toNat
noncomputable def nameB (s : ByteArray) : Bool := nameL s.data.toList
end
end Sp
namespace Qq
noncomputable section
noncomputable def orcLet : Orc
  | [.int .i32 c], [] => some (.bool (letI' c), [])
  | _, _ => none
noncomputable def orcDig : Orc
  | [.int .i32 c], [] => some (.bool (digI c), [])
  | _, _ => none
noncomputable def orcLet8 : Orc
  | [.int .u8 c], [] => some (.bool (letI' c), [])
  | _, _ => none
noncomputable def orcDig8 : Orc
  | [.int .u8 c], [] => some (.bool (digI c), [])
  | _, _ => none
theorem let_t (c : Int) (K : Value → Heap → Prop) :
    (fnP Try.prog c0 h0 (63 : FuncId) [Value.int IntKind.i32 c] [] K) =
    (br (decide ((97 : Int) ≤ c)) (br (decide (c ≤ (122 : Int))) (K (Value.bool true) noH) (br (decide ((65 : Int) ≤ c)) (K (Value.bool (decide (c ≤ (90 : Int)))) noH) (K (Value.bool false) noH))) (br (decide ((65 : Int) ≤ c)) (K (Value.bool (decide (c ≤ (90 : Int)))) noH) (K (Value.bool false) noH))) := by kernel_rfl
theorem dig_t (c : Int) (K : Value → Heap → Prop) :
    (fnP Try.prog c0 h0 (64 : FuncId) [Value.int IntKind.i32 c] [] K) =
    (br (decide ((48 : Int) ≤ c)) (K (Value.bool (decide (c ≤ (57 : Int)))) noH) (K (Value.bool false) noH)) := by kernel_rfl
theorem let8_t (c : Int) (K : Value → Heap → Prop) :
    (fnP Try.prog c0 h0 (67 : FuncId) [Value.int IntKind.u8 c] [] K) =
    (br (decide ((65 : Int) ≤ c)) (br (decide (c ≤ (90 : Int))) (K (Value.bool true) noH) (br (decide ((97 : Int) ≤ c)) (K (Value.bool (decide (c ≤ (122 : Int)))) noH) (K (Value.bool false) noH))) (br (decide ((97 : Int) ≤ c)) (K (Value.bool (decide (c ≤ (122 : Int)))) noH) (K (Value.bool false) noH))) := by kernel_rfl
theorem dig8_t (c : Int) (K : Value → Heap → Prop) :
    (fnP Try.prog c0 h0 (68 : FuncId) [Value.int IntKind.u8 c] [] K) =
    (br (decide ((48 : Int) ≤ c)) (K (Value.bool (decide (c ≤ (57 : Int)))) noH) (K (Value.bool false) noH)) := by kernel_rfl
noncomputable def tN : List (Nat × Orc) := [(63, orcLet), (64, orcDig)]
noncomputable def cN : CallF := ctx Try.prog tN
noncomputable def lpName (s : ByteArray) : Lp where
  σ := Nat
  E _ := slots 35 [(0, .string s), (6, .pointer (some ⟨0, 0, none⟩))]
  Hp p := [some (.iter s p)]
  I p := p ≤ s.size ∧ ∀ i, i < p → in2 (bt s i) = true ∧ (i = 0 → letI' (bt s i) = true)
  m p := s.size - p
noncomputable def hsName (s : ByteArray) : Hs Try.prog where
  lp _ := some (lpName s)
  cl _ := keep 35 [0, 6]
  au := au0 Try.prog
theorem name_t (s : ByteArray) (K : Value → Heap → Prop) :
    (fnP Try.prog cN (hsName s) (50 : FuncId) [Value.string s] [] K) =
    ((∃ s_1, Is (s_1 ≤ ByteArray.size s ∧ ∀ (i : Nat), i < s_1 → in2 (bt s i) = true ∧ (i = (0 : Nat) → letI' (bt s i) = true)) ∧ [Value.string s, poi, poi, poi, poi, poi, Value.pointer (some { block := (0 : Nat), off := (0 : Nat) }), poi, poi, poi, poi, poi, poi, poi, poi, poi, poi, poi, poi, poi, poi, poi, poi, poi, poi, poi, poi, poi, poi, poi, poi, poi, poi, poi, poi] = [Value.string s, poi, poi, poi, poi, poi, Value.pointer (some { block := (0 : Nat), off := (0 : Nat) }), poi, poi, poi, poi, poi, poi, poi, poi, poi, poi, poi, poi, poi, poi, poi, poi, poi, poi, poi, poi, poi, poi, poi, poi, poi, poi, poi, poi] ∧ some (AObj.iter s (0 : Nat)) :: noH = some (AObj.iter s s_1) :: noH) ∧ ∀ (s_1 : Nat), Is (s_1 ≤ ByteArray.size s ∧ ∀ (i : Nat), i < s_1 → in2 (bt s i) = true ∧ (i = (0 : Nat) → letI' (bt s i) = true)) → br (decide (s_1 < ByteArray.size s)) (br (!letI' (↑(Prod.fst (Utf8.decode s s_1)) : Int)) (br ((↑s_1 : Int) == (0 : Int)) (K (Value.bool false) noH) (br (!digI (↑(Prod.fst (Utf8.decode s s_1)) : Int)) (br ((↑(Prod.fst (Utf8.decode s s_1)) : Int) != (95 : Int)) (K (Value.bool false) noH) (∃ s', Is (s' ≤ ByteArray.size s ∧ ∀ (i : Nat), i < s' → in2 (bt s i) = true ∧ (i = (0 : Nat) → letI' (bt s i) = true)) ∧ Is (ByteArray.size s - s' < ByteArray.size s - s_1) ∧ [Value.string s, poi, poi, poi, poi, poi, Value.pointer (some { block := (0 : Nat), off := (0 : Nat) }), poi, poi, poi, poi, poi, poi, poi, poi, poi, poi, poi, poi, poi, poi, poi, poi, poi, poi, poi, poi, poi, poi, poi, poi, poi, poi, poi, poi] = [Value.string s, poi, poi, poi, poi, poi, Value.pointer (some { block := (0 : Nat), off := (0 : Nat) }), poi, poi, poi, poi, poi, poi, poi, poi, poi, poi, poi, poi, poi, poi, poi, poi, poi, poi, poi, poi, poi, poi, poi, poi, poi, poi, poi, poi] ∧ some (AObj.iter s (s_1 + Prod.snd (Utf8.decode s s_1))) :: noH = some (AObj.iter s s') :: noH)) (∃ s', Is (s' ≤ ByteArray.size s ∧ ∀ (i : Nat), i < s' → in2 (bt s i) = true ∧ (i = (0 : Nat) → letI' (bt s i) = true)) ∧ Is (ByteArray.size s - s' < ByteArray.size s - s_1) ∧ [Value.string s, poi, poi, poi, poi, poi, Value.pointer (some { block := (0 : Nat), off := (0 : Nat) }), poi, poi, poi, poi, poi, poi, poi, poi, poi, poi, poi, poi, poi, poi, poi, poi, poi, poi, poi, poi, poi, poi, poi, poi, poi, poi, poi, poi] = [Value.string s, poi, poi, poi, poi, poi, Value.pointer (some { block := (0 : Nat), off := (0 : Nat) }), poi, poi, poi, poi, poi, poi, poi, poi, poi, poi, poi, poi, poi, poi, poi, poi, poi, poi, poi, poi, poi, poi, poi, poi, poi, poi, poi, poi] ∧ some (AObj.iter s (s_1 + Prod.snd (Utf8.decode s s_1))) :: noH = some (AObj.iter s s') :: noH))) (∃ s', Is (s' ≤ ByteArray.size s ∧ ∀ (i : Nat), i < s' → in2 (bt s i) = true ∧ (i = (0 : Nat) → letI' (bt s i) = true)) ∧ Is (ByteArray.size s - s' < ByteArray.size s - s_1) ∧ [Value.string s, poi, poi, poi, poi, poi, Value.pointer (some { block := (0 : Nat), off := (0 : Nat) }), poi, poi, poi, poi, poi, poi, poi, poi, poi, poi, poi, poi, poi, poi, poi, poi, poi, poi, poi, poi, poi, poi, poi, poi, poi, poi, poi, poi] = [Value.string s, poi, poi, poi, poi, poi, Value.pointer (some { block := (0 : Nat), off := (0 : Nat) }), poi, poi, poi, poi, poi, poi, poi, poi, poi, poi, poi, poi, poi, poi, poi, poi, poi, poi, poi, poi, poi, poi, poi, poi, poi, poi, poi, poi] ∧ some (AObj.iter s (s_1 + Prod.snd (Utf8.decode s s_1))) :: noH = some (AObj.iter s s') :: noH)) (br (decide ((0 : Int) < (↑(ByteArray.size s) : Int))) (K (Value.bool (decide ((↑(ByteArray.size s) : Int) ≤ (24 : Int)))) noH) (K (Value.bool false) noH))) := by kernel_rfl
noncomputable def tN8 : List (Nat × Orc) := [(67, orcLet8), (68, orcDig8)]
noncomputable def cN8 : CallF := ctx Try.prog tN8
noncomputable def lpName8 (s : ByteArray) : Lp where
  σ := Nat
  E p := slots 42 [(0, .string s), (3, .int .i64 (Int.ofNat p))]
  Hp _ := []
  I p := 1 ≤ p ∧ p ≤ s.size ∧ letI' (bt s 0) = true ∧ s.size ≤ 24 ∧ ∀ i, i < p → in2 (bt s i) = true
  m p := s.size - p
noncomputable def hsName8 (s : ByteArray) : Hs Try.prog where
  op x := if x = 110 then some (hSi Try.prog) else if x = 602 then some (hSi Try.prog) else if x = 608 then some (hSi Try.prog) else if x = 615 then some (hSi Try.prog) else none
  lp _ := some (lpName8 s)
  cl _ := keep 42 [0, 3]
  au := au0 Try.prog
theorem name8_t (s : ByteArray) (K : Value → Heap → Prop) :
    (fnP Try.prog cN8 (hsName8 s) (54 : FuncId) [Value.string s] [] K) =
    (br ((↑(ByteArray.size s) : Int) == (0 : Int)) (K (Value.bool false) noH) (br (decide ((24 : Int) < (↑(ByteArray.size s) : Int))) (K (Value.bool false) noH) (Is ((0 : Int) ≤ (0 : Int) ∧ (0 : Int) < (↑(ByteArray.size s) : Int)) ∧ br (!letI' (bt s (0 : Nat))) (K (Value.bool false) noH) ((∃ s_1, Is ((1 : Nat) ≤ s_1 ∧ s_1 ≤ ByteArray.size s ∧ letI' (bt s (0 : Nat)) = true ∧ ByteArray.size s ≤ (24 : Nat) ∧ ∀ (i : Nat), i < s_1 → in2 (bt s i) = true) ∧ [Value.string s, poi, poi, Value.int IntKind.i64 (1 : Int), poi, poi, poi, poi, poi, poi, poi, poi, poi, poi, poi, poi, poi, poi, poi, poi, poi, poi, poi, poi, poi, poi, poi, poi, poi, poi, poi, poi, poi, poi, poi, poi, poi, poi, poi, poi, poi, poi] = [Value.string s, poi, poi, Value.int IntKind.i64 (↑s_1 : Int), poi, poi, poi, poi, poi, poi, poi, poi, poi, poi, poi, poi, poi, poi, poi, poi, poi, poi, poi, poi, poi, poi, poi, poi, poi, poi, poi, poi, poi, poi, poi, poi, poi, poi, poi, poi, poi, poi] ∧ noH = noH) ∧ ∀ (s_1 : Nat), Is ((1 : Nat) ≤ s_1 ∧ s_1 ≤ ByteArray.size s ∧ letI' (bt s (0 : Nat)) = true ∧ ByteArray.size s ≤ (24 : Nat) ∧ ∀ (i : Nat), i < s_1 → in2 (bt s i) = true) → br (decide ((↑s_1 : Int) < (↑(ByteArray.size s) : Int))) (Is ((0 : Int) ≤ (↑s_1 : Int) ∧ (↑s_1 : Int) < (↑(ByteArray.size s) : Int)) ∧ br (!letI' (bt s (Int.toNat (↑s_1 : Int)))) (Is ((0 : Int) ≤ (↑s_1 : Int) ∧ (↑s_1 : Int) < (↑(ByteArray.size s) : Int)) ∧ br (!digI (bt s (Int.toNat (↑s_1 : Int)))) (Is ((0 : Int) ≤ (↑s_1 : Int) ∧ (↑s_1 : Int) < (↑(ByteArray.size s) : Int)) ∧ br (bt s (Int.toNat (↑s_1 : Int)) != (95 : Int)) (K (Value.bool false) noH) (∃ s', Is ((1 : Nat) ≤ s' ∧ s' ≤ ByteArray.size s ∧ letI' (bt s (0 : Nat)) = true ∧ ByteArray.size s ≤ (24 : Nat) ∧ ∀ (i : Nat), i < s' → in2 (bt s i) = true) ∧ Is (ByteArray.size s - s' < ByteArray.size s - s_1) ∧ [Value.string s, poi, poi, Value.int IntKind.i64 (IntKind.wrap IntKind.i64 ((↑s_1 : Int) + (1 : Int))), poi, poi, poi, poi, poi, poi, poi, poi, poi, poi, poi, poi, poi, poi, poi, poi, poi, poi, poi, poi, poi, poi, poi, poi, poi, poi, poi, poi, poi, poi, poi, poi, poi, poi, poi, poi, poi, poi] = [Value.string s, poi, poi, Value.int IntKind.i64 (↑s' : Int), poi, poi, poi, poi, poi, poi, poi, poi, poi, poi, poi, poi, poi, poi, poi, poi, poi, poi, poi, poi, poi, poi, poi, poi, poi, poi, poi, poi, poi, poi, poi, poi, poi, poi, poi, poi, poi, poi] ∧ noH = noH)) (∃ s', Is ((1 : Nat) ≤ s' ∧ s' ≤ ByteArray.size s ∧ letI' (bt s (0 : Nat)) = true ∧ ByteArray.size s ≤ (24 : Nat) ∧ ∀ (i : Nat), i < s' → in2 (bt s i) = true) ∧ Is (ByteArray.size s - s' < ByteArray.size s - s_1) ∧ [Value.string s, poi, poi, Value.int IntKind.i64 (IntKind.wrap IntKind.i64 ((↑s_1 : Int) + (1 : Int))), poi, poi, poi, poi, poi, poi, poi, poi, poi, poi, poi, poi, poi, poi, poi, poi, poi, poi, poi, poi, poi, poi, poi, poi, poi, poi, poi, poi, poi, poi, poi, poi, poi, poi, poi, poi, poi, poi] = [Value.string s, poi, poi, Value.int IntKind.i64 (↑s' : Int), poi, poi, poi, poi, poi, poi, poi, poi, poi, poi, poi, poi, poi, poi, poi, poi, poi, poi, poi, poi, poi, poi, poi, poi, poi, poi, poi, poi, poi, poi, poi, poi, poi, poi, poi, poi, poi, poi] ∧ noH = noH)) (∃ s', Is ((1 : Nat) ≤ s' ∧ s' ≤ ByteArray.size s ∧ letI' (bt s (0 : Nat)) = true ∧ ByteArray.size s ≤ (24 : Nat) ∧ ∀ (i : Nat), i < s' → in2 (bt s i) = true) ∧ Is (ByteArray.size s - s' < ByteArray.size s - s_1) ∧ [Value.string s, poi, poi, Value.int IntKind.i64 (IntKind.wrap IntKind.i64 ((↑s_1 : Int) + (1 : Int))), poi, poi, poi, poi, poi, poi, poi, poi, poi, poi, poi, poi, poi, poi, poi, poi, poi, poi, poi, poi, poi, poi, poi, poi, poi, poi, poi, poi, poi, poi, poi, poi, poi, poi, poi, poi, poi, poi] = [Value.string s, poi, poi, Value.int IntKind.i64 (↑s' : Int), poi, poi, poi, poi, poi, poi, poi, poi, poi, poi, poi, poi, poi, poi, poi, poi, poi, poi, poi, poi, poi, poi, poi, poi, poi, poi, poi, poi, poi, poi, poi, poi, poi, poi, poi, poi, poi, poi] ∧ noH = noH)) (K (Value.bool true) noH))))) := by kernel_rfl
theorem letI_iff {c : Int} : letI' c = true ↔ (97 ≤ c ∧ c ≤ 122) ∨ (65 ≤ c ∧ c ≤ 90) := by simp [letI']
theorem letI_not {c : Int} : letI' c = false ↔ ¬ ((97 ≤ c ∧ c ≤ 122) ∨ (65 ≤ c ∧ c ≤ 90)) := by rw [← letI_iff]; simp
theorem digI_iff {c : Int} : digI c = true ↔ 48 ≤ c ∧ c ≤ 57 := by simp [digI]
theorem digI_not {c : Int} : digI c = false ↔ ¬ (48 ≤ c ∧ c ≤ 57) := by rw [← digI_iff]; simp
theorem in2_iff {c : Int} : in2 c = true ↔ letI' c = true ∨ digI c = true ∨ c = 95 := by simp [in2, or_assoc]
theorem okLet : Ok Try.prog 63 orcLet := by
  intro args H ret H' h
  unfold orcLet at h
  split at h
  · cases h
    refine fnP_res hm c0_ok (hs := h0) ?_
    rw [let_t]
    exact br_of (fun a => br_of (fun b => ⟨by simp [letI', a, b], rfl⟩) (fun b => br_of (fun d => ⟨by simp [letI', b, d], rfl⟩) (fun d => ⟨by simp [letI', b, d], rfl⟩)))
      (fun a => br_of (fun d => ⟨by simp [letI', a, d], rfl⟩) (fun d => ⟨by simp [letI', a, d], rfl⟩))
  · cases h
theorem okDig : Ok Try.prog 64 orcDig := by
  intro args H ret H' h
  unfold orcDig at h
  split at h
  · cases h
    refine fnP_res hm c0_ok (hs := h0) ?_
    rw [dig_t]
    exact br_of (fun a => ⟨by simp [digI, a], rfl⟩) (fun a => ⟨by simp [digI, a], rfl⟩)
  · cases h
theorem okLet8 : Ok Try.prog 67 orcLet8 := by
  intro args H ret H' h
  unfold orcLet8 at h
  split at h
  · cases h
    refine fnP_res hm c0_ok (hs := h0) ?_
    rw [let8_t]
    exact br_of (fun a => br_of (fun b => ⟨by simp [letI', a, b], rfl⟩) (fun b => br_of (fun d => ⟨by simp [letI', b, d], rfl⟩) (fun d => ⟨by simp [letI', b, d], rfl⟩)))
      (fun a => br_of (fun d => ⟨by simp [letI', a, d], rfl⟩) (fun d => ⟨by simp [letI', a, d], rfl⟩))
  · cases h
theorem okDig8 : Ok Try.prog 68 orcDig8 := by
  intro args H ret H' h
  unfold orcDig8 at h
  split at h
  · cases h
    refine fnP_res hm c0_ok (hs := h0) ?_
    rw [dig8_t]
    exact br_of (fun a => ⟨by simp [digI, a], rfl⟩) (fun a => ⟨by simp [digI, a], rfl⟩)
  · cases h
theorem name_iff (s : ByteArray) : nameB s = true ↔ 0 < s.size ∧ s.size ≤ 24 ∧ ∀ i, i < s.size → in2 (bt s i) = true ∧ (i = 0 → letI' (bt s i) = true) := by
  obtain ⟨⟨l⟩⟩ := s
  show nameL l = true ↔ 0 < l.length ∧ l.length ≤ 24 ∧ ∀ i, i < l.length → in2 (Int.ofNat (l.getD i 0).toNat) = true ∧ (i = 0 → letI' (Int.ofNat (l.getD i 0).toNat) = true)
  cases l with
  | nil => simp [nameL]
  | cons b r =>
    simp only [nameL, Bool.and_eq_true, decide_eq_true_eq, List.all_eq_true, List.length_cons]
    constructor
    · rintro ⟨⟨h1, h2⟩, h3⟩
      refine ⟨by omega, by omega, fun i hi => ?_⟩
      cases i with
      | zero => exact ⟨in2_iff.2 (.inl h2), fun _ => h2⟩
      | succ j =>
        refine ⟨?_, fun h => by omega⟩
        have hj : j < r.length := by omega
        have : (b :: r).getD (j + 1) 0 = r[j] := by simp [List.getD_eq_getElem?_getD, hj]
        rw [this]
        exact h3 _ (List.getElem_mem _)
    · rintro ⟨_, h1, h2⟩
      refine ⟨⟨by omega, (h2 0 (by omega)).2 rfl⟩, fun x hx => ?_⟩
      obtain ⟨j, hj, rfl⟩ := List.mem_iff_getElem.1 hx
      have := (h2 (j + 1) (by omega)).1
      have e : (b :: r).getD (j + 1) 0 = r[j] := by simp [List.getD_eq_getElem?_getD, hj]
      rw [e] at this
      exact this
theorem name_bad {s : ByteArray} {p : Nat} (hp : p < s.size) (h : in2 (bt s p) = true → p = 0 ∧ letI' (bt s p) = false) : nameB s = false := by
  cases hn : nameB s with
  | false => rfl
  | true =>
    obtain ⟨_, _, h3⟩ := (name_iff s).1 hn
    obtain ⟨a, b⟩ := h3 p hp
    obtain ⟨c, d⟩ := h a
    rw [b c] at d; cases d
theorem bt_at {s : ByteArray} {p : Nat} (hp : p < s.size) : (s[p]'hp).toNat = (s.data.toList.getD p 0).toNat := by
  have : p < s.data.size := hp
  simp only [List.getD_eq_getElem?_getD, Array.getElem?_toList, Array.getElem?_eq_getElem this, Option.getD_some]
  rfl
theorem bt_low {s : ByteArray} {p : Nat} (hp : p < s.size) (h : bt s p < 128) : ((Utf8.decode s p).1 : Int) = bt s p ∧ (Utf8.decode s p).2 = 1 := by
  have hb := bt_at hp
  have := decode_ascii s p hp (by rw [hb]; simp only [bt] at h; exact Int.ofNat_lt.1 h)
  rw [this, hb]
  exact ⟨rfl, rfl⟩
theorem bt_high {s : ByteArray} {p : Nat} (hp : p < s.size) (h : ¬ bt s p < 128) : (128 : Int) ≤ ((Utf8.decode s p).1 : Int) := by
  have hb := bt_at hp
  have := (decode_high s p hp (by rw [hb]; have e : bt s p = (((s.data.toList.getD p 0).toNat : Nat) : Int) := rfl; omega)).1
  omega
theorem in2_low {c : Int} (h : in2 c = true) : c < 128 := by
  rcases in2_iff.1 h with h | h | h
  · rw [letI_iff] at h; omega
  · rw [digI_iff] at h; omega
  · omega
theorem okN : CallOK Try.prog cN := ctx_ok hm (all_cons okLet (all_cons okDig all_nil))
theorem okN8 : CallOK Try.prog cN8 := ctx_ok hm (all_cons okLet8 (all_cons okDig8 all_nil))
set_option maxRecDepth 100000 in
theorem name_ok (s : ByteArray) : SmallRes Try.prog 50 [.string s] [] (.bool (nameB s)) [] := by
  refine fnP_res hm okN (hs := hsName s) ?_
  rw [name_t]
  refine ⟨⟨(0 : Nat), ⟨Nat.zero_le _, fun i hi => by omega⟩, rfl, rfl⟩, fun p hp => br_of (fun hlt => ?_) (fun hge => ?_)⟩
  · have hlt : p < s.size := of_decide_eq_true hlt
    obtain ⟨hp1, hp2⟩ := hp.out
    by_cases hb : bt s p < 128
    · obtain ⟨e1, e2⟩ := bt_low hlt hb
      simp only [e1, e2]
      have bad : (in2 (bt s p) = true → p = 0 ∧ letI' (bt s p) = false) → (Value.bool false = .bool (nameB s) ∧ True) := fun h => ⟨by rw [name_bad hlt h], trivial⟩
      have next : in2 (bt s p) = true → (p = 0 → letI' (bt s p) = true) → p + 1 ≤ s.size ∧ ∀ i, i < p + 1 → in2 (bt s i) = true ∧ (i = 0 → letI' (bt s i) = true) := fun h1 h2 => ⟨hlt, fun i hi => by
        rcases Nat.lt_succ_iff_lt_or_eq.1 hi with h | rfl
        · exact hp2 i h
        · exact ⟨h1, h2⟩⟩
      refine br_of (fun h1 => ?_) (fun h1 => ?_)
      · have h1 : letI' (bt s p) = false := by simpa using h1
        refine br_of (fun h2 => bad fun _ => ⟨by simpa using h2, h1⟩) (fun h2 => ?_)
        have h2 : p ≠ 0 := by simpa using h2
        refine br_of (fun h3 => br_of (fun h4 => bad fun h => ?_) (fun h4 => ?_)) (fun h3 => ?_)
        · have h3 : digI (bt s p) = false := by simpa using h3
          have h4 : bt s p ≠ 95 := by simpa using h4
          rcases in2_iff.1 h with h | h | h
          · rw [h1] at h; cases h
          · rw [h3] at h; cases h
          · exact absurd h h4
        · have h4 : bt s p = 95 := by simpa using h4
          exact ⟨p + 1, ⟨next (in2_iff.2 (.inr (.inr h4))) fun h => absurd h h2⟩, ⟨by omega⟩, by first | trivial | rfl, by first | trivial | rfl⟩
        · have h3 : digI (bt s p) = true := by simpa using h3
          exact ⟨p + 1, ⟨next (in2_iff.2 (.inr (.inl h3))) fun h => absurd h h2⟩, ⟨by omega⟩, by first | trivial | rfl, by first | trivial | rfl⟩
      · have h1 : letI' (bt s p) = true := by simpa using h1
        exact ⟨p + 1, ⟨next (in2_iff.2 (.inl h1)) fun _ => h1⟩, ⟨by omega⟩, by first | trivial | rfl, by first | trivial | rfl⟩
    · have hh := bt_high hlt hb
      have hf : nameB s = false := name_bad hlt fun h => absurd (in2_low h) hb
      have l1 : letI' (↑(Utf8.decode s p).1 : Int) = false := letI_not.2 (by omega)
      have l2 : digI (↑(Utf8.decode s p).1 : Int) = false := digI_not.2 (by omega)
      have l3 : ((↑(Utf8.decode s p).1 : Int) != 95) = true := by simp; omega
      simp only [l1, l2, l3, hf, Bool.not_false, br_t]
      exact br_of (fun _ => by first | trivial | exact ⟨rfl, rfl⟩) (fun _ => by first | trivial | exact ⟨rfl, rfl⟩)
  · have hge : ¬ p < s.size := of_decide_eq_false hge
    obtain ⟨hp1, hp2⟩ := hp.out
    have : p = s.size := by omega
    subst this
    have fin : nameB s = (decide ((0 : Int) < (s.size : Int)) && decide ((s.size : Int) ≤ 24)) := by
      rw [Bool.eq_iff_iff, name_iff]
      simp only [Bool.and_eq_true, decide_eq_true_eq]
      constructor
      · rintro ⟨a, b, _⟩; omega
      · rintro ⟨a, b⟩; exact ⟨by omega, by omega, hp2⟩
    rw [fin]
    exact br_of (fun h => ⟨by rw [h]; rfl, rfl⟩) (fun h => ⟨by rw [h]; rfl, rfl⟩)
set_option maxRecDepth 100000 in
theorem name8_ok (s : ByteArray) : SmallRes Try.prog 54 [.string s] [] (.bool (nameB s)) [] := by
  refine fnP_res hm okN8 (hs := hsName8 s) ?_
  rw [name8_t]
  have no : ∀ {p : Nat}, p < s.size → (in2 (bt s p) = true → p = 0 ∧ letI' (bt s p) = false) → Value.bool false = .bool (nameB s) := fun h1 h2 => by rw [name_bad h1 h2]
  have small : (s.size = 0 ∨ 24 < s.size) → Value.bool false = .bool (nameB s) := fun h => by
    cases hn : nameB s with
    | false => rfl
    | true => have := (name_iff s).1 hn; omega
  refine br_of (fun h => ⟨small (.inl (by simpa using h)), rfl⟩) (fun h1 => br_of (fun h => ⟨small (.inr (by have := of_decide_eq_true h; omega)), rfl⟩) (fun h2 => ?_))
  have h1 : s.size ≠ 0 := by simpa using h1
  have h2 : s.size ≤ 24 := by have := of_decide_eq_false h2; omega
  have z : Int.toNat 0 = 0 := rfl
  refine ⟨⟨by omega, by omega⟩, br_of (fun h => ⟨no (p := 0) (by omega) fun _ => ⟨rfl, by simpa using h⟩, by first | trivial | rfl⟩) (fun h3 => ?_)⟩
  have h3 : letI' (bt s 0) = true := by simpa using h3
  refine ⟨⟨(1 : Nat), ⟨⟨Nat.le_refl _, by omega, h3, h2, fun i hi => ?_⟩⟩, by first | trivial | rfl, by first | trivial | rfl⟩, fun p hp => br_of (fun hlt => ?_) (fun hge => ?_)⟩
  · obtain rfl : i = 0 := by omega
    exact in2_iff.2 (.inl h3)
  · have hlt := lt_of_dec hlt
    obtain ⟨p1, p2, p3, p4, p5⟩ := hp.out
    have bad : (in2 (bt s p) = false) → Value.bool false = .bool (nameB s) := fun h => no hlt fun h' => by rw [h] at h'; cases h'
    have next : in2 (bt s p) = true → 1 ≤ p + 1 ∧ p + 1 ≤ s.size ∧ letI' (bt s 0) = true ∧ s.size ≤ 24 ∧ ∀ i, i < p + 1 → in2 (bt s i) = true := fun h => ⟨by omega, hlt, p3, p4, fun i hi => by
      rcases Nat.lt_succ_iff_lt_or_eq.1 hi with h' | rfl
      · exact p5 i h'
      · exact h⟩
    have e1 : IntKind.wrap .i64 ((p : Int) + 1) = ((p + 1 : Nat) : Int) := up1 hlt (by omega)
    simp only [Int.toNat_natCast, e1]
    refine ⟨⟨by omega, by omega⟩, br_of (fun a1 => ⟨⟨by omega, by omega⟩, br_of (fun a2 => ⟨⟨by omega, by omega⟩, br_of (fun a3 => ⟨bad ?_, by first | trivial | rfl⟩) (fun a3 => ⟨p + 1, ⟨next (in2_iff.2 (.inr (.inr ?_)))⟩, ⟨by omega⟩, by first | trivial | rfl, by first | trivial | rfl⟩)⟩) (fun a2 => ⟨p + 1, ⟨next (in2_iff.2 (.inr (.inl ?_)))⟩, ⟨by omega⟩, by first | trivial | rfl, by first | trivial | rfl⟩)⟩) (fun a1 => ⟨p + 1, ⟨next (in2_iff.2 (.inl ?_))⟩, ⟨by omega⟩, by first | trivial | rfl, by first | trivial | rfl⟩)⟩
    · cases hi : in2 (bt s p) with
      | false => rfl
      | true =>
        rcases in2_iff.1 hi with h | h | h
        · simp [h] at a1
        · simp [h] at a2
        · simp [h] at a3
    · simpa using a3
    · simpa using a2
    · simpa using a1
  · have hge := ge_of_dec hge
    obtain ⟨p1, p2, p3, p4, p5⟩ := hp.out
    have : p = s.size := by omega
    subst this
    have : nameB s = true := (name_iff s).2 ⟨by omega, h2, fun i hi => ⟨p5 i hi, fun h => by subst h; exact h3⟩⟩
    rw [this]
    exact ⟨rfl, by first | trivial | rfl⟩
noncomputable def orcName : Orc
  | [.string s], [] => some (.bool (nameB s), [])
  | _, _ => none
theorem okName : Ok Try.prog 50 orcName := by
  intro args H ret H' h
  unfold orcName at h
  split at h
  · cases h; exact name_ok _
  · cases h
theorem okName8 : Ok Try.prog 54 orcName := by
  intro args H ret H' h
  unfold orcName at h
  split at h
  · cases h; exact name8_ok _
  · cases h
end
end Qq
end
section
/- Sections, checked. -/
open Go Go.Vm Go.Proofs Sp
namespace Sp
noncomputable section
end
end Sp
namespace Qq
noncomputable section
noncomputable def orcCn : Orc
  | [.string k], [] => some (.int .i64 (wh (!nameB k) 8), [])
  | _, _ => none
noncomputable def r10 : List (Nat × Orc) := (54, orcName) :: r2
theorem r10_all : ∀ p ∈ r10, Ok Try.prog p.1 p.2 := all_cons okName8 r2_all
noncomputable def cr10 : CallF := ctx Try.prog r10
theorem cr10_ok : CallOK Try.prog cr10 := ctx_ok hm r10_all
theorem cn_t (k : ByteArray) (K : Value → Heap → Prop) :
    (fnP Try.prog cr10 h0 (24 : FuncId) [Value.string k] [] K) =
    (K (Value.int IntKind.i64 (wh (!nameB k) (8 : Int))) noH) := by kernel_rfl
theorem okCn : Ok Try.prog 24 orcCn := by
  intro args H ret H' h
  unfold orcCn at h
  split at h
  · cases h
    refine fnP_res hm cr10_ok (hs := h0) ?_
    rw [cn_t]
    exact ⟨rfl, rfl⟩
  · cases h
noncomputable def r11 : List (Nat × Orc) := (24, orcCn) :: r2
theorem r11_all : ∀ p ∈ r11, Ok Try.prog p.1 p.2 := all_cons okCn r2_all
noncomputable def cr11 : CallF := ctx Try.prog r11
theorem cr11_ok : CallOK Try.prog cr11 := ctx_ok hm r11_all
noncomputable def z2 (zs : List Int) (off : Nat) : Value := .agg #[.int .i64 (zs.getD off 0), .int .i64 (zs.getD (off + 1) 0)]
noncomputable def k2 (ks : List (Int × ByteArray)) (off : Nat) : Value := .agg #[.int .i64 (ks.getD (off / 2) (0, ⟨#[]⟩)).1, .string (ks.getD (off / 2) (0, ⟨#[]⟩)).2]
noncomputable def hp2 (zs : List Int) (ks : List (Int × ByteArray)) (m1 w1 m2 w2 : Bool) (l : List (Option AObj)) : Heap := some (.row (ints zs) 2 m1 w1 true) :: some (.row (acs ks) 2 m2 w2 true) :: l
noncomputable def zI (zs : List Int) (off : Nat) : Value := .int .i64 (zs.getD off 0)
theorem zint_at {zs : List Int} {i : Nat} (h : i < zs.length) : (ints zs)[i]? = some (.int .i64 (zs.getD i 0)) := by
  simp [ints, List.getElem?_map, List.getElem?_eq_getElem h, List.getD_eq_getElem?_getD]
theorem sel_ne {e d : Int} (h : (e != 0) = true) : sel e d = e := by
  have : e ≠ 0 := by simpa using h
  simp [sel, this]
theorem sel_eq {e d : Int} (h : (e != 0) = false) : sel e d = d := by
  have : e = 0 := by simpa using h
  simp [sel, this]
theorem fi_late {a : Int} {b : Bool} (h : b = true → a ≠ 0) : fi [a, wh b 11] = fi [a, 0] := by
  cases hb : b with
  | false => rfl
  | true =>
    have := h hb
    simp [fi, this]
theorem pred1 {s n : Nat} (h : s < n) (hn : n ≤ 100000) : (if IntKind.wrap .i64 ((s : Int) - 1) > 0 then IntKind.wrap .i64 ((s : Int) - 1) else 0) = ((s - 1 : Nat) : Int) := by
  rw [wrap_eq (by omega) (by omega)]
  split <;> omega
end
end Qq
end
section
/- Periods of sections, and the law about them. -/
open Go Go.Vm Go.Proofs Sp
namespace Sp
noncomputable section
noncomputable def isInts (e : List Value) (n : Nat) : Prop := ∃ xs, e = ints xs ∧ xs.length = n * 2
end
end Sp
namespace Qq
noncomputable section
/- The reference's first. -/
/- The program's periods. -/
/- The reference's periods. -/
noncomputable def orcSameV (xs ys : List Int) : OrcV
  | [.slice (some ⟨0, 0, none⟩) n _c, .slice (some ⟨1, 0, none⟩) m _d], [some (.row e1 2 m1 w1 true), some (.row e2 2 m2 w2 true)] => some (.bool (decide (xs = ys)), [some (.row e1 2 m1 w1 true), some (.row e2 2 m2 w2 true)], e1 = ints xs ∧ e2 = ints ys ∧ xs.length = n * 2 ∧ ys.length = m * 2 ∧ n ≤ 100000 ∧ m ≤ 100000)
  | _, _ => none
/- Equal lists of spans. -/
noncomputable def lpSS (xs ys : List Int) (n c m d : Nat) (m1 w1 m2 w2 : Bool) : Lp where
  σ := Nat
  E i := slots 26 [(0, .slice (some ⟨0, 0, none⟩) n c), (1, .slice (some ⟨1, 0, none⟩) m d), (5, .int .i64 (Int.ofNat i))]
  Hp _ := [some (.row (ints xs) 2 m1 w1 true), some (.row (ints ys) 2 m2 w2 true)]
  I i := i ≤ n ∧ xs.take (i * 2) = ys.take (i * 2)
  m i := n - i
noncomputable def hsSS (xs ys : List Int) (n c m d : Nat) (m1 w1 m2 w2 : Bool) : Hs Try.prog where
  op y := if [602, 606].contains y then some (hIa Try.prog) else if y = 603 then some (hLd Try.prog (z2 xs)) else if y = 607 then some (hLd Try.prog (z2 ys)) else none
  lp _ := some (lpSS xs ys n c m d m1 w1 m2 w2)
  cl _ := keep 26 [0, 1, 5]
  au := au0 Try.prog
theorem same_t (xs : List Int) (ys : List Int) (n : Nat) (c : Nat) (m : Nat) (d : Nat) (m1 : Bool) (w1 : Bool) (m2 : Bool) (w2 : Bool) (K : Value → Heap → Prop) :
    (fnP Try.prog c0 (hsSS xs ys n c m d m1 w1 m2 w2) (17 : FuncId) [Value.slice (some { block := (0 : Nat), off := (0 : Nat) }) n c, Value.slice (some { block := (1 : Nat), off := (0 : Nat) }) m d] [some (AObj.row (ints xs) (2 : Nat) m1 w1 true), some (AObj.row (ints ys) (2 : Nat) m2 w2 true)] K) =
    (br ((↑n : Int) != (↑m : Int)) (K (Value.bool false) (some (AObj.row (ints xs) (2 : Nat) m1 w1 true) :: some (AObj.row (ints ys) (2 : Nat) m2 w2 true) :: noH)) ((∃ s, Is (s ≤ n ∧ List.take (s * (2 : Nat)) xs = List.take (s * (2 : Nat)) ys) ∧ [Value.slice (some { block := (0 : Nat), off := (0 : Nat) }) n c, Value.slice (some { block := (1 : Nat), off := (0 : Nat) }) m d, poi, poi, poi, Value.int IntKind.i64 (0 : Int), poi, poi, poi, poi, poi, poi, poi, poi, poi, poi, poi, poi, poi, poi, poi, poi, poi, poi, poi, poi] = [Value.slice (some { block := (0 : Nat), off := (0 : Nat) }) n c, Value.slice (some { block := (1 : Nat), off := (0 : Nat) }) m d, poi, poi, poi, Value.int IntKind.i64 (↑s : Int), poi, poi, poi, poi, poi, poi, poi, poi, poi, poi, poi, poi, poi, poi, poi, poi, poi, poi, poi, poi] ∧ some (AObj.row (ints xs) (2 : Nat) m1 w1 true) :: some (AObj.row (ints ys) (2 : Nat) m2 w2 true) :: noH = some (AObj.row (ints xs) (2 : Nat) m1 w1 true) :: some (AObj.row (ints ys) (2 : Nat) m2 w2 true) :: noH) ∧ ∀ (s : Nat), Is (s ≤ n ∧ List.take (s * (2 : Nat)) xs = List.take (s * (2 : Nat)) ys) → br (decide ((↑s : Int) < (↑n : Int))) (Is ((0 : Int) ≤ (↑s : Int) ∧ (↑s : Int) < (↑n : Int)) ∧ Is ((if (0 : Nat) + Int.toNat (↑s : Int) * (2 : Nat) + (2 : Nat) ≤ List.length (ints xs) then some (Value.agg (List.toArray (List.take (2 : Nat) (List.drop ((0 : Nat) + Int.toNat (↑s : Int) * (2 : Nat)) (ints xs))))) else none) = some (Value.agg #[Value.int IntKind.i64 (List.getD xs ((0 : Nat) + Int.toNat (↑s : Int) * (2 : Nat)) (0 : Int)), Value.int IntKind.i64 (List.getD xs ((0 : Nat) + Int.toNat (↑s : Int) * (2 : Nat) + (1 : Nat)) (0 : Int))])) ∧ Is ((0 : Int) ≤ (↑s : Int) ∧ (↑s : Int) < (↑m : Int)) ∧ Is ((if (0 : Nat) + Int.toNat (↑s : Int) * (2 : Nat) + (2 : Nat) ≤ List.length (ints ys) then some (Value.agg (List.toArray (List.take (2 : Nat) (List.drop ((0 : Nat) + Int.toNat (↑s : Int) * (2 : Nat)) (ints ys))))) else none) = some (Value.agg #[Value.int IntKind.i64 (List.getD ys ((0 : Nat) + Int.toNat (↑s : Int) * (2 : Nat)) (0 : Int)), Value.int IntKind.i64 (List.getD ys ((0 : Nat) + Int.toNat (↑s : Int) * (2 : Nat) + (1 : Nat)) (0 : Int))])) ∧ Is True ∧ br (!(List.getD xs ((0 : Nat) + Int.toNat (↑s : Int) * (2 : Nat)) (0 : Int) == List.getD ys ((0 : Nat) + Int.toNat (↑s : Int) * (2 : Nat)) (0 : Int) && (List.getD xs ((0 : Nat) + Int.toNat (↑s : Int) * (2 : Nat) + (1 : Nat)) (0 : Int) == List.getD ys ((0 : Nat) + Int.toNat (↑s : Int) * (2 : Nat) + (1 : Nat)) (0 : Int) && true))) (K (Value.bool false) (some (AObj.row (ints xs) (2 : Nat) m1 w1 true) :: some (AObj.row (ints ys) (2 : Nat) m2 w2 true) :: noH)) (∃ s', Is (s' ≤ n ∧ List.take (s' * (2 : Nat)) xs = List.take (s' * (2 : Nat)) ys) ∧ Is (n - s' < n - s) ∧ [Value.slice (some { block := (0 : Nat), off := (0 : Nat) }) n c, Value.slice (some { block := (1 : Nat), off := (0 : Nat) }) m d, poi, poi, poi, Value.int IntKind.i64 (IntKind.wrap IntKind.i64 ((↑s : Int) + (1 : Int))), poi, poi, poi, poi, poi, poi, poi, poi, poi, poi, poi, poi, poi, poi, poi, poi, poi, poi, poi, poi] = [Value.slice (some { block := (0 : Nat), off := (0 : Nat) }) n c, Value.slice (some { block := (1 : Nat), off := (0 : Nat) }) m d, poi, poi, poi, Value.int IntKind.i64 (↑s' : Int), poi, poi, poi, poi, poi, poi, poi, poi, poi, poi, poi, poi, poi, poi, poi, poi, poi, poi, poi, poi] ∧ some (AObj.row (ints xs) (2 : Nat) m1 w1 true) :: some (AObj.row (ints ys) (2 : Nat) m2 w2 true) :: noH = some (AObj.row (ints xs) (2 : Nat) m1 w1 true) :: some (AObj.row (ints ys) (2 : Nat) m2 w2 true) :: noH)) (K (Value.bool true) (some (AObj.row (ints xs) (2 : Nat) m1 w1 true) :: some (AObj.row (ints ys) (2 : Nat) m2 w2 true) :: noH)))) := by kernel_rfl
/- Short. -/
set_option maxRecDepth 100000 in
theorem same_ok {xs ys : List Int} {n c m d : Nat} {m1 w1 m2 w2 : Bool} (hx : xs.length = n * 2) (hy : ys.length = m * 2) (hn : n ≤ 100000) (hm2 : m ≤ 100000) :
    SmallRes Try.prog 17 [.slice (some ⟨0, 0, none⟩) n c, .slice (some ⟨1, 0, none⟩) m d] [some (.row (ints xs) 2 m1 w1 true), some (.row (ints ys) 2 m2 w2 true)] (.bool (decide (xs = ys))) [some (.row (ints xs) 2 m1 w1 true), some (.row (ints ys) 2 m2 w2 true)] := by
  refine fnP_res hm c0_ok (hs := hsSS xs ys n c m d m1 w1 m2 w2) ?_
  rw [same_t]
  refine br_of (fun h => ?_) (fun h0 => ⟨⟨(0 : Nat), ⟨by omega, rfl⟩, by first | trivial | rfl, by first | trivial | rfl⟩, fun s hs => br_of (fun h => ?_) (fun h => ?_)⟩)
  · have h : n ≠ m := by intro e; subst e; simp at h
    rw [decide_eq_false (fun e => h (by subst e; omega))]
    exact ⟨rfl, rfl⟩
  · have h0 : n = m := by simp at h0; omega
    subst h0
    obtain ⟨a1, a2⟩ := hs.out
    have h := lt_of_dec h
    simp only [Nat.zero_add, Int.toNat_natCast]
    refine ⟨⟨by omega, by omega⟩, ⟨by rw [ints_len, if_pos (by omega), ints_pair (by omega)]⟩, ⟨by omega, by omega⟩, ⟨by rw [ints_len, if_pos (by omega), ints_pair (by omega)]⟩, ⟨trivial⟩, br_of (fun he => ?_) (fun he => ⟨s + 1, ⟨h, ?_⟩, ⟨by omega⟩, by rw [up1 h (by omega)], by first | trivial | rfl⟩)⟩
    · rw [decide_eq_false (fun e => by subst e; simp at he)]
      exact ⟨by first | trivial | rfl, by first | trivial | rfl⟩
    · have e : (s + 1) * 2 = s * 2 + 2 := by omega
      simp only [Bool.and_true, Bool.not_eq_false', Bool.and_eq_true, beq_iff_eq] at he
      rw [e, List.take_add, List.take_add, a2, pair_at (by omega), pair_at (by omega), he.1, he.2]
  · obtain ⟨a1, a2⟩ := hs.out
    have h := ge_of_dec h
    have h0 : n = m := by simp at h0; omega
    subst h0
    have e : s = n := by omega
    subst e
    rw [← hx, List.take_length, hx, ← hy, List.take_length] at a2
    rw [decide_eq_true a2]
    exact ⟨by first | trivial | rfl, rfl⟩
theorem same_okV (xs ys : List Int) : OkV Try.prog 17 (orcSameV xs ys) := by
  intro args H ret H' vc h hv
  unfold orcSameV at h
  split at h
  · cases h
    obtain ⟨rfl, rfl, h1, h2, h3, h4⟩ := hv
    exact same_ok h1 h2 h3 h4
  · cases h
noncomputable def orcSameX : OrcV
  | [.slice (some ⟨0, 0, none⟩) n _c, .slice (some ⟨1, 0, none⟩) m _d], [some (.row e1 2 m1 w1 true), some (.row e2 2 m2 w2 true)] => some (.bool true, [some (.row e1 2 m1 w1 true), some (.row e2 2 m2 w2 true)], n = m ∧ e1 = e2 ∧ n ≤ 100000 ∧ isInts e1 n)
  | _, _ => none
theorem same_ok' {xs : List Int} {n c d : Nat} {m1 w1 m2 w2 : Bool} (hx : xs.length = n * 2) (hn : n ≤ 100000) :
    SmallRes Try.prog 17 [.slice (some ⟨0, 0, none⟩) n c, .slice (some ⟨1, 0, none⟩) n d] [some (.row (ints xs) 2 m1 w1 true), some (.row (ints xs) 2 m2 w2 true)] (.bool true) [some (.row (ints xs) 2 m1 w1 true), some (.row (ints xs) 2 m2 w2 true)] := by
  have h := same_ok (c := c) (d := d) (m1 := m1) (w1 := w1) (m2 := m2) (w2 := w2) hx hx hn hn
  rw [decide_eq_true (rfl : xs = xs)] at h
  exact h
theorem same_okX : OkV Try.prog 17 orcSameX := by
  intro args H ret H' vc h hv
  unfold orcSameX at h
  split at h
  · cases h
    obtain ⟨rfl, rfl, h1, xs, rfl, h2⟩ := hv
    exact same_ok' h2 h1
  · cases h
end
end Qq
end
section
/- Parts of a section, and their sums. -/
open Go Go.Vm Go.Proofs Sp
namespace Sp
noncomputable section
noncomputable def d0 (zs : List Int) (off : Nat) : Int := zs.getD off 0
end
end Sp
namespace Qq
noncomputable section
/- The program's sums. -/
/- The reference's sums. -/
/-- A part whose sums do not leave the machine's integers. -/
structure Part (zs : List Int) (off m : Nat) : Prop where
  len : off + m * 2 ≤ zs.length
  few : m ≤ 32
  day : ∀ i, i < m → d0 zs off ≤ zs.getD (off + i * 2) 0 ∧ zs.getD (off + i * 2) 0 ≤ 100000
  idx : ∀ i, i < m → 0 ≤ zs.getD (off + i * 2 + 1) 0 ∧ zs.getD (off + i * 2 + 1) 0 ≤ 100000
  z0 : 0 ≤ d0 zs off
end
end Qq
end
section
/- Nothing of this is needed here. -/
end
section
/- Nothing of this is needed here. -/
end
section
/- Nothing of this is needed here. -/
end
section
/- Nothing of this is needed here. -/
end
section
/- Nothing of this is needed here. -/
end
section
/- Nothing of this is needed here. -/
end
section
/- When a line reaches a limit: the contract. -/
open Go Go.Vm Go.Proofs Sp
namespace Sp
noncomputable section
structure RcOK (a b c d l f : Int) : Prop where
  a0 : 0 ≤ a
  a1 : a ≤ 100000
  f0 : 0 ≤ f
  f1 : f ≤ 100000
  b0 : -1024000000000000000 ≤ b
  b1 : b ≤ 1024000000000000000
  p0 : -1024000000000000000 ≤ c * (f - a)
  p1 : c * (f - a) ≤ 1024000000000000000
  c1 : c ≤ 10240000000000
  q0 : 0 ≤ l * d
  q1 : l * d ≤ 1024000000000000000
end
end Sp
namespace Qq
noncomputable section
end
end Qq
end
section
/- Nothing of this is needed here. -/
end
section
/- Nothing of this is needed here. -/
end
section
/- Nothing of this is needed here. -/
end
