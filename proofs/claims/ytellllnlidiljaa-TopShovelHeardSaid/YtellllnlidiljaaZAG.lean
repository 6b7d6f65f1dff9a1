/- Parts of the proof: JB, JE, JF, JGf, JH, JH1, JH2, JH3, JH4, JI, JK, JL, JG. -/
import Derived.Test.YtellllnlidiljaaZAE
import Derived.Test.YtellllnlidiljaaZAC
section
/- Lists in order; how many different numbers there are in a list. -/
open Go Go.Vm Go.Proofs Sp
namespace Qq
noncomputable section
theorem up_eq : ∀ {a b : List Int}, a.Pairwise (· < ·) → b.Pairwise (· < ·) → (∀ x, x ∈ a ↔ x ∈ b) → a = b
  | [], [], _, _, _ => rfl
  | [], y :: b, _, _, h => absurd ((h y).2 (List.mem_cons_self ..)) (by simp)
  | x :: a, [], _, _, h => absurd ((h x).1 (List.mem_cons_self ..)) (by simp)
  | x :: a, y :: b, ha, hb, h => by
    have hx := List.pairwise_cons.1 ha
    have hy := List.pairwise_cons.1 hb
    have e : x = y := by
      rcases List.mem_cons.1 ((h x).1 (List.mem_cons_self ..)) with e | e
      · exact e
      · rcases List.mem_cons.1 ((h y).2 (List.mem_cons_self ..)) with e2 | e2
        · exact e2.symm
        · have h1 := hx.1 y e2
          have h2 := hy.1 x e
          omega
    subst e
    congr 1
    refine up_eq hx.2 hy.2 fun z => ⟨fun hz => ?_, fun hz => ?_⟩
    · rcases List.mem_cons.1 ((h z).1 (List.mem_cons_of_mem _ hz)) with e | e
      · have := hx.1 z hz; omega
      · exact e
    · rcases List.mem_cons.1 ((h z).2 (List.mem_cons_of_mem _ hz)) with e | e
      · have := hy.1 z hz; omega
      · exact e
theorem nats_up {L : List Nat} (h : L.Pairwise (· < ·)) : (nats L).Pairwise (· < ·) := by
  rw [nats, List.pairwise_map]
  exact h.imp fun h => by omega
theorem nats_inj {A B : List Nat} (h : nats A = nats B) : A = B := by
  have : ∀ {A B : List Nat}, nats A = nats B → A = B := by
    intro A
    induction A with
    | nil => intro B h; cases B with
      | nil => rfl
      | cons b B => cases h
    | cons a A ih => intro B h; cases B with
      | nil => cases h
      | cons b B =>
        have h : (a : Int) :: nats A = (b : Int) :: nats B := h
        injection h with h1 h2
        rw [ih h2, show a = b by omega]
  exact this h
theorem mem_nats {L : List Nat} {x : Int} : x ∈ nats L ↔ ∃ k, k ∈ L ∧ (k : Int) = x := List.mem_map
theorem up_eqN {a b : List Nat} (ha : a.Pairwise (· < ·)) (hb : b.Pairwise (· < ·)) (h : ∀ x, x ∈ a ↔ x ∈ b) : a = b :=
  nats_inj (up_eq (nats_up ha) (nats_up hb) fun x => by
    rw [mem_nats, mem_nats]
    exact ⟨fun ⟨k, h1, h2⟩ => ⟨k, (h k).1 h1, h2⟩, fun ⟨k, h1, h2⟩ => ⟨k, (h k).2 h1, h2⟩⟩)
theorem getD_mem {L : List Int} {i : Nat} (h : i < L.length) : L.getD i 0 ∈ L := by
  rw [List.getD_eq_getElem?_getD, List.getElem?_eq_getElem h]; exact List.getElem_mem _
theorem mem_getD {L : List Int} {x : Int} (h : x ∈ L) : ∃ i, i < L.length ∧ L.getD i 0 = x := by
  obtain ⟨i, hi, e⟩ := List.getElem_of_mem h
  exact ⟨i, hi, by rw [List.getD_eq_getElem?_getD, List.getElem?_eq_getElem hi]; exact e⟩
theorem cp_in {L : List Int} : ∀ {j : Nat} {x : Int}, x ∈ cp L j ↔ ∃ i, i < j ∧ L.getD i 0 = x
  | 0, x => by rw [cp]; exact ⟨fun h => absurd h (by simp), fun ⟨i, h, _⟩ => by omega⟩
  | j + 1, x => by
    rw [cp]
    split
    · rw [List.mem_append, cp_in, List.mem_singleton]
      constructor
      · rintro (⟨i, h1, h2⟩ | h)
        · exact ⟨i, by omega, h2⟩
        · exact ⟨j, by omega, h.symm⟩
      · rintro ⟨i, h1, h2⟩
        by_cases e : i = j
        · right; rw [← h2, e]
        · left; exact ⟨i, by omega, h2⟩
    · rename_i hn
      have h0 : j ≠ 0 := fun e => hn (.inl e)
      have h1 : L.getD j 0 = L.getD (j - 1) 0 := by
        cases Decidable.em (L.getD j 0 = L.getD (j - 1) 0) with
        | inl h => exact h
        | inr h => exact absurd (.inr h) hn
      rw [cp_in]
      constructor
      · rintro ⟨i, h2, h3⟩; exact ⟨i, by omega, h3⟩
      · rintro ⟨i, h2, h3⟩
        by_cases e : i = j
        · exact ⟨j - 1, by omega, by rw [← h3, e, h1]⟩
        · exact ⟨i, by omega, h3⟩
def isSt (L : List Int) : Prop := ∀ i k, i ≤ k → k < L.length → L.getD i 0 ≤ L.getD k 0
theorem cp_up {L : List Int} (h : isSt L) : ∀ {j : Nat}, j ≤ L.length → (cp L j).Pairwise (· < ·)
  | 0, _ => by rw [cp]; exact List.Pairwise.nil
  | j + 1, hj => by
    have ih := cp_up h (j := j) (by omega)
    rw [cp]
    split
    · rename_i hn
      refine List.pairwise_append.2 ⟨ih, List.pairwise_singleton .., fun x hx y hy => ?_⟩
      obtain ⟨i, h1, h2⟩ := cp_in.1 hx
      rw [List.mem_singleton] at hy
      subst hy
      have a1 := h i (j - 1) (by omega) (by omega)
      have a2 := h (j - 1) j (by omega) (by omega)
      rcases hn with e | e
      · omega
      · omega
    · exact ih
/-- Of a sorted list of the numbers below s there are s. -/
theorem cp_count {L : List Int} {s : Nat} (h : isSt L) (hm : ∀ x, (∃ i, i < L.length ∧ L.getD i 0 = x) ↔ ∃ k : Nat, k < s ∧ (k : Int) = x) : cpN L L.length = s := by
  have : cp L L.length = nats (List.range s) := up_eq (cp_up h (Nat.le_refl _)) (nats_up List.pairwise_lt_range) fun x => by
    rw [cp_in, hm, mem_nats]
    exact ⟨fun ⟨k, h1, h2⟩ => ⟨k, List.mem_range.2 h1, h2⟩, fun ⟨k, h1, h2⟩ => ⟨k, List.mem_range.1 h1, h2⟩⟩
  rw [cpN, this, nats_len, List.length_range]
theorem ipos_spec (d : Nat → Int) (r : List Nat) (i : Nat) : ∀ k, ipos d r i k ≤ k ∧ (∀ j, ipos d r i k ≤ j → j < k → d i < d (r.getD j 0)) ∧ (ipos d r i k = 0 ∨ d (r.getD (ipos d r i k - 1) 0) ≤ d i)
  | 0 => ⟨Nat.le_refl _, fun j _ h => absurd h (by omega), .inl rfl⟩
  | k + 1 => by
    obtain ⟨h1, h2, h3⟩ := ipos_spec d r i k
    rw [ipos]
    split
    · rename_i h
      refine ⟨by omega, fun j a b => ?_, h3⟩
      by_cases e : j = k
      · rw [e]; exact h
      · exact h2 j a (by omega)
    · rename_i h
      refine ⟨Nat.le_refl _, fun j a b => by omega, .inr ?_⟩
      show d (r.getD k 0) ≤ d i
      omega
theorem rk_mem (d : Nat → Int) : ∀ n x, x ∈ rk d n ↔ x < n
  | 0, x => by rw [rk]; simp
  | n + 1, x => by
    rw [rk, insD, List.mem_append, List.mem_cons]
    have h := rk_mem d n x
    have e : x ∈ rk d n ↔ x ∈ (rk d n).take (ipos d (rk d n) n n) ∨ x ∈ (rk d n).drop (ipos d (rk d n) n n) := by
      rw [← List.mem_append, List.take_append_drop]
    constructor
    · rintro (a | rfl | a)
      · have := h.1 (e.2 (.inl a)); omega
      · omega
      · have := h.1 (e.2 (.inr a)); omega
    · intro a
      by_cases hx : x = n
      · exact .inr (.inl hx)
      · rcases e.1 (h.2 (by omega)) with a | a
        · exact .inl a
        · exact .inr (.inr a)
theorem rk_st (d : Nat → Int) : ∀ n, (rk d n).Pairwise fun a b => d a ≤ d b
  | 0 => by rw [rk]; exact List.Pairwise.nil
  | n + 1 => by
    have ih := rk_st d n
    have hl := rk_len d n
    obtain ⟨h1, h2, h3⟩ := ipos_spec d (rk d n) n n
    have at_ : ∀ {j : Nat} (hj : j < (rk d n).length), (rk d n).getD j 0 = (rk d n)[j] := fun hj => by
      rw [List.getD_eq_getElem?_getD, List.getElem?_eq_getElem hj]; rfl
    have hpw := List.pairwise_iff_getElem.1 ih
    rw [rk, insD]
    have lo : ∀ x ∈ (rk d n).take (ipos d (rk d n) n n), d x ≤ d n := fun x hx => by
      obtain ⟨a, ha, e⟩ := List.getElem_of_mem hx
      rw [List.length_take] at ha
      rw [List.getElem_take] at e
      rcases h3 with h3 | h3
      · omega
      · rw [at_ (by omega)] at h3
        by_cases q : a = ipos d (rk d n) n n - 1
        · subst q; rw [← e]; exact h3
        · have := hpw a (ipos d (rk d n) n n - 1) (by omega) (by omega) (by omega)
          rw [← e]; omega
    have hi : ∀ x ∈ (rk d n).drop (ipos d (rk d n) n n), d n ≤ d x := fun x hx => by
      obtain ⟨a, ha, e⟩ := List.getElem_of_mem hx
      rw [List.length_drop] at ha
      rw [List.getElem_drop] at e
      have := h2 (ipos d (rk d n) n n + a) (by omega) (by omega)
      rw [at_ (by omega)] at this
      rw [← e]; omega
    refine List.pairwise_append.2 ⟨ih.sublist (List.take_sublist ..), List.pairwise_cons.2 ⟨hi, ih.sublist (List.drop_sublist ..)⟩, fun x hx y hy => ?_⟩
    rcases List.mem_cons.1 hy with rfl | hy
    · exact lo x hx
    · have a1 := lo x hx
      have a2 := hi y hy
      omega
theorem srt_len (L : List Int) : (srt L).length = L.length := by rw [srt, vals_len, rk_len]
theorem srt_st (L : List Int) : isSt (srt L) := by
  intro i k hik hk
  have h : (srt L).Pairwise (· ≤ ·) := by
    rw [srt, vals, List.pairwise_map]; exact rk_st _ _
  by_cases e : i = k
  · rw [e]; exact Int.le_refl _
  · have := List.pairwise_iff_getElem.1 h i k (by omega) hk (by omega)
    rw [List.getD_eq_getElem?_getD, List.getD_eq_getElem?_getD, List.getElem?_eq_getElem hk, List.getElem?_eq_getElem (by omega)]
    exact this
theorem srt_mem {L : List Int} {x : Int} : (∃ i, i < (srt L).length ∧ (srt L).getD i 0 = x) ↔ ∃ i, i < L.length ∧ L.getD i 0 = x := by
  have e : x ∈ srt L ↔ ∃ i, i < L.length ∧ L.getD i 0 = x := by
    rw [srt, vals, List.mem_map]
    exact ⟨fun ⟨a, h1, h2⟩ => ⟨a, (rk_mem _ _ _).1 h1, h2⟩, fun ⟨a, h1, h2⟩ => ⟨a, (rk_mem _ _ _).2 h1, h2⟩⟩
  rw [← e]
  exact ⟨fun ⟨i, h1, h2⟩ => by rw [← h2]; exact getD_mem h1, mem_getD⟩
theorem srt_count {L : List Int} {s : Nat} (hm : ∀ x, (∃ i, i < L.length ∧ L.getD i 0 = x) ↔ ∃ k : Nat, k < s ∧ (k : Int) = x) : cpN (srt L) L.length = s := by
  have := cp_count (srt_st L) (s := s) fun x => by rw [srt_mem, hm]
  rw [srt_len] at this; exact this
theorem mp_get {g : Nat → List Int} {w : Nat} (h : ∀ i, (g i).length = w) : ∀ {n i j : Nat}, i < n → j < w → (mp g n).getD (i * w + j) 0 = (g i).getD j 0
  | 0, _, _, hi, _ => by omega
  | n + 1, i, j, hi, hj => by
    rw [mp_succ, List.getD_eq_getElem?_getD]
    have hl := mp_len h n
    by_cases e : i = n
    · subst e
      rw [List.getElem?_append_right (by omega), hl, show i * w + j - i * w = j by omega, ← List.getD_eq_getElem?_getD]
    · have a : (i + 1) * w ≤ n * w := Nat.mul_le_mul_right _ (by omega)
      rw [Nat.succ_mul] at a
      rw [List.getElem?_append_left (by omega), ← List.getD_eq_getElem?_getD]
      exact mp_get h (by omega) hj
theorem mp_ext {g k : Nat → List Int} : ∀ {n : Nat}, (∀ i, i < n → g i = k i) → mp g n = mp k n
  | 0, _ => rfl
  | n + 1, h => by rw [mp_succ, mp_succ, mp_ext fun i hi => h i (by omega), h n (by omega)]
/-- Of the numbers that p allows, in order. -/
theorem filt_at {p : Nat → Bool} : ∀ {G i : Nat}, i < G → p i = true → ((List.range i).filter p).length < ((List.range G).filter p).length ∧ ((List.range G).filter p)[((List.range i).filter p).length]? = some i
  | 0, _, h, _ => by omega
  | G + 1, i, h, hp => by
    rw [List.range_succ, List.filter_append]
    by_cases e : i = G
    · subst e
      have : List.filter p [i] = [i] := by simp [hp]
      rw [this, List.length_append]
      refine ⟨by simp, ?_⟩
      rw [List.getElem?_append_right (Nat.le_refl _), Nat.sub_self]; rfl
    · obtain ⟨h1, h2⟩ := filt_at (G := G) (i := i) (by omega) hp
      refine ⟨by rw [List.length_append]; omega, ?_⟩
      rw [List.getElem?_append_left h1]; exact h2
end
end Qq
end
section
/- What is heard: facts of the echoes, of their points and groups. -/
open Go Go.Vm Go.Proofs Sp
namespace Qq
noncomputable section
structure Hrd (rs ss : List Int) (nR nS : Nat) : Prop where
  r1 : 1 ≤ nR
  r4 : nR ≤ 4
  s1 : 1 ≤ nS
  s3 : nS ≤ 3
  lr : rs.length = nR * 2
  ls : ss.length = nS
  br : ∀ x ∈ rs, 0 ≤ x ∧ x ≤ 255
theorem tm4 (s : Int) : -3 ≤ s.tmod 4 ∧ s.tmod 4 ≤ 3 := by
  have h1 := Int.tmod_lt_of_pos s (b := 4) (by decide)
  have h2 := Int.lt_tmod_of_pos s (b := 4) (by decide)
  omega
theorem psL_in (ss : List Int) (k : Nat) : -3 ≤ (psL ss).getD k 0 ∧ (psL ss).getD k 0 ≤ 3 := by
  rw [List.getD_eq_getElem?_getD, psL, List.getElem?_map]
  cases h : ss[k]? with
  | none => exact ⟨by decide, by decide⟩
  | some s => exact tm4 s
theorem ngL_at (ss : List Int) (k : Nat) : (ngL ss).getD k 0 = -(psL ss).getD k 0 := by
  rw [List.getD_eq_getElem?_getD, List.getD_eq_getElem?_getD, ngL, psL, List.getElem?_map, List.getElem?_map]
  cases h : ss[k]? with
  | none => rfl
  | some s => rfl
section
variable {rs ss : List Int} {nR nS : Nat} (h : Hrd rs ss nR nS)
include h
theorem nE_in : 1 ≤ nE nR nS ∧ nE nR nS ≤ 12 ∧ nE nR nS = nR * nS := by
  obtain ⟨r1, r4, s1, s3, _, _, _⟩ := h
  have e : nE nR nS = nR * nS := by rw [nE, cnt, Nat.add_zero]
  rw [e]
  have a : nR * nS ≤ 4 * 3 := Nat.mul_le_mul r4 s3
  have b : 1 * 1 ≤ nR * nS := Nat.mul_le_mul r1 s1
  omega
theorem q_in {q : Nat} (hq : q < nE nR nS) : q / nS < nR ∧ q % nS < nS := by
  rw [(nE_in h).2.2] at hq
  exact ⟨Nat.div_lt_of_lt_mul (by rw [Nat.mul_comm]; exact hq), Nat.mod_lt _ h.s1⟩
theorem rs_in {i : Nat} (hi : i < nR * 2) : 0 ≤ rs.getD i 0 ∧ rs.getD i 0 ≤ 255 := h.br _ (getD_mem (by rw [h.lr]; exact hi))
theorem rX_in {i : Nat} (hi : i < nR) : 1000 ≤ rX rs i ∧ rX rs i ≤ 1255 := by
  have := rs_in h (i := i * 2) (by omega)
  rw [rX]; omega
theorem rY_in {i : Nat} (hi : i < nR) : 1 ≤ rY rs i ∧ rY rs i ≤ 40 := by
  have a := rs_in h (i := i * 2 + 1) (by omega)
  have b := Int.tmod_lt_of_pos (rs.getD (i * 2 + 1) 0) (b := 40) (by decide)
  have c := Int.tmod_nonneg 40 a.1
  rw [rY]; omega
theorem psC_all : psC ss nS = ints (psL ss) := by rw [psC, List.take_of_length_le (by rw [psL, List.length_map, h.ls]; exact Nat.le_refl _)]
theorem ngC_all : ngC ss nS = ints (ngL ss) := by rw [ngC, List.take_of_length_le (by rw [ngL, List.length_map, h.ls]; exact Nat.le_refl _)]
theorem pIs_ps : pIs (psC ss nS) nS := by
  refine ⟨⟨psL ss, psC_all h, by rw [psL, List.length_map, h.ls], fun x hx => ?_⟩, h.s1, by have := h.s3; omega⟩
  obtain ⟨i, _, e⟩ := mem_getD hx
  rw [← e]; exact psL_in ss i
theorem pIs_ng : pIs (ngC ss nS) nS := by
  refine ⟨⟨ngL ss, ngC_all h, by rw [ngL, List.length_map, h.ls], fun x hx => ?_⟩, h.s1, by have := h.s3; omega⟩
  obtain ⟨i, _, e⟩ := mem_getD hx
  rw [← e, ngL_at]
  have := psL_in ss i
  omega
omit h in
theorem th_len (q : Nat) : (thE rs ss nS q).length = 3 := rfl
omit h in
theorem bk_len (q : Nat) : (bkE rs ss nS q).length = 3 := rfl
omit h in
theorem po_len (q : Nat) : (poE rs nS q).length = 2 := rfl
theorem mulY {i k : Nat} (hi : i < nR) : -120 ≤ (psL ss).getD k 0 * rY rs i ∧ (psL ss).getD k 0 * rY rs i ≤ 120 := by
  have a := psL_in ss k
  have b := rY_in h hi
  generalize (psL ss).getD k 0 = x at a
  generalize rY rs i = y at b
  have c : -3 * y ≤ x * y := Int.mul_le_mul_of_nonneg_right a.1 (by omega)
  have d : x * y ≤ 3 * y := Int.mul_le_mul_of_nonneg_right a.2 (by omega)
  omega
theorem eIs_th : eIs (thC rs ss nS (nE nR nS)) (nE nR nS) nS := by
  have hn := nE_in h
  refine ⟨_, rfl, mp_len th_len _, by omega, fun i hi => ?_⟩
  obtain ⟨h1, h2⟩ := q_in h hi
  have a0 := mp_get (th_len (rs := rs) (ss := ss) (nS := nS)) (j := 0) hi (by decide)
  have a1 := mp_get (th_len (rs := rs) (ss := ss) (nS := nS)) (j := 1) hi (by decide)
  have a2 := mp_get (th_len (rs := rs) (ss := ss) (nS := nS)) (j := 2) hi (by decide)
  rw [Nat.add_zero] at a0
  rw [a0, a1, a2]
  have x := rX_in h h1
  have y := rY_in h h1
  have m := mulY h (k := i % nS) h1
  show vE nS ((i % nS : Nat) : Int) (rX rs (i / nS) - (psL ss).getD (i % nS) 0 * rY rs (i / nS)) (rY rs (i / nS))
  exact ⟨by omega, by omega, by omega⟩
theorem eIs_bk : eIs (bkC rs ss nS (nE nR nS)) (nE nR nS) nS := by
  have hn := nE_in h
  refine ⟨_, rfl, mp_len bk_len _, by omega, fun i hi => ?_⟩
  obtain ⟨h1, h2⟩ := q_in h hi
  have a0 := mp_get (bk_len (rs := rs) (ss := ss) (nS := nS)) (j := 0) hi (by decide)
  have a1 := mp_get (bk_len (rs := rs) (ss := ss) (nS := nS)) (j := 1) hi (by decide)
  have a2 := mp_get (bk_len (rs := rs) (ss := ss) (nS := nS)) (j := 2) hi (by decide)
  rw [Nat.add_zero] at a0
  rw [a0, a1, a2]
  have x := rX_in h h1
  have y := rY_in h h1
  have m := mulY h (k := i % nS) h1
  show vE nS ((i % nS : Nat) : Int) (10000 - rX rs (i / nS) - (ngL ss).getD (i % nS) 0 * rY rs (i / nS)) (rY rs (i / nS))
  rw [ngL_at, Int.neg_mul]
  exact ⟨by omega, by omega, by omega⟩
/-- The mirrored points. -/
def miE (rs : List Int) (nS q : Nat) : List Int := [10000 - rX rs (q / nS), rY rs (q / nS)]
theorem plT_eq : plC (thC rs ss nS (nE nR nS)) (psC ss nS) (nE nR nS) = poC rs nS (nE nR nS) := by
  rw [plC, poC, thC, psC_all h, deI_ints, deI_ints]
  refine congrArg ints (mp_ext fun i hi => ?_)
  have a0 := mp_get (th_len (rs := rs) (ss := ss) (nS := nS)) (j := 0) hi (by decide)
  have a1 := mp_get (th_len (rs := rs) (ss := ss) (nS := nS)) (j := 1) hi (by decide)
  have a2 := mp_get (th_len (rs := rs) (ss := ss) (nS := nS)) (j := 2) hi (by decide)
  rw [Nat.add_zero] at a0
  rw [gL, a0, a1, a2]
  show [rX rs (i / nS) - (psL ss).getD (i % nS) 0 * rY rs (i / nS) + (psL ss).getD ((i % nS : Nat) : Int).toNat 0 * rY rs (i / nS), rY rs (i / nS)] = _
  rw [Int.toNat_natCast, Int.sub_add_cancel]; rfl
theorem plB_eq : plC (bkC rs ss nS (nE nR nS)) (ngC ss nS) (nE nR nS) = ints (mp (miE rs nS) (nE nR nS)) := by
  rw [plC, bkC, ngC_all h, deI_ints, deI_ints]
  refine congrArg ints (mp_ext fun i hi => ?_)
  have a0 := mp_get (bk_len (rs := rs) (ss := ss) (nS := nS)) (j := 0) hi (by decide)
  have a1 := mp_get (bk_len (rs := rs) (ss := ss) (nS := nS)) (j := 1) hi (by decide)
  have a2 := mp_get (bk_len (rs := rs) (ss := ss) (nS := nS)) (j := 2) hi (by decide)
  rw [Nat.add_zero] at a0
  rw [gL, a0, a1, a2]
  show [10000 - rX rs (i / nS) - (ngL ss).getD (i % nS) 0 * rY rs (i / nS) + (ngL ss).getD ((i % nS : Nat) : Int).toNat 0 * rY rs (i / nS), rY rs (i / nS)] = _
  rw [Int.toNat_natCast, Int.sub_add_cancel]; rfl
omit h in
theorem mi_len (q : Nat) : (miE rs nS q).length = 2 := rfl
/-- Two reflectors at one point. -/
def sR2 (rs : List Int) (i k : Nat) : Prop := rX rs i = rX rs k ∧ rY rs i = rY rs k
omit h in
theorem eN_mp {g : Nat → List Int} (hg : ∀ q, (g q).length = 2) {n i k : Nat} (hi : i < n) (hk : k < n) : eN (mp g n) i k = true ↔ (g i).getD 0 0 = (g k).getD 0 0 ∧ (g i).getD 1 0 = (g k).getD 1 0 := by
  rw [eN_iff]
  have a0 := mp_get hg (j := 0) hi (by decide)
  have a1 := mp_get hg (j := 1) hi (by decide)
  have b0 := mp_get hg (j := 0) hk (by decide)
  have b1 := mp_get hg (j := 1) hk (by decide)
  rw [Nat.add_zero] at a0 b0
  rw [a0, a1, b0, b1]
omit h in
theorem eN_po {n i k : Nat} (hi : i < n) (hk : k < n) : eN (mp (poE rs nS) n) i k = true ↔ sR2 rs (i / nS) (k / nS) := eN_mp po_len hi hk
omit h in
theorem eN_mi {n i k : Nat} (hi : i < n) (hk : k < n) : eN (mp (miE rs nS) n) i k = true ↔ sR2 rs (i / nS) (k / nS) := by
  rw [eN_mp mi_len hi hk]
  show (10000 - rX rs (i / nS) = 10000 - rX rs (k / nS) ∧ rY rs (i / nS) = rY rs (k / nS)) ↔ _
  rw [sR2]
  exact and_congr_left fun _ => ⟨fun _ => by omega, fun _ => by omega⟩
omit h in
theorem eN_rz {n i k : Nat} (hi : i < n) (hk : k < n) : eN (rz rs n) i k = true ↔ sR2 rs i k := eN_mp (fun _ => rfl) hi hk
omit h in
theorem eN_two {n i k : Nat} (hi : i < n) (hk : k < n) : eN (mp (miE rs nS) n) i k = eN (mp (poE rs nS) n) i k := by
  rw [Bool.eq_iff_iff, eN_mi hi hk, eN_po hi hk]
omit h in
theorem mem_two {n i : Nat} (hi : i < n) : mem (mp (miE rs nS) n) n i = mem (mp (poE rs nS) n) n i := List.filter_congr fun _ hk => eN_two hi (List.mem_range.1 hk)
omit h in
theorem fs_two {n : Nat} : fs (mp (miE rs nS) n) n = fs (mp (poE rs nS) n) n := by
  rw [fs, fs]
  refine List.filter_congr fun j hj => ?_
  have hj := List.mem_range.1 hj
  rw [Bool.eq_iff_iff, List.all_eq_true, List.all_eq_true]
  exact ⟨fun h k hk => by rw [← eN_two (by have := List.mem_range.1 hk; omega) hj]; exact h k hk, fun h k hk => by rw [eN_two (by have := List.mem_range.1 hk; omega) hj]; exact h k hk⟩
theorem fs_refl : fs (mp (poE rs nS) (nE nR nS)) (nE nR nS) = (fs (rz rs nR) nR).map (· * nS) := by
  have hs := h.s1
  have hn := (nE_in h).2.2
  have mono : ∀ {a b : Nat}, a < b → a * nS < b * nS := fun {a b} hab => Nat.mul_lt_mul_of_pos_right hab hs
  refine up_eqN (List.Pairwise.filter _ List.pairwise_lt_range) ?_ fun q => ?_
  · rw [List.pairwise_map]
    exact (List.Pairwise.filter _ List.pairwise_lt_range).imp fun hab => mono hab
  · rw [fs_iff, List.mem_map]
    constructor
    · rintro ⟨hq, h0⟩
      obtain ⟨q1, q2⟩ := q_in h hq
      have hd := Nat.div_add_mod q nS
      have hc : nS * (q / nS) = q / nS * nS := Nat.mul_comm _ _
      have hz : q % nS = 0 := by
        cases e : q % nS with
        | zero => rfl
        | succ k =>
          have h1 := h0 (q - 1) (by omega)
          have e1 : (q - 1) / nS = q / nS := by
            have : q - 1 = nS * (q / nS) + k := by omega
            rw [this, Nat.mul_add_div hs, Nat.div_eq_of_lt (show k < nS by omega), Nat.add_zero]
          have : eN (mp (poE rs nS) (nE nR nS)) (q - 1) q = true := (eN_po (by omega) hq).2 (by rw [e1]; exact ⟨rfl, rfl⟩)
          rw [this] at h1; cases h1
      refine ⟨q / nS, fs_iff.2 ⟨q1, fun i hi => ?_⟩, by show q / nS * nS = q; omega⟩
      cases e : eN (rz rs nR) i (q / nS) with
      | false => rfl
      | true =>
        have a := (eN_rz (by omega) q1).1 e
        have hlt : i * nS < q := by have := mono hi; omega
        have h1 := h0 (i * nS) hlt
        have : eN (mp (poE rs nS) (nE nR nS)) (i * nS) q = true := (eN_po (by omega) hq).2 (by rw [Nat.mul_div_cancel _ hs]; exact a)
        rw [this] at h1; cases h1
    · rintro ⟨i, hi, e⟩
      obtain ⟨i1, i2⟩ := fs_iff.1 hi
      have e : i * nS = q := e
      subst e
      have hq : i * nS < nE nR nS := by rw [hn]; exact mono i1
      refine ⟨hq, fun k hk => ?_⟩
      have hk1 : k / nS < i := Nat.div_lt_of_lt_mul (by rw [Nat.mul_comm]; exact hk)
      cases e : eN (mp (poE rs nS) (nE nR nS)) k (i * nS) with
      | false => rfl
      | true =>
        have a := (eN_po (by omega) hq).1 e
        rw [Nat.mul_div_cancel _ hs] at a
        have := i2 (k / nS) hk1
        rw [(eN_rz (by omega) i1).2 a] at this; cases this
theorem G_in : (fs (mp (poE rs nS) (nE nR nS)) (nE nR nS)).length = dfN rs nR nR ∧ 1 ≤ dfN rs nR nR ∧ dfN rs nR nR ≤ 4 := by
  refine ⟨by rw [fs_refl h, List.length_map]; rfl, ?_, ?_⟩
  · exact List.length_pos_of_mem (a := 0) (fs_iff.2 ⟨h.r1, fun k hk => by omega⟩)
  · have := List.length_filter_le (fun j => (List.range j).all fun k => !eN (rz rs nR) k j) (List.range nR)
    rw [List.length_range] at this
    have h4 := h.r4
    show (fs (rz rs nR) nR).length ≤ 4
    rw [fs]; omega
theorem po_small : smallZ (mp (poE rs nS) (nE nR nS)) (nE nR nS) := by
  have hn := nE_in h
  refine ⟨mp_len po_len _, by omega, mp_all fun i hi a ha => ?_⟩
  obtain ⟨h1, _⟩ := q_in h hi
  have x := rX_in h h1
  have y := rY_in h h1
  have ha : a ∈ [rX rs (i / nS), rY rs (i / nS)] := ha
  simp only [List.mem_cons, List.not_mem_nil, or_false] at ha
  rcases ha with rfl | rfl
  · omega
  · omega
theorem mi_small : smallZ (mp (miE rs nS) (nE nR nS)) (nE nR nS) := by
  have hn := nE_in h
  refine ⟨mp_len mi_len _, by omega, mp_all fun i hi a ha => ?_⟩
  obtain ⟨h1, _⟩ := q_in h hi
  have x := rX_in h h1
  have y := rY_in h h1
  have ha : a ∈ [10000 - rX rs (i / nS), rY rs (i / nS)] := ha
  simp only [List.mem_cons, List.not_mem_nil, or_false] at ha
  rcases ha with rfl | rfl
  · omega
  · omega
end
end
end Qq
end
section
/- What is heard: the groups, their probes and depths. -/
open Go Go.Vm Go.Proofs Sp
namespace Qq
noncomputable section
theorem natM_at {M : List Nat} {i : Nat} (hi : i < M.length) : ∃ k, k ∈ M ∧ (nats M).getD i 0 = (k : Int) := by
  obtain ⟨k, h1, h2⟩ := mem_nats.1 (getD_mem (L := nats M) (i := i) (by rw [nats_len]; exact hi))
  exact ⟨k, h1, h2.symm⟩
/-- Points and echoes of which each group has all probes. -/
structure Gd (pt ee : Nat → List Int) (nS n : Nat) : Prop where
  lp : ∀ q, (pt q).length = 2
  le : ∀ q, (ee q).length = 3
  n12 : n ≤ 12
  s1 : 1 ≤ nS
  pr : ∀ q, q < n → (ee q).getD 0 0 = ((q % nS : Nat) : Int)
  al : ∀ q, q < n → ∀ k, k < nS → ∃ q', q' < n ∧ q' % nS = k ∧ eN (mp pt n) q q' = true
  fw : ∀ q, q < n → few ((pt q).getD 0 0) ∧ few ((pt q).getD 1 0)
section
variable {pt ee : Nat → List Int} {nS n : Nat} (h : Gd pt ee nS n) {j : Nat} (hj : j < (fs (mp pt n) n).length)
/-- The first one of a group. -/
noncomputable def fst1 (z : List Int) (n j : Nat) : Nat := (fs z n).getD j 0
include hj in
theorem fst_in : fst1 (mp pt n) n j < n := by
  have : fst1 (mp pt n) n j ∈ fs (mp pt n) n := by
    rw [fst1, List.getD_eq_getElem?_getD, List.getElem?_eq_getElem hj]; exact List.getElem_mem _
  exact (fs_iff.1 this).1
theorem gI_eq (z : List Int) (n j : Nat) : gI2 z n (fs z n) j = nats (mem z n (fst1 z n j)) := rfl
theorem gL_eq (z : List Int) (n j : Nat) : gLen z n (fs z n) j = (mem z n (fst1 z n j)).length := rfl
include h hj
theorem gl_in : 1 ≤ gLen (mp pt n) n (fs (mp pt n) n) j ∧ gLen (mp pt n) n (fs (mp pt n) n) j ≤ 12 := by
  rw [gL_eq]
  have a := len_pos (z := mp pt n) (fst_in hj)
  have b := mem_le (mp pt n) n (fst1 (mp pt n) n j)
  have c := h.n12
  omega
omit h in
/-- A member of the group. -/
theorem gi_at {i : Nat} (hi : i < gLen (mp pt n) n (fs (mp pt n) n) j) : ∃ k, k < n ∧ eN (mp pt n) (fst1 (mp pt n) n j) k = true ∧ (gI2 (mp pt n) n (fs (mp pt n) n) j).getD i 0 = (k : Int) := by
  have _ := hj
  rw [gI_eq]
  rw [gL_eq] at hi
  obtain ⟨k, h1, h2⟩ := natM_at hi
  obtain ⟨h3, h4⟩ := mem_iff.1 h1
  exact ⟨k, h3, h4, h2⟩
omit hj in
theorem pt_at {k : Nat} (hk : k < n) : (mp pt n).getD (k * 2) 0 = (pt k).getD 0 0 ∧ (mp pt n).getD (k * 2 + 1) 0 = (pt k).getD 1 0 := by
  have a := mp_get h.lp (j := 0) hk (by decide)
  have b := mp_get h.lp (j := 1) hk (by decide)
  rw [Nat.add_zero] at a
  exact ⟨a, b⟩
/-- The points of a group. -/
theorem gq_at {i : Nat} (hi : i < gLen (mp pt n) n (fs (mp pt n) n) j) : (mp (gQ (gI2 (mp pt n) n (fs (mp pt n) n) j) (mp pt n)) (gLen (mp pt n) n (fs (mp pt n) n) j)).getD (i * 2) 0 = (pt (fst1 (mp pt n) n j)).getD 0 0 ∧
    (mp (gQ (gI2 (mp pt n) n (fs (mp pt n) n) j) (mp pt n)) (gLen (mp pt n) n (fs (mp pt n) n) j)).getD (i * 2 + 1) 0 = (pt (fst1 (mp pt n) n j)).getD 1 0 := by
  have l2 : ∀ q, (gQ (gI2 (mp pt n) n (fs (mp pt n) n) j) (mp pt n) q).length = 2 := fun _ => rfl
  have a := mp_get l2 (j := 0) hi (by decide)
  have b := mp_get l2 (j := 1) hi (by decide)
  rw [Nat.add_zero] at a
  obtain ⟨k, k1, k2, k3⟩ := gi_at hj hi
  have e := eN_iff.1 k2
  have f := pt_at h (fst_in hj)
  rw [a, b]
  show (mp pt n).getD (((gI2 (mp pt n) n (fs (mp pt n) n) j).getD i 0).toNat * 2) 0 = _ ∧ (mp pt n).getD (((gI2 (mp pt n) n (fs (mp pt n) n) j).getD i 0).toNat * 2 + 1) 0 = _
  rw [k3, Int.toNat_natCast, ← e.1, ← e.2]
  exact f
theorem ge_at {i : Nat} (hi : i < gLen (mp pt n) n (fs (mp pt n) n) j) : ∃ k, k < n ∧ eN (mp pt n) (fst1 (mp pt n) n j) k = true ∧ (gI2 (mp pt n) n (fs (mp pt n) n) j).getD i 0 = (k : Int) ∧ (mp (gE (gI2 (mp pt n) n (fs (mp pt n) n) j) (mp ee n)) (gLen (mp pt n) n (fs (mp pt n) n) j)).getD (i * 3) 0 = ((k % nS : Nat) : Int) := by
  have l3 : ∀ q, (gE (gI2 (mp pt n) n (fs (mp pt n) n) j) (mp ee n) q).length = 3 := fun _ => rfl
  have a := mp_get l3 (j := 0) hi (by decide)
  rw [Nat.add_zero] at a
  obtain ⟨k, k1, k2, k3⟩ := gi_at hj hi
  refine ⟨k, k1, k2, k3, ?_⟩
  rw [a]
  show (mp ee n).getD (((gI2 (mp pt n) n (fs (mp pt n) n) j).getD i 0).toNat * 3) 0 = _
  have b := mp_get h.le (j := 0) k1 (by decide)
  rw [Nat.add_zero] at b
  rw [k3, Int.toNat_natCast, b, h.pr k k1]
theorem nu_eq : nuC (geC (ints (gI2 (mp pt n) n (fs (mp pt n) n) j)) (ints (mp ee n)) (gLen (mp pt n) n (fs (mp pt n) n) j)) (gLen (mp pt n) n (fs (mp pt n) n) j) = nS := by
  rw [nuC, geC, deI_ints, deI_ints, usC, deI_ints, srC, deI_ints, cpC, deI_ints]
  generalize hU : mp (gU (mp (gE (gI2 (mp pt n) n (fs (mp pt n) n) j) (mp ee n)) (gLen (mp pt n) n (fs (mp pt n) n) j)) []) (gLen (mp pt n) n (fs (mp pt n) n) j) = U
  have hl : U.length = gLen (mp pt n) n (fs (mp pt n) n) j := by rw [← hU, mp_len (w := 1) (fun _ => rfl), Nat.mul_one]
  have hat : ∀ i, i < gLen (mp pt n) n (fs (mp pt n) n) j → U.getD i 0 = (mp (gE (gI2 (mp pt n) n (fs (mp pt n) n) j) (mp ee n)) (gLen (mp pt n) n (fs (mp pt n) n) j)).getD (i * 3) 0 := fun i hi => by
    have a := mp_get (g := gU (mp (gE (gI2 (mp pt n) n (fs (mp pt n) n) j) (mp ee n)) (gLen (mp pt n) n (fs (mp pt n) n) j)) []) (w := 1) (fun _ => rfl) (j := 0) hi (by decide)
    rw [Nat.mul_one, Nat.add_zero] at a
    rw [← hU, a]; rfl
  rw [← hl]
  refine srt_count fun x => ?_
  rw [hl]
  constructor
  · rintro ⟨i, hi, rfl⟩
    obtain ⟨k, _, _, _, e⟩ := ge_at h hj hi
    rw [hat i hi, e]
    exact ⟨k % nS, Nat.mod_lt _ h.s1, rfl⟩
  · rintro ⟨k, hk, rfl⟩
    obtain ⟨q, q1, q2, q3⟩ := h.al _ (fst_in hj) k hk
    have hm : q ∈ mem (mp pt n) n (fst1 (mp pt n) n j) := mem_iff.2 ⟨q1, q3⟩
    obtain ⟨i, hi, e⟩ := mem_getD (mem_nats.2 ⟨q, hm, rfl⟩)
    rw [nats_len] at hi
    refine ⟨i, hi, ?_⟩
    obtain ⟨k', _, _, e1, e2⟩ := ge_at h hj hi
    have e3 : (k' : Int) = (q : Int) := by rw [← e1, gI_eq, e]
    have e3 : k' = q := by omega
    rw [hat i hi, e2, e3, q2]
theorem one_P : oneP (gqC (ints (gI2 (mp pt n) n (fs (mp pt n) n) j)) (ints (mp pt n)) (gLen (mp pt n) n (fs (mp pt n) n) j)) (gLen (mp pt n) n (fs (mp pt n) n) j) := by
  have g := gl_in h hj
  have f := h.fw _ (fst_in hj)
  rw [gqC, deI_ints, deI_ints]
  exact ⟨_, rfl, mp_len (w := 2) (fun _ => rfl) _, g.1, g.2, _, _, f.1, f.2, fun i hi => gq_at h hj hi⟩
theorem gJ_ok : gJ (mp pt n) n (fs (mp pt n) n) (ints (mp ee n)) (ints (mp pt n)) n n 1 (nS : Int) j := by
  have g := gl_in h hj
  have gi : ∃ z, ints (gI2 (mp pt n) n (fs (mp pt n) n) j) = ints z ∧ z.length = gLen (mp pt n) n (fs (mp pt n) n) j * 1 ∧ 1 ≤ gLen (mp pt n) n (fs (mp pt n) n) j ∧ gLen (mp pt n) n (fs (mp pt n) n) j ≤ 12 ∧ ∀ i, i < gLen (mp pt n) n (fs (mp pt n) n) j → 0 ≤ z.getD i 0 ∧ z.getD i 0 < n := by
    refine ⟨_, rfl, ?_, g.1, g.2, fun i hi => ?_⟩
    · rw [gI_eq, gL_eq, nats_len, Nat.mul_one]
    · obtain ⟨k, k1, _, k3⟩ := gi_at hj hi
      rw [k3]; omega
  refine ⟨⟨⟨_, rfl, mp_len h.le _⟩, gi⟩, ⟨⟨_, rfl, mp_len h.lp _⟩, gi⟩, ⟨?_, one_P h hj, ?_⟩, rfl, rfl⟩
  · exact ⟨_, rfl, mp_len (w := 3) (fun _ => rfl) _, g.1, g.2⟩
  · rw [nu_eq h hj]
/-- The depth of a group. -/
theorem dpB_eq : dpB (gqC (ints (gI2 (mp pt n) n (fs (mp pt n) n) j)) (ints (mp pt n)) (gLen (mp pt n) n (fs (mp pt n) n) j)) (gLen (mp pt n) n (fs (mp pt n) n) j) = !outI 1 20 ((pt (fst1 (mp pt n) n j)).getD 1 0) := by
  have g := gl_in h hj
  rw [dpB, allIC, ysC, gqC, deI_ints, deI_ints, deI_ints, deI_ints, mp_const (v := (pt (fst1 (mp pt n) n j)).getD 1 0) fun i hi => by rw [gY, (gq_at h hj hi).2]]
  obtain ⟨k, hk⟩ : ∃ k, gLen (mp pt n) n (fs (mp pt n) n) j = k + 1 := ⟨gLen (mp pt n) n (fs (mp pt n) n) j - 1, by omega⟩
  rw [hk]
  congr 1
  rw [Bool.eq_iff_iff, List.any_eq_true]
  exact ⟨fun ⟨x, h1, h2⟩ => by rw [← List.eq_of_mem_replicate h1]; exact h2, fun h => ⟨_, List.mem_replicate.2 ⟨by omega, rfl⟩, h⟩⟩
theorem wN_eq : wN (mp pt n) n (fs (mp pt n) n) (ints (mp pt n)) j = if (!outI 1 20 ((pt (fst1 (mp pt n) n j)).getD 1 0)) = true then 1 else 0 := by
  rw [wN, dpN, dpB_eq h hj]
theorem wC_eq (c : ByteArray) : wC (mp pt n) n (fs (mp pt n) n) (ints (mp pt n)) c j = if (!outI 1 20 ((pt (fst1 (mp pt n) n j)).getD 1 0)) = true then [.string c] else [] := by
  rw [wC, dpC, dpB_eq h hj]
end
section
variable {rs ss : List Int} {nR nS : Nat} (h : Hrd rs ss nR nS)
include h
theorem all_in {q k : Nat} (hq : q < nE nR nS) (hk : k < nS) : ∃ q', q' < nE nR nS ∧ q' % nS = k ∧ sR2 rs (q / nS) (q' / nS) := by
  obtain ⟨h1, _⟩ := q_in h hq
  have hs := h.s1
  have hn := (nE_in h).2.2
  have a : nS * (q / nS + 1) ≤ nS * nR := Nat.mul_le_mul_left _ (by omega)
  rw [Nat.mul_succ, Nat.mul_comm nS nR] at a
  refine ⟨nS * (q / nS) + k, by omega, ?_, ?_⟩
  · rw [Nat.mul_add_mod, Nat.mod_eq_of_lt hk]
  · rw [Nat.mul_add_div hs, Nat.div_eq_of_lt hk, Nat.add_zero]; exact ⟨rfl, rfl⟩
theorem gd_po : Gd (poE rs nS) (thE rs ss nS) nS (nE nR nS) := by
  refine ⟨po_len, th_len, (nE_in h).2.1, h.s1, fun q _ => rfl, fun q hq k hk => ?_, fun q hq => ?_⟩
  · obtain ⟨q', h1, h2, h3⟩ := all_in h hq hk
    exact ⟨q', h1, h2, (eN_po hq h1).2 h3⟩
  · obtain ⟨h1, _⟩ := q_in h hq
    have x := rX_in h h1
    have y := rY_in h h1
    exact ⟨⟨by show -1000000 ≤ rX rs (q / nS); omega, by show rX rs (q / nS) ≤ _; omega⟩, ⟨by show -1000000 ≤ rY rs (q / nS); omega, by show rY rs (q / nS) ≤ _; omega⟩⟩
theorem gd_mi : Gd (miE rs nS) (bkE rs ss nS) nS (nE nR nS) := by
  refine ⟨mi_len, bk_len, (nE_in h).2.1, h.s1, fun q _ => rfl, fun q hq k hk => ?_, fun q hq => ?_⟩
  · obtain ⟨q', h1, h2, h3⟩ := all_in h hq hk
    exact ⟨q', h1, h2, (eN_mi hq h1).2 h3⟩
  · obtain ⟨h1, _⟩ := q_in h hq
    have x := rX_in h h1
    have y := rY_in h h1
    exact ⟨⟨by show -1000000 ≤ 10000 - rX rs (q / nS); omega, by show 10000 - rX rs (q / nS) ≤ _; omega⟩, ⟨by show -1000000 ≤ rY rs (q / nS); omega, by show rY rs (q / nS) ≤ _; omega⟩⟩
/-- Whether a group is deep. -/
noncomputable def deepB (rs : List Int) (nS n j : Nat) : Bool := decide (20 < rY rs (fst1 (mp (poE rs nS) n) n j / nS))
theorem out_deep {j : Nat} (hj : j < (fs (mp (poE rs nS) (nE nR nS)) (nE nR nS)).length) : outI 1 20 (rY rs (fst1 (mp (poE rs nS) (nE nR nS)) (nE nR nS) j / nS)) = deepB rs nS (nE nR nS) j := by
  obtain ⟨h1, _⟩ := q_in h (fst_in hj)
  have y := rY_in h h1
  rw [outI, deepB, decide_eq_false (by omega), Bool.false_or]
theorem wN_po {j : Nat} (hj : j < (fs (mp (poE rs nS) (nE nR nS)) (nE nR nS)).length) : wN (mp (poE rs nS) (nE nR nS)) (nE nR nS) (fs (mp (poE rs nS) (nE nR nS)) (nE nR nS)) (ints (mp (poE rs nS) (nE nR nS))) j = if deepB rs nS (nE nR nS) j = true then 0 else 1 := by
  rw [wN_eq (gd_po (ss := ss) h) hj]
  show (if (!outI 1 20 (rY rs (fst1 (mp (poE rs nS) (nE nR nS)) (nE nR nS) j / nS))) = true then 1 else 0) = _
  rw [out_deep h hj]
  cases deepB rs nS (nE nR nS) j <;> rfl
theorem wC_po {j : Nat} (c : ByteArray) (hj : j < (fs (mp (poE rs nS) (nE nR nS)) (nE nR nS)).length) : wC (mp (poE rs nS) (nE nR nS)) (nE nR nS) (fs (mp (poE rs nS) (nE nR nS)) (nE nR nS)) (ints (mp (poE rs nS) (nE nR nS))) c j = if deepB rs nS (nE nR nS) j = true then [] else [.string c] := by
  rw [wC_eq (gd_po (ss := ss) h) hj]
  show (if (!outI 1 20 (rY rs (fst1 (mp (poE rs nS) (nE nR nS)) (nE nR nS) j / nS))) = true then [Value.string c] else []) = _
  rw [out_deep h hj]
  cases deepB rs nS (nE nR nS) j <;> rfl
omit h in
theorem fst_two (j n : Nat) : fst1 (mp (miE rs nS) n) n j = fst1 (mp (poE rs nS) n) n j := by rw [fst1, fst1, fs_two]
theorem wN_mi {j : Nat} (hj : j < (fs (mp (poE rs nS) (nE nR nS)) (nE nR nS)).length) : wN (mp (miE rs nS) (nE nR nS)) (nE nR nS) (fs (mp (miE rs nS) (nE nR nS)) (nE nR nS)) (ints (mp (miE rs nS) (nE nR nS))) j = if deepB rs nS (nE nR nS) j = true then 0 else 1 := by
  rw [wN_eq (gd_mi (ss := ss) h) (by rw [fs_two]; exact hj), fst_two]
  show (if (!outI 1 20 (rY rs (fst1 (mp (poE rs nS) (nE nR nS)) (nE nR nS) j / nS))) = true then 1 else 0) = _
  rw [out_deep h hj]
  cases deepB rs nS (nE nR nS) j <;> rfl
theorem sJ_ok {j : Nat} (hj : j < (fs (mp (poE rs nS) (nE nR nS)) (nE nR nS)).length) : sJ (mp (poE rs nS) (nE nR nS)) (nE nR nS) (fs (mp (poE rs nS) (nE nR nS)) (nE nR nS)) (mp (miE rs nS) (nE nR nS)) (fs (mp (miE rs nS) (nE nR nS)) (nE nR nS)) j := by
  have hf := fst_in hj
  have e : mem (mp (miE rs nS) (nE nR nS)) (nE nR nS) (fst1 (mp (poE rs nS) (nE nR nS)) (nE nR nS) j) = mem (mp (poE rs nS) (nE nR nS)) (nE nR nS) (fst1 (mp (poE rs nS) (nE nR nS)) (nE nR nS) j) := mem_two hf
  have g := gl_in (gd_po (ss := ss) h) hj
  rw [sJ, gI_eq, gI_eq, gL_eq, gL_eq, fst_two, e]
  rw [gL_eq] at g
  exact ⟨rfl, rfl, _, rfl, nats_len _, by omega⟩
/-- The first number of a group. -/
theorem hd_at {j : Nat} (hj : j < (fs (mp (poE rs nS) (nE nR nS)) (nE nR nS)).length) : ∃ k, k < nE nR nS ∧ sR2 rs (fst1 (mp (poE rs nS) (nE nR nS)) (nE nR nS) j / nS) (k / nS) ∧ iAt (ints (gI2 (mp (poE rs nS) (nE nR nS)) (nE nR nS) (fs (mp (poE rs nS) (nE nR nS)) (nE nR nS)) j)) 0 = (k : Int) ∧
    (ints (gI2 (mp (poE rs nS) (nE nR nS)) (nE nR nS) (fs (mp (poE rs nS) (nE nR nS)) (nE nR nS)) j))[0]? = some (.int .i64 (k : Int)) := by
  have g := gl_in (gd_po (ss := ss) h) hj
  obtain ⟨k, k1, k2, k3⟩ := gi_at hj (i := 0) (by omega)
  have hl : 0 < (gI2 (mp (poE rs nS) (nE nR nS)) (nE nR nS) (fs (mp (poE rs nS) (nE nR nS)) (nE nR nS)) j).length := by
    rw [gI_eq, nats_len]; rw [gL_eq] at g; omega
  have e := get_at hl
  rw [k3] at e
  exact ⟨k, k1, (eN_po (fst_in hj) k1).1 k2, by rw [iAt, e], e⟩
theorem po_at {k : Nat} (hk : k < nE nR nS) : iAt (poC rs nS (nE nR nS)) (k * 2) = rX rs (k / nS) ∧ iAt (poC rs nS (nE nR nS)) (k * 2 + 1) = rY rs (k / nS) ∧
    (poC rs nS (nE nR nS))[k * 2]? = some (.int .i64 (rX rs (k / nS))) ∧ (poC rs nS (nE nR nS))[k * 2 + 1]? = some (.int .i64 (rY rs (k / nS))) := by
  have a := pt_at (gd_po (ss := ss) h) hk
  have l : (mp (poE rs nS) (nE nR nS)).length = nE nR nS * 2 := mp_len po_len _
  have e0 := get_at (z := mp (poE rs nS) (nE nR nS)) (p := k * 2) (by omega)
  have e1 := get_at (z := mp (poE rs nS) (nE nR nS)) (p := k * 2 + 1) (by omega)
  rw [a.1] at e0
  rw [a.2] at e1
  exact ⟨by rw [iAt, poC, e0]; rfl, by rw [iAt, poC, e1]; rfl, e0, e1⟩
end
end
end Qq
end
section
/- What is heard: the numbers as the law's loops make them. -/
open Go Go.Vm Go.Proofs Sp
namespace Qq
noncomputable section
theorem wrp {x : Int} (h0 : -100000 ≤ x) (h1 : x ≤ 100000) : IntKind.wrap .i64 x = x := wrap_eq (by omega) (by omega)
theorem cnt_0 (nS : Nat) : cnt nS 0 0 = 0 := by rw [cnt, Nat.zero_mul]
theorem cnt_n (nS i : Nat) : cnt nS i nS = cnt nS (i + 1) 0 := by rw [cnt, cnt, Nat.succ_mul, Nat.add_zero]
theorem dA_in {ss : List Int} (hc : ∀ x ∈ ss, -128 ≤ x ∧ x ≤ 127) {k : Nat} (hk : k < ss.length) : -128 ≤ dA ss k ∧ dA ss k ≤ 127 := hc _ (getD_mem hk)
theorem psL_len (ss : List Int) : (psL ss).length = ss.length := List.length_map ..
theorem ngL_len (ss : List Int) : (ngL ss).length = ss.length := List.length_map ..
theorem psL_at {ss : List Int} {k : Nat} (hk : k < ss.length) : (psL ss).getD k 0 = (dA ss k).tmod 4 := by
  rw [dA, List.getD_eq_getElem?_getD, psL, List.getElem?_map, List.getD_eq_getElem?_getD, List.getElem?_eq_getElem hk]; rfl
theorem take_st {L : List Int} {k : Nat} (hk : k < L.length) {x : Int} (h : L.getD k 0 = x) : ints (L.take k) ++ [.int .i64 x] = ints (L.take (k + 1)) := by
  rw [List.take_succ_eq_append_getElem hk, ← ints_app, ← h, List.getD_eq_getElem?_getD, List.getElem?_eq_getElem hk]; rfl
theorem psC_st {ss : List Int} (hc : ∀ x ∈ ss, -128 ≤ x ∧ x ≤ 127) {k : Nat} (hk : k < ss.length) : psC ss k ++ [.int .i64 (Int.tmod (IntKind.wrap .i64 (dA ss k)) 4)] = psC ss (k + 1) := by
  have a := dA_in hc hk
  rw [wrp (by omega) (by omega)]
  exact take_st (by rw [psL_len]; exact hk) (psL_at hk)
theorem ngC_st {ss : List Int} (hc : ∀ x ∈ ss, -128 ≤ x ∧ x ≤ 127) {k : Nat} (hk : k < ss.length) : ngC ss k ++ [.int .i64 (IntKind.wrap .i64 (0 - Int.tmod (IntKind.wrap .i64 (dA ss k)) 4))] = ngC ss (k + 1) := by
  have a := dA_in hc hk
  have b := tm4 (dA ss k)
  rw [wrp (x := dA ss k) (by omega) (by omega), wrp (by omega) (by omega)]
  exact take_st (by rw [ngL_len]; exact hk) (by rw [ngL_at, psL_at hk]; omega)
theorem psC_len {ss : List Int} {k : Nat} (hk : k ≤ ss.length) : (psC ss k).length = k * 1 := by rw [psC, ints_len, List.length_take, psL_len]; omega
theorem ngC_len {ss : List Int} {k : Nat} (hk : k ≤ ss.length) : (ngC ss k).length = k * 1 := by rw [ngC, ints_len, List.length_take, ngL_len]; omega
theorem psC_0 (ss : List Int) : psC ss 0 = [] := by rw [psC, List.take_zero]; rfl
theorem ngC_0 (ss : List Int) : ngC ss 0 = [] := by rw [ngC, List.take_zero]; rfl
theorem i8_at {ss : List Int} {k : Nat} (hk : k < ss.length) : (i8s ss)[k]? = some (.int .i8 (dA ss k)) := by
  rw [i8s, List.getElem?_map, List.getElem?_eq_getElem hk, dA, List.getD_eq_getElem?_getD, List.getElem?_eq_getElem hk]; rfl
theorem two_at {α : Type} {L : List α} {i : Nat} {a b : α} (h0 : L[i]? = some a) (h1 : L[i + 1]? = some b) : (L.drop i).take 2 = [a, b] := by
  obtain ⟨l0, e0⟩ := List.getElem?_eq_some_iff.1 h0
  obtain ⟨l1, e1⟩ := List.getElem?_eq_some_iff.1 h1
  rw [List.drop_eq_getElem_cons l0, List.drop_eq_getElem_cons l1, e0, e1]; rfl
theorem u8_two {rs : List Int} {i : Nat} (hi : i + 2 ≤ rs.length) : (if i + 2 ≤ List.length (u8s rs) then some (Value.agg (List.toArray (((u8s rs).drop i).take 2))) else none) = some (Value.agg #[.int .u8 (dA rs i), .int .u8 (dA rs (i + 1))]) := by
  have e : ∀ j, j < rs.length → (u8s rs)[j]? = some (.int .u8 (dA rs j)) := fun j hj => by
    rw [u8s, List.getElem?_map, List.getElem?_eq_getElem hj, dA, List.getD_eq_getElem?_getD, List.getElem?_eq_getElem hj]; rfl
  rw [if_pos (by rw [u8s, List.length_map]; exact hi), two_at (e i (by omega)) (e (i + 1) (by omega))]
theorem rX_eq {rs : List Int} {i : Nat} (h : ∀ x ∈ rs, 0 ≤ x ∧ x ≤ 255) (hi : i * 2 + 1 < rs.length) : IntKind.wrap .i64 (1000 + IntKind.wrap .i64 (dA rs (i * 2))) = rX rs i := by
  have a := h _ (getD_mem (i := i * 2) (by omega : i * 2 < rs.length))
  have a : 0 ≤ dA rs (i * 2) ∧ dA rs (i * 2) ≤ 255 := a
  rw [wrp (x := dA rs (i * 2)) (by omega) (by omega), wrp (by omega) (by omega)]; rfl
theorem rY_eq {rs : List Int} {i : Nat} (h : ∀ x ∈ rs, 0 ≤ x ∧ x ≤ 255) (hi : i * 2 + 1 < rs.length) : IntKind.wrap .i64 (1 + Int.tmod (IntKind.wrap .i64 (dA rs (i * 2 + 1))) 40) = rY rs i := by
  have a := h _ (getD_mem hi)
  have a : 0 ≤ dA rs (i * 2 + 1) ∧ dA rs (i * 2 + 1) ≤ 255 := a
  have b := Int.tmod_lt_of_pos (dA rs (i * 2 + 1)) (b := 40) (by decide)
  have c := Int.tmod_nonneg 40 a.1
  rw [wrp (x := dA rs (i * 2 + 1)) (by omega) (by omega), wrp (by omega) (by omega)]; rfl
theorem fm_len {g : Nat → List Int} {w : Nat} (h : ∀ i, (g i).length = w) : ∀ L : List Nat, (L.flatMap g).length = L.length * w
  | [] => by simp
  | a :: L => by rw [List.flatMap_cons, List.length_append, fm_len h L, h, List.length_cons, Nat.succ_mul]; omega
theorem fm_get {g : Nat → List Int} {w : Nat} (h : ∀ i, (g i).length = w) {j : Nat} (hj : j < w) : ∀ {L : List Nat} {i : Nat}, i < L.length → (L.flatMap g).getD (i * w + j) 0 = (g (L.getD i 0)).getD j 0
  | [], _, hi => absurd hi (by simp)
  | a :: L, 0, _ => by
    rw [List.flatMap_cons, List.getD_eq_getElem?_getD, List.getElem?_append_left (by rw [h]; omega), ← List.getD_eq_getElem?_getD, Nat.zero_mul, Nat.zero_add]; rfl
  | a :: L, i + 1, hi => by
    have hi : i < L.length := by rw [List.length_cons] at hi; omega
    rw [List.flatMap_cons, List.getD_eq_getElem?_getD, List.getElem?_append_right (by rw [h, Nat.succ_mul]; omega), h, Nat.succ_mul, show i * w + w + j - w = i * w + j by omega, ← List.getD_eq_getElem?_getD, fm_get h hj hi]; rfl
theorem poR_len (rs : List Int) (i : Nat) : (poR rs i).length = 2 := rfl
theorem dfC_len (rs : List Int) (nR i : Nat) : (dfC rs nR i).length = dfN rs nR i * 2 := by rw [dfC, ints_len, fm_len (poR_len rs)]; rfl
/-- The j-th of the different ones. -/
noncomputable def dfA (rs : List Int) (nR i j : Nat) : Nat := (dfI rs nR i).getD j 0
theorem dfC_at {rs : List Int} {nR i j : Nat} (hj : j < dfN rs nR i) : (dfC rs nR i)[j * 2]? = some (.int .i64 (rX rs (dfA rs nR i j))) ∧ (dfC rs nR i)[j * 2 + 1]? = some (.int .i64 (rY rs (dfA rs nR i j))) := by
  have l := fm_len (poR_len rs) (dfI rs nR i)
  have hj : j < (dfI rs nR i).length := hj
  have a := fm_get (poR_len rs) (j := 0) (by decide) hj
  have b := fm_get (poR_len rs) (j := 1) (by decide) hj
  rw [Nat.add_zero] at a
  have e0 := get_at (z := (dfI rs nR i).flatMap (poR rs)) (p := j * 2) (by omega)
  have e1 := get_at (z := (dfI rs nR i).flatMap (poR rs)) (p := j * 2 + 1) (by omega)
  rw [a] at e0
  rw [b] at e1
  exact ⟨e0, e1⟩
theorem dfC_two {rs : List Int} {nR i j : Nat} (hj : j < dfN rs nR i) : (if j * 2 + 2 ≤ List.length (dfC rs nR i) then some (Value.agg (List.toArray (((dfC rs nR i).drop (j * 2)).take 2))) else none) = some (Value.agg #[.int .i64 (iAt (dfC rs nR i) (j * 2)), .int .i64 (iAt (dfC rs nR i) (j * 2 + 1))]) := by
  obtain ⟨a, b⟩ := dfC_at hj
  rw [if_pos (by rw [dfC_len]; omega), two_at a b, iAt, a, iAt, b]
theorem dfA_in {rs : List Int} {nR i j : Nat} (hj : j < dfN rs nR i) : dfA rs nR i j < i := by
  have hj : j < (dfI rs nR i).length := hj
  have : dfA rs nR i j ∈ fs (rz rs nR) i := by
    rw [dfA, List.getD_eq_getElem?_getD, List.getElem?_eq_getElem hj]; exact List.getElem_mem _
  exact (fs_iff.1 this).1
theorem knw_0 (rs : List Int) (nR i : Nat) : knw rs nR i 0 = false := by rw [knw, List.take_zero]; rfl
theorem knw_s {rs : List Int} {nR i j : Nat} (hj : j < dfN rs nR i) : knw rs nR i (j + 1) = (knw rs nR i j || eN (rz rs nR) (dfA rs nR i j) i) := by
  have hj : j < (dfI rs nR i).length := hj
  rw [knw, List.take_succ_eq_append_getElem hj, List.any_append, dfA, List.getD_eq_getElem?_getD, List.getElem?_eq_getElem hj, knw]
  simp only [List.any_cons, List.any_nil, Bool.or_false, Option.getD_some]
theorem knw_y {rs : List Int} {nR i j : Nat} (hj : j < dfN rs nR i) (h : knw rs nR i j = true) : true = knw rs nR i (j + 1) := by rw [knw_s hj, h]; rfl
theorem knw_n {rs : List Int} {nR i j : Nat} (hi : i < nR) (hj : j < dfN rs nR i) (h : knw rs nR i j = false) : (iAt (dfC rs nR i) (j * 2) == rX rs i && (iAt (dfC rs nR i) (j * 2 + 1) == rY rs i && true)) = knw rs nR i (j + 1) := by
  obtain ⟨a, b⟩ := dfC_at hj
  have c := dfA_in hj
  rw [knw_s hj, h, Bool.false_or, Bool.eq_iff_iff, eN_rz (by omega) hi, Bool.and_true, Bool.and_eq_true, beq_iff_eq, beq_iff_eq, iAt, a, iAt, b]; rfl
theorem knw_e {rs : List Int} {nR i : Nat} (hi : i < nR) : knw rs nR i (dfN rs nR i) = true ↔ i ∈ sn (rz rs nR) nR i := by
  rw [knw, dfN, List.take_length, List.any_eq_true, sn, List.mem_flatMap]
  exact ⟨fun ⟨g, h1, h2⟩ => ⟨g, h1, mem_iff.2 ⟨hi, h2⟩⟩, fun ⟨g, h1, h2⟩ => ⟨g, h1, (mem_iff.1 h2).2⟩⟩
theorem df_new {rs : List Int} {nR i : Nat} (hi : i < nR) (h : knw rs nR i (dfN rs nR i) = false) : dfN rs nR i + 1 = dfN rs nR (i + 1) ∧ dfC rs nR i ++ [.int .i64 (rX rs i), .int .i64 (rY rs i)] = dfC rs nR (i + 1) := by
  have e : dfI rs nR (i + 1) = dfI rs nR i ++ [i] := fs_new hi fun hm => by rw [(knw_e hi).2 hm] at h; cases h
  refine ⟨by rw [dfN, dfN, e, List.length_append]; rfl, ?_⟩
  rw [dfC, dfC, e, List.flatMap_append, ← ints_app, List.flatMap_singleton]; rfl
theorem df_old {rs : List Int} {nR i : Nat} (hi : i < nR) (h : knw rs nR i (dfN rs nR i) = true) : dfN rs nR i = dfN rs nR (i + 1) ∧ dfC rs nR i = dfC rs nR (i + 1) := by
  have e : dfI rs nR (i + 1) = dfI rs nR i := fs_old ((knw_e hi).1 h)
  exact ⟨by rw [dfN, dfN, e], by rw [dfC, dfC, e]⟩
theorem df_le (rs : List Int) (nR i : Nat) : dfN rs nR i ≤ i := by
  have := List.length_filter_le (fun j => (List.range j).all fun k => !eN (rz rs nR) k j) (List.range i)
  rw [List.length_range] at this
  exact this
section
variable {rs ss : List Int} {nR nS : Nat} (h : Hrd rs ss nR nS)
theorem dm {nS p k : Nat} (hk : k < nS) : cnt nS p k / nS = p ∧ cnt nS p k % nS = k := by
  rw [cnt, Nat.mul_comm]
  exact ⟨by rw [Nat.mul_add_div (by omega), Nat.div_eq_of_lt hk, Nat.add_zero], by rw [Nat.mul_add_mod, Nat.mod_eq_of_lt hk]⟩
theorem ints_mp {g : Nat → List Int} {n : Nat} {L : List Value} (h : L = ints (g n)) : ints (mp g n) ++ L = ints (mp g (n + 1)) := by rw [mp_succ, ← ints_app, h]
theorem th_ln (rs ss : List Int) (nS n : Nat) : (thC rs ss nS n).length = n * 3 := by rw [thC, ints_len, mp_len th_len]
theorem bk_ln (rs ss : List Int) (nS n : Nat) : (bkC rs ss nS n).length = n * 3 := by rw [bkC, ints_len, mp_len bk_len]
theorem po_ln (rs : List Int) (nS n : Nat) : (poC rs nS n).length = n * 2 := by rw [poC, ints_len, mp_len po_len]
include h
theorem cnt_le {p k : Nat} (hp : p < nR) (hk : k ≤ nS) : cnt nS p k ≤ 12 := by
  have a : (p + 1) * nS ≤ 4 * 3 := Nat.mul_le_mul (by have := h.r4; omega) h.s3
  rw [Nat.succ_mul] at a
  rw [cnt]; omega
theorem ps_at {k : Nat} (hk : k < nS) : (psC ss nS)[k]? = some (.int .i64 (iAt (psC ss nS) k)) ∧ iAt (psC ss nS) k = (psL ss).getD k 0 := by
  have e := get_at (z := psL ss) (p := k) (by rw [psL_len, h.ls]; exact hk)
  rw [psC_all h, iAt, e]
  exact ⟨rfl, rfl⟩
theorem ng_at {k : Nat} (hk : k < nS) : (ngC ss nS)[k]? = some (.int .i64 (iAt (ngC ss nS) k)) ∧ iAt (ngC ss nS) k = (ngL ss).getD k 0 := by
  have e := get_at (z := ngL ss) (p := k) (by rw [ngL_len, h.ls]; exact hk)
  rw [ngC_all h, iAt, e]
  exact ⟨rfl, rfl⟩
theorem th_st {p k : Nat} (hp : p < nR) (hk : k < nS) : thC rs ss nS (cnt nS p k) ++ [.int .i64 (k : Int), .int .i64 (IntKind.wrap .i64 (rX rs p - IntKind.wrap .i64 (iAt (psC ss nS) k * rY rs p))), .int .i64 (rY rs p)] = thC rs ss nS (cnt nS p (k + 1)) := by
  have m := mulY h (k := k) hp
  have x := rX_in h hp
  rw [(ps_at h hk).2, wrp (x := (psL ss).getD k 0 * rY rs p) (by omega) (by omega), wrp (by omega) (by omega)]
  refine ints_mp ?_
  rw [thE, (dm hk).1, (dm hk).2]; rfl
theorem bk_st {p k : Nat} (hp : p < nR) (hk : k < nS) : bkC rs ss nS (cnt nS p k) ++ [.int .i64 (k : Int), .int .i64 (IntKind.wrap .i64 (IntKind.wrap .i64 (10000 - rX rs p) - IntKind.wrap .i64 (iAt (ngC ss nS) k * rY rs p))), .int .i64 (rY rs p)] = bkC rs ss nS (cnt nS p (k + 1)) := by
  have m := mulY h (k := k) hp
  have x := rX_in h hp
  have e : (ngL ss).getD k 0 * rY rs p = -((psL ss).getD k 0 * rY rs p) := by rw [ngL_at, Int.neg_mul]
  rw [(ng_at h hk).2, wrp (x := (ngL ss).getD k 0 * rY rs p) (by omega) (by omega), wrp (x := 10000 - rX rs p) (by omega) (by omega), wrp (by omega) (by omega)]
  refine ints_mp ?_
  rw [bkE, (dm hk).1, (dm hk).2]; rfl
omit h in
theorem po_st {p k : Nat} (hk : k < nS) : poC rs nS (cnt nS p k) ++ [.int .i64 (rX rs p), .int .i64 (rY rs p)] = poC rs nS (cnt nS p (k + 1)) := by
  refine ints_mp ?_
  rw [poE, (dm hk).1]; rfl
end
end
end Qq
end
section
/- The law's code, stepped through: what it asks, for one to four groups. -/
open Go Go.Vm Go.Proofs Sp
namespace Qq
noncomputable section
section
variable (rs ss : List Int) (nR nS b0 b1 G : Nat)
noncomputable def rfR : Option AObj := some (.row (u8s rs) 2 false false true)
noncomputable def slR : Option AObj := some (.row (i8s ss) 1 false false true)
noncomputable def s0 : List (Nat × Value) := [(0, .slice (some ⟨0, 0, none⟩) nR b0), (1, .slice (some ⟨1, 0, none⟩) nS b1)]
noncomputable def lpJ1 : Lp where
  σ := Nat
  E k := slots 398 (s0 nR nS b0 b1 ++ [(5, .slice (some ⟨2, 0, none⟩) k 0), (6, .slice (some ⟨3, 0, none⟩) k 0), (59, .slice (some ⟨1, 0, none⟩) nS b1), (60, .int .i64 (nS : Int)), (61, .int .i64 (k : Int))])
  Hp k := [rfR rs, slR ss, dat (psC ss k) 1, dat (ngC ss k) 1]
  I k := k ≤ nS
  m k := nS - k
/-- Behind i reflectors and k probes more; e of them different. -/
noncomputable def sJ2 (i k e : Nat) : List (Nat × Value) := s0 nR nS b0 b1 ++ [(5, .slice (some ⟨2, 0, none⟩) nS 0), (6, .slice (some ⟨3, 0, none⟩) nS 0), (9, .slice (some ⟨4, 0, none⟩) (cnt nS i k) 0), (10, .slice (some ⟨5, 0, none⟩) (cnt nS i k) 0), (11, .slice (some ⟨6, 0, none⟩) (cnt nS i k) 0), (12, .slice (some ⟨7, 0, none⟩) (dfN rs nR e) 0)]
noncomputable def hJ2 (i k e : Nat) : Heap := [rfR rs, slR ss, dat (psC ss nS) 1, dat (ngC ss nS) 1, dat (thC rs ss nS (cnt nS i k)) 3, dat (bkC rs ss nS (cnt nS i k)) 3, dat (poC rs nS (cnt nS i k)) 2, dat (dfC rs nR e) 2]
noncomputable def r2 (i : Nat) : List (Nat × Value) := [(79, .slice (some ⟨0, 0, none⟩) nR b0), (80, .int .i64 (nR : Int)), (81, .int .i64 (i : Int))]
noncomputable def bxP (i : Nat) : Option AObj := some (.row [.int .i64 (rX rs i), .int .i64 (rY rs i)] 0 false true true)
noncomputable def lpJ2 : Lp where
  σ := Nat
  E i := slots 398 (sJ2 rs nR nS b0 b1 i 0 i ++ r2 nR b0 i)
  Hp i := hJ2 rs ss nR nS i 0 i
  I i := i ≤ nR
  m i := nR - i
noncomputable def lpJ3 (i : Nat) : Lp where
  σ := Nat
  E j := slots 398 (sJ2 rs nR nS b0 b1 i 0 i ++ [(15, .pointer (some ⟨8, 0, none⟩)), (16, .bool (knw rs nR i j))] ++ r2 nR b0 i ++ [(95, .slice (some ⟨7, 0, none⟩) (dfN rs nR i) 0), (96, .int .i64 (dfN rs nR i : Int)), (97, .int .i64 (j : Int))])
  Hp _ := hJ2 rs ss nR nS i 0 i ++ [bxP rs i]
  I j := i < nR ∧ j ≤ dfN rs nR i
  m j := dfN rs nR i - j
noncomputable def lpJ4 (i : Nat) : Lp where
  σ := Nat
  E k := slots 398 (sJ2 rs nR nS b0 b1 i k (i + 1) ++ [(15, .pointer (some ⟨8, 0, none⟩))] ++ r2 nR b0 i ++ [(115, .int .i64 (nS : Int)), (116, .int .i64 (k : Int))])
  Hp k := hJ2 rs ss nR nS i k (i + 1) ++ [bxP rs i]
  I k := i < nR ∧ k ≤ nS
  m k := nS - k
noncomputable def eT : List Value := thC rs ss nS (nE nR nS)
noncomputable def eB : List Value := bkC rs ss nS (nE nR nS)
noncomputable def dT : List Value := psC ss nS
noncomputable def dB : List Value := ngC ss nS
noncomputable def lpJc (l : List (Nat × Value)) (h : Heap) : Lp where
  σ := Nat
  E _ := slots 398 l
  Hp _ := [rfR rs, slR ss] ++ h
  I s := s = 0
  m _ := 0
noncomputable def sJ5 : List (Nat × Value) := [(5, .slice (some ⟨2, 0, none⟩) nS 0), (6, .slice (some ⟨3, 0, none⟩) nS 0), (9, .slice (some ⟨4, 0, none⟩) (nE nR nS) 0), (10, .slice (some ⟨5, 0, none⟩) (nE nR nS) 0), (11, .slice (some ⟨6, 0, none⟩) (nE nR nS) 0), (12, .slice (some ⟨7, 0, none⟩) (dfN rs nR nR) 0)]
noncomputable def hJ5 : Heap := [dat (dT ss nS) 1, dat (dB ss nS) 1, dat (eT rs ss nR nS) 3, dat (eB rs ss nR nS) 3, dat (poC rs nS (nE nR nS)) 2, dat (dfC rs nR nR) 2]
noncomputable def plT : List Value := plC (eT rs ss nR nS) (dT ss nS) (nE nR nS)
noncomputable def plB : List Value := plC (eB rs ss nR nS) (dB ss nS) (nE nR nS)
noncomputable def ptT : List Int := ptZ (eT rs ss nR nS) (dT ss nS) (nE nR nS)
noncomputable def ptB : List Int := ptZ (eB rs ss nR nS) (dB ss nS) (nE nR nS)
noncomputable def lpJ6 : Lp where
  σ := Nat
  E i := slots 398 (sJ5 rs nR nS ++ [(20, .slice (some ⟨8, 0, none⟩) (nE nR nS) 0), (22, .slice (some ⟨9, 0, none⟩) (nE nR nS) 0), (200, .slice (some ⟨6, 0, none⟩) (nE nR nS) 0), (201, .int .i64 (nE nR nS : Int)), (202, .int .i64 (i : Int))])
  Hp _ := [rfR rs, slR ss] ++ hJ5 rs ss nR nS ++ [dat (plT rs ss nR nS) 2, dat (plB rs ss nR nS) 2]
  I i := i ≤ nE nR nS
  m i := nE nR nS - i
noncomputable def sRu : Nat × Value := (27, .slice (some ⟨8, 0, none⟩) 1 1)
noncomputable def hRu : Heap := [some (.row (ruC hole (nS : Int)) 9 false true true)]
noncomputable def slC : Nat × Value := (28, .slice (some ⟨9, 0, none⟩) G 0)
noncomputable def hC : Heap := clT (ptT rs ss nR nS) (nE nR nS) G 10
noncomputable def slD : Nat × Value := (30, .slice (some ⟨10 + G, 0, none⟩) G 0)
noncomputable def hD : Heap := clT (ptB rs ss nR nS) (nE nR nS) G (11 + G)
noncomputable def hN (b : Nat) : Heap := sR (ptT rs ss nR nS) (nE nR nS) (fs (ptT rs ss nR nS) (nE nR nS)) (plT rs ss nR nS) b G :: sT (ptT rs ss nR nS) (nE nR nS) (fs (ptT rs ss nR nS) (nE nR nS)) (plT rs ss nR nS) hole G
noncomputable def er (l : List Nat) : List (Nat × Value) := l.map fun j => (j, .int .i64 0)
noncomputable def dbD : Option AObj := dat (ints (dbL (eB rs ss nR nS) (dB ss nS) (nE nR nS) G)) 1
noncomputable def dbM : Nat := dbC (eB rs ss nR nS) (dB ss nS) (nE nR nS) G
/-- How many of the first i groups are deep. -/
noncomputable def deJ (j : Nat) : Bool := decide (20 < iAt (poC rs nS (nE nR nS)) (0 + (iAt (ints (gI2 (ptT rs ss nR nS) (nE nR nS) (fs (ptT rs ss nR nS) (nE nR nS)) j)) 0).toNat * 2 + 1))
noncomputable def atJ (i : Nat) : Nat := ((List.range i).filter fun j => deJ rs ss nR nS j).length
noncomputable def lpJ7 (i : Nat) : Lp where
  σ := Nat
  E _ := slots 398 [(11, .slice (some ⟨2, 0, none⟩) (nE nR nS) 0), (28, .slice (some ⟨3, 0, none⟩) G 0), (34, .slice (some ⟨4 + G, 0, none⟩) (dbM rs ss nR nS G) 0), (36, .int .i64 (atJ rs ss nR nS (i + 1) : Int)), (316, .slice (some ⟨5 + G, 0, none⟩) G 0), (317, .int .i64 (G : Int)), (318, .int .i64 (i : Int))]
  Hp _ := [rfR rs, slR ss, dat (poC rs nS (nE nR nS)) 2] ++ clT (ptT rs ss nR nS) (nE nR nS) G 4 ++ [dbD rs ss nR nS G] ++ hN rs ss nR nS G (6 + G)
  I s := s = 0
  m _ := 0
def rdI (v : Value) : Nat := match v with
  | .int _ n => n.toNat
  | _ => 0
noncomputable def hsJ : Hs Try.prog where
  op y := if [600, 1400, 1900, 2706, 2807, 3801, 3902, 3909, 5411, 5420, 5605, 5607, 6007].contains y then some (hIa Try.prog)
    else if y = 601 then some (hLd Try.prog (gI8 ss)) else if y = 1401 then some (hLd Try.prog (gU2 rs)) else if [1901, 3802, 3903, 3910].contains y then some (hLc Try.prog gE2)
    else if [2707, 2808, 5412, 5421, 5606, 5609, 6008].contains y then some (hLc Try.prog gI)
    else if [705, 712, 2303, 2716, 2817, 2903].contains y then some (hAp Try.prog)
    else if [3202, 3205, 3302, 3305, 4402, 4405, 4502, 4505, 4602, 4605, 4608, 4702, 4705, 4708].contains y then some (hAe Try.prog true) else none
  lp y := if y = 5 then some (lpJ1 rs ss nR nS b0 b1) else if y = 13 then some (lpJ2 rs ss nR nS b0 b1) else if y = 37 then some (lpJ6 rs ss nR nS) else none
  lq y := if y = 18 then some ⟨Nat, lpJ3 rs ss nR nS b0 b1⟩ else if y = 25 then some ⟨Nat, lpJ4 rs ss nR nS b0 b1⟩ else none
  cut y := if y = 42 then some (lpJc rs ss (sJ5 rs nR nS) (hJ5 rs ss nR nS))
    else if y = 44 then some (lpJc rs ss (sJ5 rs nR nS ++ [sRu]) (hJ5 rs ss nR nS ++ hRu nS))
    else if y = 45 then some (lpJc rs ss (sJ5 rs nR nS ++ [sRu, slC G] ++ er [29]) (hJ5 rs ss nR nS ++ hRu nS ++ hC rs ss nR nS G))
    else if y = 46 then some (lpJc rs ss (sJ5 rs nR nS ++ [sRu, slC G] ++ er [29] ++ [slD G] ++ er [31]) (hJ5 rs ss nR nS ++ hRu nS ++ hC rs ss nR nS G ++ hD rs ss nR nS G))
    else if y = 47 then some (lpJc rs ss (sJ5 rs nR nS ++ [sRu, slC G] ++ er [29] ++ [slD G] ++ er [31] ++ [(32, .slice (some ⟨11 + 2 * G, 0, none⟩) G 0)] ++ er [33]) (hJ5 rs ss nR nS ++ hRu nS ++ hC rs ss nR nS G ++ hD rs ss nR nS G ++ hN rs ss nR nS G (12 + 2 * G)))
    else if y = 48 then some (lpJc rs ss (sJ5 rs nR nS ++ [sRu, slC G] ++ er [29] ++ [slD G] ++ er [31] ++ [(32, .slice (some ⟨11 + 2 * G, 0, none⟩) G 0)] ++ er [33] ++ [(34, .slice (some ⟨12 + 3 * G, 0, none⟩) (dbM rs ss nR nS G) 0)] ++ er [35])
      (hJ5 rs ss nR nS ++ hRu nS ++ hC rs ss nR nS G ++ hD rs ss nR nS G ++ hN rs ss nR nS G (12 + 2 * G) ++ [dbD rs ss nR nS G]))
    else if y = 50 then some (lpJc rs ss [(11, .slice (some ⟨2, 0, none⟩) (nE nR nS) 0), (28, .slice (some ⟨3, 0, none⟩) G 0), (32, .slice (some ⟨4 + G, 0, none⟩) G 0), (34, .slice (some ⟨5 + 2 * G, 0, none⟩) (dbM rs ss nR nS G) 0)]
      ([dat (poC rs nS (nE nR nS)) 2] ++ clT (ptT rs ss nR nS) (nE nR nS) G 4 ++ hN rs ss nR nS G (5 + G) ++ [dbD rs ss nR nS G])) else none
  cx y env := if y = 63 then some ⟨Unit, fun _ => lpJ7 rs ss nR nS G (rdI (gt env 318))⟩ else none
  cl y := if y = 5 then keep 398 [0, 1, 5, 6, 59, 60, 61] else if y = 13 then keep 398 [0, 1, 5, 6, 9, 10, 11, 12, 79, 80, 81] else if y = 18 then keep 398 [0, 1, 5, 6, 9, 10, 11, 12, 15, 16, 79, 80, 81, 95, 96, 97]
    else if y = 25 then keep 398 [0, 1, 5, 6, 9, 10, 11, 12, 15, 79, 80, 81, 115, 116] else if y = 37 then keep 398 [5, 6, 9, 10, 11, 12, 20, 22, 200, 201, 202] else if y = 42 then keep 398 [5, 6, 9, 10, 11, 12] else if y = 44 then keep 398 [5, 6, 9, 10, 11, 12, 27]
    else if y = 45 then keep 398 [5, 6, 9, 10, 11, 12, 27, 28, 29] else if y = 46 then keep 398 [5, 6, 9, 10, 11, 12, 27, 28, 29, 30, 31] else if y = 47 then keep 398 [5, 6, 9, 10, 11, 12, 27, 28, 29, 30, 31, 32, 33] else if y = 48 then keep 398 [5, 6, 9, 10, 11, 12, 27, 28, 29, 30, 31, 32, 33, 34, 35]
    else if y = 50 then keep 398 [11, 28, 32, 34] else if y = 52 then keep 398 [11, 28, 34, 36, 316, 317, 318] else if y = 63 then keep 398 [11, 28, 34, 36, 316, 317, 318] else []
  nl y := if y = 5 then [.only (.slot 5 1), .only (.slot 6 1)] else if y = 13 then [.only (.slot 9 3), .only (.slot 10 3), .only (.slot 11 2), .only (.slot 12 2)] else []
  sm := true
  au := auCalls [(4, hCa Try.prog 4 orcEo okEo), (5, hCa Try.prog 5 orcPd okPd), (6, hCa Try.prog 6 (orcCL G) (okCL G)), (7, hCa Try.prog 7 (orcPs (nS : Int) G) (okPs _ _)), (8, hCa Try.prog 8 (orcDb (nS : Int) G) (okDb _ _)),
    (9, hCa Try.prog 9 (orcSS (ptT rs ss nR nS) (nE nR nS) (fs (ptT rs ss nR nS) (nE nR nS)) (ptB rs ss nR nS) (fs (ptB rs ss nR nS) (nE nR nS)) G) (okSS _ _ _ _ _ _)), (10, hCa Try.prog 10 orcSw okSw)]
end
section
variable (rs ss : List Int) (nR nS b0 b1 : Nat)
def kF (K : Value → Heap → Prop) : Prop := K (.bool false) [rfR rs, slR ss]
def kT (K : Value → Heap → Prop) : Prop := Is True ∧ K (.bool true) [rfR rs, slR ss]
set_option maxRecDepth 100000 in
def trA (X : Nat → Prop) : Prop :=
  ((∃ (s : Nat), Is (s ≤ nS) ∧ (Value.slice (some { block := (0 : Nat), off := (0 : Nat) }) nR b0 = Value.slice (some { block := (0 : Nat), off := (0 : Nat) }) nR b0 ∧ Value.slice (some { block := (1 : Nat), off := (0 : Nat) }) nS b1 = Value.slice (some { block := (1 : Nat), off := (0 : Nat) }) nS b1 ∧ Value.slice (some { block := (2 : Nat), off := (0 : Nat) }) (0 : Nat) (0 : Nat) = Value.slice (some { block := (2 : Nat), off := (0 : Nat) }) s (0 : Nat) ∧ Value.slice (some { block := (3 : Nat), off := (0 : Nat) }) (0 : Nat) (0 : Nat) = Value.slice (some { block := (3 : Nat), off := (0 : Nat) }) s (0 : Nat) ∧ Value.slice (some { block := (1 : Nat), off := (0 : Nat) }) nS b1 = Value.slice (some { block := (1 : Nat), off := (0 : Nat) }) nS b1 ∧ Value.int IntKind.i64 (↑nS : Int) = Value.int IntKind.i64 (↑nS : Int) ∧ Value.int IntKind.i64 (0 : Int) = Value.int IntKind.i64 (↑s : Int) ∧ True) ∧ some (AObj.row (u8s rs) (2 : Nat) false false true) :: some (AObj.row (i8s ss) (1 : Nat) false false true) :: some (AObj.row [] (1 : Nat) true true true) :: some (AObj.row [] (1 : Nat) true true true) :: noH = some (AObj.row (u8s rs) (2 : Nat) false false true) :: some (AObj.row (i8s ss) (1 : Nat) false false true) :: some (AObj.row (psC ss s) (1 : Nat) true true true) :: some (AObj.row (ngC ss s) (1 : Nat) true true true) :: noH) ∧ ∀ (s : Nat), Is (s ≤ nS) → br (decide ((↑s : Int) < (↑nS : Int))) (Is ((0 : Int) ≤ (↑s : Int) ∧ (↑s : Int) < (↑nS : Int)) ∧ Is ((i8s ss)[(0 : Nat) + Int.toNat (↑s : Int) * (1 : Nat)]? = some (Value.int IntKind.i8 (dA ss ((0 : Nat) + Int.toNat (↑s : Int) * (1 : Nat))))) ∧ Is ((4 : Int) ≠ (0 : Int)) ∧ Is (List.length (psC ss s) = s * (1 : Nat) ∧ (s + (1 : Nat)) * (8 : Nat) ≤ (140737488355328 : Nat) ∧ s + (1 : Nat) ≤ (9223372036854775807 : Nat)) ∧ Is ((4 : Int) ≠ (0 : Int)) ∧ Is (List.length (ngC ss s) = s * (1 : Nat) ∧ (s + (1 : Nat)) * (8 : Nat) ≤ (140737488355328 : Nat) ∧ s + (1 : Nat) ≤ (9223372036854775807 : Nat)) ∧ ∃ (s' : Nat), Is (s' ≤ nS) ∧ Is (nS - s' < nS - s) ∧ (Value.slice (some { block := (0 : Nat), off := (0 : Nat) }) nR b0 = Value.slice (some { block := (0 : Nat), off := (0 : Nat) }) nR b0 ∧ Value.slice (some { block := (1 : Nat), off := (0 : Nat) }) nS b1 = Value.slice (some { block := (1 : Nat), off := (0 : Nat) }) nS b1 ∧ Value.slice (some { block := (2 : Nat), off := (0 : Nat) }) (s + (1 : Nat)) (0 : Nat) = Value.slice (some { block := (2 : Nat), off := (0 : Nat) }) s' (0 : Nat) ∧ Value.slice (some { block := (3 : Nat), off := (0 : Nat) }) (s + (1 : Nat)) (0 : Nat) = Value.slice (some { block := (3 : Nat), off := (0 : Nat) }) s' (0 : Nat) ∧ Value.slice (some { block := (1 : Nat), off := (0 : Nat) }) nS b1 = Value.slice (some { block := (1 : Nat), off := (0 : Nat) }) nS b1 ∧ Value.int IntKind.i64 (↑nS : Int) = Value.int IntKind.i64 (↑nS : Int) ∧ Value.int IntKind.i64 (IntKind.wrap IntKind.i64 ((↑s : Int) + (1 : Int))) = Value.int IntKind.i64 (↑s' : Int) ∧ True) ∧ some (AObj.row (u8s rs) (2 : Nat) false false true) :: some (AObj.row (i8s ss) (1 : Nat) false false true) :: some (AObj.row (psC ss s ++ [Value.int IntKind.i64 (Int.tmod (IntKind.wrap IntKind.i64 (dA ss ((0 : Nat) + Int.toNat (↑s : Int) * (1 : Nat)))) (4 : Int))]) (1 : Nat) true true (List.all [Value.int IntKind.i64 (Int.tmod (IntKind.wrap IntKind.i64 (dA ss ((0 : Nat) + Int.toNat (↑s : Int) * (1 : Nat)))) (4 : Int))] atom)) :: some (AObj.row (ngC ss s ++ [Value.int IntKind.i64 (IntKind.wrap IntKind.i64 ((0 : Int) - Int.tmod (IntKind.wrap IntKind.i64 (dA ss ((0 : Nat) + Int.toNat (↑s : Int) * (1 : Nat)))) (4 : Int)))]) (1 : Nat) true true (List.all [Value.int IntKind.i64 (IntKind.wrap IntKind.i64 ((0 : Int) - Int.tmod (IntKind.wrap IntKind.i64 (dA ss ((0 : Nat) + Int.toNat (↑s : Int) * (1 : Nat)))) (4 : Int)))] atom)) :: noH = some (AObj.row (u8s rs) (2 : Nat) false false true) :: some (AObj.row (i8s ss) (1 : Nat) false false true) :: some (AObj.row (psC ss s') (1 : Nat) true true true) :: some (AObj.row (ngC ss s') (1 : Nat) true true true) :: noH) ((∃ (s_1 : Nat), Is (s_1 ≤ nR) ∧ (Value.slice (some { block := (0 : Nat), off := (0 : Nat) }) nR b0 = Value.slice (some { block := (0 : Nat), off := (0 : Nat) }) nR b0 ∧ Value.slice (some { block := (1 : Nat), off := (0 : Nat) }) nS b1 = Value.slice (some { block := (1 : Nat), off := (0 : Nat) }) nS b1 ∧ Value.slice (some { block := (2 : Nat), off := (0 : Nat) }) s (0 : Nat) = Value.slice (some { block := (2 : Nat), off := (0 : Nat) }) nS (0 : Nat) ∧ Value.slice (some { block := (3 : Nat), off := (0 : Nat) }) s (0 : Nat) = Value.slice (some { block := (3 : Nat), off := (0 : Nat) }) nS (0 : Nat) ∧ Value.slice (some { block := (4 : Nat), off := (0 : Nat) }) (0 : Nat) (0 : Nat) = Value.slice (some { block := (4 : Nat), off := (0 : Nat) }) (cnt nS s_1 (0 : Nat)) (0 : Nat) ∧ Value.slice (some { block := (5 : Nat), off := (0 : Nat) }) (0 : Nat) (0 : Nat) = Value.slice (some { block := (5 : Nat), off := (0 : Nat) }) (cnt nS s_1 (0 : Nat)) (0 : Nat) ∧ Value.slice (some { block := (6 : Nat), off := (0 : Nat) }) (0 : Nat) (0 : Nat) = Value.slice (some { block := (6 : Nat), off := (0 : Nat) }) (cnt nS s_1 (0 : Nat)) (0 : Nat) ∧ Value.slice (some { block := (7 : Nat), off := (0 : Nat) }) (0 : Nat) (0 : Nat) = Value.slice (some { block := (7 : Nat), off := (0 : Nat) }) (dfN rs nR s_1) (0 : Nat) ∧ Value.slice (some { block := (0 : Nat), off := (0 : Nat) }) nR b0 = Value.slice (some { block := (0 : Nat), off := (0 : Nat) }) nR b0 ∧ Value.int IntKind.i64 (↑nR : Int) = Value.int IntKind.i64 (↑nR : Int) ∧ Value.int IntKind.i64 (0 : Int) = Value.int IntKind.i64 (↑s_1 : Int) ∧ True) ∧ some (AObj.row (u8s rs) (2 : Nat) false false true) :: some (AObj.row (i8s ss) (1 : Nat) false false true) :: some (AObj.row (psC ss s) (1 : Nat) true true true) :: some (AObj.row (ngC ss s) (1 : Nat) true true true) :: some (AObj.row [] (3 : Nat) true true true) :: some (AObj.row [] (3 : Nat) true true true) :: some (AObj.row [] (2 : Nat) true true true) :: some (AObj.row [] (2 : Nat) true true true) :: noH = some (AObj.row (u8s rs) (2 : Nat) false false true) :: some (AObj.row (i8s ss) (1 : Nat) false false true) :: some (AObj.row (psC ss nS) (1 : Nat) true true true) :: some (AObj.row (ngC ss nS) (1 : Nat) true true true) :: some (AObj.row (thC rs ss nS (cnt nS s_1 (0 : Nat))) (3 : Nat) true true true) :: some (AObj.row (bkC rs ss nS (cnt nS s_1 (0 : Nat))) (3 : Nat) true true true) :: some (AObj.row (poC rs nS (cnt nS s_1 (0 : Nat))) (2 : Nat) true true true) :: some (AObj.row (dfC rs nR s_1) (2 : Nat) true true true) :: noH) ∧ ∀ (s : Nat), Is (s ≤ nR) → br (decide ((↑s : Int) < (↑nR : Int))) (Is ((0 : Int) ≤ (↑s : Int) ∧ (↑s : Int) < (↑nR : Int)) ∧ Is ((if (0 : Nat) + Int.toNat (↑s : Int) * (2 : Nat) + (2 : Nat) ≤ List.length (u8s rs) then some (Value.agg (List.toArray (List.take (2 : Nat) (List.drop ((0 : Nat) + Int.toNat (↑s : Int) * (2 : Nat)) (u8s rs))))) else none) = some (Value.agg #[Value.int IntKind.u8 (dA rs ((0 : Nat) + Int.toNat (↑s : Int) * (2 : Nat))), Value.int IntKind.u8 (dA rs ((0 : Nat) + Int.toNat (↑s : Int) * (2 : Nat) + (1 : Nat)))])) ∧ Is ((40 : Int) ≠ (0 : Int)) ∧ ∃ (p : Nat), (∃ (s_1 : Nat), Is (p < nR ∧ s_1 ≤ dfN rs nR p) ∧ (Value.slice (some { block := (0 : Nat), off := (0 : Nat) }) nR b0 = Value.slice (some { block := (0 : Nat), off := (0 : Nat) }) nR b0 ∧ Value.slice (some { block := (1 : Nat), off := (0 : Nat) }) nS b1 = Value.slice (some { block := (1 : Nat), off := (0 : Nat) }) nS b1 ∧ Value.slice (some { block := (2 : Nat), off := (0 : Nat) }) nS (0 : Nat) = Value.slice (some { block := (2 : Nat), off := (0 : Nat) }) nS (0 : Nat) ∧ Value.slice (some { block := (3 : Nat), off := (0 : Nat) }) nS (0 : Nat) = Value.slice (some { block := (3 : Nat), off := (0 : Nat) }) nS (0 : Nat) ∧ Value.slice (some { block := (4 : Nat), off := (0 : Nat) }) (cnt nS s (0 : Nat)) (0 : Nat) = Value.slice (some { block := (4 : Nat), off := (0 : Nat) }) (cnt nS p (0 : Nat)) (0 : Nat) ∧ Value.slice (some { block := (5 : Nat), off := (0 : Nat) }) (cnt nS s (0 : Nat)) (0 : Nat) = Value.slice (some { block := (5 : Nat), off := (0 : Nat) }) (cnt nS p (0 : Nat)) (0 : Nat) ∧ Value.slice (some { block := (6 : Nat), off := (0 : Nat) }) (cnt nS s (0 : Nat)) (0 : Nat) = Value.slice (some { block := (6 : Nat), off := (0 : Nat) }) (cnt nS p (0 : Nat)) (0 : Nat) ∧ Value.slice (some { block := (7 : Nat), off := (0 : Nat) }) (dfN rs nR s) (0 : Nat) = Value.slice (some { block := (7 : Nat), off := (0 : Nat) }) (dfN rs nR p) (0 : Nat) ∧ Value.pointer (some { block := (8 : Nat), off := (0 : Nat) }) = Value.pointer (some { block := (8 : Nat), off := (0 : Nat) }) ∧ Value.bool false = Value.bool (knw rs nR p s_1) ∧ Value.slice (some { block := (0 : Nat), off := (0 : Nat) }) nR b0 = Value.slice (some { block := (0 : Nat), off := (0 : Nat) }) nR b0 ∧ Value.int IntKind.i64 (↑nR : Int) = Value.int IntKind.i64 (↑nR : Int) ∧ Value.int IntKind.i64 (↑s : Int) = Value.int IntKind.i64 (↑p : Int) ∧ Value.slice (some { block := (7 : Nat), off := (0 : Nat) }) (dfN rs nR s) (0 : Nat) = Value.slice (some { block := (7 : Nat), off := (0 : Nat) }) (dfN rs nR p) (0 : Nat) ∧ Value.int IntKind.i64 (↑(dfN rs nR s) : Int) = Value.int IntKind.i64 (↑(dfN rs nR p) : Int) ∧ Value.int IntKind.i64 (0 : Int) = Value.int IntKind.i64 (↑s_1 : Int) ∧ True) ∧ some (AObj.row (u8s rs) (2 : Nat) false false true) :: some (AObj.row (i8s ss) (1 : Nat) false false true) :: some (AObj.row (psC ss nS) (1 : Nat) true true true) :: some (AObj.row (ngC ss nS) (1 : Nat) true true true) :: some (AObj.row (thC rs ss nS (cnt nS s (0 : Nat))) (3 : Nat) true true true) :: some (AObj.row (bkC rs ss nS (cnt nS s (0 : Nat))) (3 : Nat) true true true) :: some (AObj.row (poC rs nS (cnt nS s (0 : Nat))) (2 : Nat) true true true) :: some (AObj.row (dfC rs nR s) (2 : Nat) true true true) :: some (AObj.row [Value.int IntKind.i64 (IntKind.wrap IntKind.i64 ((1000 : Int) + IntKind.wrap IntKind.i64 (dA rs ((0 : Nat) + Int.toNat (↑s : Int) * (2 : Nat))))), Value.int IntKind.i64 (IntKind.wrap IntKind.i64 ((1 : Int) + Int.tmod (IntKind.wrap IntKind.i64 (dA rs ((0 : Nat) + Int.toNat (↑s : Int) * (2 : Nat) + (1 : Nat)))) (40 : Int)))] (0 : Nat) false true (true && List.all [Value.int IntKind.i64 (IntKind.wrap IntKind.i64 ((1000 : Int) + IntKind.wrap IntKind.i64 (dA rs ((0 : Nat) + Int.toNat (↑s : Int) * (2 : Nat))))), Value.int IntKind.i64 (IntKind.wrap IntKind.i64 ((1 : Int) + Int.tmod (IntKind.wrap IntKind.i64 (dA rs ((0 : Nat) + Int.toNat (↑s : Int) * (2 : Nat) + (1 : Nat)))) (40 : Int)))] atom)) :: noH = some (AObj.row (u8s rs) (2 : Nat) false false true) :: some (AObj.row (i8s ss) (1 : Nat) false false true) :: some (AObj.row (psC ss nS) (1 : Nat) true true true) :: some (AObj.row (ngC ss nS) (1 : Nat) true true true) :: some (AObj.row (thC rs ss nS (cnt nS p (0 : Nat))) (3 : Nat) true true true) :: some (AObj.row (bkC rs ss nS (cnt nS p (0 : Nat))) (3 : Nat) true true true) :: some (AObj.row (poC rs nS (cnt nS p (0 : Nat))) (2 : Nat) true true true) :: some (AObj.row (dfC rs nR p) (2 : Nat) true true true) :: some (AObj.row [Value.int IntKind.i64 (rX rs p), Value.int IntKind.i64 (rY rs p)] (0 : Nat) false true true) :: noH) ∧ ∀ (s_1 : Nat), Is (p < nR ∧ s_1 ≤ dfN rs nR p) → br (decide ((↑s_1 : Int) < (↑(dfN rs nR p) : Int))) (Is ((0 : Int) ≤ (↑s_1 : Int) ∧ (↑s_1 : Int) < (↑(dfN rs nR p) : Int)) ∧ Is ((if (0 : Nat) + Int.toNat (↑s_1 : Int) * (2 : Nat) + (2 : Nat) ≤ List.length (dfC rs nR p) then some (Value.agg (List.toArray (List.take (2 : Nat) (List.drop ((0 : Nat) + Int.toNat (↑s_1 : Int) * (2 : Nat)) (dfC rs nR p))))) else none) = some (Value.agg #[Value.int IntKind.i64 (iAt (dfC rs nR p) ((0 : Nat) + Int.toNat (↑s_1 : Int) * (2 : Nat))), Value.int IntKind.i64 (iAt (dfC rs nR p) ((0 : Nat) + Int.toNat (↑s_1 : Int) * (2 : Nat) + (1 : Nat)))])) ∧ br (knw rs nR p s_1) (∃ (s' : Nat), Is (p < nR ∧ s' ≤ dfN rs nR p) ∧ Is (dfN rs nR p - s' < dfN rs nR p - s_1) ∧ (Value.slice (some { block := (0 : Nat), off := (0 : Nat) }) nR b0 = Value.slice (some { block := (0 : Nat), off := (0 : Nat) }) nR b0 ∧ Value.slice (some { block := (1 : Nat), off := (0 : Nat) }) nS b1 = Value.slice (some { block := (1 : Nat), off := (0 : Nat) }) nS b1 ∧ Value.slice (some { block := (2 : Nat), off := (0 : Nat) }) nS (0 : Nat) = Value.slice (some { block := (2 : Nat), off := (0 : Nat) }) nS (0 : Nat) ∧ Value.slice (some { block := (3 : Nat), off := (0 : Nat) }) nS (0 : Nat) = Value.slice (some { block := (3 : Nat), off := (0 : Nat) }) nS (0 : Nat) ∧ Value.slice (some { block := (4 : Nat), off := (0 : Nat) }) (cnt nS p (0 : Nat)) (0 : Nat) = Value.slice (some { block := (4 : Nat), off := (0 : Nat) }) (cnt nS p (0 : Nat)) (0 : Nat) ∧ Value.slice (some { block := (5 : Nat), off := (0 : Nat) }) (cnt nS p (0 : Nat)) (0 : Nat) = Value.slice (some { block := (5 : Nat), off := (0 : Nat) }) (cnt nS p (0 : Nat)) (0 : Nat) ∧ Value.slice (some { block := (6 : Nat), off := (0 : Nat) }) (cnt nS p (0 : Nat)) (0 : Nat) = Value.slice (some { block := (6 : Nat), off := (0 : Nat) }) (cnt nS p (0 : Nat)) (0 : Nat) ∧ Value.slice (some { block := (7 : Nat), off := (0 : Nat) }) (dfN rs nR p) (0 : Nat) = Value.slice (some { block := (7 : Nat), off := (0 : Nat) }) (dfN rs nR p) (0 : Nat) ∧ Value.pointer (some { block := (8 : Nat), off := (0 : Nat) }) = Value.pointer (some { block := (8 : Nat), off := (0 : Nat) }) ∧ Value.bool true = Value.bool (knw rs nR p s') ∧ Value.slice (some { block := (0 : Nat), off := (0 : Nat) }) nR b0 = Value.slice (some { block := (0 : Nat), off := (0 : Nat) }) nR b0 ∧ Value.int IntKind.i64 (↑nR : Int) = Value.int IntKind.i64 (↑nR : Int) ∧ Value.int IntKind.i64 (↑p : Int) = Value.int IntKind.i64 (↑p : Int) ∧ Value.slice (some { block := (7 : Nat), off := (0 : Nat) }) (dfN rs nR p) (0 : Nat) = Value.slice (some { block := (7 : Nat), off := (0 : Nat) }) (dfN rs nR p) (0 : Nat) ∧ Value.int IntKind.i64 (↑(dfN rs nR p) : Int) = Value.int IntKind.i64 (↑(dfN rs nR p) : Int) ∧ Value.int IntKind.i64 (IntKind.wrap IntKind.i64 ((↑s_1 : Int) + (1 : Int))) = Value.int IntKind.i64 (↑s' : Int) ∧ True) ∧ some (AObj.row (u8s rs) (2 : Nat) false false true) :: some (AObj.row (i8s ss) (1 : Nat) false false true) :: some (AObj.row (psC ss nS) (1 : Nat) true true true) :: some (AObj.row (ngC ss nS) (1 : Nat) true true true) :: some (AObj.row (thC rs ss nS (cnt nS p (0 : Nat))) (3 : Nat) true true true) :: some (AObj.row (bkC rs ss nS (cnt nS p (0 : Nat))) (3 : Nat) true true true) :: some (AObj.row (poC rs nS (cnt nS p (0 : Nat))) (2 : Nat) true true true) :: some (AObj.row (dfC rs nR p) (2 : Nat) true true true) :: some (AObj.row [Value.int IntKind.i64 (rX rs p), Value.int IntKind.i64 (rY rs p)] (0 : Nat) false true true) :: noH = some (AObj.row (u8s rs) (2 : Nat) false false true) :: some (AObj.row (i8s ss) (1 : Nat) false false true) :: some (AObj.row (psC ss nS) (1 : Nat) true true true) :: some (AObj.row (ngC ss nS) (1 : Nat) true true true) :: some (AObj.row (thC rs ss nS (cnt nS p (0 : Nat))) (3 : Nat) true true true) :: some (AObj.row (bkC rs ss nS (cnt nS p (0 : Nat))) (3 : Nat) true true true) :: some (AObj.row (poC rs nS (cnt nS p (0 : Nat))) (2 : Nat) true true true) :: some (AObj.row (dfC rs nR p) (2 : Nat) true true true) :: some (AObj.row [Value.int IntKind.i64 (rX rs p), Value.int IntKind.i64 (rY rs p)] (0 : Nat) false true true) :: noH) (Is True ∧ ∃ (s' : Nat), Is (p < nR ∧ s' ≤ dfN rs nR p) ∧ Is (dfN rs nR p - s' < dfN rs nR p - s_1) ∧ (Value.slice (some { block := (0 : Nat), off := (0 : Nat) }) nR b0 = Value.slice (some { block := (0 : Nat), off := (0 : Nat) }) nR b0 ∧ Value.slice (some { block := (1 : Nat), off := (0 : Nat) }) nS b1 = Value.slice (some { block := (1 : Nat), off := (0 : Nat) }) nS b1 ∧ Value.slice (some { block := (2 : Nat), off := (0 : Nat) }) nS (0 : Nat) = Value.slice (some { block := (2 : Nat), off := (0 : Nat) }) nS (0 : Nat) ∧ Value.slice (some { block := (3 : Nat), off := (0 : Nat) }) nS (0 : Nat) = Value.slice (some { block := (3 : Nat), off := (0 : Nat) }) nS (0 : Nat) ∧ Value.slice (some { block := (4 : Nat), off := (0 : Nat) }) (cnt nS p (0 : Nat)) (0 : Nat) = Value.slice (some { block := (4 : Nat), off := (0 : Nat) }) (cnt nS p (0 : Nat)) (0 : Nat) ∧ Value.slice (some { block := (5 : Nat), off := (0 : Nat) }) (cnt nS p (0 : Nat)) (0 : Nat) = Value.slice (some { block := (5 : Nat), off := (0 : Nat) }) (cnt nS p (0 : Nat)) (0 : Nat) ∧ Value.slice (some { block := (6 : Nat), off := (0 : Nat) }) (cnt nS p (0 : Nat)) (0 : Nat) = Value.slice (some { block := (6 : Nat), off := (0 : Nat) }) (cnt nS p (0 : Nat)) (0 : Nat) ∧ Value.slice (some { block := (7 : Nat), off := (0 : Nat) }) (dfN rs nR p) (0 : Nat) = Value.slice (some { block := (7 : Nat), off := (0 : Nat) }) (dfN rs nR p) (0 : Nat) ∧ Value.pointer (some { block := (8 : Nat), off := (0 : Nat) }) = Value.pointer (some { block := (8 : Nat), off := (0 : Nat) }) ∧ Value.bool (iAt (dfC rs nR p) ((0 : Nat) + Int.toNat (↑s_1 : Int) * (2 : Nat)) == rX rs p && (iAt (dfC rs nR p) ((0 : Nat) + Int.toNat (↑s_1 : Int) * (2 : Nat) + (1 : Nat)) == rY rs p && true)) = Value.bool (knw rs nR p s') ∧ Value.slice (some { block := (0 : Nat), off := (0 : Nat) }) nR b0 = Value.slice (some { block := (0 : Nat), off := (0 : Nat) }) nR b0 ∧ Value.int IntKind.i64 (↑nR : Int) = Value.int IntKind.i64 (↑nR : Int) ∧ Value.int IntKind.i64 (↑p : Int) = Value.int IntKind.i64 (↑p : Int) ∧ Value.slice (some { block := (7 : Nat), off := (0 : Nat) }) (dfN rs nR p) (0 : Nat) = Value.slice (some { block := (7 : Nat), off := (0 : Nat) }) (dfN rs nR p) (0 : Nat) ∧ Value.int IntKind.i64 (↑(dfN rs nR p) : Int) = Value.int IntKind.i64 (↑(dfN rs nR p) : Int) ∧ Value.int IntKind.i64 (IntKind.wrap IntKind.i64 ((↑s_1 : Int) + (1 : Int))) = Value.int IntKind.i64 (↑s' : Int) ∧ True) ∧ some (AObj.row (u8s rs) (2 : Nat) false false true) :: some (AObj.row (i8s ss) (1 : Nat) false false true) :: some (AObj.row (psC ss nS) (1 : Nat) true true true) :: some (AObj.row (ngC ss nS) (1 : Nat) true true true) :: some (AObj.row (thC rs ss nS (cnt nS p (0 : Nat))) (3 : Nat) true true true) :: some (AObj.row (bkC rs ss nS (cnt nS p (0 : Nat))) (3 : Nat) true true true) :: some (AObj.row (poC rs nS (cnt nS p (0 : Nat))) (2 : Nat) true true true) :: some (AObj.row (dfC rs nR p) (2 : Nat) true true true) :: some (AObj.row [Value.int IntKind.i64 (rX rs p), Value.int IntKind.i64 (rY rs p)] (0 : Nat) false true true) :: noH = some (AObj.row (u8s rs) (2 : Nat) false false true) :: some (AObj.row (i8s ss) (1 : Nat) false false true) :: some (AObj.row (psC ss nS) (1 : Nat) true true true) :: some (AObj.row (ngC ss nS) (1 : Nat) true true true) :: some (AObj.row (thC rs ss nS (cnt nS p (0 : Nat))) (3 : Nat) true true true) :: some (AObj.row (bkC rs ss nS (cnt nS p (0 : Nat))) (3 : Nat) true true true) :: some (AObj.row (poC rs nS (cnt nS p (0 : Nat))) (2 : Nat) true true true) :: some (AObj.row (dfC rs nR p) (2 : Nat) true true true) :: some (AObj.row [Value.int IntKind.i64 (rX rs p), Value.int IntKind.i64 (rY rs p)] (0 : Nat) false true true) :: noH)) (br (!knw rs nR p s_1) (Is (List.length (dfC rs nR p) = dfN rs nR p * (2 : Nat) ∧ (dfN rs nR p + (1 : Nat)) * (16 : Nat) ≤ (140737488355328 : Nat) ∧ dfN rs nR p + (1 : Nat) ≤ (9223372036854775807 : Nat)) ∧ ∃ (p_1 : Nat), (∃ (s : Nat), Is (p_1 < nR ∧ s ≤ nS) ∧ (Value.slice (some { block := (0 : Nat), off := (0 : Nat) }) nR b0 = Value.slice (some { block := (0 : Nat), off := (0 : Nat) }) nR b0 ∧ Value.slice (some { block := (1 : Nat), off := (0 : Nat) }) nS b1 = Value.slice (some { block := (1 : Nat), off := (0 : Nat) }) nS b1 ∧ Value.slice (some { block := (2 : Nat), off := (0 : Nat) }) nS (0 : Nat) = Value.slice (some { block := (2 : Nat), off := (0 : Nat) }) nS (0 : Nat) ∧ Value.slice (some { block := (3 : Nat), off := (0 : Nat) }) nS (0 : Nat) = Value.slice (some { block := (3 : Nat), off := (0 : Nat) }) nS (0 : Nat) ∧ Value.slice (some { block := (4 : Nat), off := (0 : Nat) }) (cnt nS p (0 : Nat)) (0 : Nat) = Value.slice (some { block := (4 : Nat), off := (0 : Nat) }) (cnt nS p_1 s) (0 : Nat) ∧ Value.slice (some { block := (5 : Nat), off := (0 : Nat) }) (cnt nS p (0 : Nat)) (0 : Nat) = Value.slice (some { block := (5 : Nat), off := (0 : Nat) }) (cnt nS p_1 s) (0 : Nat) ∧ Value.slice (some { block := (6 : Nat), off := (0 : Nat) }) (cnt nS p (0 : Nat)) (0 : Nat) = Value.slice (some { block := (6 : Nat), off := (0 : Nat) }) (cnt nS p_1 s) (0 : Nat) ∧ Value.slice (some { block := (7 : Nat), off := (0 : Nat) }) (dfN rs nR p + (1 : Nat)) (0 : Nat) = Value.slice (some { block := (7 : Nat), off := (0 : Nat) }) (dfN rs nR (p_1 + (1 : Nat))) (0 : Nat) ∧ Value.pointer (some { block := (8 : Nat), off := (0 : Nat) }) = Value.pointer (some { block := (8 : Nat), off := (0 : Nat) }) ∧ Value.slice (some { block := (0 : Nat), off := (0 : Nat) }) nR b0 = Value.slice (some { block := (0 : Nat), off := (0 : Nat) }) nR b0 ∧ Value.int IntKind.i64 (↑nR : Int) = Value.int IntKind.i64 (↑nR : Int) ∧ Value.int IntKind.i64 (↑p : Int) = Value.int IntKind.i64 (↑p_1 : Int) ∧ Value.int IntKind.i64 (↑nS : Int) = Value.int IntKind.i64 (↑nS : Int) ∧ Value.int IntKind.i64 (0 : Int) = Value.int IntKind.i64 (↑s : Int) ∧ True) ∧ some (AObj.row (u8s rs) (2 : Nat) false false true) :: some (AObj.row (i8s ss) (1 : Nat) false false true) :: some (AObj.row (psC ss nS) (1 : Nat) true true true) :: some (AObj.row (ngC ss nS) (1 : Nat) true true true) :: some (AObj.row (thC rs ss nS (cnt nS p (0 : Nat))) (3 : Nat) true true true) :: some (AObj.row (bkC rs ss nS (cnt nS p (0 : Nat))) (3 : Nat) true true true) :: some (AObj.row (poC rs nS (cnt nS p (0 : Nat))) (2 : Nat) true true true) :: some (AObj.row (dfC rs nR p ++ [Value.int IntKind.i64 (rX rs p), Value.int IntKind.i64 (rY rs p)]) (2 : Nat) true true (List.all [Value.int IntKind.i64 (rX rs p), Value.int IntKind.i64 (rY rs p)] atom)) :: some (AObj.row [Value.int IntKind.i64 (rX rs p), Value.int IntKind.i64 (rY rs p)] (0 : Nat) false true true) :: noH = some (AObj.row (u8s rs) (2 : Nat) false false true) :: some (AObj.row (i8s ss) (1 : Nat) false false true) :: some (AObj.row (psC ss nS) (1 : Nat) true true true) :: some (AObj.row (ngC ss nS) (1 : Nat) true true true) :: some (AObj.row (thC rs ss nS (cnt nS p_1 s)) (3 : Nat) true true true) :: some (AObj.row (bkC rs ss nS (cnt nS p_1 s)) (3 : Nat) true true true) :: some (AObj.row (poC rs nS (cnt nS p_1 s)) (2 : Nat) true true true) :: some (AObj.row (dfC rs nR (p_1 + (1 : Nat))) (2 : Nat) true true true) :: some (AObj.row [Value.int IntKind.i64 (rX rs p_1), Value.int IntKind.i64 (rY rs p_1)] (0 : Nat) false true true) :: noH) ∧ ∀ (s_2 : Nat), Is (p_1 < nR ∧ s_2 ≤ nS) → br (decide ((↑s_2 : Int) < (↑nS : Int))) (Is ((0 : Int) ≤ (↑s_2 : Int) ∧ (↑s_2 : Int) < (↑nS : Int)) ∧ Is ((psC ss nS)[(0 : Nat) + Int.toNat (↑s_2 : Int) * (1 : Nat)]? = some (Value.int IntKind.i64 (iAt (psC ss nS) ((0 : Nat) + Int.toNat (↑s_2 : Int) * (1 : Nat))))) ∧ Is (List.length (thC rs ss nS (cnt nS p_1 s_2)) = cnt nS p_1 s_2 * (3 : Nat) ∧ (cnt nS p_1 s_2 + (1 : Nat)) * (24 : Nat) ≤ (140737488355328 : Nat) ∧ cnt nS p_1 s_2 + (1 : Nat) ≤ (9223372036854775807 : Nat)) ∧ Is ((0 : Int) ≤ (↑s_2 : Int) ∧ (↑s_2 : Int) < (↑nS : Int)) ∧ Is ((ngC ss nS)[(0 : Nat) + Int.toNat (↑s_2 : Int) * (1 : Nat)]? = some (Value.int IntKind.i64 (iAt (ngC ss nS) ((0 : Nat) + Int.toNat (↑s_2 : Int) * (1 : Nat))))) ∧ Is (List.length (bkC rs ss nS (cnt nS p_1 s_2)) = cnt nS p_1 s_2 * (3 : Nat) ∧ (cnt nS p_1 s_2 + (1 : Nat)) * (24 : Nat) ≤ (140737488355328 : Nat) ∧ cnt nS p_1 s_2 + (1 : Nat) ≤ (9223372036854775807 : Nat)) ∧ Is (List.length (poC rs nS (cnt nS p_1 s_2)) = cnt nS p_1 s_2 * (2 : Nat) ∧ (cnt nS p_1 s_2 + (1 : Nat)) * (16 : Nat) ≤ (140737488355328 : Nat) ∧ cnt nS p_1 s_2 + (1 : Nat) ≤ (9223372036854775807 : Nat)) ∧ ∃ (s' : Nat), Is (p_1 < nR ∧ s' ≤ nS) ∧ Is (nS - s' < nS - s_2) ∧ (Value.slice (some { block := (0 : Nat), off := (0 : Nat) }) nR b0 = Value.slice (some { block := (0 : Nat), off := (0 : Nat) }) nR b0 ∧ Value.slice (some { block := (1 : Nat), off := (0 : Nat) }) nS b1 = Value.slice (some { block := (1 : Nat), off := (0 : Nat) }) nS b1 ∧ Value.slice (some { block := (2 : Nat), off := (0 : Nat) }) nS (0 : Nat) = Value.slice (some { block := (2 : Nat), off := (0 : Nat) }) nS (0 : Nat) ∧ Value.slice (some { block := (3 : Nat), off := (0 : Nat) }) nS (0 : Nat) = Value.slice (some { block := (3 : Nat), off := (0 : Nat) }) nS (0 : Nat) ∧ Value.slice (some { block := (4 : Nat), off := (0 : Nat) }) (cnt nS p_1 s_2 + (1 : Nat)) (0 : Nat) = Value.slice (some { block := (4 : Nat), off := (0 : Nat) }) (cnt nS p_1 s') (0 : Nat) ∧ Value.slice (some { block := (5 : Nat), off := (0 : Nat) }) (cnt nS p_1 s_2 + (1 : Nat)) (0 : Nat) = Value.slice (some { block := (5 : Nat), off := (0 : Nat) }) (cnt nS p_1 s') (0 : Nat) ∧ Value.slice (some { block := (6 : Nat), off := (0 : Nat) }) (cnt nS p_1 s_2 + (1 : Nat)) (0 : Nat) = Value.slice (some { block := (6 : Nat), off := (0 : Nat) }) (cnt nS p_1 s') (0 : Nat) ∧ Value.slice (some { block := (7 : Nat), off := (0 : Nat) }) (dfN rs nR (p_1 + (1 : Nat))) (0 : Nat) = Value.slice (some { block := (7 : Nat), off := (0 : Nat) }) (dfN rs nR (p_1 + (1 : Nat))) (0 : Nat) ∧ Value.pointer (some { block := (8 : Nat), off := (0 : Nat) }) = Value.pointer (some { block := (8 : Nat), off := (0 : Nat) }) ∧ Value.slice (some { block := (0 : Nat), off := (0 : Nat) }) nR b0 = Value.slice (some { block := (0 : Nat), off := (0 : Nat) }) nR b0 ∧ Value.int IntKind.i64 (↑nR : Int) = Value.int IntKind.i64 (↑nR : Int) ∧ Value.int IntKind.i64 (↑p_1 : Int) = Value.int IntKind.i64 (↑p_1 : Int) ∧ Value.int IntKind.i64 (↑nS : Int) = Value.int IntKind.i64 (↑nS : Int) ∧ Value.int IntKind.i64 (IntKind.wrap IntKind.i64 ((↑s_2 : Int) + (1 : Int))) = Value.int IntKind.i64 (↑s' : Int) ∧ True) ∧ some (AObj.row (u8s rs) (2 : Nat) false false true) :: some (AObj.row (i8s ss) (1 : Nat) false false true) :: some (AObj.row (psC ss nS) (1 : Nat) true true true) :: some (AObj.row (ngC ss nS) (1 : Nat) true true true) :: some (AObj.row (thC rs ss nS (cnt nS p_1 s_2) ++ [Value.int IntKind.i64 (↑s_2 : Int), Value.int IntKind.i64 (IntKind.wrap IntKind.i64 (rX rs p_1 - IntKind.wrap IntKind.i64 (iAt (psC ss nS) ((0 : Nat) + Int.toNat (↑s_2 : Int) * (1 : Nat)) * rY rs p_1))), Value.int IntKind.i64 (rY rs p_1)]) (3 : Nat) true true (List.all [Value.int IntKind.i64 (↑s_2 : Int), Value.int IntKind.i64 (IntKind.wrap IntKind.i64 (rX rs p_1 - IntKind.wrap IntKind.i64 (iAt (psC ss nS) ((0 : Nat) + Int.toNat (↑s_2 : Int) * (1 : Nat)) * rY rs p_1))), Value.int IntKind.i64 (rY rs p_1)] atom)) :: some (AObj.row (bkC rs ss nS (cnt nS p_1 s_2) ++ [Value.int IntKind.i64 (↑s_2 : Int), Value.int IntKind.i64 (IntKind.wrap IntKind.i64 (IntKind.wrap IntKind.i64 ((10000 : Int) - rX rs p_1) - IntKind.wrap IntKind.i64 (iAt (ngC ss nS) ((0 : Nat) + Int.toNat (↑s_2 : Int) * (1 : Nat)) * rY rs p_1))), Value.int IntKind.i64 (rY rs p_1)]) (3 : Nat) true true (List.all [Value.int IntKind.i64 (↑s_2 : Int), Value.int IntKind.i64 (IntKind.wrap IntKind.i64 (IntKind.wrap IntKind.i64 ((10000 : Int) - rX rs p_1) - IntKind.wrap IntKind.i64 (iAt (ngC ss nS) ((0 : Nat) + Int.toNat (↑s_2 : Int) * (1 : Nat)) * rY rs p_1))), Value.int IntKind.i64 (rY rs p_1)] atom)) :: some (AObj.row (poC rs nS (cnt nS p_1 s_2) ++ [Value.int IntKind.i64 (rX rs p_1), Value.int IntKind.i64 (rY rs p_1)]) (2 : Nat) true true (List.all [Value.int IntKind.i64 (rX rs p_1), Value.int IntKind.i64 (rY rs p_1)] atom)) :: some (AObj.row (dfC rs nR (p_1 + (1 : Nat))) (2 : Nat) true true true) :: some (AObj.row [Value.int IntKind.i64 (rX rs p_1), Value.int IntKind.i64 (rY rs p_1)] (0 : Nat) false true true) :: noH = some (AObj.row (u8s rs) (2 : Nat) false false true) :: some (AObj.row (i8s ss) (1 : Nat) false false true) :: some (AObj.row (psC ss nS) (1 : Nat) true true true) :: some (AObj.row (ngC ss nS) (1 : Nat) true true true) :: some (AObj.row (thC rs ss nS (cnt nS p_1 s')) (3 : Nat) true true true) :: some (AObj.row (bkC rs ss nS (cnt nS p_1 s')) (3 : Nat) true true true) :: some (AObj.row (poC rs nS (cnt nS p_1 s')) (2 : Nat) true true true) :: some (AObj.row (dfC rs nR (p_1 + (1 : Nat))) (2 : Nat) true true true) :: some (AObj.row [Value.int IntKind.i64 (rX rs p_1), Value.int IntKind.i64 (rY rs p_1)] (0 : Nat) false true true) :: noH) (∃ (s' : Nat), Is (s' ≤ nR) ∧ Is (nR - s' < nR - s) ∧ (Value.slice (some { block := (0 : Nat), off := (0 : Nat) }) nR b0 = Value.slice (some { block := (0 : Nat), off := (0 : Nat) }) nR b0 ∧ Value.slice (some { block := (1 : Nat), off := (0 : Nat) }) nS b1 = Value.slice (some { block := (1 : Nat), off := (0 : Nat) }) nS b1 ∧ Value.slice (some { block := (2 : Nat), off := (0 : Nat) }) nS (0 : Nat) = Value.slice (some { block := (2 : Nat), off := (0 : Nat) }) nS (0 : Nat) ∧ Value.slice (some { block := (3 : Nat), off := (0 : Nat) }) nS (0 : Nat) = Value.slice (some { block := (3 : Nat), off := (0 : Nat) }) nS (0 : Nat) ∧ Value.slice (some { block := (4 : Nat), off := (0 : Nat) }) (cnt nS p_1 s_2) (0 : Nat) = Value.slice (some { block := (4 : Nat), off := (0 : Nat) }) (cnt nS s' (0 : Nat)) (0 : Nat) ∧ Value.slice (some { block := (5 : Nat), off := (0 : Nat) }) (cnt nS p_1 s_2) (0 : Nat) = Value.slice (some { block := (5 : Nat), off := (0 : Nat) }) (cnt nS s' (0 : Nat)) (0 : Nat) ∧ Value.slice (some { block := (6 : Nat), off := (0 : Nat) }) (cnt nS p_1 s_2) (0 : Nat) = Value.slice (some { block := (6 : Nat), off := (0 : Nat) }) (cnt nS s' (0 : Nat)) (0 : Nat) ∧ Value.slice (some { block := (7 : Nat), off := (0 : Nat) }) (dfN rs nR (p_1 + (1 : Nat))) (0 : Nat) = Value.slice (some { block := (7 : Nat), off := (0 : Nat) }) (dfN rs nR s') (0 : Nat) ∧ Value.slice (some { block := (0 : Nat), off := (0 : Nat) }) nR b0 = Value.slice (some { block := (0 : Nat), off := (0 : Nat) }) nR b0 ∧ Value.int IntKind.i64 (↑nR : Int) = Value.int IntKind.i64 (↑nR : Int) ∧ Value.int IntKind.i64 (IntKind.wrap IntKind.i64 ((↑p_1 : Int) + (1 : Int))) = Value.int IntKind.i64 (↑s' : Int) ∧ True) ∧ some (AObj.row (u8s rs) (2 : Nat) false false true) :: some (AObj.row (i8s ss) (1 : Nat) false false true) :: some (AObj.row (psC ss nS) (1 : Nat) true true true) :: some (AObj.row (ngC ss nS) (1 : Nat) true true true) :: some (AObj.row (thC rs ss nS (cnt nS p_1 s_2)) (3 : Nat) true true true) :: some (AObj.row (bkC rs ss nS (cnt nS p_1 s_2)) (3 : Nat) true true true) :: some (AObj.row (poC rs nS (cnt nS p_1 s_2)) (2 : Nat) true true true) :: some (AObj.row (dfC rs nR (p_1 + (1 : Nat))) (2 : Nat) true true true) :: noH = some (AObj.row (u8s rs) (2 : Nat) false false true) :: some (AObj.row (i8s ss) (1 : Nat) false false true) :: some (AObj.row (psC ss nS) (1 : Nat) true true true) :: some (AObj.row (ngC ss nS) (1 : Nat) true true true) :: some (AObj.row (thC rs ss nS (cnt nS s' (0 : Nat))) (3 : Nat) true true true) :: some (AObj.row (bkC rs ss nS (cnt nS s' (0 : Nat))) (3 : Nat) true true true) :: some (AObj.row (poC rs nS (cnt nS s' (0 : Nat))) (2 : Nat) true true true) :: some (AObj.row (dfC rs nR s') (2 : Nat) true true true) :: noH)) (∃ (p_1 : Nat), (∃ (s : Nat), Is (p_1 < nR ∧ s ≤ nS) ∧ (Value.slice (some { block := (0 : Nat), off := (0 : Nat) }) nR b0 = Value.slice (some { block := (0 : Nat), off := (0 : Nat) }) nR b0 ∧ Value.slice (some { block := (1 : Nat), off := (0 : Nat) }) nS b1 = Value.slice (some { block := (1 : Nat), off := (0 : Nat) }) nS b1 ∧ Value.slice (some { block := (2 : Nat), off := (0 : Nat) }) nS (0 : Nat) = Value.slice (some { block := (2 : Nat), off := (0 : Nat) }) nS (0 : Nat) ∧ Value.slice (some { block := (3 : Nat), off := (0 : Nat) }) nS (0 : Nat) = Value.slice (some { block := (3 : Nat), off := (0 : Nat) }) nS (0 : Nat) ∧ Value.slice (some { block := (4 : Nat), off := (0 : Nat) }) (cnt nS p (0 : Nat)) (0 : Nat) = Value.slice (some { block := (4 : Nat), off := (0 : Nat) }) (cnt nS p_1 s) (0 : Nat) ∧ Value.slice (some { block := (5 : Nat), off := (0 : Nat) }) (cnt nS p (0 : Nat)) (0 : Nat) = Value.slice (some { block := (5 : Nat), off := (0 : Nat) }) (cnt nS p_1 s) (0 : Nat) ∧ Value.slice (some { block := (6 : Nat), off := (0 : Nat) }) (cnt nS p (0 : Nat)) (0 : Nat) = Value.slice (some { block := (6 : Nat), off := (0 : Nat) }) (cnt nS p_1 s) (0 : Nat) ∧ Value.slice (some { block := (7 : Nat), off := (0 : Nat) }) (dfN rs nR p) (0 : Nat) = Value.slice (some { block := (7 : Nat), off := (0 : Nat) }) (dfN rs nR (p_1 + (1 : Nat))) (0 : Nat) ∧ Value.pointer (some { block := (8 : Nat), off := (0 : Nat) }) = Value.pointer (some { block := (8 : Nat), off := (0 : Nat) }) ∧ Value.slice (some { block := (0 : Nat), off := (0 : Nat) }) nR b0 = Value.slice (some { block := (0 : Nat), off := (0 : Nat) }) nR b0 ∧ Value.int IntKind.i64 (↑nR : Int) = Value.int IntKind.i64 (↑nR : Int) ∧ Value.int IntKind.i64 (↑p : Int) = Value.int IntKind.i64 (↑p_1 : Int) ∧ Value.int IntKind.i64 (↑nS : Int) = Value.int IntKind.i64 (↑nS : Int) ∧ Value.int IntKind.i64 (0 : Int) = Value.int IntKind.i64 (↑s : Int) ∧ True) ∧ some (AObj.row (u8s rs) (2 : Nat) false false true) :: some (AObj.row (i8s ss) (1 : Nat) false false true) :: some (AObj.row (psC ss nS) (1 : Nat) true true true) :: some (AObj.row (ngC ss nS) (1 : Nat) true true true) :: some (AObj.row (thC rs ss nS (cnt nS p (0 : Nat))) (3 : Nat) true true true) :: some (AObj.row (bkC rs ss nS (cnt nS p (0 : Nat))) (3 : Nat) true true true) :: some (AObj.row (poC rs nS (cnt nS p (0 : Nat))) (2 : Nat) true true true) :: some (AObj.row (dfC rs nR p) (2 : Nat) true true true) :: some (AObj.row [Value.int IntKind.i64 (rX rs p), Value.int IntKind.i64 (rY rs p)] (0 : Nat) false true true) :: noH = some (AObj.row (u8s rs) (2 : Nat) false false true) :: some (AObj.row (i8s ss) (1 : Nat) false false true) :: some (AObj.row (psC ss nS) (1 : Nat) true true true) :: some (AObj.row (ngC ss nS) (1 : Nat) true true true) :: some (AObj.row (thC rs ss nS (cnt nS p_1 s)) (3 : Nat) true true true) :: some (AObj.row (bkC rs ss nS (cnt nS p_1 s)) (3 : Nat) true true true) :: some (AObj.row (poC rs nS (cnt nS p_1 s)) (2 : Nat) true true true) :: some (AObj.row (dfC rs nR (p_1 + (1 : Nat))) (2 : Nat) true true true) :: some (AObj.row [Value.int IntKind.i64 (rX rs p_1), Value.int IntKind.i64 (rY rs p_1)] (0 : Nat) false true true) :: noH) ∧ ∀ (s_2 : Nat), Is (p_1 < nR ∧ s_2 ≤ nS) → br (decide ((↑s_2 : Int) < (↑nS : Int))) (Is ((0 : Int) ≤ (↑s_2 : Int) ∧ (↑s_2 : Int) < (↑nS : Int)) ∧ Is ((psC ss nS)[(0 : Nat) + Int.toNat (↑s_2 : Int) * (1 : Nat)]? = some (Value.int IntKind.i64 (iAt (psC ss nS) ((0 : Nat) + Int.toNat (↑s_2 : Int) * (1 : Nat))))) ∧ Is (List.length (thC rs ss nS (cnt nS p_1 s_2)) = cnt nS p_1 s_2 * (3 : Nat) ∧ (cnt nS p_1 s_2 + (1 : Nat)) * (24 : Nat) ≤ (140737488355328 : Nat) ∧ cnt nS p_1 s_2 + (1 : Nat) ≤ (9223372036854775807 : Nat)) ∧ Is ((0 : Int) ≤ (↑s_2 : Int) ∧ (↑s_2 : Int) < (↑nS : Int)) ∧ Is ((ngC ss nS)[(0 : Nat) + Int.toNat (↑s_2 : Int) * (1 : Nat)]? = some (Value.int IntKind.i64 (iAt (ngC ss nS) ((0 : Nat) + Int.toNat (↑s_2 : Int) * (1 : Nat))))) ∧ Is (List.length (bkC rs ss nS (cnt nS p_1 s_2)) = cnt nS p_1 s_2 * (3 : Nat) ∧ (cnt nS p_1 s_2 + (1 : Nat)) * (24 : Nat) ≤ (140737488355328 : Nat) ∧ cnt nS p_1 s_2 + (1 : Nat) ≤ (9223372036854775807 : Nat)) ∧ Is (List.length (poC rs nS (cnt nS p_1 s_2)) = cnt nS p_1 s_2 * (2 : Nat) ∧ (cnt nS p_1 s_2 + (1 : Nat)) * (16 : Nat) ≤ (140737488355328 : Nat) ∧ cnt nS p_1 s_2 + (1 : Nat) ≤ (9223372036854775807 : Nat)) ∧ ∃ (s' : Nat), Is (p_1 < nR ∧ s' ≤ nS) ∧ Is (nS - s' < nS - s_2) ∧ (Value.slice (some { block := (0 : Nat), off := (0 : Nat) }) nR b0 = Value.slice (some { block := (0 : Nat), off := (0 : Nat) }) nR b0 ∧ Value.slice (some { block := (1 : Nat), off := (0 : Nat) }) nS b1 = Value.slice (some { block := (1 : Nat), off := (0 : Nat) }) nS b1 ∧ Value.slice (some { block := (2 : Nat), off := (0 : Nat) }) nS (0 : Nat) = Value.slice (some { block := (2 : Nat), off := (0 : Nat) }) nS (0 : Nat) ∧ Value.slice (some { block := (3 : Nat), off := (0 : Nat) }) nS (0 : Nat) = Value.slice (some { block := (3 : Nat), off := (0 : Nat) }) nS (0 : Nat) ∧ Value.slice (some { block := (4 : Nat), off := (0 : Nat) }) (cnt nS p_1 s_2 + (1 : Nat)) (0 : Nat) = Value.slice (some { block := (4 : Nat), off := (0 : Nat) }) (cnt nS p_1 s') (0 : Nat) ∧ Value.slice (some { block := (5 : Nat), off := (0 : Nat) }) (cnt nS p_1 s_2 + (1 : Nat)) (0 : Nat) = Value.slice (some { block := (5 : Nat), off := (0 : Nat) }) (cnt nS p_1 s') (0 : Nat) ∧ Value.slice (some { block := (6 : Nat), off := (0 : Nat) }) (cnt nS p_1 s_2 + (1 : Nat)) (0 : Nat) = Value.slice (some { block := (6 : Nat), off := (0 : Nat) }) (cnt nS p_1 s') (0 : Nat) ∧ Value.slice (some { block := (7 : Nat), off := (0 : Nat) }) (dfN rs nR (p_1 + (1 : Nat))) (0 : Nat) = Value.slice (some { block := (7 : Nat), off := (0 : Nat) }) (dfN rs nR (p_1 + (1 : Nat))) (0 : Nat) ∧ Value.pointer (some { block := (8 : Nat), off := (0 : Nat) }) = Value.pointer (some { block := (8 : Nat), off := (0 : Nat) }) ∧ Value.slice (some { block := (0 : Nat), off := (0 : Nat) }) nR b0 = Value.slice (some { block := (0 : Nat), off := (0 : Nat) }) nR b0 ∧ Value.int IntKind.i64 (↑nR : Int) = Value.int IntKind.i64 (↑nR : Int) ∧ Value.int IntKind.i64 (↑p_1 : Int) = Value.int IntKind.i64 (↑p_1 : Int) ∧ Value.int IntKind.i64 (↑nS : Int) = Value.int IntKind.i64 (↑nS : Int) ∧ Value.int IntKind.i64 (IntKind.wrap IntKind.i64 ((↑s_2 : Int) + (1 : Int))) = Value.int IntKind.i64 (↑s' : Int) ∧ True) ∧ some (AObj.row (u8s rs) (2 : Nat) false false true) :: some (AObj.row (i8s ss) (1 : Nat) false false true) :: some (AObj.row (psC ss nS) (1 : Nat) true true true) :: some (AObj.row (ngC ss nS) (1 : Nat) true true true) :: some (AObj.row (thC rs ss nS (cnt nS p_1 s_2) ++ [Value.int IntKind.i64 (↑s_2 : Int), Value.int IntKind.i64 (IntKind.wrap IntKind.i64 (rX rs p_1 - IntKind.wrap IntKind.i64 (iAt (psC ss nS) ((0 : Nat) + Int.toNat (↑s_2 : Int) * (1 : Nat)) * rY rs p_1))), Value.int IntKind.i64 (rY rs p_1)]) (3 : Nat) true true (List.all [Value.int IntKind.i64 (↑s_2 : Int), Value.int IntKind.i64 (IntKind.wrap IntKind.i64 (rX rs p_1 - IntKind.wrap IntKind.i64 (iAt (psC ss nS) ((0 : Nat) + Int.toNat (↑s_2 : Int) * (1 : Nat)) * rY rs p_1))), Value.int IntKind.i64 (rY rs p_1)] atom)) :: some (AObj.row (bkC rs ss nS (cnt nS p_1 s_2) ++ [Value.int IntKind.i64 (↑s_2 : Int), Value.int IntKind.i64 (IntKind.wrap IntKind.i64 (IntKind.wrap IntKind.i64 ((10000 : Int) - rX rs p_1) - IntKind.wrap IntKind.i64 (iAt (ngC ss nS) ((0 : Nat) + Int.toNat (↑s_2 : Int) * (1 : Nat)) * rY rs p_1))), Value.int IntKind.i64 (rY rs p_1)]) (3 : Nat) true true (List.all [Value.int IntKind.i64 (↑s_2 : Int), Value.int IntKind.i64 (IntKind.wrap IntKind.i64 (IntKind.wrap IntKind.i64 ((10000 : Int) - rX rs p_1) - IntKind.wrap IntKind.i64 (iAt (ngC ss nS) ((0 : Nat) + Int.toNat (↑s_2 : Int) * (1 : Nat)) * rY rs p_1))), Value.int IntKind.i64 (rY rs p_1)] atom)) :: some (AObj.row (poC rs nS (cnt nS p_1 s_2) ++ [Value.int IntKind.i64 (rX rs p_1), Value.int IntKind.i64 (rY rs p_1)]) (2 : Nat) true true (List.all [Value.int IntKind.i64 (rX rs p_1), Value.int IntKind.i64 (rY rs p_1)] atom)) :: some (AObj.row (dfC rs nR (p_1 + (1 : Nat))) (2 : Nat) true true true) :: some (AObj.row [Value.int IntKind.i64 (rX rs p_1), Value.int IntKind.i64 (rY rs p_1)] (0 : Nat) false true true) :: noH = some (AObj.row (u8s rs) (2 : Nat) false false true) :: some (AObj.row (i8s ss) (1 : Nat) false false true) :: some (AObj.row (psC ss nS) (1 : Nat) true true true) :: some (AObj.row (ngC ss nS) (1 : Nat) true true true) :: some (AObj.row (thC rs ss nS (cnt nS p_1 s')) (3 : Nat) true true true) :: some (AObj.row (bkC rs ss nS (cnt nS p_1 s')) (3 : Nat) true true true) :: some (AObj.row (poC rs nS (cnt nS p_1 s')) (2 : Nat) true true true) :: some (AObj.row (dfC rs nR (p_1 + (1 : Nat))) (2 : Nat) true true true) :: some (AObj.row [Value.int IntKind.i64 (rX rs p_1), Value.int IntKind.i64 (rY rs p_1)] (0 : Nat) false true true) :: noH) (∃ (s' : Nat), Is (s' ≤ nR) ∧ Is (nR - s' < nR - s) ∧ (Value.slice (some { block := (0 : Nat), off := (0 : Nat) }) nR b0 = Value.slice (some { block := (0 : Nat), off := (0 : Nat) }) nR b0 ∧ Value.slice (some { block := (1 : Nat), off := (0 : Nat) }) nS b1 = Value.slice (some { block := (1 : Nat), off := (0 : Nat) }) nS b1 ∧ Value.slice (some { block := (2 : Nat), off := (0 : Nat) }) nS (0 : Nat) = Value.slice (some { block := (2 : Nat), off := (0 : Nat) }) nS (0 : Nat) ∧ Value.slice (some { block := (3 : Nat), off := (0 : Nat) }) nS (0 : Nat) = Value.slice (some { block := (3 : Nat), off := (0 : Nat) }) nS (0 : Nat) ∧ Value.slice (some { block := (4 : Nat), off := (0 : Nat) }) (cnt nS p_1 s_2) (0 : Nat) = Value.slice (some { block := (4 : Nat), off := (0 : Nat) }) (cnt nS s' (0 : Nat)) (0 : Nat) ∧ Value.slice (some { block := (5 : Nat), off := (0 : Nat) }) (cnt nS p_1 s_2) (0 : Nat) = Value.slice (some { block := (5 : Nat), off := (0 : Nat) }) (cnt nS s' (0 : Nat)) (0 : Nat) ∧ Value.slice (some { block := (6 : Nat), off := (0 : Nat) }) (cnt nS p_1 s_2) (0 : Nat) = Value.slice (some { block := (6 : Nat), off := (0 : Nat) }) (cnt nS s' (0 : Nat)) (0 : Nat) ∧ Value.slice (some { block := (7 : Nat), off := (0 : Nat) }) (dfN rs nR (p_1 + (1 : Nat))) (0 : Nat) = Value.slice (some { block := (7 : Nat), off := (0 : Nat) }) (dfN rs nR s') (0 : Nat) ∧ Value.slice (some { block := (0 : Nat), off := (0 : Nat) }) nR b0 = Value.slice (some { block := (0 : Nat), off := (0 : Nat) }) nR b0 ∧ Value.int IntKind.i64 (↑nR : Int) = Value.int IntKind.i64 (↑nR : Int) ∧ Value.int IntKind.i64 (IntKind.wrap IntKind.i64 ((↑p_1 : Int) + (1 : Int))) = Value.int IntKind.i64 (↑s' : Int) ∧ True) ∧ some (AObj.row (u8s rs) (2 : Nat) false false true) :: some (AObj.row (i8s ss) (1 : Nat) false false true) :: some (AObj.row (psC ss nS) (1 : Nat) true true true) :: some (AObj.row (ngC ss nS) (1 : Nat) true true true) :: some (AObj.row (thC rs ss nS (cnt nS p_1 s_2)) (3 : Nat) true true true) :: some (AObj.row (bkC rs ss nS (cnt nS p_1 s_2)) (3 : Nat) true true true) :: some (AObj.row (poC rs nS (cnt nS p_1 s_2)) (2 : Nat) true true true) :: some (AObj.row (dfC rs nR (p_1 + (1 : Nat))) (2 : Nat) true true true) :: noH = some (AObj.row (u8s rs) (2 : Nat) false false true) :: some (AObj.row (i8s ss) (1 : Nat) false false true) :: some (AObj.row (psC ss nS) (1 : Nat) true true true) :: some (AObj.row (ngC ss nS) (1 : Nat) true true true) :: some (AObj.row (thC rs ss nS (cnt nS s' (0 : Nat))) (3 : Nat) true true true) :: some (AObj.row (bkC rs ss nS (cnt nS s' (0 : Nat))) (3 : Nat) true true true) :: some (AObj.row (poC rs nS (cnt nS s' (0 : Nat))) (2 : Nat) true true true) :: some (AObj.row (dfC rs nR s') (2 : Nat) true true true) :: noH)))) (X s)))
set_option maxRecDepth 100000 in
def trB (K : Value → Heap → Prop) (s : Nat) (Y : Prop) : Prop :=
  (Is (List.length (psC ss nS) = nS * (1 : Nat) ∧ (∀ (v : Value), v ∈ psC ss nS → atom v = true) ∧ nS * (8 : Nat) ≤ (140737488355328 : Nat) ∧ nS ≤ (9223372036854775807 : Nat)) ∧ Is (List.length (thC rs ss nS (cnt nS s (0 : Nat))) = cnt nS s (0 : Nat) * (3 : Nat) ∧ (∀ (v : Value), v ∈ thC rs ss nS (cnt nS s (0 : Nat)) → atom v = true) ∧ cnt nS s (0 : Nat) * (24 : Nat) ≤ (140737488355328 : Nat) ∧ cnt nS s (0 : Nat) ≤ (9223372036854775807 : Nat)) ∧ Is (eIs (thC rs ss nS (cnt nS s (0 : Nat))) (cnt nS s (0 : Nat)) nS ∧ pIs (psC ss nS) nS) ∧ Is (List.length (ngC ss nS) = nS * (1 : Nat) ∧ (∀ (v : Value), v ∈ ngC ss nS → atom v = true) ∧ nS * (8 : Nat) ≤ (140737488355328 : Nat) ∧ nS ≤ (9223372036854775807 : Nat)) ∧ Is (List.length (bkC rs ss nS (cnt nS s (0 : Nat))) = cnt nS s (0 : Nat) * (3 : Nat) ∧ (∀ (v : Value), v ∈ bkC rs ss nS (cnt nS s (0 : Nat)) → atom v = true) ∧ cnt nS s (0 : Nat) * (24 : Nat) ≤ (140737488355328 : Nat) ∧ cnt nS s (0 : Nat) ≤ (9223372036854775807 : Nat)) ∧ Is (eIs (bkC rs ss nS (cnt nS s (0 : Nat))) (cnt nS s (0 : Nat)) nS ∧ pIs (ngC ss nS) nS) ∧ br ((↑(cnt nS s (0 : Nat)) : Int) != (↑(cnt nS s (0 : Nat)) : Int)) (kF rs ss K) (br ((↑(cnt nS s (0 : Nat)) : Int) != (↑(cnt nS s (0 : Nat)) : Int)) (kF rs ss K) (((∃ (s_1 : Nat), Is (s_1 ≤ nE nR nS) ∧ (Value.slice (some { block := (2 : Nat), off := (0 : Nat) }) nS (0 : Nat) = Value.slice (some { block := (2 : Nat), off := (0 : Nat) }) nS (0 : Nat) ∧ Value.slice (some { block := (3 : Nat), off := (0 : Nat) }) nS (0 : Nat) = Value.slice (some { block := (3 : Nat), off := (0 : Nat) }) nS (0 : Nat) ∧ Value.slice (some { block := (4 : Nat), off := (0 : Nat) }) (cnt nS s (0 : Nat)) (0 : Nat) = Value.slice (some { block := (4 : Nat), off := (0 : Nat) }) (nE nR nS) (0 : Nat) ∧ Value.slice (some { block := (5 : Nat), off := (0 : Nat) }) (cnt nS s (0 : Nat)) (0 : Nat) = Value.slice (some { block := (5 : Nat), off := (0 : Nat) }) (nE nR nS) (0 : Nat) ∧ Value.slice (some { block := (6 : Nat), off := (0 : Nat) }) (cnt nS s (0 : Nat)) (0 : Nat) = Value.slice (some { block := (6 : Nat), off := (0 : Nat) }) (nE nR nS) (0 : Nat) ∧ Value.slice (some { block := (7 : Nat), off := (0 : Nat) }) (dfN rs nR s) (0 : Nat) = Value.slice (some { block := (7 : Nat), off := (0 : Nat) }) (dfN rs nR nR) (0 : Nat) ∧ Value.slice (some { block := (8 : Nat), off := (0 : Nat) }) (cnt nS s (0 : Nat)) (0 : Nat) = Value.slice (some { block := (8 : Nat), off := (0 : Nat) }) (nE nR nS) (0 : Nat) ∧ Value.slice (some { block := (9 : Nat), off := (0 : Nat) }) (cnt nS s (0 : Nat)) (0 : Nat) = Value.slice (some { block := (9 : Nat), off := (0 : Nat) }) (nE nR nS) (0 : Nat) ∧ Value.slice (some { block := (6 : Nat), off := (0 : Nat) }) (cnt nS s (0 : Nat)) (0 : Nat) = Value.slice (some { block := (6 : Nat), off := (0 : Nat) }) (nE nR nS) (0 : Nat) ∧ Value.int IntKind.i64 (↑(cnt nS s (0 : Nat)) : Int) = Value.int IntKind.i64 (↑(nE nR nS) : Int) ∧ Value.int IntKind.i64 (0 : Int) = Value.int IntKind.i64 (↑s_1 : Int) ∧ True) ∧ some (AObj.row (u8s rs) (2 : Nat) false false true) :: some (AObj.row (i8s ss) (1 : Nat) false false true) :: some (AObj.row (psC ss nS) (1 : Nat) true true true) :: some (AObj.row (ngC ss nS) (1 : Nat) true true true) :: some (AObj.row (thC rs ss nS (cnt nS s (0 : Nat))) (3 : Nat) true true true) :: some (AObj.row (bkC rs ss nS (cnt nS s (0 : Nat))) (3 : Nat) true true true) :: some (AObj.row (poC rs nS (cnt nS s (0 : Nat))) (2 : Nat) true true true) :: some (AObj.row (dfC rs nR s) (2 : Nat) true true true) :: some (AObj.row (plC (thC rs ss nS (cnt nS s (0 : Nat))) (psC ss nS) (cnt nS s (0 : Nat))) (2 : Nat) true true true) :: some (AObj.row (plC (bkC rs ss nS (cnt nS s (0 : Nat))) (ngC ss nS) (cnt nS s (0 : Nat))) (2 : Nat) true true true) :: noH = some (AObj.row (u8s rs) (2 : Nat) false false true) :: some (AObj.row (i8s ss) (1 : Nat) false false true) :: some (AObj.row (dT ss nS) (1 : Nat) true true true) :: some (AObj.row (dB ss nS) (1 : Nat) true true true) :: some (AObj.row (eT rs ss nR nS) (3 : Nat) true true true) :: some (AObj.row (eB rs ss nR nS) (3 : Nat) true true true) :: some (AObj.row (poC rs nS (nE nR nS)) (2 : Nat) true true true) :: some (AObj.row (dfC rs nR nR) (2 : Nat) true true true) :: some (AObj.row (plT rs ss nR nS) (2 : Nat) true true true) :: some (AObj.row (plB rs ss nR nS) (2 : Nat) true true true) :: noH) ∧ ∀ (s : Nat), Is (s ≤ nE nR nS) → br (decide ((↑s : Int) < (↑(nE nR nS) : Int))) (Is ((0 : Int) ≤ (↑s : Int) ∧ (↑s : Int) < (↑(nE nR nS) : Int)) ∧ Is ((if (0 : Nat) + Int.toNat (↑s : Int) * (2 : Nat) + (2 : Nat) ≤ List.length (poC rs nS (nE nR nS)) then some (Value.agg (List.toArray (List.take (2 : Nat) (List.drop ((0 : Nat) + Int.toNat (↑s : Int) * (2 : Nat)) (poC rs nS (nE nR nS)))))) else none) = some (Value.agg #[Value.int IntKind.i64 (iAt (poC rs nS (nE nR nS)) ((0 : Nat) + Int.toNat (↑s : Int) * (2 : Nat))), Value.int IntKind.i64 (iAt (poC rs nS (nE nR nS)) ((0 : Nat) + Int.toNat (↑s : Int) * (2 : Nat) + (1 : Nat)))])) ∧ Is ((0 : Int) ≤ (↑s : Int) ∧ (↑s : Int) < (↑(nE nR nS) : Int)) ∧ Is ((if (0 : Nat) + Int.toNat (↑s : Int) * (2 : Nat) + (2 : Nat) ≤ List.length (plT rs ss nR nS) then some (Value.agg (List.toArray (List.take (2 : Nat) (List.drop ((0 : Nat) + Int.toNat (↑s : Int) * (2 : Nat)) (plT rs ss nR nS))))) else none) = some (Value.agg #[Value.int IntKind.i64 (iAt (plT rs ss nR nS) ((0 : Nat) + Int.toNat (↑s : Int) * (2 : Nat))), Value.int IntKind.i64 (iAt (plT rs ss nR nS) ((0 : Nat) + Int.toNat (↑s : Int) * (2 : Nat) + (1 : Nat)))])) ∧ Is True ∧ br (!(iAt (plT rs ss nR nS) ((0 : Nat) + Int.toNat (↑s : Int) * (2 : Nat)) == iAt (poC rs nS (nE nR nS)) ((0 : Nat) + Int.toNat (↑s : Int) * (2 : Nat)) && (iAt (plT rs ss nR nS) ((0 : Nat) + Int.toNat (↑s : Int) * (2 : Nat) + (1 : Nat)) == iAt (poC rs nS (nE nR nS)) ((0 : Nat) + Int.toNat (↑s : Int) * (2 : Nat) + (1 : Nat)) && true))) (kF rs ss K) (Is ((0 : Int) ≤ (↑s : Int) ∧ (↑s : Int) < (↑(nE nR nS) : Int)) ∧ Is ((if (0 : Nat) + Int.toNat (↑s : Int) * (2 : Nat) + (2 : Nat) ≤ List.length (plB rs ss nR nS) then some (Value.agg (List.toArray (List.take (2 : Nat) (List.drop ((0 : Nat) + Int.toNat (↑s : Int) * (2 : Nat)) (plB rs ss nR nS))))) else none) = some (Value.agg #[Value.int IntKind.i64 (iAt (plB rs ss nR nS) ((0 : Nat) + Int.toNat (↑s : Int) * (2 : Nat))), Value.int IntKind.i64 (iAt (plB rs ss nR nS) ((0 : Nat) + Int.toNat (↑s : Int) * (2 : Nat) + (1 : Nat)))])) ∧ Is True ∧ br (!(iAt (plB rs ss nR nS) ((0 : Nat) + Int.toNat (↑s : Int) * (2 : Nat)) == IntKind.wrap IntKind.i64 ((10000 : Int) - iAt (poC rs nS (nE nR nS)) ((0 : Nat) + Int.toNat (↑s : Int) * (2 : Nat))) && (iAt (plB rs ss nR nS) ((0 : Nat) + Int.toNat (↑s : Int) * (2 : Nat) + (1 : Nat)) == iAt (poC rs nS (nE nR nS)) ((0 : Nat) + Int.toNat (↑s : Int) * (2 : Nat) + (1 : Nat)) && true))) (kF rs ss K) (∃ (s' : Nat), Is (s' ≤ nE nR nS) ∧ Is (nE nR nS - s' < nE nR nS - s) ∧ (Value.slice (some { block := (2 : Nat), off := (0 : Nat) }) nS (0 : Nat) = Value.slice (some { block := (2 : Nat), off := (0 : Nat) }) nS (0 : Nat) ∧ Value.slice (some { block := (3 : Nat), off := (0 : Nat) }) nS (0 : Nat) = Value.slice (some { block := (3 : Nat), off := (0 : Nat) }) nS (0 : Nat) ∧ Value.slice (some { block := (4 : Nat), off := (0 : Nat) }) (nE nR nS) (0 : Nat) = Value.slice (some { block := (4 : Nat), off := (0 : Nat) }) (nE nR nS) (0 : Nat) ∧ Value.slice (some { block := (5 : Nat), off := (0 : Nat) }) (nE nR nS) (0 : Nat) = Value.slice (some { block := (5 : Nat), off := (0 : Nat) }) (nE nR nS) (0 : Nat) ∧ Value.slice (some { block := (6 : Nat), off := (0 : Nat) }) (nE nR nS) (0 : Nat) = Value.slice (some { block := (6 : Nat), off := (0 : Nat) }) (nE nR nS) (0 : Nat) ∧ Value.slice (some { block := (7 : Nat), off := (0 : Nat) }) (dfN rs nR nR) (0 : Nat) = Value.slice (some { block := (7 : Nat), off := (0 : Nat) }) (dfN rs nR nR) (0 : Nat) ∧ Value.slice (some { block := (8 : Nat), off := (0 : Nat) }) (nE nR nS) (0 : Nat) = Value.slice (some { block := (8 : Nat), off := (0 : Nat) }) (nE nR nS) (0 : Nat) ∧ Value.slice (some { block := (9 : Nat), off := (0 : Nat) }) (nE nR nS) (0 : Nat) = Value.slice (some { block := (9 : Nat), off := (0 : Nat) }) (nE nR nS) (0 : Nat) ∧ Value.slice (some { block := (6 : Nat), off := (0 : Nat) }) (nE nR nS) (0 : Nat) = Value.slice (some { block := (6 : Nat), off := (0 : Nat) }) (nE nR nS) (0 : Nat) ∧ Value.int IntKind.i64 (↑(nE nR nS) : Int) = Value.int IntKind.i64 (↑(nE nR nS) : Int) ∧ Value.int IntKind.i64 (IntKind.wrap IntKind.i64 ((↑s : Int) + (1 : Int))) = Value.int IntKind.i64 (↑s' : Int) ∧ True) ∧ some (AObj.row (u8s rs) (2 : Nat) false false true) :: some (AObj.row (i8s ss) (1 : Nat) false false true) :: some (AObj.row (dT ss nS) (1 : Nat) true true true) :: some (AObj.row (dB ss nS) (1 : Nat) true true true) :: some (AObj.row (eT rs ss nR nS) (3 : Nat) true true true) :: some (AObj.row (eB rs ss nR nS) (3 : Nat) true true true) :: some (AObj.row (poC rs nS (nE nR nS)) (2 : Nat) true true true) :: some (AObj.row (dfC rs nR nR) (2 : Nat) true true true) :: some (AObj.row (plT rs ss nR nS) (2 : Nat) true true true) :: some (AObj.row (plB rs ss nR nS) (2 : Nat) true true true) :: noH = some (AObj.row (u8s rs) (2 : Nat) false false true) :: some (AObj.row (i8s ss) (1 : Nat) false false true) :: some (AObj.row (dT ss nS) (1 : Nat) true true true) :: some (AObj.row (dB ss nS) (1 : Nat) true true true) :: some (AObj.row (eT rs ss nR nS) (3 : Nat) true true true) :: some (AObj.row (eB rs ss nR nS) (3 : Nat) true true true) :: some (AObj.row (poC rs nS (nE nR nS)) (2 : Nat) true true true) :: some (AObj.row (dfC rs nR nR) (2 : Nat) true true true) :: some (AObj.row (plT rs ss nR nS) (2 : Nat) true true true) :: some (AObj.row (plB rs ss nR nS) (2 : Nat) true true true) :: noH))) (∃ (s : Nat), Is (s = (0 : Nat)) ∧ (Value.slice (some { block := (2 : Nat), off := (0 : Nat) }) nS (0 : Nat) = Value.slice (some { block := (2 : Nat), off := (0 : Nat) }) nS (0 : Nat) ∧ Value.slice (some { block := (3 : Nat), off := (0 : Nat) }) nS (0 : Nat) = Value.slice (some { block := (3 : Nat), off := (0 : Nat) }) nS (0 : Nat) ∧ Value.slice (some { block := (4 : Nat), off := (0 : Nat) }) (nE nR nS) (0 : Nat) = Value.slice (some { block := (4 : Nat), off := (0 : Nat) }) (nE nR nS) (0 : Nat) ∧ Value.slice (some { block := (5 : Nat), off := (0 : Nat) }) (nE nR nS) (0 : Nat) = Value.slice (some { block := (5 : Nat), off := (0 : Nat) }) (nE nR nS) (0 : Nat) ∧ Value.slice (some { block := (6 : Nat), off := (0 : Nat) }) (nE nR nS) (0 : Nat) = Value.slice (some { block := (6 : Nat), off := (0 : Nat) }) (nE nR nS) (0 : Nat) ∧ Value.slice (some { block := (7 : Nat), off := (0 : Nat) }) (dfN rs nR nR) (0 : Nat) = Value.slice (some { block := (7 : Nat), off := (0 : Nat) }) (dfN rs nR nR) (0 : Nat) ∧ True) ∧ some (AObj.row (u8s rs) (2 : Nat) false false true) :: some (AObj.row (i8s ss) (1 : Nat) false false true) :: some (AObj.row (dT ss nS) (1 : Nat) true true true) :: some (AObj.row (dB ss nS) (1 : Nat) true true true) :: some (AObj.row (eT rs ss nR nS) (3 : Nat) true true true) :: some (AObj.row (eB rs ss nR nS) (3 : Nat) true true true) :: some (AObj.row (poC rs nS (nE nR nS)) (2 : Nat) true true true) :: some (AObj.row (dfC rs nR nR) (2 : Nat) true true true) :: noH = some (AObj.row (u8s rs) (2 : Nat) false false true) :: some (AObj.row (i8s ss) (1 : Nat) false false true) :: some (AObj.row (dT ss nS) (1 : Nat) true true true) :: some (AObj.row (dB ss nS) (1 : Nat) true true true) :: some (AObj.row (eT rs ss nR nS) (3 : Nat) true true true) :: some (AObj.row (eB rs ss nR nS) (3 : Nat) true true true) :: some (AObj.row (poC rs nS (nE nR nS)) (2 : Nat) true true true) :: some (AObj.row (dfC rs nR nR) (2 : Nat) true true true) :: noH)) ∧ ∀ (s : Nat), Is (s = (0 : Nat)) → Y)))
def eqs : List Value → Prop
  | [] => True
  | v :: r => v = v ∧ eqs r
/-- A meeting point that is reached as it is. -/
def mtg (l : List (Nat × Value)) (h : Heap) : Prop := ∃ s : Nat, Is (s = 0) ∧ eqs (l.map (·.2)) ∧ h = h
def cpy (l : List Value) (n k b : Nat) : Prop := l.length = n * k ∧ (∀ v : Value, v ∈ l → atom v = true) ∧ n * b ≤ 140737488355328 ∧ n ≤ 9223372036854775807
variable (G : Nat)
def l44 : List (Nat × Value) := sJ5 rs nR nS ++ [sRu]
def g44 : Heap := [rfR rs, slR ss] ++ (hJ5 rs ss nR nS ++ hRu nS)
def l45 : List (Nat × Value) := sJ5 rs nR nS ++ [sRu, slC G] ++ er [29]
def g45 : Heap := [rfR rs, slR ss] ++ (hJ5 rs ss nR nS ++ hRu nS ++ hC rs ss nR nS G)
def l46 : List (Nat × Value) := sJ5 rs nR nS ++ [sRu, slC G] ++ er [29] ++ [slD G] ++ er [31]
def g46 : Heap := [rfR rs, slR ss] ++ (hJ5 rs ss nR nS ++ hRu nS ++ hC rs ss nR nS G ++ hD rs ss nR nS G)
def l47 : List (Nat × Value) := sJ5 rs nR nS ++ [sRu, slC G] ++ er [29] ++ [slD G] ++ er [31] ++ [(32, .slice (some ⟨11 + 2 * G, 0, none⟩) G 0)] ++ er [33]
def g47 : Heap := [rfR rs, slR ss] ++ (hJ5 rs ss nR nS ++ hRu nS ++ hC rs ss nR nS G ++ hD rs ss nR nS G ++ hN rs ss nR nS G (12 + 2 * G))
def l48 : List (Nat × Value) := sJ5 rs nR nS ++ [sRu, slC G] ++ er [29] ++ [slD G] ++ er [31] ++ [(32, .slice (some ⟨11 + 2 * G, 0, none⟩) G 0)] ++ er [33] ++ [(34, .slice (some ⟨12 + 3 * G, 0, none⟩) (dbM rs ss nR nS G) 0)] ++ er [35]
def g48 : Heap := [rfR rs, slR ss] ++ (hJ5 rs ss nR nS ++ hRu nS ++ hC rs ss nR nS G ++ hD rs ss nR nS G ++ hN rs ss nR nS G (12 + 2 * G) ++ [dbD rs ss nR nS G])
def l50 : List (Nat × Value) := [(11, .slice (some ⟨2, 0, none⟩) (nE nR nS) 0), (28, .slice (some ⟨3, 0, none⟩) G 0), (32, .slice (some ⟨4 + G, 0, none⟩) G 0), (34, .slice (some ⟨5 + 2 * G, 0, none⟩) (dbM rs ss nR nS G) 0)]
def g50 : Heap := [rfR rs, slR ss] ++ ([dat (poC rs nS (nE nR nS)) 2] ++ clT (ptT rs ss nR nS) (nE nR nS) G 4 ++ hN rs ss nR nS G (5 + G) ++ [dbD rs ss nR nS G])
/-- The ways that are made again. -/
def trC (K : Value → Heap → Prop) (Z : Prop) : Prop :=
  mtg (l44 rs nR nS) (g44 rs ss nR nS) ∧ ∀ s : Nat, Is (s = 0) →
  (Is (cpy (dT ss nS) nS 1 8) ∧ Is (cpy (eT rs ss nR nS) (nE nR nS) 3 24) ∧ Is ((0 : Int) = 0 ∧ eIs (eT rs ss nR nS) (nE nR nS) nS ∧ pIs (dT ss nS) nS ∧ clIs (plC (eT rs ss nR nS) (dT ss nS) (nE nR nS)) (nE nR nS) G) ∧ mtg (l45 rs nR nS G) (g45 rs ss nR nS G)) ∧ ∀ s : Nat, Is (s = 0) →
  (Is (cpy (dB ss nS) nS 1 8) ∧ Is (cpy (eB rs ss nR nS) (nE nR nS) 3 24) ∧ Is ((0 : Int) = 0 ∧ eIs (eB rs ss nR nS) (nE nR nS) nS ∧ pIs (dB ss nS) nS ∧ clIs (plC (eB rs ss nR nS) (dB ss nS) (nE nR nS)) (nE nR nS) G) ∧ mtg (l46 rs nR nS G) (g46 rs ss nR nS G)) ∧ ∀ s : Nat, Is (s = 0) →
  (Is (cpy (dT ss nS) nS 1 8) ∧ Is (cpy (eT rs ss nR nS) (nE nR nS) 3 24) ∧ Is (cpy (ruC hole (nS : Int)) 1 9 80) ∧ Is ((0 : Int) = 0 ∧ psIs (eT rs ss nR nS) (dT ss nS) (ruC hole (nS : Int)) 1 (nS : Int) nS (nE nR nS) G) ∧ mtg (l47 rs nR nS G) (g47 rs ss nR nS G)) ∧ ∀ s : Nat, Is (s = 0) →
  (Is (cpy (dB ss nS) nS 1 8) ∧ Is (cpy (eB rs ss nR nS) (nE nR nS) 3 24) ∧ Is (cpy (ruC hole (nS : Int)) 1 9 80) ∧ Is ((0 : Int) = 0 ∧ 1 = 1 ∧ psIs (eB rs ss nR nS) (dB ss nS) (ruC hole (nS : Int)) 1 (nS : Int) nS (nE nR nS) G) ∧ mtg (l48 rs ss nR nS G) (g48 rs ss nR nS G)) ∧ ∀ s : Nat, Is (s = 0) →
  br ((G : Int) != (dfN rs nR nR : Int)) (kF rs ss K)
    (Is (((([.slice (some ⟨0, 0, none⟩) G 0, .slice (some ⟨G + 1, 0, none⟩) G 0] : List Value) = [.slice (some ⟨0, 0, none⟩) G 0, .slice (some ⟨G + 1, 0, none⟩) G 0]) ∧ h9 (ptT rs ss nR nS) (nE nR nS) (fs (ptT rs ss nR nS) (nE nR nS)) (ptB rs ss nR nS) (fs (ptB rs ss nR nS) (nE nR nS)) G = h9 (ptT rs ss nR nS) (nE nR nS) (fs (ptT rs ss nR nS) (nE nR nS)) (ptB rs ss nR nS) (fs (ptB rs ss nR nS) (nE nR nS)) G) ∧
        (1 ≤ G ∧ G ≤ 4) ∧ ∀ j, j < G → sJ (ptT rs ss nR nS) (nE nR nS) (fs (ptT rs ss nR nS) (nE nR nS)) (ptB rs ss nR nS) (fs (ptB rs ss nR nS) (nE nR nS)) j) ∧
      mtg (l50 rs ss nR nS G) (g50 rs ss nR nS G)) ∧ ∀ s : Nat, Is (s = 0) → Z
def gjL (j : Nat) : Nat := gLen (ptT rs ss nR nS) (nE nR nS) (fs (ptT rs ss nR nS) (nE nR nS)) j
def gjC (j : Nat) : List Value := ints (gI2 (ptT rs ss nR nS) (nE nR nS) (fs (ptT rs ss nR nS) (nE nR nS)) j)
def gj0 (j : Nat) : Int := iAt (gjC rs ss nR nS j) 0
def gjY (j : Nat) : Int := iAt (poC rs nS (nE nR nS)) (0 + (gj0 rs ss nR nS j).toNat * 2 + 1)
def gjN (j : Nat) : Nat := wN (ptT rs ss nR nS) (nE nR nS) (fs (ptT rs ss nR nS) (nE nR nS)) (plT rs ss nR nS) j
def gjW (j : Nat) : List Value := wC (ptT rs ss nR nS) (nE nR nS) (fs (ptT rs ss nR nS) (nE nR nS)) (plT rs ss nR nS) hole j
def gjD : List Value := ints (dbL (eB rs ss nR nS) (dB ss nS) (nE nR nS) G)
def g63 : Heap := [rfR rs, slR ss, dat (poC rs nS (nE nR nS)) 2] ++ clT (ptT rs ss nR nS) (nE nR nS) G 4 ++ [dbD rs ss nR nS G] ++ hN rs ss nR nS G (6 + G)
/-- Behind a round. -/
def rdE (j : Nat) (a : Int) : Prop := ∃ s : Nat, Is (s = 0) ∧
  (Value.slice (some ⟨2, 0, none⟩) (nE nR nS) 0 = Value.slice (some ⟨2, 0, none⟩) (nE nR nS) 0 ∧ Value.slice (some ⟨3, 0, none⟩) G 0 = Value.slice (some ⟨3, 0, none⟩) G 0 ∧
    Value.slice (some ⟨4 + G, 0, none⟩) (dbM rs ss nR nS G) 0 = Value.slice (some ⟨4 + G, 0, none⟩) (dbM rs ss nR nS G) 0 ∧ Value.int .i64 a = Value.int .i64 (atJ rs ss nR nS (j + 1) : Int) ∧
    Value.slice (some ⟨5 + G, 0, none⟩) G 0 = Value.slice (some ⟨5 + G, 0, none⟩) G 0 ∧ Value.int .i64 (G : Int) = Value.int .i64 (G : Int) ∧ Value.int .i64 (j : Int) = Value.int .i64 (j : Int) ∧ True) ∧ g63 rs ss nR nS G = g63 rs ss nR nS G
def rdA (K : Value → Heap → Prop) (j : Nat) : Prop :=
  br (decide (20 < gjY rs ss nR nS j))
    (br (decide ((dbM rs ss nR nS G : Int) ≤ (atJ rs ss nR nS j : Int))) (kF rs ss K)
      (Is ((0 : Int) ≤ (atJ rs ss nR nS j : Int) ∧ (atJ rs ss nR nS j : Int) < (dbM rs ss nR nS G : Int)) ∧
        Is ((gjD rs ss nR nS G)[0 + (atJ rs ss nR nS j : Int).toNat * 1]? = some (.int .i64 (iAt (gjD rs ss nR nS G) (0 + (atJ rs ss nR nS j : Int).toNat * 1)))) ∧
        br (iAt (gjD rs ss nR nS G) (0 + (atJ rs ss nR nS j : Int).toNat * 1) != (j : Int)) (kF rs ss K) (rdE rs ss nR nS G j (IntKind.wrap .i64 ((atJ rs ss nR nS j : Int) + 1)))))
    (rdE rs ss nR nS G j (atJ rs ss nR nS j : Int))
def rdB (K : Value → Heap → Prop) (j : Nat) : Prop :=
  br ((gjL rs ss nR nS j : Int) == 0) (kF rs ss K)
    (Is ((0 : Int) ≤ 0 ∧ 0 < (gjL rs ss nR nS j : Int)) ∧ Is ((gjC rs ss nR nS j)[0]? = some (.int .i64 (gj0 rs ss nR nS j))) ∧ br (decide (gj0 rs ss nR nS j < 0)) (kF rs ss K)
      (Is ((0 : Int) ≤ 0 ∧ 0 < (gjL rs ss nR nS j : Int)) ∧ Is ((gjC rs ss nR nS j)[0]? = some (.int .i64 (gj0 rs ss nR nS j))) ∧ br (decide ((nE nR nS : Int) ≤ gj0 rs ss nR nS j)) (kF rs ss K)
        (Is ((0 : Int) ≤ 0 ∧ 0 < (gjL rs ss nR nS j : Int)) ∧ Is ((gjC rs ss nR nS j)[0]? = some (.int .i64 (gj0 rs ss nR nS j))) ∧ Is (0 ≤ gj0 rs ss nR nS j ∧ gj0 rs ss nR nS j < (nE nR nS : Int)) ∧
          Is ((poC rs nS (nE nR nS))[0 + (gj0 rs ss nR nS j).toNat * 2 + 1]? = some (.int .i64 (gjY rs ss nR nS j))) ∧
          br (!(decide (20 < gjY rs ss nR nS j) == ((gjN rs ss nR nS j : Int) == 0))) (kF rs ss K)
            (br (!decide (20 < gjY rs ss nR nS j)) (Is (swC (gjW rs ss nR nS j) [.string hole] (gjN rs ss nR nS j) 1) ∧ rdA rs ss nR nS G K j) (rdA rs ss nR nS G K j)))))
def rds (K : Value → Heap → Prop) : Nat → Nat → Prop
  | 0, _ => br ((atJ rs ss nR nS G : Int) == (dbM rs ss nR nS G : Int)) (kT rs ss K) (kF rs ss K)
  | k + 1, j => ∃ _p : Unit, rdB rs ss nR nS G K j ∧ ∀ s : Nat, Is (s = 0) → rds K k (j + 1)
/-- All that the law asks, of G groups. -/
def hdT (K : Value → Heap → Prop) : Prop :=
  br (decide ((nR : Int) < 1)) (kT rs ss K) (br (decide (4 < (nR : Int))) (kT rs ss K) (br (decide ((nS : Int) < 1)) (kT rs ss K) (br (decide (3 < (nS : Int))) (kT rs ss K)
    (trA rs ss nR nS b0 b1 fun s => trB rs ss nR nS K s (trC rs ss nR nS G K (rds rs ss nR nS G K G 0))))))
end
end
end Qq
end
section
/- The law's code, stepped through, where there are 1 groups. -/
open Go Go.Vm Go.Proofs Sp
namespace Qq
noncomputable section
theorem hd1_t (rs ss : List Int) (nR nS b0 b1 : Nat) (K : Value → Heap → Prop) : fnP Try.prog c0 (hsJ rs ss nR nS b0 b1 1) 3 [.slice (some ⟨0, 0, none⟩) nR b0, .slice (some ⟨1, 0, none⟩) nS b1] [rfR rs, slR ss] K = hdT rs ss nR nS b0 b1 1 K := by kernel_rfl
end
end Qq
end
section
/- The law's code, stepped through, where there are 2 groups. -/
open Go Go.Vm Go.Proofs Sp
namespace Qq
noncomputable section
theorem hd2_t (rs ss : List Int) (nR nS b0 b1 : Nat) (K : Value → Heap → Prop) : fnP Try.prog c0 (hsJ rs ss nR nS b0 b1 2) 3 [.slice (some ⟨0, 0, none⟩) nR b0, .slice (some ⟨1, 0, none⟩) nS b1] [rfR rs, slR ss] K = hdT rs ss nR nS b0 b1 2 K := by kernel_rfl
end
end Qq
end
section
/- The law's code, stepped through, where there are 3 groups. -/
open Go Go.Vm Go.Proofs Sp
namespace Qq
noncomputable section
theorem hd3_t (rs ss : List Int) (nR nS b0 b1 : Nat) (K : Value → Heap → Prop) : fnP Try.prog c0 (hsJ rs ss nR nS b0 b1 3) 3 [.slice (some ⟨0, 0, none⟩) nR b0, .slice (some ⟨1, 0, none⟩) nS b1] [rfR rs, slR ss] K = hdT rs ss nR nS b0 b1 3 K := by kernel_rfl
end
end Qq
end
section
/- The law's code, stepped through, where there are 4 groups. -/
open Go Go.Vm Go.Proofs Sp
namespace Qq
noncomputable section
theorem hd4_t (rs ss : List Int) (nR nS b0 b1 : Nat) (K : Value → Heap → Prop) : fnP Try.prog c0 (hsJ rs ss nR nS b0 b1 4) 3 [.slice (some ⟨0, 0, none⟩) nR b0, .slice (some ⟨1, 0, none⟩) nS b1] [rfR rs, slR ss] K = hdT rs ss nR nS b0 b1 4 K := by kernel_rfl
end
end Qq
end
section
/- The law's first loops: slopes, reflectors, echoes. -/
open Go Go.Vm Go.Proofs Sp
namespace Qq
noncomputable section
section
variable {rs ss : List Int} {nR nS : Nat}
theorem k1 (s : Nat) : 0 + (s : Int).toNat * 1 = s := by omega
theorem k2 (s : Nat) : 0 + (s : Int).toNat * 2 = s * 2 := by omega
theorem lt2 {i : Nat} (hi : i < nR) (h : Hrd rs ss nR nS) : i * 2 + 1 < rs.length := by rw [h.lr]; omega
set_option maxRecDepth 100000 in
set_option maxHeartbeats 4000000 in
theorem trA_in (h : Hrd rs ss nR nS) (hc : ∀ x ∈ ss, -128 ≤ x ∧ x ≤ 127) (b0 b1 : Nat) {X : Nat → Prop} (hX : X nR) : trA rs ss nR nS b0 b1 X := by
  have hs3 := h.s3
  have hr4 := h.r4
  have hls := h.ls
  have hlr := h.lr
  have hbr := h.br
  unfold trA
  refine ⟨⟨0, ⟨Nat.zero_le _⟩, ⟨rfl, rfl, rfl, rfl, rfl, rfl, rfl, trivial⟩, by rw [psC_0, ngC_0]⟩, fun s hs => br_of (fun hb => ?_) (fun hb => ?_)⟩
  · have hb := lt_of_dec hb
    rw [k1, psC_st hc (by omega), ngC_st hc (by omega)]
    exact ⟨⟨by omega, by omega⟩, ⟨i8_at (by omega)⟩, ⟨by decide⟩, ⟨psC_len (by omega), by omega, by omega⟩, ⟨by decide⟩, ⟨ngC_len (by omega), by omega, by omega⟩, s + 1, ⟨by omega⟩, ⟨by omega⟩, ⟨rfl, rfl, rfl, rfl, rfl, rfl, by rw [up1 hb (by omega)], trivial⟩, rfl⟩
  · have hb := ge_of_dec hb
    have e : s = nS := by have := hs.out; omega
    rw [e]
    refine ⟨⟨0, ⟨Nat.zero_le _⟩, ⟨rfl, rfl, rfl, rfl, by rw [cnt_0], by rw [cnt_0], by rw [cnt_0], rfl, rfl, rfl, rfl, trivial⟩, by rw [cnt_0]; rfl⟩, fun i hi => br_of (fun hb => ?_) (fun hb => ?_)⟩
    · have hb := lt_of_dec hb
      rw [k2, rX_eq hbr (lt2 hb h), rY_eq hbr (lt2 hb h)]
      refine ⟨⟨by omega, by omega⟩, ⟨u8_two (lt2 hb h)⟩, ⟨by decide⟩, i, ⟨0, ⟨hb, Nat.zero_le _⟩, ⟨rfl, rfl, rfl, rfl, rfl, rfl, rfl, rfl, rfl, by rw [knw_0], rfl, rfl, rfl, rfl, rfl, rfl, trivial⟩, rfl⟩, fun j hj => br_of (fun hq => ?_) (fun hq => ?_)⟩
      · have hq := lt_of_dec hq
        have hj4 : dfN rs nR i ≤ i := df_le rs nR i
        rw [k2]
        refine ⟨⟨by omega, by omega⟩, ⟨dfC_two hq⟩, br_of (fun hk => ?_) (fun hk => ?_)⟩
        · exact ⟨j + 1, ⟨hb, hq⟩, ⟨by omega⟩, ⟨rfl, rfl, rfl, rfl, rfl, rfl, rfl, rfl, rfl, by rw [← knw_y hq hk], rfl, rfl, rfl, rfl, rfl, by rw [up1 hq (by omega)], trivial⟩, rfl⟩
        · exact ⟨⟨trivial⟩, j + 1, ⟨hb, hq⟩, ⟨by omega⟩, ⟨rfl, rfl, rfl, rfl, rfl, rfl, rfl, rfl, rfl, by rw [knw_n hb hq hk], rfl, rfl, rfl, rfl, rfl, by rw [up1 hq (by omega)], trivial⟩, rfl⟩
      · have hq := ge_of_dec hq
        have e : j = dfN rs nR i := by have := hj.out.2; omega
        rw [e]
        refine br_of (fun hk => ?_) (fun hk => ?_)
        · have hk : knw rs nR i (dfN rs nR i) = false := by simpa using hk
          have hj4 : dfN rs nR i ≤ i := df_le rs nR i
          obtain ⟨d1, d2⟩ := df_new hb hk
          rw [d2, d1]
          refine ⟨⟨dfC_len rs nR i, by omega, by omega⟩, i, ⟨0, ⟨hb, Nat.zero_le _⟩, ⟨rfl, rfl, rfl, rfl, rfl, rfl, rfl, rfl, rfl, rfl, rfl, rfl, rfl, rfl, trivial⟩, rfl⟩, fun k hk => br_of (fun hq => ?_) (fun hq => ?_)⟩
          · have hq := lt_of_dec hq
            have hc12 := cnt_le h hb (k := k) (by omega)
            rw [k1, th_st h hb hq, bk_st h hb hq, po_st hq]
            exact ⟨⟨by omega, by omega⟩, ⟨(ps_at h hq).1⟩, ⟨th_ln _ _ _ _, by omega, by omega⟩, ⟨by omega, by omega⟩, ⟨(ng_at h hq).1⟩, ⟨bk_ln _ _ _ _, by omega, by omega⟩, ⟨po_ln _ _ _, by omega, by omega⟩, k + 1, ⟨hb, hq⟩, ⟨by omega⟩, ⟨rfl, rfl, rfl, rfl, rfl, rfl, rfl, rfl, rfl, rfl, rfl, rfl, rfl, by rw [up1 hq (by omega)], trivial⟩, rfl⟩
          · have hq := ge_of_dec hq
            have e : k = nS := by have := hk.out.2; omega
            rw [e, cnt_n]
            exact ⟨i + 1, ⟨hb⟩, ⟨by omega⟩, ⟨rfl, rfl, rfl, rfl, rfl, rfl, rfl, rfl, rfl, rfl, by rw [up1 hb (by omega)], trivial⟩, rfl⟩
        · have hk : knw rs nR i (dfN rs nR i) = true := by simpa using hk
          obtain ⟨d1, d2⟩ := df_old hb hk
          rw [d2, d1]
          refine ⟨i, ⟨0, ⟨hb, Nat.zero_le _⟩, ⟨rfl, rfl, rfl, rfl, rfl, rfl, rfl, rfl, rfl, rfl, rfl, rfl, rfl, rfl, trivial⟩, rfl⟩, fun k hk => br_of (fun hq => ?_) (fun hq => ?_)⟩
          · have hq := lt_of_dec hq
            have hc12 := cnt_le h hb (k := k) (by omega)
            rw [k1, th_st h hb hq, bk_st h hb hq, po_st hq]
            exact ⟨⟨by omega, by omega⟩, ⟨(ps_at h hq).1⟩, ⟨th_ln _ _ _ _, by omega, by omega⟩, ⟨by omega, by omega⟩, ⟨(ng_at h hq).1⟩, ⟨bk_ln _ _ _ _, by omega, by omega⟩, ⟨po_ln _ _ _, by omega, by omega⟩, k + 1, ⟨hb, hq⟩, ⟨by omega⟩, ⟨rfl, rfl, rfl, rfl, rfl, rfl, rfl, rfl, rfl, rfl, rfl, rfl, rfl, by rw [up1 hq (by omega)], trivial⟩, rfl⟩
          · have hq := ge_of_dec hq
            have e : k = nS := by have := hk.out.2; omega
            rw [e, cnt_n]
            exact ⟨i + 1, ⟨hb⟩, ⟨by omega⟩, ⟨rfl, rfl, rfl, rfl, rfl, rfl, rfl, rfl, rfl, rfl, by rw [up1 hb (by omega)], trivial⟩, rfl⟩
    · have hb := ge_of_dec hb
      have e : i = nR := by have := hi.out; omega
      rw [e]
      exact hX
end
end
end Qq
end
section
/- The law: ways made again, groups, rules that may hold, what is in doubt. -/
open Go Go.Vm Go.Proofs Sp
namespace Qq
noncomputable section
theorem ints_atom (z : List Int) : ∀ v : Value, v ∈ ints z → atom v = true := by
  intro v hv
  obtain ⟨x, _, rfl⟩ := List.mem_map.1 hv
  rfl
theorem pr_two {z : List Int} {i : Nat} (hi : i + 2 ≤ z.length) : (if i + 2 ≤ List.length (ints z) then some (Value.agg (List.toArray (((ints z).drop i).take 2))) else none) = some (Value.agg #[.int .i64 (iAt (ints z) i), .int .i64 (iAt (ints z) (i + 1))]) := by
  have a := get_at (z := z) (p := i) (by omega)
  have b := get_at (z := z) (p := i + 1) (by omega)
  rw [if_pos (by rw [ints_len]; exact hi), two_at a b, iAt, a, iAt, b]
theorem eqs_of : ∀ l : List Value, eqs l
  | [] => trivial
  | _ :: r => ⟨rfl, eqs_of r⟩
theorem mtg_of (l : List (Nat × Value)) (h : Heap) : mtg l h := ⟨0, ⟨rfl⟩, eqs_of _, rfl⟩
theorem cpy_of {z : List Int} {n k b : Nat} (hl : z.length = n * k) (hn : n ≤ 12) (hb : b ≤ 80) : cpy (ints z) n k b := by
  have : n * b ≤ 12 * 80 := Nat.mul_le_mul hn hb
  exact ⟨by rw [ints_len]; exact hl, ints_atom z, by omega, by omega⟩
theorem cpy_ru (q : Int) : cpy (ruC hole q) 1 9 80 := by
  refine ⟨rfl, fun v hv => ?_, by decide, by decide⟩
  simp only [ruC, List.mem_cons, List.not_mem_nil, or_false] at hv
  rcases hv with rfl | rfl | rfl | rfl | rfl | rfl | rfl | rfl | rfl <;> rfl
section
variable {rs ss : List Int} {nR nS : Nat} (h : Hrd rs ss nR nS)
include h
theorem plT_is : plT rs ss nR nS = ints (mp (poE rs nS) (nE nR nS)) := plT_eq h
theorem plB_is : plB rs ss nR nS = ints (mp (miE rs nS) (nE nR nS)) := plB_eq h
theorem ptT_is : ptT rs ss nR nS = mp (poE rs nS) (nE nR nS) := by
  show deI (plT rs ss nR nS) = _
  rw [plT_is h, deI_ints]
theorem ptB_is : ptB rs ss nR nS = mp (miE rs nS) (nE nR nS) := by
  show deI (plB rs ss nR nS) = _
  rw [plB_is h, deI_ints]
theorem cp_ps : cpy (psC ss nS) nS 1 8 := by
  rw [psC_all h]
  exact cpy_of (by rw [psL_len, h.ls, Nat.mul_one]) (by have := h.s3; omega) (by decide)
theorem cp_ng : cpy (ngC ss nS) nS 1 8 := by
  rw [ngC_all h]
  exact cpy_of (by rw [ngL_len, h.ls, Nat.mul_one]) (by have := h.s3; omega) (by decide)
theorem cp_th : cpy (thC rs ss nS (nE nR nS)) (nE nR nS) 3 24 := cpy_of (mp_len th_len _) (nE_in h).2.1 (by decide)
theorem cp_bk : cpy (bkC rs ss nS (nE nR nS)) (nE nR nS) 3 24 := cpy_of (mp_len bk_len _) (nE_in h).2.1 (by decide)
theorem mi_at {k : Nat} (hk : k < nE nR nS) : iAt (ints (mp (miE rs nS) (nE nR nS))) (k * 2) = 10000 - rX rs (k / nS) ∧ iAt (ints (mp (miE rs nS) (nE nR nS))) (k * 2 + 1) = rY rs (k / nS) := by
  have a := pt_at (gd_mi (ss := ss) h) hk
  have l : (mp (miE rs nS) (nE nR nS)).length = nE nR nS * 2 := mp_len mi_len _
  have e0 := get_at (z := mp (miE rs nS) (nE nR nS)) (p := k * 2) (by omega)
  have e1 := get_at (z := mp (miE rs nS) (nE nR nS)) (p := k * 2 + 1) (by omega)
  rw [a.1] at e0
  rw [a.2] at e1
  exact ⟨by rw [iAt, e0]; rfl, by rw [iAt, e1]; rfl⟩
omit h in
theorem nn {b : Bool} (h : (!(b)) = true) (hb : b = true) : False := by rw [hb] at h; cases h
omit h in
theorem bb (x y : Int) : (x == x && (y == y && true)) = true := by simp
set_option maxRecDepth 100000 in
theorem trB_in {K : Value → Heap → Prop} {Y : Prop} (hY : Y) : trB rs ss nR nS K nR Y := by
  have hn := nE_in h
  have e0 : cnt nS nR 0 = nE nR nS := rfl
  have hT : (ints (mp (poE rs nS) (nE nR nS))) = poC rs nS (nE nR nS) := rfl
  have l2 : (mp (poE rs nS) (nE nR nS)).length = nE nR nS * 2 := mp_len po_len _
  have m2 : (mp (miE rs nS) (nE nR nS)).length = nE nR nS * 2 := mp_len mi_len _
  unfold trB
  rw [e0]
  refine ⟨⟨cp_ps h⟩, ⟨cp_th h⟩, ⟨eIs_th h, pIs_ps h⟩, ⟨cp_ng h⟩, ⟨cp_bk h⟩, ⟨eIs_bk h, pIs_ng h⟩, br_of (fun hb => absurd hb (by simp)) fun _ => br_of (fun hb => absurd hb (by simp)) fun _ =>
    ⟨⟨⟨0, ⟨Nat.zero_le _⟩, ⟨rfl, rfl, rfl, rfl, rfl, rfl, rfl, rfl, rfl, rfl, rfl, trivial⟩, rfl⟩, fun k hk => br_of (fun hb => ?_) (fun hb => ?_)⟩, fun _ _ => hY⟩⟩
  · have hb := lt_of_dec hb
    obtain ⟨a1, a2, _, _⟩ := po_at h hb
    obtain ⟨b1, b2⟩ := mi_at h hb
    have hx := rX_in h (q_in h hb).1
    have hlo : k * 2 + 2 ≤ (mp (poE rs nS) (nE nR nS)).length := by omega
    have hlm : k * 2 + 2 ≤ (mp (miE rs nS) (nE nR nS)).length := by omega
    have c1 := pr_two hlo
    have c2 := pr_two hlm
    rw [hT] at c1
    rw [k2, plT_is h, plB_is h, hT]
    refine ⟨⟨by omega, by omega⟩, ⟨c1⟩, ⟨by omega, by omega⟩, ⟨c1⟩, ⟨trivial⟩, br_of (fun hq => (nn hq (bb _ _)).elim) fun _ => ⟨⟨by omega, by omega⟩, ⟨c2⟩, ⟨trivial⟩, br_of (fun hq => (nn hq ?_).elim) fun _ => ?_⟩⟩
    · rw [b1, b2, a1, a2, wrp (by omega) (by omega)]
      exact bb _ _
    · exact ⟨k + 1, ⟨hb⟩, ⟨by omega⟩, ⟨rfl, rfl, rfl, rfl, rfl, rfl, rfl, rfl, rfl, rfl, by rw [up1 hb (by omega)], trivial⟩, rfl⟩
  · exact ⟨0, ⟨rfl⟩, ⟨rfl, rfl, rfl, rfl, rfl, rfl, trivial⟩, rfl⟩
variable {G : Nat} (hG : (fs (mp (poE rs nS) (nE nR nS)) (nE nR nS)).length = G)
include hG
theorem cl_T : clIs (plT rs ss nR nS) (nE nR nS) G := by
  have g := G_in h
  rw [plT_is h]
  exact ⟨_, rfl, po_small h, (nE_in h).2.1, hG, by omega, by omega⟩
theorem cl_B : clIs (plB rs ss nR nS) (nE nR nS) G := by
  have g := G_in h
  rw [plB_is h]
  exact ⟨_, rfl, mi_small h, (nE_in h).2.1, by rw [fs_two]; exact hG, by omega, by omega⟩
theorem ps_T : psIs (eT rs ss nR nS) (dT ss nS) (ruC hole (nS : Int)) 1 (nS : Int) nS (nE nR nS) G := by
  refine ⟨⟨rfl, rfl, ?_⟩, eIs_th h, pIs_ps h, cl_T h hG, fun j hj => ?_⟩
  · have := h.s1
    have := h.s3
    omega
  · show gJ (ptT rs ss nR nS) (nE nR nS) (fs (ptT rs ss nR nS) (nE nR nS)) (eT rs ss nR nS) (plT rs ss nR nS) _ _ 1 _ j
    rw [ptT_is h, plT_is h]
    exact gJ_ok (gd_po (ss := ss) h) (by omega)
theorem ps_B : psIs (eB rs ss nR nS) (dB ss nS) (ruC hole (nS : Int)) 1 (nS : Int) nS (nE nR nS) G := by
  refine ⟨⟨rfl, rfl, ?_⟩, eIs_bk h, pIs_ng h, cl_B h hG, fun j hj => ?_⟩
  · have := h.s1
    have := h.s3
    omega
  · show gJ (ptB rs ss nR nS) (nE nR nS) (fs (ptB rs ss nR nS) (nE nR nS)) (eB rs ss nR nS) (plB rs ss nR nS) _ _ 1 _ j
    rw [ptB_is h, plB_is h]
    exact gJ_ok (gd_mi (ss := ss) h) (by rw [fs_two]; omega)
theorem trC_in {K : Value → Heap → Prop} {Z : Prop} (hZ : Z) : trC rs ss nR nS G K Z := by
  have g := G_in h
  refine ⟨mtg_of _ _, fun _ _ => ⟨⟨⟨cp_ps h⟩, ⟨cp_th h⟩, ⟨rfl, eIs_th h, pIs_ps h, cl_T h hG⟩, mtg_of _ _⟩, fun _ _ => ⟨⟨⟨cp_ng h⟩, ⟨cp_bk h⟩, ⟨rfl, eIs_bk h, pIs_ng h, cl_B h hG⟩, mtg_of _ _⟩, fun _ _ =>
    ⟨⟨⟨cp_ps h⟩, ⟨cp_th h⟩, ⟨cpy_ru _⟩, ⟨rfl, ps_T h hG⟩, mtg_of _ _⟩, fun _ _ => ⟨⟨⟨cp_ng h⟩, ⟨cp_bk h⟩, ⟨cpy_ru _⟩, ⟨rfl, rfl, ps_B h hG⟩, mtg_of _ _⟩, fun _ _ =>
    ⟨br_of (fun hb => ?_) fun _ => ⟨⟨⟨rfl, rfl⟩, ⟨by omega, by omega⟩, fun j hj => ?_⟩, mtg_of _ _⟩, fun _ _ => hZ⟩⟩⟩⟩⟩⟩
  · have e : dfN rs nR nR = G := by omega
    rw [e] at hb
    simp at hb
  · rw [ptT_is h, ptB_is h]
    exact sJ_ok h (by omega)
end
end
end Qq
end
section
/- The law's rounds over the groups. -/
open Go Go.Vm Go.Proofs Sp
namespace Qq
noncomputable section
section
variable {rs ss : List Int} {nR nS : Nat} (h : Hrd rs ss nR nS)
include h
theorem gjC_is (j : Nat) : gjC rs ss nR nS j = ints (gI2 (mp (poE rs nS) (nE nR nS)) (nE nR nS) (fs (mp (poE rs nS) (nE nR nS)) (nE nR nS)) j) := by rw [gjC, ptT_is h]
theorem gjL_is (j : Nat) : gjL rs ss nR nS j = gLen (mp (poE rs nS) (nE nR nS)) (nE nR nS) (fs (mp (poE rs nS) (nE nR nS)) (nE nR nS)) j := by rw [gjL, ptT_is h]
theorem gjN_is {j : Nat} (hj : j < (fs (mp (poE rs nS) (nE nR nS)) (nE nR nS)).length) : gjN rs ss nR nS j = if deepB rs nS (nE nR nS) j = true then 0 else 1 := by
  rw [gjN, ptT_is h, plT_is h, wN_po h hj]
theorem gjW_is {j : Nat} (hj : j < (fs (mp (poE rs nS) (nE nR nS)) (nE nR nS)).length) : gjW rs ss nR nS j = if deepB rs nS (nE nR nS) j = true then [] else [.string hole] := by
  rw [gjW, ptT_is h, plT_is h, wC_po h _ hj]
theorem gj0_is {j : Nat} (hj : j < (fs (mp (poE rs nS) (nE nR nS)) (nE nR nS)).length) : ∃ k, k < nE nR nS ∧ gj0 rs ss nR nS j = (k : Int) ∧ (gjC rs ss nR nS j)[0]? = some (.int .i64 (k : Int)) ∧ gjY rs ss nR nS j = rY rs (k / nS) ∧ (poC rs nS (nE nR nS))[k * 2 + 1]? = some (.int .i64 (rY rs (k / nS))) ∧ deepB rs nS (nE nR nS) j = decide (20 < rY rs (k / nS)) := by
  obtain ⟨k, k1, k3, k4, k5⟩ := hd_at h hj
  obtain ⟨_, p2, _, p4⟩ := po_at h k1
  have e : gj0 rs ss nR nS j = (k : Int) := by rw [gj0, gjC_is h]; exact k4
  refine ⟨k, k1, e, by rw [gjC_is h]; exact k5, ?_, p4, by rw [deepB, k3.2]⟩
  rw [gjY, e, k2, p2]
theorem deJ_is {j : Nat} (hj : j < (fs (mp (poE rs nS) (nE nR nS)) (nE nR nS)).length) : deJ rs ss nR nS j = deepB rs nS (nE nR nS) j := by
  obtain ⟨k, _, _, _, e, _, d⟩ := gj0_is (ss := ss) h hj
  rw [d, ← e]; rfl
variable {G : Nat} (hG : (fs (mp (poE rs nS) (nE nR nS)) (nE nR nS)).length = G)
include hG
theorem atJ_is {i : Nat} (hi : i ≤ G) : atJ rs ss nR nS i = ((List.range i).filter fun j => deepB rs nS (nE nR nS) j).length := by
  rw [atJ]
  congr 1
  exact List.filter_congr fun j hj => deJ_is h (by have := List.mem_range.1 hj; omega)
theorem db_is : dbN (eB rs ss nR nS) (dB ss nS) (nE nR nS) G = (List.range G).filter fun j => deepB rs nS (nE nR nS) j := by
  rw [dbN]
  refine List.filter_congr fun j hj => ?_
  show (wN (ptB rs ss nR nS) (nE nR nS) (fs (ptB rs ss nR nS) (nE nR nS)) (plB rs ss nR nS) j != 1) = _
  rw [ptB_is h, plB_is h, wN_mi h (by have := List.mem_range.1 hj; omega)]
  cases deepB rs nS (nE nR nS) j <;> rfl
theorem dbM_is : dbM rs ss nR nS G = ((List.range G).filter fun j => deepB rs nS (nE nR nS) j).length := by
  show (dbN (eB rs ss nR nS) (dB ss nS) (nE nR nS) G).length = _
  rw [db_is h hG]
theorem at_s {j : Nat} (hj : j < G) : atJ rs ss nR nS (j + 1) = if deepB rs nS (nE nR nS) j = true then atJ rs ss nR nS j + 1 else atJ rs ss nR nS j := by
  rw [atJ_is h hG (by omega), atJ_is h hG (by omega), List.range_succ, List.filter_append, List.length_append]
  cases e : deepB rs nS (nE nR nS) j <;> simp [e]
theorem rdA_in {K : Value → Heap → Prop} {j : Nat} (hj : j < G) : rdA rs ss nR nS G K j := by
  have hj' : j < (fs (mp (poE rs nS) (nE nR nS)) (nE nR nS)).length := by omega
  have g := G_in h
  obtain ⟨k, k1, k3, k4, k5, k6, k7⟩ := gj0_is (ss := ss) h hj'
  have hs := at_s (ss := ss) h hG hj
  have le : atJ rs ss nR nS j ≤ j := by
    have := List.length_filter_le (fun j => deepB rs nS (nE nR nS) j) (List.range j)
    rw [List.length_range] at this
    rw [atJ_is h hG (by omega)]; exact this
  rw [rdA, k5, ← k7]
  refine br_of (fun hd => ?_) (fun hd => ?_)
  · rw [hd, if_pos rfl] at hs
    obtain ⟨f1, f2⟩ := filt_at (p := fun j => deepB rs nS (nE nR nS) j) hj hd
    rw [← atJ_is (ss := ss) h hG (by omega), ← dbM_is (ss := ss) h hG] at f1
    rw [← atJ_is (ss := ss) h hG (by omega)] at f2
    have e : (gjD rs ss nR nS G)[atJ rs ss nR nS j]? = some (.int .i64 (j : Int)) := by
      show (ints (nats (dbN (eB rs ss nR nS) (dB ss nS) (nE nR nS) G)))[atJ rs ss nR nS j]? = _
      rw [db_is h hG, ints, nats, List.getElem?_map, List.getElem?_map, f2]; rfl
    have ei : iAt (gjD rs ss nR nS G) (atJ rs ss nR nS j) = (j : Int) := by rw [iAt, e]
    rw [Qq.k1 (atJ rs ss nR nS j), e, ei]
    refine br_of (fun hb => ?_) fun _ => ⟨⟨by omega, by omega⟩, ⟨rfl⟩, br_of (fun hb => ?_) fun _ => ⟨0, ⟨rfl⟩, ⟨rfl, rfl, rfl, ?_, rfl, rfl, rfl, trivial⟩, rfl⟩⟩
    · have := of_decide_eq_true hb
      omega
    · simp at hb
    · rw [hs, wrp (by omega) (by omega)]; rfl
  · rw [hd, if_neg (by decide)] at hs
    exact ⟨0, ⟨rfl⟩, ⟨rfl, rfl, rfl, by rw [hs], rfl, rfl, rfl, trivial⟩, rfl⟩
theorem rdB_in {K : Value → Heap → Prop} {j : Nat} (hj : j < G) : rdB rs ss nR nS G K j := by
  have hj' : j < (fs (mp (poE rs nS) (nE nR nS)) (nE nR nS)).length := by omega
  obtain ⟨k, k1, k3, k4, k5, k6, k7⟩ := gj0_is (ss := ss) h hj'
  have gl := gl_in (gd_po (ss := ss) h) hj'
  rw [← gjL_is h] at gl
  have hA := rdA_in (K := K) h hG hj
  rw [rdB, k3, k4, k5, k2, k6, gjN_is h hj', gjW_is h hj', ← k7]
  refine br_of (fun hb => ?_) fun _ => ⟨⟨by omega, by omega⟩, ⟨rfl⟩, br_of (fun hb => ?_) fun _ => ⟨⟨by omega, by omega⟩, ⟨rfl⟩, br_of (fun hb => ?_) fun _ => ⟨⟨by omega, by omega⟩, ⟨rfl⟩, ⟨by omega, by omega⟩, ⟨rfl⟩, br_of (fun hb => ?_) fun _ => br_of (fun hb => ?_) fun _ => hA⟩⟩⟩
  · rw [beq_iff_eq] at hb
    omega
  · have := of_decide_eq_true hb
    omega
  · have := of_decide_eq_true hb
    omega
  · cases e : deepB rs nS (nE nR nS) j <;> rw [e] at hb <;> simp at hb
  · have e : deepB rs nS (nE nR nS) j = false := by simpa using hb
    rw [e]
    exact ⟨⟨rfl, rfl, rfl, rfl⟩, hA⟩
theorem rds_in {K : Value → Heap → Prop} (hK : K (.bool true) [rfR rs, slR ss]) : ∀ k j, j + k = G → rds rs ss nR nS G K k j
  | 0, _, _ => by
    rw [rds]
    refine br_of (fun _ => ⟨⟨trivial⟩, hK⟩) fun hb => ?_
    rw [atJ_is h hG (Nat.le_refl _), dbM_is h hG] at hb
    simp at hb
  | k + 1, j, e => ⟨(), rdB_in h hG (by omega), fun _ _ => rds_in hK k (j + 1) (by omega)⟩
end
/-- All that the law asks holds. -/
theorem hdT_in {rs ss : List Int} {nR nS : Nat} (h : Hrd rs ss nR nS) (hc : ∀ x ∈ ss, -128 ≤ x ∧ x ≤ 127) (b0 b1 : Nat) {G : Nat} (hG : dfN rs nR nR = G) {K : Value → Heap → Prop} (hK : K (.bool true) [rfR rs, slR ss]) : hdT rs ss nR nS b0 b1 G K := by
  have g := (G_in h).1
  exact br_of (fun _ => ⟨⟨trivial⟩, hK⟩) fun _ => br_of (fun _ => ⟨⟨trivial⟩, hK⟩) fun _ => br_of (fun _ => ⟨⟨trivial⟩, hK⟩) fun _ => br_of (fun _ => ⟨⟨trivial⟩, hK⟩) fun _ =>
    trA_in h hc b0 b1 (trB_in h (trC_in h (by omega) (rds_in h (by omega) hK G 0 (by omega))))
/-- Where the numbers of reflectors and slopes are not ones that it takes. -/
theorem hdT_out {rs ss : List Int} {nR nS : Nat} (h : nR < 1 ∨ 4 < nR ∨ nS < 1 ∨ 3 < nS) (b0 b1 G : Nat) {K : Value → Heap → Prop} (hK : K (.bool true) [rfR rs, slR ss]) : hdT rs ss nR nS b0 b1 G K := by
  refine br_of (fun _ => ⟨⟨trivial⟩, hK⟩) fun h1 => br_of (fun _ => ⟨⟨trivial⟩, hK⟩) fun h2 => br_of (fun _ => ⟨⟨trivial⟩, hK⟩) fun h3 => br_of (fun _ => ⟨⟨trivial⟩, hK⟩) fun h4 => ?_
  have := of_decide_eq_false h1
  have := of_decide_eq_false h2
  have := of_decide_eq_false h3
  have := of_decide_eq_false h4
  omega
end
end Qq
end
section
/- The law answers true. -/
open Go Go.Vm Go.Proofs Sp
namespace Qq
noncomputable section
theorem law3 {rs ss : List Int} {nR nS b0 b1 : Nat} (hr : rs.length = nR * 2) (hs : ss.length = nS) (hb : ∀ x ∈ rs, 0 ≤ x ∧ x ≤ 255) (hc : ∀ x ∈ ss, -128 ≤ x ∧ x ≤ 127) :
    SmallRes Try.prog 3 [.slice (some ⟨0, 0, none⟩) nR b0, .slice (some ⟨1, 0, none⟩) nS b1] [rfR rs, slR ss] (.bool true) [rfR rs, slR ss] := by
  by_cases ho : nR < 1 ∨ 4 < nR ∨ nS < 1 ∨ 3 < nS
  · refine fnP_res hm c0_ok (hs := hsJ rs ss nR nS b0 b1 1) ?_
    rw [hd1_t]
    exact hdT_out ho _ _ _ ⟨rfl, rfl⟩
  · have h : Hrd rs ss nR nS := ⟨by omega, by omega, by omega, by omega, hr, hs, hb⟩
    obtain ⟨_, g1, g4⟩ := G_in h
    have hg : dfN rs nR nR = 1 ∨ dfN rs nR nR = 2 ∨ dfN rs nR nR = 3 ∨ dfN rs nR nR = 4 := by omega
    rcases hg with hg | hg | hg | hg
    · refine fnP_res hm c0_ok (hs := hsJ rs ss nR nS b0 b1 1) ?_
      rw [hd1_t]
      exact hdT_in h hc _ _ hg ⟨rfl, rfl⟩
    · refine fnP_res hm c0_ok (hs := hsJ rs ss nR nS b0 b1 2) ?_
      rw [hd2_t]
      exact hdT_in h hc _ _ hg ⟨rfl, rfl⟩
    · refine fnP_res hm c0_ok (hs := hsJ rs ss nR nS b0 b1 3) ?_
      rw [hd3_t]
      exact hdT_in h hc _ _ hg ⟨rfl, rfl⟩
    · refine fnP_res hm c0_ok (hs := hsJ rs ss nR nS b0 b1 4) ?_
      rw [hd4_t]
      exact hdT_in h hc _ _ hg ⟨rfl, rfl⟩
end
end Qq
end
