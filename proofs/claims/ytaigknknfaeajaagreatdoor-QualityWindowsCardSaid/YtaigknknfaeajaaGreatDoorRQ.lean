/- The law about windows: it answers true. -/
import Derived.Test.YtaigknknfaeajaaGreatDoorRP
import Derived.Test.YtaigknknfaeajaaGreatDoorRH
open Go Go.Vm Go.Proofs Sp
namespace Qq
noncomputable section
theorem abF_len (f z lim : Int) : ∀ (l : List Int) (k : Nat) (out : List Int), out.length % 2 = 0 → (abF f z lim l k out).length % 2 = 0 ∧ (abF f z lim l k out).length ≤ out.length + 2 * l.length
  | [], _, out, h => ⟨h, by rw [abF]; simp only [List.length_nil]; omega⟩
  | v :: r, k, out, h => by
    have h1 : (abS f z lim out k v).length % 2 = 0 ∧ (abS f z lim out k v).length ≤ out.length + 2 := by
      simp only [abS]
      split
      · omega
      · split
        · rename_i h; simp only [Bool.and_eq_true, decide_eq_true_eq] at h
          rw [List.length_append, List.length_take]; simp only [List.length_cons, List.length_nil]; omega
        · rw [List.length_append]; simp only [List.length_cons, List.length_nil]; omega
    obtain ⟨g1, g2⟩ := abF_len f z lim r (k + 1) (abS f z lim out k v) h1.1
    rw [abF]
    exact ⟨g1, by simp only [List.length_cons]; omega⟩
theorem abL_len (xs : List Nat) (hs : List Int) (f : Int) (n z : Nat) (lim : Int) : (abL xs hs f n z lim).length = (abL xs hs f n z lim).length / 2 * 2 ∧ (abL xs hs f n z lim).length ≤ 2 * n := by
  obtain ⟨h1, h2⟩ := abF_len f (z : Int) lim (ixL xs hs z (n / z)) 0 [] rfl
  rw [ixL_len] at h2
  have hdz : n / z ≤ n := Nat.div_le_self n z
  simp only [List.length_nil] at h2
  exact ⟨by rw [abL]; omega, by rw [abL]; omega⟩
set_option maxRecDepth 100000 in
theorem law4 (hl : ∀ p ∈ l4, Ok Tryz.prog p.1 p.2) {nm : ByteArray} {f : Int} {n c k d : Nat} {xs : List Nat} {hs : List Int} (x0 x1 : Int) (hn : xs.length = n) (hk : hs.length = k * 2) :
    SmallRes Tryz.prog 4 [.agg (runA nm f 0 n c 1 k d).toArray, .agg #[.int .i64 x0, .int .i64 x1]] (hp2r xs hs false false false false []) (.bool true) (hp2r xs hs false false false false []) := by
  refine fnP_res hm (ctx_ok hm hl) (hs := hsL4 nm f n c k d xs hs x0 x1) ?_
  show fnP Tryz.prog cl4 (hsL4 nm f n c k d xs hs x0 x1) 4 _ _ _
  rw [law4_t]
  refine ⟨⟨rfl, rfl⟩, br_of (fun _ => ⟨by first | trivial | rfl, by first | trivial | rfl⟩) (fun h => ?_)⟩
  obtain ⟨h1, h2⟩ := shB_small (nm := nm) (n := n) (k := k) (by simpa using h)
  have hr : isRun xs hs n k (flts xs) (ints hs) := ⟨rfl, rfl, hn, by omega, hk, by omega⟩
  have hil := iL_len nm f xs n hs x0
  refine ⟨⟨hr⟩, ⟨hr⟩, ⟨hr⟩, ⟨hr⟩, ⟨hr⟩, ⟨hr⟩, ⟨hr⟩, ⟨(0 : Nat), ⟨rfl⟩, by first | trivial | rfl, by first | trivial | rfl⟩, fun _ _ => ?_⟩
  have nil : ∀ {e : List Int}, e = [] → e.length / 2 = 0 ∧ ints e = [] ∧ e.length / 2 ≤ 100000 ∧ isInts (ints e) (e.length / 2) := fun h => by
    subst h
    exact ⟨rfl, rfl, Nat.zero_le _, [], rfl, rfl⟩
  have ful : abE nm f xs n hs x0 x1 = 0 → (abO nm f xs n hs x0 x1).length / 2 = (abL xs hs f n x0.toNat x1).length / 2 ∧ ints (abO nm f xs n hs x0 x1) = ints (abL xs hs f n x0.toNat x1) ∧ (abO nm f xs n hs x0 x1).length / 2 ≤ 100000 ∧ isInts (ints (abO nm f xs n hs x0 x1)) ((abO nm f xs n hs x0 x1).length / 2) := fun h => by
    obtain ⟨g1, g2⟩ := abL_len xs hs f n x0.toNat x1
    rw [abO, if_pos h]
    exact ⟨rfl, rfl, by omega, _, rfl, g1⟩
  refine br_of (fun h3 => ?_) (fun h3 => ?_)
  · have h3 : cwE nm f xs n hs x0 = 0 := by simpa using h3
    obtain ⟨c1, c2, c3, c4⟩ := cw_zero h3
    have ei : iL nm f xs n hs x0 = ixL xs hs x0.toNat (n / x0.toNat) := iL_some h3
    have hnu : isNu (iL nm f xs n hs x0) (cwE nm f xs n hs x0) (cwE nm f xs n hs x0) (iL nm f xs n hs x0).length (n / x0.toNat) (ints (iL nm f xs n hs x0)) (ints (ixL xs hs x0.toNat (n / x0.toNat))) :=
      ⟨rfl, fun h => absurd h3 h, rfl, by rw [ei], by rw [ei, ixL_len], rfl, by omega⟩
    have ew : woP nm f xs n hs x0 = wT (ixL xs hs x0.toNat (n / x0.toNat)) := by rw [woP, if_pos h3, ei]
    rw [ew]
    refine ⟨⟨hr, c1, c2, c3, c4⟩, ⟨hr, c1, c2, c3, c4⟩, br_of (fun h4 => ⟨⟨hr, c1, c2, c3, c4⟩, ⟨hnu⟩, br_of (fun _ => br_of (fun _ => br_of (fun _ => ⟨⟨ful (by simpa using h4)⟩, by simp, by first | trivial | rfl⟩) (fun h => by simp at h)) (fun h => by simp at h)) (fun h => by simp at h)⟩) (fun h4 => ⟨⟨hnu⟩, br_of (fun _ => br_of (fun _ => br_of (fun _ => ⟨⟨nil ?_⟩, by simp, by first | trivial | rfl⟩) (fun h => by simp at h)) (fun h => by simp at h)) (fun h => by simp at h)⟩)⟩
    have h4 : ¬ abE nm f xs n hs x0 x1 = 0 := by simpa using h4
    rw [abO, if_neg h4]
  · have h3 : ¬ cwE nm f xs n hs x0 = 0 := by simpa using h3
    have ei : iL nm f xs n hs x0 = [] := iL_none h3
    have ea : ¬ abE nm f xs n hs x0 x1 = 0 := fun h => h3 (fi_zero.1 h (cwE nm f xs n hs x0) (by simp))
    have hnu : isNu (iL nm f xs n hs x0) (cwE nm f xs n hs x0) (cwE nm f xs n hs x0) (iL nm f xs n hs x0).length 0 (ints (iL nm f xs n hs x0)) [] :=
      ⟨rfl, fun _ => by rw [ei]; rfl, rfl, by rw [ei]; rfl, by rw [ei]; rfl, rfl, by omega⟩
    have ew : woP nm f xs n hs x0 = (0, 0, cwE nm f xs n hs x0) := by rw [woP, if_neg h3]
    rw [ew]
    refine br_of (fun h4 => absurd (by simpa using h4) ea) (fun _ => ⟨⟨hnu⟩, br_of (fun _ => br_of (fun _ => br_of (fun _ => ⟨⟨nil ?_⟩, by simp, by first | trivial | rfl⟩) (fun h => by simp at h)) (fun h => by simp at h)) (fun h => by simp at h)⟩)
    rw [abO, if_neg ea]
end
end Qq
