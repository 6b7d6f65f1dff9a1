/- The law about moments of parts: it answers true. -/
import Derived.Test.YtaigknknfaeajaaGreatDoorRG
open Go Go.Vm Go.Proofs Sp
namespace Qq
noncomputable section
theorem shB_small {nm : ByteArray} {n k : Nat} (h : shB nm n k = true) : n ≤ 4097 ∧ k ≤ 12 := by
  simp only [shB, Bool.and_eq_true, Bool.or_eq_true, decide_eq_true_eq, beq_iff_eq] at h
  omega
theorem beq3 (a b c : Int) : (a == a && (b == b && (c == c && true))) = true := by simp
set_option maxRecDepth 100000 in
theorem law3 (hl : ∀ p ∈ l3, Ok Tryz.prog p.1 p.2) {nm : ByteArray} {f : Int} {n c k d : Nat} {xs : List Nat} {hs : List Int} (p q : Int) (hn : xs.length = n) (hk : hs.length = k * 2) :
    SmallRes Tryz.prog 3 [.agg (runA nm f 0 n c 1 k d).toArray, .agg (spC p q).toArray] (hp2r xs hs false false false false []) (.bool true) (hp2r xs hs false false false false []) := by
  refine fnP_res hm (ctx_ok hm hl) (hs := hs3 xs hs) ?_
  show fnP Tryz.prog cl3 (hs3 xs hs) 3 _ _ _
  rw [law3_t]
  refine ⟨⟨rfl, rfl⟩, br_of (fun _ => ⟨by first | trivial | rfl, by first | trivial | rfl⟩) (fun h => ?_)⟩
  obtain ⟨h1, h2⟩ := shB_small (nm := nm) (n := n) (k := k) (by simpa using h)
  have hr : isRun xs hs n k (flts xs) (ints hs) := ⟨rfl, rfl, hn, by omega, hk, by omega⟩
  refine ⟨⟨hr⟩, ⟨hr⟩, ⟨hr⟩, br_of (fun h3 => ?_) (fun h3 => ?_)⟩
  · have h3 : runE nm f xs n hs = 0 := by simpa using h3
    obtain ⟨_, ⟨f0, f1⟩, _⟩ := run_zero h3
    have em : moE nm f xs n hs p q = wh (spB f n p q) 14 := by
      rw [moE, h3]; cases spB f n p q <;> rfl
    refine ⟨⟨⟨rfl, rfl⟩, f0, f1, by omega⟩, br_of (fun h4 => ⟨⟨hr, h3, ?_⟩, ⟨trivial⟩, ?_⟩) (fun h4 => ⟨⟨trivial⟩, ?_⟩)⟩
    · exact (wh_zero (b := spB f n p q) (e := 14) (by decide)).1 (by simpa using h4)
    · have e0 : wh (spB f n p q) 14 = 0 := by simpa using h4
      rw [em, e0]
      simp only [gz, if_true]
      refine br_of (fun _ => ⟨by first | trivial | rfl, by first | trivial | rfl⟩) (fun h => ?_)
      rw [beq3] at h; cases h
    · have e0 : ¬ wh (spB f n p q) 14 = 0 := by simpa using h4
      rw [em]
      simp only [gz, if_neg e0]
      refine br_of (fun _ => ⟨by simp, by first | trivial | rfl⟩) (fun h => ?_)
      rw [beq3] at h; cases h
  · have h3' : ¬ runE nm f xs n hs = 0 := by simpa using h3
    have em : moE nm f xs n hs p q = runE nm f xs n hs := by
      rw [moE]; simp [fi, h3']
    refine br_of (fun h4 => by rw [h3] at h4; cases h4) (fun h4 => ⟨⟨trivial⟩, ?_⟩)
    rw [em]
    simp only [gz, if_neg h3']
    refine br_of (fun _ => ⟨by simp, by first | trivial | rfl⟩) (fun h => ?_)
    rw [beq3] at h; cases h
end
end Qq
