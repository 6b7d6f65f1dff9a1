/- An operation whose new rows are sealed at once. -/
import Derived.Test.YtaigknknfaeajaaGreatDoorZC
namespace Go.Vm
noncomputable section
def shutD (δ : Delta) : Delta := δ.map fun p => (p.1, p.2.map AObj.shut)

def shutOf (H H' : Heap) : Prop := ∀ id o, rd H' id = some o → ∃ o', rd H id = some o' ∧ (o = o' ∨ o = o'.shut)

theorem HRel.weak {P : Program} {F : Fr P} {A : Nat → Prop} {ψ : Nat → Gh} {H H' : Heap} {w : World} (h : HRel F A ψ H w) (hh : shutOf H H') : HRel F A ψ H' w := by
  have hrw : ∀ {o o' : AObj}, (o = o' ∨ o = o'.shut) → o.rw = true → o'.rw = true := fun h k => by
    rcases h with rfl | rfl
    · exact k
    · exact seal_rw k
  have hvd : ∀ {o o' : AObj}, (o = o' ∨ o = o'.shut) → o.vd = false → o'.vd = false := fun h k => by
    rcases h with rfl | rfl
    · exact k
    · rw [shut_vd] at k; exact k
  refine ⟨fun id o ho => ?_, fun i j oi oj hi hj hij hr hvi hvj => ?_, h.fr, fun id o ho hr hv => ?_, h.old⟩
  · obtain ⟨o', h1, h2⟩ := hh id o ho
    obtain ⟨k1, k2, k0⟩ := h.live id o' h1
    refine ⟨k1, by rcases h2 with rfl | rfl; exact k2; (cases o' <;> exact k2), fun hv => ⟨(k0 (hvd h2 hv)).1, ?_⟩⟩
    have k3 := (k0 (hvd h2 hv)).2
    rcases h2 with rfl | rfl
    · exact k3
    · cases o' with
      | row cells es more rw flat =>
        obtain ⟨arr, el, fz, a, b, c, d, e⟩ := k3
        exact ⟨arr, el, fz, a, b, c, (fun h => by cases h), e⟩
      | iter => exact k3
      | smap => exact k3
  · obtain ⟨oi', a1, a2⟩ := hh i oi hi
    obtain ⟨oj', b1, b2⟩ := hh j oj hj
    exact h.inj i j oi' oj' a1 b1 hij (hrw a2 hr) (hvd a2 hvi) (hvd b2 hvj)
  · obtain ⟨o', h1, h2⟩ := hh id o ho
    exact h.own id o' h1 (hrw h2 hr) (hvd h2 hv)

theorem ap_shut : ∀ (δ : Delta) (H H' : Heap), shutOf H H' → shutOf (ap H δ) (ap H' (shutD δ))
  | [], _, _, h => h
  | (i, o) :: r, H, H', h => ap_shut r (wr H i o) (wr H' i (o.map AObj.shut)) fun id x hx => by
    rw [rd_wr] at hx ⊢
    by_cases e : id = i
    · rw [if_pos e] at hx ⊢
      obtain ⟨o', h1, h2⟩ := Option.map_eq_some_iff.1 hx
      exact ⟨o', h1, .inr h2.symm⟩
    · rw [if_neg e] at hx ⊢
      exact h id x hx

/-- A hint whose new rows are sealed at once. -/
def hSeal {P : Program} (h : Hint P) : Hint P where
  fn o env H := match h.fn o env H with
    | some (out, vc) => some ({ out with δ := shutD out.δ }, vc)
    | none => none
  ok := by
    intro o env H out vc hh hv
    split at hh
    · rename_i out0 vc0 h0
      cases hh
      have k := h.ok h0 hv
      intro F A ψ env1 H1 a w hr h1 h2 h3 K Q hK
      refine k F A ψ env1 H1 a w hr h1 h2 h3 K Q fun ψ1 a1 w1 hr1 => hK ψ1 a1 w1 ?_
      exact ⟨hr1.slot, hr1.len, hr1.defers, hr1.heap.weak (ap_shut out0.δ H1 H1 fun id o ho => ⟨o, ho, .inl rfl⟩)⟩
    · cases hh
end
end Go.Vm
