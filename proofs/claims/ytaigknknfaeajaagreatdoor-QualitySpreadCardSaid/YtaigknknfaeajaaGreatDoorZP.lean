/- Parts of the proof: VmAF, VmAG, QLL, QJJ. -/
import Derived.Test.YtaigknknfaeajaaGreatDoorZC
import Derived.Test.YtaigknknfaeajaaGreatDoorQII
import Derived.Test.YtaigknknfaeajaaGreatDoorZH
section
/- An operation whose new rows are sealed at once. -/
namespace Go.Vm
noncomputable section
def shutD (δ : Delta) : Delta := δ.map fun p => (p.1, p.2.map AObj.shut)

def shutOf (H H' : Heap) : Prop := ∀ id o, rd H' id = some o → ∃ o', rd H id = some o' ∧ (o = o' ∨ o = o'.shut)

theorem HRel.weak {P : Program} {F : Fr P} {A : Nat → Prop} {ψ : Nat → Gh} {H H' : Heap} {w : World} (h : HRel F A ψ H w) (hh : shutOf H H') : HRel F A ψ H' w := by
  have hrw : ∀ {o o' : AObj}, (o = o' ∨ o = o'.shut) → o.rw = true → o'.rw = true := fun h k => by
    rcases h with rfl | rfl
    · exact k
    · exact seal_rw k
  have hvd : ∀ {o o' : AObj}, (o = o' ∨ o = o'.shut) → o.vd = false → o'.vd = false := fun h k => by
    rcases h with rfl | rfl
    · exact k
    · rw [shut_vd] at k; exact k
  refine ⟨fun id o ho => ?_, fun i j oi oj hi hj hij hr hvi hvj => ?_, h.fr, fun id o ho hr hv => ?_, h.old⟩
  · obtain ⟨o', h1, h2⟩ := hh id o ho
    obtain ⟨k1, k2, k0⟩ := h.live id o' h1
    refine ⟨k1, by rcases h2 with rfl | rfl; exact k2; (cases o' <;> exact k2), fun hv => ⟨(k0 (hvd h2 hv)).1, ?_⟩⟩
    have k3 := (k0 (hvd h2 hv)).2
    rcases h2 with rfl | rfl
    · exact k3
    · cases o' with
      | row cells es more rw flat =>
        obtain ⟨arr, el, fz, a, b, c, d, e⟩ := k3
        exact ⟨arr, el, fz, a, b, c, (fun h => by cases h), e⟩
      | iter => exact k3
      | smap => exact k3
  · obtain ⟨oi', a1, a2⟩ := hh i oi hi
    obtain ⟨oj', b1, b2⟩ := hh j oj hj
    exact h.inj i j oi' oj' a1 b1 hij (hrw a2 hr) (hvd a2 hvi) (hvd b2 hvj)
  · obtain ⟨o', h1, h2⟩ := hh id o ho
    exact h.own id o' h1 (hrw h2 hr) (hvd h2 hv)

theorem ap_shut : ∀ (δ : Delta) (H H' : Heap), shutOf H H' → shutOf (ap H δ) (ap H' (shutD δ))
  | [], _, _, h => h
  | (i, o) :: r, H, H', h => ap_shut r (wr H i o) (wr H' i (o.map AObj.shut)) fun id x hx => by
    rw [rd_wr] at hx ⊢
    by_cases e : id = i
    · rw [if_pos e] at hx ⊢
      obtain ⟨o', h1, h2⟩ := Option.map_eq_some_iff.1 hx
      exact ⟨o', h1, .inr h2.symm⟩
    · rw [if_neg e] at hx ⊢
      exact h id x hx

/-- A hint whose new rows are sealed at once. -/
def hSeal {P : Program} (h : Hint P) : Hint P where
  fn o env H := match h.fn o env H with
    | some (out, vc) => some ({ out with δ := shutD out.δ }, vc)
    | none => none
  ok := by
    intro o env H out vc hh hv
    split at hh
    · rename_i out0 vc0 h0
      cases hh
      have k := h.ok h0 hv
      intro F A ψ env1 H1 a w hr h1 h2 h3 K Q hK
      refine k F A ψ env1 H1 a w hr h1 h2 h3 K Q fun ψ1 a1 w1 hr1 => hK ψ1 a1 w1 ?_
      exact ⟨hr1.slot, hr1.len, hr1.defers, hr1.heap.weak (ap_shut out0.δ H1 H1 fun id o ho => ⟨o, ho, .inl rfl⟩)⟩
    · cases hh
end
end Go.Vm
end
section
/- A store into a list at an index that is not known. -/
namespace Go.Vm
noncomputable section
def fSt (P : Program) (o : Oper) (env : List Value) (H : Heap) : Option (Out × Prop) :=
  match o.op with
  | .store t x y =>
    match ev env x with
    | .pointer (some ⟨id, off, none⟩) =>
      match rd H id, P.info? t with
      | some (.row cells es more true flat), some i =>
        if (okv (ev env y) && Nat.beq (ev env y).cells.toList.length i.size && Nat.blt 0 (ev env y).cells.toList.length) = true then
          some (⟨undef, [(id, some (.row (splice cells off (ev env y).cells.toList) es more true (flat && (ev env y).cells.toList.all atom)))], [id], []⟩, off + (ev env y).cells.toList.length ≤ cells.length)
        else none
      | _, _ => none
    | _ => none
  | _ => none

def hSt (P : Program) : Hint P where
  fn := fSt P
  ok := by
    intro o env H out vc h hv
    unfold fSt at h
    split at h
    · rename_i t x y ho
      split at h
      · rename_i id off hx
        split at h
        · rename_i cells es more flat i hrd hi
          split at h
          · rename_i hc
            simp only [Bool.and_eq_true] at hc
            obtain ⟨⟨c1, c2⟩, c3⟩ := hc
            have c2 := Nat.eq_of_beq_eq_true c2
            have c3 : 0 < (ev env y).cells.toList.length := Nat.lt_of_lt_of_le (Nat.lt_succ_self 0) (Nat.le_of_ble_eq_true c3)
            cases h
            refine store_ok ho ?_
            unfold evStore
            rw [hx]
            simp only [hrd, hi]
            have hif : (okv (ev env y) && decide ((ev env y).cells.toList.length = i.size) && decide (off + (ev env y).cells.toList.length ≤ cells.length) && decide (0 < (ev env y).cells.toList.length)) = true := by
              rw [c1, decide_eq_true c2, decide_eq_true hv, decide_eq_true c3]; rfl
            rw [if_pos hif]
          · cases h
        · cases h
      · cases h
    · cases h
end
end Go.Vm
end
section
/- Days on which lines reach a limit: plain laws. -/
open Go Go.Vm Go.Proofs Sp
namespace Sp
noncomputable section
end
end Sp
namespace Qq
noncomputable section
end
end Qq
end
section
/- Ratios and lines: the small functions, and the loops over them. -/
open Go Go.Vm Go.Proofs Sp
namespace Sp
noncomputable section
end
end Sp
namespace Qq
noncomputable section
/-- A ratio whose products do not leave the machine's integers. -/
structure RatIn (r : Int × Int) : Prop where
  n0 : -1000000000000 ≤ r.1
  n1 : r.1 ≤ 1000000000000
  d0 : 0 < r.2
  d1 : r.2 ≤ 1000000
/- The least and the greatest. -/
/- A line's value on a day, in lowest terms. -/
structure LnIn (l : Ln) (x : Int) : Prop where
  a0 : 0 ≤ l.1
  a1 : l.1 ≤ 100000
  b0 : -900000000000 ≤ l.2.1
  b1 : l.2.1 ≤ 900000000000
  s0 : -1000000 ≤ l.2.2.1
  s1 : l.2.2.1 ≤ 1000000
  d0 : 0 < l.2.2.2
  d1 : l.2.2.2 ≤ 1000000
  x0 : 0 ≤ x
  x1 : x ≤ 100000
theorem LnIn.at {l : Ln} {x : Int} (h : LnIn l x) : IntKind.wrap .i64 (l.2.1 + IntKind.wrap .i64 (l.2.2.1 * IntKind.wrap .i64 (x - l.1))) = lnat l x ∧ -1000000000000 ≤ lnat l x ∧ lnat l x ≤ 1000000000000 := by
  obtain ⟨a0, a1, b0, b1, s0, s1, d0, d1, x0, x1⟩ := h
  have g := bmul (A := 1000000) (B := 100000) (by omega) (by omega) s0 s1 (show -100000 ≤ x - l.1 by omega) (show x - l.1 ≤ 100000 by omega)
  rw [wrap_eq (x := x - l.1) (by omega) (by omega), wrap_eq (x := l.2.2.1 * (x - l.1)) (by omega) (by omega), lnat]
  exact ⟨wrap_eq (by omega) (by omega), by omega, by omega⟩
/- A function of each line. -/
noncomputable def z4 (zs : List Int) (off : Nat) : Value := .agg #[.int .i64 (zs.getD off 0), .int .i64 (zs.getD (off + 1) 0), .int .i64 (zs.getD (off + 2) 0), .int .i64 (zs.getD (off + 3) 0)]
/- The reference's value, and range. -/
/- Reaching a limit. -/
theorem LnIn.low {l : Ln} {x : Int} (h : LnIn l x) : LowIn (lnat l x) l.2.2.2 := by
  obtain ⟨_, a, b⟩ := h.at
  have := h.d0
  have := h.d1
  exact ⟨by omega, by omega, by omega, by omega⟩
/-- A corner, near. -/
structure CqIn (c : Ln) (x : Int) : Prop where
  ln : LnIn (lnOf c) x
  u1 : c.2.2.1 ≤ 100000
  b0 : -200000 ≤ c.2.1
  b1 : c.2.1 ≤ 200000
  v0 : -200000 ≤ c.2.2.2
  v1 : c.2.2.2 ≤ 200000
theorem CqIn.at {a b u v x : Int} (h : CqIn (a, b, u, v) x) : IntKind.wrap .i64 (u - a) = u - a ∧ IntKind.wrap .i64 (IntKind.wrap .i64 (b * IntKind.wrap .i64 (u - x)) + IntKind.wrap .i64 (v * IntKind.wrap .i64 (x - a))) = lnat (lnOf (a, b, u, v)) x ∧ 0 < u - a ∧ u - a ≤ 100000 := by
  obtain ⟨hl, u1, b0, b1, v0, v1⟩ := h
  obtain ⟨_, g1, g2⟩ := hl.at
  obtain ⟨a0, a1, _, _, _, _, d0, d1, x0, x1⟩ := hl
  simp only [lnOf] at a0 a1 d0 d1 u1 b0 b1 v0 v1
  have p1 := bmul (A := 200000) (B := 100000) (by omega) (by omega) b0 b1 (show -100000 ≤ u - x by omega) (show u - x ≤ 100000 by omega)
  have p2 := bmul (A := 200000) (B := 100000) (by omega) (by omega) v0 v1 (show -100000 ≤ x - a by omega) (show x - a ≤ 100000 by omega)
  have e : lnat (lnOf (a, b, u, v)) x = b * (u - x) + v * (x - a) := by simp only [lnat, lnOf]; grind
  rw [e, wrap_eq (x := u - x) (by omega) (by omega), wrap_eq (x := x - a) (by omega) (by omega), wrap_eq (x := b * (u - x)) (by omega) (by omega), wrap_eq (x := v * (x - a)) (by omega) (by omega)]
  exact ⟨wrap_eq (by omega) (by omega), wrap_eq (by omega) (by omega), by omega, by omega⟩
end
end Qq
end
