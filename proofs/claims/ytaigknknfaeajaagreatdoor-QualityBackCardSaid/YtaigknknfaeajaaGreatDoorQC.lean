/- The library's contracts, taken over. -/
import Derived.Test.YtaigknknfaeajaaGreatDoorQS
import Derived.Test.YtaigknknfaeajaaGreatDoorZC
open Go Go.Vm Go.Proofs Sp Go.RowKit Go.Sort
namespace Qq
noncomputable section

theorem HRel.lays' {P : Program} {F : Fr P} {A : Nat → Prop} {ψ : Nat → Gh} {H : Heap} {w : World} (h : HRel F A ψ H w) : lays P w := h.fr.lay w h.fr.block h.fr.size

theorem below_grow (w : World) (k : Nat) (os : Array Obj) : Below w.heap.size w (grow (w.drewN k) os) :=
  ⟨rfl, rfl, rfl, by simp [grow, World.drewN], fun j hj => by
    show (w.heap ++ os)[j]? = _
    rw [Array.getElem?_append_left hj]⟩

noncomputable def orcItoaV : OrcV
  | [.int .i64 n], [] => some (.string ⟨(Lib.itoa n).toArray⟩, [], -9223372036854775808 ≤ n ∧ n ≤ 9223372036854775807)
  | _, _ => none
theorem gTab : Tryz.prog.globalNamed "internal/strconv.uint64pow10" ≠ none := by
  have h : (Tryz.prog.globalNamed "internal/strconv.uint64pow10").isSome = true := by kernel_rfl
  intro e; rw [e] at h; cases h
theorem okItoaV : OkV Tryz.prog 182 orcItoaV := by
  intro args H ret H' vc h hv
  unfold orcItoaV at h
  split at h
  · rename_i n
    cases h
    refine small_of_calls rfl fun F A ψ w args' hh hl => ?_
    have e0 : args' = [.int .i64 n] := by
      have h1 := hl.len
      match args', h1 with
      | [v], _ =>
        have := (hl.at_ 0).of_atom rfl
        simpa using this
    subst e0
    refine (Tryz.strconv_Itoa n hv.1 hv.2 w (HRel.lays' hh gTab)).mono ?_
    rintro e w' ⟨rfl, k, os, rfl⟩
    refine ⟨rfl, ?_⟩
    exact below_grow w k os
  · cases h

/-- A number that is known. -/
noncomputable def orcItoa : Orc
  | [.int .i64 n], [] => if -9223372036854775808 ≤ n ∧ n ≤ 9223372036854775807 then some (.string ⟨(Lib.itoa n).toArray⟩, []) else none
  | _, _ => none
theorem okItoa : Ok Tryz.prog 182 orcItoa := by
  intro args H ret H' h
  unfold orcItoa at h
  split at h
  · rename_i n
    split at h
    · rename_i hc
      cases h
      exact okItoaV _ _ _ _ _ rfl hc
    · cases h
  · cases h

/-- Strings in cells. -/
noncomputable def strsOf : List Value → Option (List ByteArray)
  | [] => some []
  | .string s :: r => (strsOf r).map (s :: ·)
  | _ => none
theorem strsOf_eq : ∀ {cs : List Value} {l : List ByteArray}, strsOf cs = some l → cs = l.map .string
  | [], l, h => by simp [strsOf] at h; subst h; rfl
  | v :: r, l, h => by
    cases v with
    | string s =>
      simp only [strsOf] at h
      obtain ⟨l', h1, rfl⟩ := Option.map_eq_some_iff.1 h
      rw [strsOf_eq h1]; rfl
    | _ => simp [strsOf] at h
noncomputable def orcJoinV : OrcV
  | [.slice (some ⟨0, 0, none⟩) n _c, .string sep], [some (.row cells es more rw flat)] =>
    match strsOf cells with
    | some l => if n = l.length then some (.string ⟨(Lib.join (l.map (·.data.toList)) sep.data.toList).toArray⟩, [some (.row cells es more rw flat)], n ≤ 140737488355328 ∧ (Lib.join (l.map (·.data.toList)) sep.data.toList).length ≤ 140737488355328) else none
    | none => none
  | _, _ => none
theorem okJoinV : OkV Tryz.prog 223 orcJoinV := by
  intro args H ret H' vc h hv
  unfold orcJoinV at h
  split at h
  · rename_i n c sep cells es more rw flat
    split at h
    · rename_i l hl
      split at h
      · rename_i hn
        cases h
        have hcs := strsOf_eq hl
        refine small_of_calls rfl fun F A ψ w args' hh hl' => ?_
        have h1 := hl'.len
        match args', h1 with
        | [v, u], _ =>
          have e1 := (hl'.at_ 1).of_atom rfl
          have e0 := hl'.at_ 0
          simp only [List.getD_cons_zero, List.getD_cons_succ] at e0 e1
          subst e1
          obtain ⟨hA, ad, cap', rfl, hcap, ha, _⟩ := e0.slice_inv
          subst hn
          by_cases hl0 : l.length = 0
          · obtain rfl := List.eq_nil_of_length_eq_zero hl0
            refine (Tryz.strings_Join_none ad cap' sep w).mono ?_
            rintro e w' ⟨rfl, rfl⟩
            exact ⟨rfl, Below.refl _ _⟩
          obtain rfl := ha.resolve_left hl0
          obtain ⟨hblk, arr, el, fz, hb, hes, hce, _, _⟩ := (hh.live 0 _ rfl).2.2 (vd_row (by rw [hcs]; simp; omega))
          refine (Tryz.strings_Join (ψ 0).blk ((ψ 0).off + 0) cap' l sep w (fun j x hx => ?_) hblk hv.1 hcap hv.2).mono ?_
          · have hj := (List.getElem?_eq_some_iff.1 hx).1
            obtain ⟨v', k1, k2, k3⟩ := hce j (by rw [hcs]; simpa using hj)
            have : cells.getD j poi = .string x := by rw [hcs]; simp [List.getD_eq_getElem?_getD, hx]
            rw [this] at k3
            have := k3.of_atom rfl
            subst this
            simp [World.cell?, hb, k1]
          · rintro e w' ⟨rfl, hw⟩
            exact ⟨rfl, hw⟩
      · cases h
    · cases h
  · cases h
noncomputable def orcJoin : Orc
  | [.slice (some ⟨0, 0, none⟩) n _, .string sep], [some (.row cells es more rw flat)] =>
    match strsOf cells with
    | some l => if n = l.length then (if n ≤ 1000 ∧ (Lib.join (l.map (·.data.toList)) sep.data.toList).length ≤ 1000 then some (.string ⟨(Lib.join (l.map (·.data.toList)) sep.data.toList).toArray⟩, [some (.row cells es more rw flat)]) else none) else none
    | none => none
  | _, _ => none
theorem okJoin : Ok Tryz.prog 223 orcJoin := by
  intro args H ret H' h
  unfold orcJoin at h
  split at h
  · rename_i n c sep cells es more rw flat
    split at h
    · rename_i l hl
      split at h
      · rename_i hn
        split at h
        · rename_i hc
          cases h
          refine okJoinV _ _ _ _ (n ≤ 140737488355328 ∧ (Lib.join (l.map (·.data.toList)) sep.data.toList).length ≤ 140737488355328) ?_ ⟨by omega, by omega⟩
          simp only [orcJoinV, hl, if_pos hn]
        · cases h
      · cases h
    · cases h
  · cases h
noncomputable def lib0 : List (Nat × Orc) := [(182, orcItoa), (223, orcJoin)]
theorem lib0_all : ∀ p ∈ lib0, Ok Tryz.prog p.1 p.2 := all_cons okItoa (all_cons okJoin all_nil)
end
end Qq
