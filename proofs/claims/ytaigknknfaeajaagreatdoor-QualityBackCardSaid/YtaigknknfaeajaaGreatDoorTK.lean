/- Texts: the lines of a string. -/
import Derived.Test.YtaigknknfaeajaaGreatDoorZK
import Derived.Test.YtaigknknfaeajaaGreatDoorZM
open Go Go.Vm Go.Proofs Sp
namespace Sp
noncomputable section
/-- How many lines end; how many there are; a line; what is left. -/
def lnC (s : ByteArray) : Nat := (spU s 10).length - 1
def lnN (s : ByteArray) : Nat := if ((spU s 10).getD (lnC s) ⟨#[]⟩ == ⟨#[]⟩) = true then lnC s else lnC s + 1
def lnE (s : ByteArray) (i : Nat) : ByteArray := if i < lnC s then cat ((spU s 10).getD i ⟨#[]⟩) ⟨#[10]⟩ else (spU s 10).getD i ⟨#[]⟩
def lnR (s : ByteArray) (i : Nat) : ByteArray := if i ≤ lnC s then rsU s 10 i else ⟨#[]⟩
end
end Sp
namespace Qq
noncomputable section
noncomputable def hcL (s : ByteArray) : Heap := [some (.row [.string s] 0 false true true)]
noncomputable def elL (s : ByteArray) (i : Nat) : List Value := [.string (lnE s i)]
noncomputable def lyL (s : ByteArray) (l : Nat) : Ly where
  σ := Nat
  E _ := slots 25 [(0, .func (.yield l) #[] #[]), (1, .pointer (some ⟨0, 0, none⟩))]
  Hp i := [some (.row [.string (lnR s i)] 0 false true true)]
  I i := i ≤ lnN s
  m i := lnN s - i
  gi i := i
noncomputable def hsL9 (s : ByteArray) (l : Nat) : Ys Tryz.prog where
  ys := [6]
  ly _ := some (lyL s l)
  cl _ := keep 25 [0, 1]
  au := auS [(226, hCa Tryz.prog 226 orcIb okIb)]
noncomputable def cpL : List Value := [.pointer (some ⟨0, 0, none⟩)]
theorem itL_t (s : ByteArray) (_K : Prop) :
    (Ow.iterZ Tryz.prog c0 (hsL9 s) (hcL s) (lnN s) (elL s) (225 : FuncId) cpL) =
    ((List.all [(0 : Nat)] fun (id : Nat) => Ow.lowK (rd (hcL s) id) (rd (hcL s) id)) = true ∧ ∀ (l : Nat), (false = false ∧ ∃ (s_1 : Nat), Is (s_1 ≤ lnN s) ∧ Is ((0 : Nat) = s_1) ∧ [Value.func (Fn.yield l) #[] #[], Value.pointer (some { block := (0 : Nat), off := (0 : Nat) }), poi, poi, poi, poi, poi, poi, poi, poi, poi, poi, poi, poi, poi, poi, poi, poi, poi, poi, poi, poi, poi, poi, poi] = [Value.func (Fn.yield l) #[] #[], Value.pointer (some { block := (0 : Nat), off := (0 : Nat) }), poi, poi, poi, poi, poi, poi, poi, poi, poi, poi, poi, poi, poi, poi, poi, poi, poi, poi, poi, poi, poi, poi, poi] ∧ some (AObj.row [Value.string s] (0 : Nat) false true true) :: noH = some (AObj.row [Value.string (lnR s s_1)] (0 : Nat) false true true) :: noH) ∧ ∀ (s_1 : Nat), Is (s_1 ≤ lnN s) → br (decide ((0 : Int) < (↑(ByteArray.size (lnR s s_1)) : Int))) (Is True ∧ br (decide ((0 : Int) ≤ ixS (lnR s s_1) (10 : Int))) (Is ((0 : Int) ≤ (0 : Int) ∧ (0 : Int) ≤ IntKind.wrap IntKind.i64 (ixS (lnR s s_1) (10 : Int) + (1 : Int)) ∧ IntKind.wrap IntKind.i64 (ixS (lnR s s_1) (10 : Int) + (1 : Int)) ≤ (↑(ByteArray.size (lnR s s_1)) : Int)) ∧ Is ((0 : Int) ≤ IntKind.wrap IntKind.i64 (ixS (lnR s s_1) (10 : Int) + (1 : Int)) ∧ IntKind.wrap IntKind.i64 (ixS (lnR s s_1) (10 : Int) + (1 : Int)) ≤ (↑(ByteArray.size (lnR s s_1)) : Int) ∧ (↑(ByteArray.size (lnR s s_1)) : Int) ≤ (↑(ByteArray.size (lnR s s_1)) : Int)) ∧ Is (s_1 < lnN s) ∧ l = l ∧ [Value.string (sub (lnR s s_1) (0 : Int) (IntKind.wrap IntKind.i64 (ixS (lnR s s_1) (10 : Int) + (1 : Int))))] = [Value.string (lnE s s_1)] ∧ (false = false ∧ ∃ (s' : Nat), Is (s' ≤ lnN s) ∧ Is (lnN s - s' < lnN s - s_1) ∧ Is (s_1 + (1 : Nat) = s') ∧ [Value.func (Fn.yield l) #[] #[], Value.pointer (some { block := (0 : Nat), off := (0 : Nat) }), poi, poi, poi, poi, poi, poi, poi, poi, poi, poi, poi, poi, poi, poi, poi, poi, poi, poi, poi, poi, poi, poi, poi] = [Value.func (Fn.yield l) #[] #[], Value.pointer (some { block := (0 : Nat), off := (0 : Nat) }), poi, poi, poi, poi, poi, poi, poi, poi, poi, poi, poi, poi, poi, poi, poi, poi, poi, poi, poi, poi, poi, poi, poi] ∧ some (AObj.row [Value.string (sub (lnR s s_1) (IntKind.wrap IntKind.i64 (ixS (lnR s s_1) (10 : Int) + (1 : Int))) (↑(ByteArray.size (lnR s s_1)) : Int))] (0 : Nat) false true (true && List.all [Value.string (sub (lnR s s_1) (IntKind.wrap IntKind.i64 (ixS (lnR s s_1) (10 : Int) + (1 : Int))) (↑(ByteArray.size (lnR s s_1)) : Int))] atom)) :: noH = some (AObj.row [Value.string (lnR s s')] (0 : Nat) false true true) :: noH) ∧ Is (s_1 < lnN s)) (Is (s_1 < lnN s) ∧ l = l ∧ [Value.string (lnR s s_1)] = [Value.string (lnE s s_1)] ∧ (false = false ∧ ∃ (s' : Nat), Is (s' ≤ lnN s) ∧ Is (lnN s - s' < lnN s - s_1) ∧ Is (s_1 + (1 : Nat) = s') ∧ [Value.func (Fn.yield l) #[] #[], Value.pointer (some { block := (0 : Nat), off := (0 : Nat) }), poi, poi, poi, poi, poi, poi, poi, poi, poi, poi, poi, poi, poi, poi, poi, poi, poi, poi, poi, poi, poi, poi, poi] = [Value.func (Fn.yield l) #[] #[], Value.pointer (some { block := (0 : Nat), off := (0 : Nat) }), poi, poi, poi, poi, poi, poi, poi, poi, poi, poi, poi, poi, poi, poi, poi, poi, poi, poi, poi, poi, poi, poi, poi] ∧ some (AObj.row [Value.string { data := #[] }] (0 : Nat) false true (true && List.all [Value.string { data := #[] }] atom)) :: noH = some (AObj.row [Value.string (lnR s s')] (0 : Nat) false true true) :: noH) ∧ Is (s_1 < lnN s))) (Is (s_1 = lnN s))) := by kernel_rfl
theorem rsU_line {s : ByteArray} {c : UInt8} {i : Nat} (h : i + 1 < (spU s c).length) : sub (rsU s c i) 0 ((((spU s c).getD i ⟨#[]⟩).size + 1 : Nat) : Int) = cat ((spU s c).getD i ⟨#[]⟩) ⟨#[c]⟩ := by
  rw [spU_len, ← spl_len] at h
  rw [spU_at]
  have e : jn c ((spl c s.data.toList).drop i) = (spl c s.data.toList).getD i [] ++ c :: jn c ((spl c s.data.toList).drop (i + 1)) := by
    rw [get_drop [] (show i < (spl c s.data.toList).length by omega), get_drop [] (show i + 1 < (spl c s.data.toList).length by omega), jn]
  rw [rsU, e]
  generalize (spl c s.data.toList).getD i [] = a
  generalize jn c ((spl c s.data.toList).drop (i + 1)) = r
  have := sub_eq (ofL (a ++ c :: r)) 0 ((ofL a).size + 1)
  rw [show ((0 : Nat) : Int) = 0 from rfl] at this
  rw [this, drS, List.drop_zero, data_ofL, size_ofL, Nat.sub_zero]
  show _ = cat (ofL a) (ofL [c])
  rw [cat_ofL, show a ++ c :: r = (a ++ [c]) ++ r by simp, show a.length + 1 = (a ++ [c]).length by simp, List.take_left]
theorem ln_two (s : ByteArray) : lnC s + 1 = (spU s 10).length := by
  rw [lnC, spU_len]; omega
theorem ixb_no {c : UInt8} : ∀ {a : List UInt8}, c ∉ a → Lib.indexByte a c = -1
  | [], _ => rfl
  | b :: a, h => by
    simp only [List.mem_cons, not_or] at h
    have hbe : (b == c) = false := beq_eq_false_iff_ne.2 (fun e => h.1 e.symm)
    rw [Lib.indexByte, hbe, ixb_no h.2]; rfl
theorem ln_last (s : ByteArray) : lnR s (lnC s) = (spU s 10).getD (lnC s) ⟨#[]⟩ ∧ ixS (lnR s (lnC s)) 10 = -1 := by
  have e : lnR s (lnC s) = (spU s 10).getD (lnC s) ⟨#[]⟩ := by rw [lnR, if_pos (Nat.le_refl _), rsU_last (ln_two s)]
  refine ⟨e, ?_⟩
  rw [e, spU_at]
  have h2 := ln_two s
  rw [spU_len, ← spl_len] at h2
  refine ixb_no (spl_free (c := 10) s.data.toList _ ?_)
  rw [List.getD_eq_getElem?_getD, List.getElem?_eq_getElem (show lnC s < _ by omega)]
  exact List.getElem_mem _
theorem beq_size (s : ByteArray) : (s == ⟨#[]⟩) = decide (s.size = 0) := by
  rw [← beq_nil, Lib.toList_data]
  rw [size_len]
  cases s.data.toList <;> rfl
set_option maxRecDepth 100000 in
theorem itL_ok {s : ByteArray} (h9 : s.size ≤ 10000) : Ow.IterOwn Tryz.prog 225 cpL (hcL s) (lnN s) (elL s) :=
  Ow.iterZ_ok (hz := hsL9 s) hm c0_ok (by
    rw [itL_t s True]
    have h2 := ln_two s
    have hsz : ∀ i, ((spU s 10).getD i ⟨#[]⟩).size ≤ s.size := fun i => by rw [spU_at, size_ofL, size_len]; exact spl_small _ _ _
    have hl := ln_last s
    have z0 : lnR s 0 = s := by rw [lnR, if_pos (Nat.zero_le _), rsU_zero]
    refine ⟨rfl, fun l => ⟨⟨rfl, (0 : Nat), ⟨Nat.zero_le _⟩, ⟨rfl⟩, by first | trivial | rfl, by rw [z0]⟩, fun i hi => ?_⟩⟩
    have hi := hi.out
    have hN : lnC s ≤ lnN s ∧ lnN s ≤ lnC s + 1 := by rw [lnN]; split <;> omega
    rcases Nat.lt_trichotomy i (lnC s) with hc | hc | hc
    · have e1 : lnR s i = rsU s 10 i := by rw [lnR, if_pos (by omega)]
      have e2 : lnR s (i + 1) = rsU s 10 (i + 1) := by rw [lnR, if_pos (by omega)]
      have e3 : lnE s i = cat ((spU s 10).getD i ⟨#[]⟩) ⟨#[10]⟩ := by rw [lnE, if_pos hc]
      have hlt : i + 1 < (spU s 10).length := by omega
      obtain ⟨q1, _, q3, q4⟩ := rsU_step hlt
      have q5 := rsU_line hlt
      have hs := hsz i
      have q1' : ixS (rsU s 10 i) 10 = (((spU s 10).getD i ⟨#[]⟩).size : Int) := q1
      have w1 : IntKind.wrap .i64 ((((spU s 10).getD i ⟨#[]⟩).size : Int) + 1) = ((((spU s 10).getD i ⟨#[]⟩).size + 1 : Nat) : Int) := by rw [wrap_eq (by omega) (by omega)]; omega
      rw [e1, q1', w1, q4, q5, e3]
      refine br_of (fun _ => ⟨⟨trivial⟩, br_of (fun _ => ⟨⟨by omega, by omega, by omega⟩, ⟨by omega, by omega, by omega⟩, ⟨by omega⟩, rfl, by first | trivial | rfl, ⟨by first | trivial | rfl, i + 1, ⟨by omega⟩, ⟨by omega⟩, ⟨rfl⟩, by first | trivial | rfl, by rw [e2]; first | trivial | rfl⟩, ⟨by omega⟩⟩) (fun h => ?_)⟩) (fun h => ?_)
      · have := of_decide_eq_false h; omega
      · have := of_decide_eq_false h; omega
    · subst hc
      rw [hl.2, hl.1]
      by_cases hlast : ((spU s 10).getD (lnC s) ⟨#[]⟩ == ⟨#[]⟩) = true
      · have hN' : lnN s = lnC s := if_pos hlast
        rw [beq_size] at hlast
        have h0 := of_decide_eq_true hlast
        refine br_of (fun h => ?_) (fun _ => ⟨hN'.symm⟩)
        have := of_decide_eq_true h; omega
      · have hN' : lnN s = lnC s + 1 := if_neg hlast
        rw [beq_size] at hlast
        have h0 : ¬ ((spU s 10).getD (lnC s) ⟨#[]⟩).size = 0 := fun e => hlast (decide_eq_true e)
        have e3 : lnE s (lnC s) = (spU s 10).getD (lnC s) ⟨#[]⟩ := by rw [lnE, if_neg (Nat.lt_irrefl _)]
        have e4 : lnR s (lnC s + 1) = ⟨#[]⟩ := by rw [lnR, if_neg (by omega)]
        rw [e3]
        refine br_of (fun _ => ⟨⟨trivial⟩, br_of (fun h => ?_) (fun _ => ⟨⟨by omega⟩, rfl, by first | trivial | rfl, ⟨by first | trivial | rfl, lnC s + 1, ⟨by omega⟩, ⟨by omega⟩, ⟨rfl⟩, by first | trivial | rfl, by rw [e4]; first | trivial | rfl⟩, ⟨by omega⟩⟩)⟩) (fun h => ?_)
        · have := of_decide_eq_true h; omega
        · have := of_decide_eq_false h; omega
    · have e4 : lnR s i = ⟨#[]⟩ := by rw [lnR, if_neg (by omega)]
      rw [e4]
      refine br_of (fun h => ?_) (fun _ => ⟨by omega⟩)
      have := of_decide_eq_true h
      have e : ByteArray.size ⟨#[]⟩ = 0 := rfl
      rw [e] at this; omega)
end
end Qq
