/- Parts of the proof: VmAQ, TA, TB, TC, TD, TE. -/
import Derived.Test.YtaigknknfaeajaaGreatDoorZP
import Derived.Test.YtaigknknfaeajaaGreatDoorZO
import Derived.Test.YtaigknknfaeajaaGreatDoorZA
import Derived.Lib.SplitLaws
import Derived.Lib.IndexMore
import Derived.Test.YtaigknknfaeajaaGreatDoorZK
import Derived.Lib.ItoaLen
import Derived.Test.YtaigknknfaeajaaGreatDoorZG
import Derived.Test.YtaigknknfaeajaaGreatDoorQC
import Derived.Test.YtaigknknfaeajaaGreatDoorZF
section
/- A nil list in a cell, taken as an empty part of a row. -/
namespace Go.Vm
noncomputable section
theorem HRel.cellView {P : Program} {F : Fr P} {A : Nat → Prop} {ψ : Nat → Gh} {H : Heap} {w : World} (h : HRel F A ψ H w) {id j jd off es : Nat} {cells : List Value} {more flat : Bool} {o : AObj}
    (hr : rd H id = some (.row cells es more true flat)) (hc : cells[j]? = some (.slice none 0 0)) (ho : rd H jd = some o) :
    HRel F A ψ (wr H id (some (.row (cells.set j (.slice (some ⟨jd, off, none⟩) 0 big)) es more true false))) w := by
  have hl := h.live id _ hr
  have hlt : j < cells.length := (List.getElem?_eq_some_iff.1 hc).1
  have hv : (AObj.row cells es more true flat).vd = false := vd_row (by omega)
  obtain ⟨_, arr, el, fz, hb, hes, hce, hrw, _⟩ := hl.2.2 hv
  have hA : A jd := (h.live jd o ho).1
  refine h.update hr rfl hv (show (ψ id).es = es from hes) ⟨rfl, rfl, rfl, Nat.le_refl _, fun _ _ _ => rfl⟩ ⟨arr, el, fz, hb, hes, fun i hi => ?_, fun h => by simpa using hrw h, fun h => by cases h⟩
  rw [List.length_set] at hi
  obtain ⟨v', k1, k2, k3⟩ := hce i hi
  refine ⟨v', k1, k2, ?_⟩
  by_cases e : i = j
  · subst e
    have e1 : cells.getD i poi = .slice none 0 0 := by rw [List.getD_eq_getElem?_getD, hc]; rfl
    rw [e1] at k3
    have e2 : (cells.set i (.slice (some ⟨jd, off, none⟩) 0 big)).getD i poi = .slice (some ⟨jd, off, none⟩) 0 big := by
      rw [List.getD_eq_getElem?_getD, List.getElem?_set_self (by omega)]; rfl
    rw [e2]
    have := k3.of_atom rfl
    subst this
    exact .view jd off 0 0 none hA (Nat.le_refl _) (.inl rfl)
  · have e2 : (cells.set j (.slice (some ⟨jd, off, none⟩) 0 big)).getD i poi = cells.getD i poi := by
      rw [List.getD_eq_getElem?_getD, List.getElem?_set_ne (fun h => e h.symm), List.getD_eq_getElem?_getD]
    rw [e2]
    exact k3
theorem SmallRes.cellView {P : Program} {f : FuncId} {args : List Value} {H H' : Heap} {ret : Value} (h : SmallRes P f args H ret H') {id j jd off es : Nat} {cells : List Value} {more flat : Bool} {o : AObj}
    (hr : rd H' id = some (.row cells es more true flat)) (hc : cells[j]? = some (.slice none 0 0)) (ho : rd H' jd = some o) :
    SmallRes P f args H ret (wr H' id (some (.row (cells.set j (.slice (some ⟨jd, off, none⟩) 0 big)) es more true false))) := by
  intro F A ψ w args' hh hb hA hψ hl
  refine (h F A ψ w args' hh hb hA hψ hl).mono ?_
  rintro e w' ⟨v', A', ψ', rfl, k1, k2, k3⟩
  refine ⟨v', A', ψ', rfl, k1.cellView hr hc ho, fun i hi => ?_, k3⟩
  exact Nat.lt_of_lt_of_le (k2 i hi) (len_wr H' id _).1
end
end Go.Vm
end
section
/- Texts: the parts of a string, plain. -/
open Go Go.Vm
namespace Sp
noncomputable section
/-- The parts between bytes c. -/
def spl (c : UInt8) : List UInt8 → List (List UInt8)
  | [] => [[]]
  | b :: r => if b = c then [] :: spl c r else (b :: (spl c r).headD []) :: (spl c r).tail
def ofL (l : List UInt8) : ByteArray := ⟨l.toArray⟩
end
end Sp
open Sp
namespace Qq
noncomputable section
theorem spl_one {c : UInt8} : ∀ {a : List UInt8}, c ∉ a → spl c a = [a]
  | [], _ => rfl
  | b :: r, h => by
    simp only [List.mem_cons, not_or] at h
    rw [spl, if_neg (fun e => h.1 e.symm), spl_one h.2]; rfl
theorem spl_cut {c : UInt8} {r : List UInt8} : ∀ {a : List UInt8}, c ∉ a → spl c (a ++ c :: r) = a :: spl c r
  | [], _ => by rw [List.nil_append, spl, if_pos rfl]
  | b :: a, h => by
    simp only [List.mem_cons, not_or] at h
    rw [List.cons_append, spl, if_neg (fun e => h.1 e.symm), spl_cut h.2]; rfl
/-- A string is one part, or a part, the byte, and more. -/
theorem spl_or (c : UInt8) : ∀ l : List UInt8, c ∉ l ∨ ∃ a r, c ∉ a ∧ l = a ++ c :: r
  | [] => .inl (by simp)
  | b :: l => by
    by_cases h : b = c
    · subst h; exact .inr ⟨[], l, by simp, rfl⟩
    · rcases spl_or c l with h1 | ⟨a, r, h1, h2⟩
      · exact .inl (by simp only [List.mem_cons, not_or]; exact ⟨fun e => h e.symm, h1⟩)
      · exact .inr ⟨b :: a, r, by simp only [List.mem_cons, not_or]; exact ⟨fun e => h e.symm, h1⟩, by rw [h2]; rfl⟩
theorem spl_ind {c : UInt8} {P : List UInt8 → Prop} (h1 : ∀ a, c ∉ a → P a) (h2 : ∀ a r, c ∉ a → P r → P (a ++ c :: r)) : ∀ (k : Nat) (l : List UInt8), l.length ≤ k → P l
  | k, l, h => by
    rcases spl_or c l with h3 | ⟨a, r, h3, rfl⟩
    · exact h1 l h3
    · match k with
      | 0 => simp at h
      | k + 1 => exact h2 a r h3 (spl_ind h1 h2 k r (by simp only [List.length_append, List.length_cons] at h; omega))
theorem spl_all {c : UInt8} {P : List UInt8 → Prop} (h1 : ∀ a, c ∉ a → P a) (h2 : ∀ a r, c ∉ a → P r → P (a ++ c :: r)) (l : List UInt8) : P l := spl_ind h1 h2 l.length l (Nat.le_refl _)
theorem spl_len (c : UInt8) (l : List UInt8) : (spl c l).length = l.count c + 1 := by
  refine spl_all (c := c) (P := fun l => (spl c l).length = l.count c + 1) (fun a h => ?_) (fun a r h ih => ?_) l
  · rw [spl_one h, List.count_eq_zero_of_not_mem h]; rfl
  · rw [spl_cut h, List.length_cons, ih, List.count_append, List.count_eq_zero_of_not_mem h, List.count_cons_self]; omega
theorem spl_free {c : UInt8} (l : List UInt8) : ∀ p ∈ spl c l, c ∉ p := by
  refine spl_all (c := c) (P := fun l => ∀ p ∈ spl c l, c ∉ p) (fun a h => ?_) (fun a r h ih => ?_) l
  · rw [spl_one h]; intro p hp; rw [List.mem_singleton.1 hp]; exact h
  · rw [spl_cut h]; intro p hp
    rcases List.mem_cons.1 hp with rfl | hp
    · exact h
    · exact ih p hp
theorem ofL_data (s : ByteArray) : ofL s.data.toList = s := Lib.mk_data s
theorem data_ofL (l : List UInt8) : (ofL l).data.toList = l := rfl
/-- Put together again. -/
def jn (c : UInt8) : List (List UInt8) → List UInt8
  | [] => []
  | [a] => a
  | a :: b :: r => a ++ c :: jn c (b :: r)
theorem jn_spl (c : UInt8) (l : List UInt8) : jn c (spl c l) = l := by
  refine spl_all (c := c) (P := fun l => jn c (spl c l) = l) (fun a h => ?_) (fun a r h ih => ?_) l
  · rw [spl_one h]; rfl
  · rw [spl_cut h]
    cases hs : spl c r with
    | nil => have := spl_len c r; rw [hs] at this; simp at this
    | cons p q => rw [jn, ← hs, ih]
theorem spl_jn {c : UInt8} : ∀ {l : List (List UInt8)}, l ≠ [] → (∀ p ∈ l, c ∉ p) → spl c (jn c l) = l
  | [], h, _ => absurd rfl h
  | [a], _, h => spl_one (h a (by simp))
  | a :: b :: r, _, h => by
    rw [jn, spl_cut (h a (by simp)), spl_jn (by simp) (fun p hp => h p (List.mem_cons_of_mem _ hp))]
end
end Qq
end
section
/- Texts: what a text of a section says, plain. -/
open Go Go.Vm Sp
namespace Sp
noncomputable section
def wSec : List UInt8 := [115, 101, 99, 116, 105, 111, 110]
def wMea : List UInt8 := [109, 101, 97, 115, 117, 114, 101, 100]
def wAct : List UInt8 := [97, 99, 116]
def digB (b : UInt8) : Bool := decide (48 ≤ b.toNat) && decide (b.toNat ≤ 57)
/-- The number of digits. -/
def dgF : Int → List UInt8 → Int
  | n, [] => n
  | n, b :: r => dgF (10 * n + ((b.toNat : Int) - 48)) r
def dgOk (l : List UInt8) : Bool := decide (l ≠ []) && decide (l.length ≤ 9) && (decide (l.length = 1) || decide (l.headD 0 ≠ 48)) && l.all digB
/-- A section that is read: name, numbers, interventions. -/
structure Rd where
  nm : List UInt8
  zs : List Int
  ks : List (Int × ByteArray)
end
end Sp
end
section
/- Texts: numbers, and sections, printed. -/
open Go Go.Vm Go.Proofs Sp
namespace Sp
noncomputable section
/-- A line of a measurement, of an intervention. -/
def lnM (zs : List Int) (i : Nat) : List UInt8 := wMea ++ 32 :: (Lib.itoa (zs.getD (i * 2) 0) ++ 32 :: (Lib.itoa (zs.getD (i * 2 + 1) 0) ++ [10]))
def lnK (ks : List (Int × ByteArray)) (i : Nat) : List UInt8 := wAct ++ 32 :: (Lib.itoa (ks.getD i (0, ⟨#[]⟩)).1 ++ 32 :: ((ks.getD i (0, ⟨#[]⟩)).2.data.toList ++ [10]))
def txM (nm : ByteArray) (zs : List Int) : Nat → List UInt8
  | 0 => wSec ++ 32 :: (nm.data.toList ++ [10])
  | i + 1 => txM nm zs i ++ lnM zs i
def txK (nm : ByteArray) (zs : List Int) (n : Nat) (ks : List (Int × ByteArray)) : Nat → List UInt8
  | 0 => txM nm zs n
  | i + 1 => txK nm zs n ks i ++ lnK ks i
/-- The text of a number. -/
def itS (n : Int) : ByteArray := ofL (Lib.itoa n)
/-- What Print gives: a text, or nothing. -/
def ppS (e : Int) (t : List UInt8) : ByteArray := if e = 0 then ofL t else ⟨#[]⟩
/-- Words, put together. -/
def jnS (l : List ByteArray) (sep : ByteArray) : ByteArray := ofL (Lib.join (l.map (·.data.toList)) sep.data.toList)
end
end Sp
namespace Qq
noncomputable section
theorem size_ofL (l : List UInt8) : (ofL l).size = l.length := rfl
theorem cat_ofL (a b : List UInt8) : cat (ofL a) (ofL b) = ofL (a ++ b) := ByteArray.mk_append_mk a b
/- Sections, printed: the reference. -/
/-- What may be printed. -/
structure PrOk (nm : ByteArray) (zs : List Int) (n : Nat) (ks : List (Int × ByteArray)) (k : Nat) : Prop where
  nm : nm.size ≤ 1000000
  n0 : zs.length = n * 2
  n1 : n ≤ 1000
  k0 : ks.length = k
  k1 : k ≤ 1000
  z : ∀ i, i < n * 2 → 0 ≤ zs.getD i 0 ∧ zs.getD i 0 ≤ 1000000000
  d : ∀ i, i < k → 0 ≤ (ks.getD i (0, ⟨#[]⟩)).1 ∧ (ks.getD i (0, ⟨#[]⟩)).1 ≤ 1000000000
  w : ∀ i, i < k → (ks.getD i (0, ⟨#[]⟩)).2.size ≤ 1000000
theorem it_len {n : Int} (h0 : 0 ≤ n) (h1 : n ≤ 1000000000) : (Lib.itoa n).length ≤ 21 := Lib.itoa_length_le n (by omega) (by omega)
theorem size_data (s : ByteArray) : s.data.toList.length = s.size := (Lib.size_eq s).symm
theorem PrOk.lnM {nm : ByteArray} {zs : List Int} {n : Nat} {ks : List (Int × ByteArray)} {k : Nat} (h : PrOk nm zs n ks k) {i : Nat} (hi : i < n) : (Sp.lnM zs i).length ≤ 60 := by
  have a1 := h.z (i * 2) (by omega)
  have a2 := h.z (i * 2 + 1) (by omega)
  have b1 := it_len a1.1 a1.2
  have b2 := it_len a2.1 a2.2
  simp only [Sp.lnM, wMea, List.length_append, List.length_cons, List.length_nil]
  omega
theorem PrOk.lnK {nm : ByteArray} {zs : List Int} {n : Nat} {ks : List (Int × ByteArray)} {k : Nat} (h : PrOk nm zs n ks k) {i : Nat} (hi : i < k) : (Sp.lnK ks i).length ≤ 1000060 := by
  have a1 := h.d i hi
  have b1 := it_len a1.1 a1.2
  have b2 := h.w i hi
  simp only [Sp.lnK, wAct, List.length_append, List.length_cons, List.length_nil, size_data]
  omega
theorem PrOk.txM {nm : ByteArray} {zs : List Int} {n : Nat} {ks : List (Int × ByteArray)} {k : Nat} (h : PrOk nm zs n ks k) : ∀ s, s ≤ n → (Sp.txM nm zs s).length ≤ 1000060 + s * 60
  | 0, _ => by
    have := h.nm
    simp only [Sp.txM, wSec, List.length_append, List.length_cons, List.length_nil, size_data]
    omega
  | s + 1, hs => by
    have := h.txM s (by omega)
    have := h.lnM (i := s) (by omega)
    simp only [Sp.txM, List.length_append]
    omega
theorem PrOk.txK {nm : ByteArray} {zs : List Int} {n : Nat} {ks : List (Int × ByteArray)} {k : Nat} (h : PrOk nm zs n ks k) : ∀ s, s ≤ k → (Sp.txK nm zs n ks s).length ≤ 1060060 + s * 1000060
  | 0, _ => by
    have := h.txM n (Nat.le_refl n)
    have := h.n1
    simp only [Sp.txK]
    omega
  | s + 1, hs => by
    have := h.txK s (by omega)
    have := h.lnK (i := s) (by omega)
    simp only [Sp.txK, List.length_append]
    omega
theorem size_cat (a b : ByteArray) : (cat a b).size = a.size + b.size := by rw [cat, ByteArray.size_append]
theorem it_size {n : Int} (h0 : 0 ≤ n) (h1 : n ≤ 1000000000) : (itS n).size ≤ 21 := it_len h0 h1
/- Sections, printed: the program. -/
noncomputable def orcIt : OrcV
  | [.int .i64 n], [] => some (.string (itS n), [], -9223372036854775808 ≤ n ∧ n ≤ 9223372036854775807)
  | _, _ => none
theorem okIt : OkV Tryz.prog 182 orcIt := by
  intro args H ret H' vc h hv
  unfold orcIt at h
  split at h
  · cases h; exact okItoaV _ _ _ _ _ rfl hv
  · cases h
noncomputable def isJn (n : Nat) (l : List ByteArray) (sep : ByteArray) : Prop := n ≤ 140737488355328 ∧ (Lib.join (l.map (·.data.toList)) sep.data.toList).length ≤ 140737488355328
noncomputable def orcJn : OrcV
  | [.slice (some ⟨0, 0, none⟩) n _, .string sep], [some (.row cells es more rw flat)] =>
    match strsOf cells with
    | some l => if n = l.length then some (.string (jnS l sep), [some (.row cells es more rw flat)], isJn n l sep) else none
    | none => none
  | _, _ => none
theorem okJn : OkV Tryz.prog 223 orcJn := by
  intro args H ret H' vc h hv
  unfold orcJn at h
  split at h
  · rename_i n c sep cells es more rw flat
    split at h
    · rename_i l hl
      split at h
      · rename_i hn
        cases h
        refine okJoinV _ _ _ _ (n ≤ 140737488355328 ∧ (Lib.join (l.map (·.data.toList)) sep.data.toList).length ≤ 140737488355328) ?_ hv
        simp only [orcJoinV, hl, if_pos hn]
        rfl
      · cases h
    · cases h
  · cases h
noncomputable def strs (l : List ByteArray) : List Value := l.map .string
theorem strsOf_strs : ∀ l : List ByteArray, strsOf (strs l) = some l
  | [] => rfl
  | a :: r => by
    have := strsOf_strs r
    rw [strs] at this ⊢
    rw [List.map_cons, strsOf, this]; rfl
noncomputable def isWs (l : List ByteArray) (n : Nat) (sep : ByteArray) (e : List Value) : Prop := e = strs l ∧ n = l.length ∧ isJn n l sep
noncomputable def orcJnG (l : List ByteArray) : OrcV
  | [.slice (some ⟨0, 0, none⟩) n _, .string sep], [some (.row e 1 false true true)] => some (.string (jnS l sep), [some (.row e 1 false true true)], isWs l n sep e)
  | _, _ => none
theorem okJnG (l : List ByteArray) : OkV Tryz.prog 223 (orcJnG l) := by
  intro args H ret H' vc h hv
  unfold orcJnG at h
  split at h
  · cases h
    obtain ⟨rfl, rfl, h1⟩ := hv
    refine okJn _ _ _ _ (isJn l.length l _) ?_ h1
    simp only [orcJn, strsOf_strs, if_true]
  · cases h
noncomputable def hsLn (l : List ByteArray) : Hs Tryz.prog where
  au := auS [(223, hCa Tryz.prog 223 (orcJnG l) (okJnG l))]
theorem ln_t (l : List ByteArray) (n : Nat) (c : Nat) (K : Value → Heap → Prop) :
    (fnP Tryz.prog c0 (hsLn l) (181 : FuncId) [Value.slice (some { block := (0 : Nat), off := (0 : Nat) }) n c] [some (AObj.row (strs l) (1 : Nat) false true true)] K) =
    (Is (isWs l n { data := #[(32 : UInt8)] } (strs l)) ∧ Is (ByteArray.size (jnS l { data := #[(32 : UInt8)] }) + (1 : Nat) ≤ (9223372036854775807 : Nat)) ∧ K (Value.string (cat (jnS l { data := #[(32 : UInt8)] }) { data := #[(10 : UInt8)] })) (some (AObj.row (strs l) (1 : Nat) false true true) :: noH)) := by kernel_rfl
noncomputable def isLn (l : List ByteArray) : Prop := l.length ≤ 1000 ∧ (jnS l ⟨#[32]⟩).size ≤ 140737488355328
theorem ln_ok {l : List ByteArray} {c : Nat} (h : isLn l) : SmallRes Tryz.prog 181 [.slice (some ⟨0, 0, none⟩) l.length c] [some (.row (strs l) 1 false true true)] (.string (cat (jnS l ⟨#[32]⟩) ⟨#[10]⟩)) [some (.row (strs l) 1 false true true)] := by
  refine fnP_res hm c0_ok (hs := hsLn l) ?_
  rw [ln_t]
  obtain ⟨h1, h2⟩ := h
  exact ⟨⟨rfl, rfl, by omega, h2⟩, ⟨by omega⟩, by first | trivial | rfl, by first | trivial | rfl⟩
noncomputable def orcLn : OrcV
  | [.slice (some ⟨0, 0, none⟩) n _], [some (.row cells 1 false true true)] =>
    match strsOf cells with
    | some l => if n = l.length then some (.string (cat (jnS l ⟨#[32]⟩) ⟨#[10]⟩), [some (.row cells 1 false true true)], isLn l) else none
    | none => none
  | _, _ => none
theorem okLn : OkV Tryz.prog 181 orcLn := by
  intro args H ret H' vc h hv
  unfold orcLn at h
  split at h
  · split at h
    · rename_i l hl
      split at h
      · rename_i hn
        cases h
        subst hn
        rw [strsOf_eq hl]
        exact ln_ok hv
      · cases h
    · cases h
  · cases h
noncomputable def fmR : List Value := [.string ⟨#[115, 101, 99, 116, 105, 111, 110]⟩, .func (.func 219) #[] #[], .string ⟨#[109, 101, 97, 115, 117, 114, 101, 100]⟩, .func (.func 220) #[] #[], .string ⟨#[97, 99, 116]⟩, .func (.func 222) #[] #[]]
noncomputable def lpPp1 (nm : ByteArray) (zs : List Int) (ks : List (Int × ByteArray)) (n c k d : Nat) : Lp where
  σ := Nat
  E s := slots 66 [(1, .pointer (some ⟨2, 0, none⟩)), (5, .pointer (some ⟨3, 0, none⟩)), (6, .string (ofL (txM nm zs s))), (25, .slice (some ⟨0, 0, none⟩) n c), (26, .int .i64 (Int.ofNat n)), (27, .int .i64 (Int.ofNat s))]
  Hp _ := hp2 zs ks true true true true [secR nm n c k d, some (.row fmR 0 false true true)]
  I s := s ≤ n
  m s := n - s
noncomputable def lpPp2 (nm : ByteArray) (zs : List Int) (ks : List (Int × ByteArray)) (n c k d : Nat) : Lp where
  σ := Nat
  E s := slots 66 [(1, .pointer (some ⟨2, 0, none⟩)), (5, .pointer (some ⟨3, 0, none⟩)), (6, .string (ofL (txK nm zs n ks s))), (46, .slice (some ⟨1, 0, none⟩) k d), (47, .int .i64 (Int.ofNat k)), (48, .int .i64 (Int.ofNat s))]
  Hp _ := hp2 zs ks true true true true [secR nm n c k d, some (.row fmR 0 false true true)]
  I s := s ≤ k
  m s := k - s
noncomputable def hsPp (nm : ByteArray) (zs : List Int) (ks : List (Int × ByteArray)) (n c k d : Nat) : Hs Tryz.prog where
  op x := if [800, 1300].contains x then some (hIa Tryz.prog) else if x = 801 then some (hLd Tryz.prog (z2 zs)) else if x = 1301 then some (hLd Tryz.prog (k2 ks)) else none
  lp y := if y = 7 then some (lpPp1 nm zs ks n c k d) else if y = 12 then some (lpPp2 nm zs ks n c k d) else none
  cl y := if y = 7 then keep 66 [1, 5, 6, 25, 26, 27] else keep 66 [1, 5, 6, 46, 47, 48]
  au := auS [(40, hCa Tryz.prog 40 (orcCkV zs ks) (ck_okV zs ks)), (182, hCa Tryz.prog 182 orcIt okIt), (181, hCa Tryz.prog 181 orcLn okLn)]
set_option maxHeartbeats 0 in
theorem ppr_t (nm : ByteArray) (zs : List Int) (ks : List (Int × ByteArray)) (n : Nat) (c : Nat) (k : Nat) (d : Nat) (K : Value → Heap → Prop) :
    (fnP Tryz.prog c0 (hsPp nm zs ks n c k d) (97 : FuncId) [Value.agg (List.toArray (secA nm (0 : Nat) n c (1 : Nat) k d))] (hp2 zs ks true true true true []) K) =
    (Is (isSec zs ks n k (ints zs) (acs ks)) ∧ br (secE nm zs n ks k != (0 : Int)) (K (Value.tuple #[Value.string { data := #[] }, Value.int IntKind.i64 (secE nm zs n ks k)]) (some (AObj.row (ints zs) (2 : Nat) true true true) :: some (AObj.row (acs ks) (2 : Nat) true true true) :: noH)) (Is (isLn [{ data := #[(115 : UInt8), (101 : UInt8), (99 : UInt8), (116 : UInt8), (105 : UInt8), (111 : UInt8), (110 : UInt8)] }, nm]) ∧ (∃ (s : Nat), Is (s ≤ n) ∧ [poi, Value.pointer (some { block := (2 : Nat), off := (0 : Nat) }), poi, poi, poi, Value.pointer (some { block := (3 : Nat), off := (0 : Nat) }), Value.string (cat (jnS [{ data := #[(115 : UInt8), (101 : UInt8), (99 : UInt8), (116 : UInt8), (105 : UInt8), (111 : UInt8), (110 : UInt8)] }, nm] { data := #[(32 : UInt8)] }) { data := #[(10 : UInt8)] }), poi, poi, poi, poi, poi, poi, poi, poi, poi, poi, poi, poi, poi, poi, poi, poi, poi, poi, Value.slice (some { block := (0 : Nat), off := (0 : Nat) }) n c, Value.int IntKind.i64 (↑n : Int), Value.int IntKind.i64 (0 : Int), poi, poi, poi, poi, poi, poi, poi, poi, poi, poi, poi, poi, poi, poi, poi, poi, poi, poi, poi, poi, poi, poi, poi, poi, poi, poi, poi, poi, poi, poi, poi, poi, poi, poi, poi, poi, poi, poi] = [poi, Value.pointer (some { block := (2 : Nat), off := (0 : Nat) }), poi, poi, poi, Value.pointer (some { block := (3 : Nat), off := (0 : Nat) }), Value.string (ofL (txM nm zs s)), poi, poi, poi, poi, poi, poi, poi, poi, poi, poi, poi, poi, poi, poi, poi, poi, poi, poi, Value.slice (some { block := (0 : Nat), off := (0 : Nat) }) n c, Value.int IntKind.i64 (↑n : Int), Value.int IntKind.i64 (↑s : Int), poi, poi, poi, poi, poi, poi, poi, poi, poi, poi, poi, poi, poi, poi, poi, poi, poi, poi, poi, poi, poi, poi, poi, poi, poi, poi, poi, poi, poi, poi, poi, poi, poi, poi, poi, poi, poi, poi] ∧ some (AObj.row (ints zs) (2 : Nat) true true true) :: some (AObj.row (acs ks) (2 : Nat) true true true) :: some (AObj.row [Value.string nm, Value.slice (some { block := (0 : Nat), off := (0 : Nat) }) n c, Value.slice (some { block := (1 : Nat), off := (0 : Nat) }) k d] (0 : Nat) false true (List.all [Value.string nm, Value.slice (some { block := (0 : Nat), off := (0 : Nat) }) n c, Value.slice (some { block := (1 : Nat), off := (0 : Nat) }) k d] atom)) :: some (AObj.row [Value.string { data := #[(115 : UInt8), (101 : UInt8), (99 : UInt8), (116 : UInt8), (105 : UInt8), (111 : UInt8), (110 : UInt8)] }, Value.func (Fn.func (219 : Nat)) #[] #[], Value.string { data := #[(109 : UInt8), (101 : UInt8), (97 : UInt8), (115 : UInt8), (117 : UInt8), (114 : UInt8), (101 : UInt8), (100 : UInt8)] }, Value.func (Fn.func (220 : Nat)) #[] #[], Value.string { data := #[(97 : UInt8), (99 : UInt8), (116 : UInt8)] }, Value.func (Fn.func (222 : Nat)) #[] #[]] (0 : Nat) false true (true && List.all [Value.string { data := #[(115 : UInt8), (101 : UInt8), (99 : UInt8), (116 : UInt8), (105 : UInt8), (111 : UInt8), (110 : UInt8)] }, Value.func (Fn.func (219 : Nat)) #[] #[], Value.string { data := #[(109 : UInt8), (101 : UInt8), (97 : UInt8), (115 : UInt8), (117 : UInt8), (114 : UInt8), (101 : UInt8), (100 : UInt8)] }, Value.func (Fn.func (220 : Nat)) #[] #[], Value.string { data := #[(97 : UInt8), (99 : UInt8), (116 : UInt8)] }, Value.func (Fn.func (222 : Nat)) #[] #[]] atom)) :: noH = some (AObj.row (ints zs) (2 : Nat) true true true) :: some (AObj.row (acs ks) (2 : Nat) true true true) :: some (AObj.row [Value.string nm, Value.slice (some { block := (0 : Nat), off := (0 : Nat) }) n c, Value.slice (some { block := (1 : Nat), off := (0 : Nat) }) k d] (0 : Nat) false true false) :: some (AObj.row [Value.string { data := #[(115 : UInt8), (101 : UInt8), (99 : UInt8), (116 : UInt8), (105 : UInt8), (111 : UInt8), (110 : UInt8)] }, Value.func (Fn.func (219 : Nat)) #[] #[], Value.string { data := #[(109 : UInt8), (101 : UInt8), (97 : UInt8), (115 : UInt8), (117 : UInt8), (114 : UInt8), (101 : UInt8), (100 : UInt8)] }, Value.func (Fn.func (220 : Nat)) #[] #[], Value.string { data := #[(97 : UInt8), (99 : UInt8), (116 : UInt8)] }, Value.func (Fn.func (222 : Nat)) #[] #[]] (0 : Nat) false true true) :: noH) ∧ ∀ (s : Nat), Is (s ≤ n) → br (decide ((↑s : Int) < (↑n : Int))) (Is ((0 : Int) ≤ (↑s : Int) ∧ (↑s : Int) < (↑n : Int)) ∧ Is ((if (0 : Nat) + Int.toNat (↑s : Int) * (2 : Nat) + (2 : Nat) ≤ List.length (ints zs) then some (Value.agg (List.toArray (List.take (2 : Nat) (List.drop ((0 : Nat) + Int.toNat (↑s : Int) * (2 : Nat)) (ints zs))))) else none) = some (Value.agg #[Value.int IntKind.i64 (List.getD zs ((0 : Nat) + Int.toNat (↑s : Int) * (2 : Nat)) (0 : Int)), Value.int IntKind.i64 (List.getD zs ((0 : Nat) + Int.toNat (↑s : Int) * (2 : Nat) + (1 : Nat)) (0 : Int))])) ∧ Is ((-9223372036854775808 : Int) ≤ List.getD zs ((0 : Nat) + Int.toNat (↑s : Int) * (2 : Nat)) (0 : Int) ∧ List.getD zs ((0 : Nat) + Int.toNat (↑s : Int) * (2 : Nat)) (0 : Int) ≤ (9223372036854775807 : Int)) ∧ Is ((-9223372036854775808 : Int) ≤ List.getD zs ((0 : Nat) + Int.toNat (↑s : Int) * (2 : Nat) + (1 : Nat)) (0 : Int) ∧ List.getD zs ((0 : Nat) + Int.toNat (↑s : Int) * (2 : Nat) + (1 : Nat)) (0 : Int) ≤ (9223372036854775807 : Int)) ∧ Is (isLn [{ data := #[(109 : UInt8), (101 : UInt8), (97 : UInt8), (115 : UInt8), (117 : UInt8), (114 : UInt8), (101 : UInt8), (100 : UInt8)] }, itS (List.getD zs ((0 : Nat) + Int.toNat (↑s : Int) * (2 : Nat)) (0 : Int)), itS (List.getD zs ((0 : Nat) + Int.toNat (↑s : Int) * (2 : Nat) + (1 : Nat)) (0 : Int))]) ∧ Is (ByteArray.size (ofL (txM nm zs s)) + ByteArray.size (cat (jnS [{ data := #[(109 : UInt8), (101 : UInt8), (97 : UInt8), (115 : UInt8), (117 : UInt8), (114 : UInt8), (101 : UInt8), (100 : UInt8)] }, itS (List.getD zs ((0 : Nat) + Int.toNat (↑s : Int) * (2 : Nat)) (0 : Int)), itS (List.getD zs ((0 : Nat) + Int.toNat (↑s : Int) * (2 : Nat) + (1 : Nat)) (0 : Int))] { data := #[(32 : UInt8)] }) { data := #[(10 : UInt8)] }) ≤ (9223372036854775807 : Nat)) ∧ ∃ (s' : Nat), Is (s' ≤ n) ∧ Is (n - s' < n - s) ∧ [poi, Value.pointer (some { block := (2 : Nat), off := (0 : Nat) }), poi, poi, poi, Value.pointer (some { block := (3 : Nat), off := (0 : Nat) }), Value.string (cat (ofL (txM nm zs s)) (cat (jnS [{ data := #[(109 : UInt8), (101 : UInt8), (97 : UInt8), (115 : UInt8), (117 : UInt8), (114 : UInt8), (101 : UInt8), (100 : UInt8)] }, itS (List.getD zs ((0 : Nat) + Int.toNat (↑s : Int) * (2 : Nat)) (0 : Int)), itS (List.getD zs ((0 : Nat) + Int.toNat (↑s : Int) * (2 : Nat) + (1 : Nat)) (0 : Int))] { data := #[(32 : UInt8)] }) { data := #[(10 : UInt8)] })), poi, poi, poi, poi, poi, poi, poi, poi, poi, poi, poi, poi, poi, poi, poi, poi, poi, poi, Value.slice (some { block := (0 : Nat), off := (0 : Nat) }) n c, Value.int IntKind.i64 (↑n : Int), Value.int IntKind.i64 (IntKind.wrap IntKind.i64 ((↑s : Int) + (1 : Int))), poi, poi, poi, poi, poi, poi, poi, poi, poi, poi, poi, poi, poi, poi, poi, poi, poi, poi, poi, poi, poi, poi, poi, poi, poi, poi, poi, poi, poi, poi, poi, poi, poi, poi, poi, poi, poi, poi] = [poi, Value.pointer (some { block := (2 : Nat), off := (0 : Nat) }), poi, poi, poi, Value.pointer (some { block := (3 : Nat), off := (0 : Nat) }), Value.string (ofL (txM nm zs s')), poi, poi, poi, poi, poi, poi, poi, poi, poi, poi, poi, poi, poi, poi, poi, poi, poi, poi, Value.slice (some { block := (0 : Nat), off := (0 : Nat) }) n c, Value.int IntKind.i64 (↑n : Int), Value.int IntKind.i64 (↑s' : Int), poi, poi, poi, poi, poi, poi, poi, poi, poi, poi, poi, poi, poi, poi, poi, poi, poi, poi, poi, poi, poi, poi, poi, poi, poi, poi, poi, poi, poi, poi, poi, poi, poi, poi, poi, poi, poi, poi] ∧ some (AObj.row (ints zs) (2 : Nat) true true true) :: some (AObj.row (acs ks) (2 : Nat) true true true) :: some (AObj.row [Value.string nm, Value.slice (some { block := (0 : Nat), off := (0 : Nat) }) n c, Value.slice (some { block := (1 : Nat), off := (0 : Nat) }) k d] (0 : Nat) false true false) :: some (AObj.row [Value.string { data := #[(115 : UInt8), (101 : UInt8), (99 : UInt8), (116 : UInt8), (105 : UInt8), (111 : UInt8), (110 : UInt8)] }, Value.func (Fn.func (219 : Nat)) #[] #[], Value.string { data := #[(109 : UInt8), (101 : UInt8), (97 : UInt8), (115 : UInt8), (117 : UInt8), (114 : UInt8), (101 : UInt8), (100 : UInt8)] }, Value.func (Fn.func (220 : Nat)) #[] #[], Value.string { data := #[(97 : UInt8), (99 : UInt8), (116 : UInt8)] }, Value.func (Fn.func (222 : Nat)) #[] #[]] (0 : Nat) false true true) :: noH = some (AObj.row (ints zs) (2 : Nat) true true true) :: some (AObj.row (acs ks) (2 : Nat) true true true) :: some (AObj.row [Value.string nm, Value.slice (some { block := (0 : Nat), off := (0 : Nat) }) n c, Value.slice (some { block := (1 : Nat), off := (0 : Nat) }) k d] (0 : Nat) false true false) :: some (AObj.row [Value.string { data := #[(115 : UInt8), (101 : UInt8), (99 : UInt8), (116 : UInt8), (105 : UInt8), (111 : UInt8), (110 : UInt8)] }, Value.func (Fn.func (219 : Nat)) #[] #[], Value.string { data := #[(109 : UInt8), (101 : UInt8), (97 : UInt8), (115 : UInt8), (117 : UInt8), (114 : UInt8), (101 : UInt8), (100 : UInt8)] }, Value.func (Fn.func (220 : Nat)) #[] #[], Value.string { data := #[(97 : UInt8), (99 : UInt8), (116 : UInt8)] }, Value.func (Fn.func (222 : Nat)) #[] #[]] (0 : Nat) false true true) :: noH) ((∃ (s_1 : Nat), Is (s_1 ≤ k) ∧ [poi, Value.pointer (some { block := (2 : Nat), off := (0 : Nat) }), poi, poi, poi, Value.pointer (some { block := (3 : Nat), off := (0 : Nat) }), Value.string (ofL (txM nm zs s)), poi, poi, poi, poi, poi, poi, poi, poi, poi, poi, poi, poi, poi, poi, poi, poi, poi, poi, poi, poi, poi, poi, poi, poi, poi, poi, poi, poi, poi, poi, poi, poi, poi, poi, poi, poi, poi, poi, poi, Value.slice (some { block := (1 : Nat), off := (0 : Nat) }) k d, Value.int IntKind.i64 (↑k : Int), Value.int IntKind.i64 (0 : Int), poi, poi, poi, poi, poi, poi, poi, poi, poi, poi, poi, poi, poi, poi, poi, poi, poi] = [poi, Value.pointer (some { block := (2 : Nat), off := (0 : Nat) }), poi, poi, poi, Value.pointer (some { block := (3 : Nat), off := (0 : Nat) }), Value.string (ofL (txK nm zs n ks s_1)), poi, poi, poi, poi, poi, poi, poi, poi, poi, poi, poi, poi, poi, poi, poi, poi, poi, poi, poi, poi, poi, poi, poi, poi, poi, poi, poi, poi, poi, poi, poi, poi, poi, poi, poi, poi, poi, poi, poi, Value.slice (some { block := (1 : Nat), off := (0 : Nat) }) k d, Value.int IntKind.i64 (↑k : Int), Value.int IntKind.i64 (↑s_1 : Int), poi, poi, poi, poi, poi, poi, poi, poi, poi, poi, poi, poi, poi, poi, poi, poi, poi] ∧ some (AObj.row (ints zs) (2 : Nat) true true true) :: some (AObj.row (acs ks) (2 : Nat) true true true) :: some (AObj.row [Value.string nm, Value.slice (some { block := (0 : Nat), off := (0 : Nat) }) n c, Value.slice (some { block := (1 : Nat), off := (0 : Nat) }) k d] (0 : Nat) false true false) :: some (AObj.row [Value.string { data := #[(115 : UInt8), (101 : UInt8), (99 : UInt8), (116 : UInt8), (105 : UInt8), (111 : UInt8), (110 : UInt8)] }, Value.func (Fn.func (219 : Nat)) #[] #[], Value.string { data := #[(109 : UInt8), (101 : UInt8), (97 : UInt8), (115 : UInt8), (117 : UInt8), (114 : UInt8), (101 : UInt8), (100 : UInt8)] }, Value.func (Fn.func (220 : Nat)) #[] #[], Value.string { data := #[(97 : UInt8), (99 : UInt8), (116 : UInt8)] }, Value.func (Fn.func (222 : Nat)) #[] #[]] (0 : Nat) false true true) :: noH = some (AObj.row (ints zs) (2 : Nat) true true true) :: some (AObj.row (acs ks) (2 : Nat) true true true) :: some (AObj.row [Value.string nm, Value.slice (some { block := (0 : Nat), off := (0 : Nat) }) n c, Value.slice (some { block := (1 : Nat), off := (0 : Nat) }) k d] (0 : Nat) false true false) :: some (AObj.row [Value.string { data := #[(115 : UInt8), (101 : UInt8), (99 : UInt8), (116 : UInt8), (105 : UInt8), (111 : UInt8), (110 : UInt8)] }, Value.func (Fn.func (219 : Nat)) #[] #[], Value.string { data := #[(109 : UInt8), (101 : UInt8), (97 : UInt8), (115 : UInt8), (117 : UInt8), (114 : UInt8), (101 : UInt8), (100 : UInt8)] }, Value.func (Fn.func (220 : Nat)) #[] #[], Value.string { data := #[(97 : UInt8), (99 : UInt8), (116 : UInt8)] }, Value.func (Fn.func (222 : Nat)) #[] #[]] (0 : Nat) false true true) :: noH) ∧ ∀ (s : Nat), Is (s ≤ k) → br (decide ((↑s : Int) < (↑k : Int))) (Is ((0 : Int) ≤ (↑s : Int) ∧ (↑s : Int) < (↑k : Int)) ∧ Is ((if (0 : Nat) + Int.toNat (↑s : Int) * (2 : Nat) + (2 : Nat) ≤ List.length (acs ks) then some (Value.agg (List.toArray (List.take (2 : Nat) (List.drop ((0 : Nat) + Int.toNat (↑s : Int) * (2 : Nat)) (acs ks))))) else none) = some (Value.agg #[Value.int IntKind.i64 (Prod.fst (List.getD ks (((0 : Nat) + Int.toNat (↑s : Int) * (2 : Nat)) / (2 : Nat)) ((0 : Int), { data := #[] }))), Value.string (Prod.snd (List.getD ks (((0 : Nat) + Int.toNat (↑s : Int) * (2 : Nat)) / (2 : Nat)) ((0 : Int), { data := #[] })))])) ∧ Is ((-9223372036854775808 : Int) ≤ Prod.fst (List.getD ks (((0 : Nat) + Int.toNat (↑s : Int) * (2 : Nat)) / (2 : Nat)) ((0 : Int), { data := #[] })) ∧ Prod.fst (List.getD ks (((0 : Nat) + Int.toNat (↑s : Int) * (2 : Nat)) / (2 : Nat)) ((0 : Int), { data := #[] })) ≤ (9223372036854775807 : Int)) ∧ Is (isLn [{ data := #[(97 : UInt8), (99 : UInt8), (116 : UInt8)] }, itS (Prod.fst (List.getD ks (((0 : Nat) + Int.toNat (↑s : Int) * (2 : Nat)) / (2 : Nat)) ((0 : Int), { data := #[] }))), Prod.snd (List.getD ks (((0 : Nat) + Int.toNat (↑s : Int) * (2 : Nat)) / (2 : Nat)) ((0 : Int), { data := #[] }))]) ∧ Is (ByteArray.size (ofL (txK nm zs n ks s)) + ByteArray.size (cat (jnS [{ data := #[(97 : UInt8), (99 : UInt8), (116 : UInt8)] }, itS (Prod.fst (List.getD ks (((0 : Nat) + Int.toNat (↑s : Int) * (2 : Nat)) / (2 : Nat)) ((0 : Int), { data := #[] }))), Prod.snd (List.getD ks (((0 : Nat) + Int.toNat (↑s : Int) * (2 : Nat)) / (2 : Nat)) ((0 : Int), { data := #[] }))] { data := #[(32 : UInt8)] }) { data := #[(10 : UInt8)] }) ≤ (9223372036854775807 : Nat)) ∧ ∃ (s' : Nat), Is (s' ≤ k) ∧ Is (k - s' < k - s) ∧ [poi, Value.pointer (some { block := (2 : Nat), off := (0 : Nat) }), poi, poi, poi, Value.pointer (some { block := (3 : Nat), off := (0 : Nat) }), Value.string (cat (ofL (txK nm zs n ks s)) (cat (jnS [{ data := #[(97 : UInt8), (99 : UInt8), (116 : UInt8)] }, itS (Prod.fst (List.getD ks (((0 : Nat) + Int.toNat (↑s : Int) * (2 : Nat)) / (2 : Nat)) ((0 : Int), { data := #[] }))), Prod.snd (List.getD ks (((0 : Nat) + Int.toNat (↑s : Int) * (2 : Nat)) / (2 : Nat)) ((0 : Int), { data := #[] }))] { data := #[(32 : UInt8)] }) { data := #[(10 : UInt8)] })), poi, poi, poi, poi, poi, poi, poi, poi, poi, poi, poi, poi, poi, poi, poi, poi, poi, poi, poi, poi, poi, poi, poi, poi, poi, poi, poi, poi, poi, poi, poi, poi, poi, poi, poi, poi, poi, poi, poi, Value.slice (some { block := (1 : Nat), off := (0 : Nat) }) k d, Value.int IntKind.i64 (↑k : Int), Value.int IntKind.i64 (IntKind.wrap IntKind.i64 ((↑s : Int) + (1 : Int))), poi, poi, poi, poi, poi, poi, poi, poi, poi, poi, poi, poi, poi, poi, poi, poi, poi] = [poi, Value.pointer (some { block := (2 : Nat), off := (0 : Nat) }), poi, poi, poi, Value.pointer (some { block := (3 : Nat), off := (0 : Nat) }), Value.string (ofL (txK nm zs n ks s')), poi, poi, poi, poi, poi, poi, poi, poi, poi, poi, poi, poi, poi, poi, poi, poi, poi, poi, poi, poi, poi, poi, poi, poi, poi, poi, poi, poi, poi, poi, poi, poi, poi, poi, poi, poi, poi, poi, poi, Value.slice (some { block := (1 : Nat), off := (0 : Nat) }) k d, Value.int IntKind.i64 (↑k : Int), Value.int IntKind.i64 (↑s' : Int), poi, poi, poi, poi, poi, poi, poi, poi, poi, poi, poi, poi, poi, poi, poi, poi, poi] ∧ some (AObj.row (ints zs) (2 : Nat) true true true) :: some (AObj.row (acs ks) (2 : Nat) true true true) :: some (AObj.row [Value.string nm, Value.slice (some { block := (0 : Nat), off := (0 : Nat) }) n c, Value.slice (some { block := (1 : Nat), off := (0 : Nat) }) k d] (0 : Nat) false true false) :: some (AObj.row [Value.string { data := #[(115 : UInt8), (101 : UInt8), (99 : UInt8), (116 : UInt8), (105 : UInt8), (111 : UInt8), (110 : UInt8)] }, Value.func (Fn.func (219 : Nat)) #[] #[], Value.string { data := #[(109 : UInt8), (101 : UInt8), (97 : UInt8), (115 : UInt8), (117 : UInt8), (114 : UInt8), (101 : UInt8), (100 : UInt8)] }, Value.func (Fn.func (220 : Nat)) #[] #[], Value.string { data := #[(97 : UInt8), (99 : UInt8), (116 : UInt8)] }, Value.func (Fn.func (222 : Nat)) #[] #[]] (0 : Nat) false true true) :: noH = some (AObj.row (ints zs) (2 : Nat) true true true) :: some (AObj.row (acs ks) (2 : Nat) true true true) :: some (AObj.row [Value.string nm, Value.slice (some { block := (0 : Nat), off := (0 : Nat) }) n c, Value.slice (some { block := (1 : Nat), off := (0 : Nat) }) k d] (0 : Nat) false true false) :: some (AObj.row [Value.string { data := #[(115 : UInt8), (101 : UInt8), (99 : UInt8), (116 : UInt8), (105 : UInt8), (111 : UInt8), (110 : UInt8)] }, Value.func (Fn.func (219 : Nat)) #[] #[], Value.string { data := #[(109 : UInt8), (101 : UInt8), (97 : UInt8), (115 : UInt8), (117 : UInt8), (114 : UInt8), (101 : UInt8), (100 : UInt8)] }, Value.func (Fn.func (220 : Nat)) #[] #[], Value.string { data := #[(97 : UInt8), (99 : UInt8), (116 : UInt8)] }, Value.func (Fn.func (222 : Nat)) #[] #[]] (0 : Nat) false true true) :: noH) (K (Value.tuple #[Value.string (ofL (txK nm zs n ks s)), Value.int IntKind.i64 (0 : Int)]) (some (AObj.row (ints zs) (2 : Nat) true true true) :: some (AObj.row (acs ks) (2 : Nat) true true true) :: noH))))) := by kernel_rfl
theorem mchk_all : ∀ (zs : List Int) (last : Int), mchk zs last = 0 → zs.length % 2 = 0 → ∀ v ∈ zs, 0 ≤ v ∧ v ≤ 100000
  | [], _, _, _, v, hv => by cases hv
  | [_], _, _, h, _, _ => by simp at h
  | d :: x :: r, last, h, h2, v, hv => by
    rw [mchk] at h
    obtain ⟨h1, h3⟩ := sel_zero.1 h
    have h4 := fi_zero.1 h1 (chkM d x) (by simp)
    have h5 := wi_zero.1 (fi_zero.1 h4 (wi d 0 100000) (by simp))
    have h6 := wi_zero.1 (fi_zero.1 h4 (wi x 0 100000) (by simp))
    rcases List.mem_cons.1 hv with rfl | hv
    · exact h5
    · rcases List.mem_cons.1 hv with rfl | hv
      · exact h6
      · exact mchk_all r d h3 (by simp only [List.length_cons] at h2; omega) v hv
theorem achk_all : ∀ (ks : List (Int × ByteArray)) (last : Int), achk ks last = 0 → ∀ a ∈ ks, (0 ≤ a.1 ∧ a.1 ≤ 100000) ∧ nameB a.2 = true
  | [], _, _, a, ha => by cases ha
  | b :: r, last, h, a, ha => by
    rw [achk] at h
    obtain ⟨h1, h3⟩ := sel_zero.1 h
    have h4 := fi_zero.1 h1 (chkA b.1 b.2) (by simp)
    have h5 := wi_zero.1 (fi_zero.1 h4 (wi b.1 0 100000) (by simp))
    have h6 := (wh_zero (by decide)).1 (fi_zero.1 h4 (wh (!nameB b.2) 13) (by simp))
    rcases List.mem_cons.1 ha with rfl | ha
    · exact ⟨h5, by simpa using h6⟩
    · exact achk_all r b.1 h3 a ha
theorem secE_all {nm : ByteArray} {zs : List Int} {n : Nat} {ks : List (Int × ByteArray)} {k : Nat} (h : secE nm zs n ks k = 0) : nameB nm = true ∧ n ≤ 32 ∧ k ≤ 16 ∧ mchk zs (-1) = 0 ∧ achk ks (-1) = 0 := by
  obtain ⟨h1, h2⟩ := sel_zero.1 h
  obtain ⟨h3, h4⟩ := sel_zero.1 h2
  obtain ⟨h5, h6⟩ := sel_zero.1 h4
  have a1 := (wh_zero (by decide)).1 (fi_zero.1 h1 (wh (!nameB nm) 8) (by simp))
  have a2 := of_decide_eq_false ((wh_zero (by decide)).1 (fi_zero.1 h1 (wh (decide ((32 : Int) < n)) 5) (by simp)))
  have a3 := of_decide_eq_false ((wh_zero (by decide)).1 h5)
  exact ⟨by simpa using a1, by omega, by omega, h3, h6⟩
theorem zmem {zs : List Int} {i : Nat} (h : i < zs.length) : zs.getD i 0 ∈ zs := by
  rw [List.getD_eq_getElem?_getD, List.getElem?_eq_getElem h]; exact List.getElem_mem h
theorem kmem {ks : List (Int × ByteArray)} {i : Nat} (h : i < ks.length) : ks.getD i (0, ⟨#[]⟩) ∈ ks := by
  rw [List.getD_eq_getElem?_getD, List.getElem?_eq_getElem h]; exact List.getElem_mem h
theorem prOk_of {nm : ByteArray} {zs : List Int} {n : Nat} {ks : List (Int × ByteArray)} {k : Nat} (h : secE nm zs n ks k = 0) (hz : zs.length = n * 2) (hk : ks.length = k) : PrOk nm zs n ks k := by
  obtain ⟨h1, h2, h3, h4, h5⟩ := secE_all h
  have a := mchk_all zs (-1) h4 (by omega)
  have b := achk_all ks (-1) h5
  have s1 := ((name_iff nm).1 h1).2.1
  refine ⟨by omega, hz, by omega, hk, by omega, fun i hi => ?_, fun i hi => ?_, fun i hi => ?_⟩
  · have := a _ (zmem (i := i) (by omega)); omega
  · have := (b _ (kmem (i := i) (by omega))).1; omega
  · have := ((name_iff _).1 (b _ (kmem (i := i) (by omega))).2).2.1; omega
theorem jn2_step (nm : ByteArray) (zs : List Int) : cat (jnS [⟨#[115, 101, 99, 116, 105, 111, 110]⟩, nm] ⟨#[32]⟩) ⟨#[10]⟩ = ofL (txM nm zs 0) := by
  show cat (ofL _) (ofL [10]) = _
  rw [cat_ofL, txM]
  congr 1
  simp [Lib.join, List.intercalate, wSec]
theorem jn3_step (a b c : ByteArray) : cat (jnS [a, b, c] ⟨#[32]⟩) ⟨#[10]⟩ = ofL (a.data.toList ++ 32 :: (b.data.toList ++ 32 :: (c.data.toList ++ [10]))) := by
  show cat (ofL _) (ofL [10]) = _
  rw [cat_ofL]
  congr 1
  simp [Lib.join, List.intercalate]
theorem jn3_size (a b c : ByteArray) : (jnS [a, b, c] ⟨#[32]⟩).size = a.size + b.size + c.size + 2 := by
  show (Lib.join _ _).length = _
  simp [Lib.join, List.intercalate]
  omega
theorem jn2_size (a b : ByteArray) : (jnS [a, b] ⟨#[32]⟩).size = a.size + b.size + 1 := by
  show (Lib.join _ _).length = _
  simp [Lib.join, List.intercalate]
  omega
set_option maxRecDepth 100000 in
theorem ppr_ok {nm : ByteArray} {zs : List Int} {ks : List (Int × ByteArray)} {n c k d : Nat} (hi : isSec zs ks n k (ints zs) (acs ks)) :
    SmallRes Tryz.prog 97 [.agg (secA nm 0 n c 1 k d).toArray] (hp2 zs ks true true true true []) (.tuple #[.string (ppS (secE nm zs n ks k) (txK nm zs n ks k)), .int .i64 (secE nm zs n ks k)]) (hp2 zs ks true true true true []) := by
  refine fnP_res hm c0_ok (hs := hsPp nm zs ks n c k d) ?_
  rw [ppr_t]
  refine ⟨⟨hi⟩, br_of (fun he => ?_) (fun he => ?_)⟩
  · have he : ¬ secE nm zs n ks k = 0 := by simpa using he
    rw [ppS, if_neg he]
    exact ⟨by first | trivial | rfl, by first | trivial | rfl⟩
  have he : secE nm zs n ks k = 0 := by simpa using he
  obtain ⟨_, _, n0, k0, _, _⟩ := hi
  have h := prOk_of he n0 k0
  obtain ⟨hnm, _, n1, _, k1, hz, hd, hw⟩ := id h
  rw [jn2_step nm zs]
  have l0 : isLn [⟨#[115, 101, 99, 116, 105, 111, 110]⟩, nm] := ⟨by simp, by
    rw [jn2_size]
    show 7 + nm.size + 1 ≤ _
    omega⟩
  refine ⟨⟨l0⟩, ⟨(0 : Nat), ⟨Nat.zero_le n⟩, by first | trivial | rfl, by first | trivial | rfl⟩, fun s hs' => br_of (fun hc => ?_) (fun hc => ?_)⟩
  · have hc := lt_of_dec hc
    have z1 := hz (s * 2) (by omega)
    have z2 := hz (s * 2 + 1) (by omega)
    have i1 := it_size z1.1 z1.2
    have i2 := it_size z2.1 z2.2
    have l := h.txM s (by omega)
    have l2 := h.lnM (i := s) (by omega)
    simp only [Nat.zero_add, Int.toNat_natCast]
    have l1 : isLn [⟨#[109, 101, 97, 115, 117, 114, 101, 100]⟩, itS (zs.getD (s * 2) 0), itS (zs.getD (s * 2 + 1) 0)] := ⟨by simp, by
      rw [jn3_size]
      show 8 + _ + _ + 2 ≤ _
      omega⟩
    have e1 : cat (jnS [⟨#[109, 101, 97, 115, 117, 114, 101, 100]⟩, itS (zs.getD (s * 2) 0), itS (zs.getD (s * 2 + 1) 0)] ⟨#[32]⟩) ⟨#[10]⟩ = ofL (lnM zs s) := jn3_step _ _ _
    rw [e1]
    simp only [size_ofL, cat_ofL]
    refine ⟨⟨by omega, by omega⟩, ⟨by rw [ints_len, if_pos (by omega), ints_pair (by omega)]⟩, ⟨by omega, by omega⟩, ⟨by omega, by omega⟩, ⟨l1⟩, ⟨by omega⟩, ⟨s + 1, ⟨hc⟩, ⟨by omega⟩, by rw [up1 hc (by omega)]; first | trivial | rfl, by first | trivial | rfl⟩⟩
  have hc := ge_of_dec hc
  have hs' := hs'.out
  rw [show s = n by omega]
  refine ⟨⟨(0 : Nat), ⟨Nat.zero_le k⟩, by first | trivial | rfl, by first | trivial | rfl⟩, fun s hs' => br_of (fun hc => ?_) (fun hc => ?_)⟩
  · have hc := lt_of_dec hc
    have z1 := hd s hc
    have z2 := hw s hc
    have i1 := it_size z1.1 z1.2
    have l := h.txK s (by omega)
    have l2 := h.lnK (i := s) (by omega)
    have d1 : s * 2 / 2 = s := by omega
    simp only [Nat.zero_add, Int.toNat_natCast, d1]
    have l1 : isLn [⟨#[97, 99, 116]⟩, itS (ks.getD s (0, ⟨#[]⟩)).1, (ks.getD s (0, ⟨#[]⟩)).2] := ⟨by simp, by
      rw [jn3_size]
      show 3 + _ + _ + 2 ≤ _
      omega⟩
    have e1 : cat (jnS [⟨#[97, 99, 116]⟩, itS (ks.getD s (0, ⟨#[]⟩)).1, (ks.getD s (0, ⟨#[]⟩)).2] ⟨#[32]⟩) ⟨#[10]⟩ = ofL (lnK ks s) := jn3_step _ _ _
    rw [e1]
    simp only [size_ofL, cat_ofL]
    refine ⟨⟨by omega, by omega⟩, ⟨by rw [acs_len, if_pos (by omega), acs_pair (by omega)]⟩, ⟨by omega, by omega⟩, ⟨l1⟩, ⟨by omega⟩, ⟨s + 1, ⟨hc⟩, ⟨by omega⟩, by rw [up1 hc (by omega)]; first | trivial | rfl, by first | trivial | rfl⟩⟩
  have hc := ge_of_dec hc
  have hs' := hs'.out
  rw [show s = k by omega, ppS, if_pos he, he]
  exact ⟨by first | trivial | rfl, by first | trivial | rfl⟩
noncomputable def orcPpr (zs : List Int) (ks : List (Int × ByteArray)) : OrcV
  | [.agg ⟨[.string nm, .slice (some ⟨0, 0, none⟩) n _, .slice (some ⟨1, 0, none⟩) k _]⟩], [some (.row e1 2 true true true), some (.row e2 2 true true true)] =>
    some (.tuple #[.string (ppS (secE nm zs n ks k) (txK nm zs n ks k)), .int .i64 (secE nm zs n ks k)], [some (.row e1 2 true true true), some (.row e2 2 true true true)], isSec zs ks n k e1 e2)
  | _, _ => none
theorem okPpr (zs : List Int) (ks : List (Int × ByteArray)) : OkV Tryz.prog 97 (orcPpr zs ks) := by
  intro args H ret H' vc h hv
  unfold orcPpr at h
  split at h
  · cases h
    obtain ⟨rfl, rfl, h1⟩ := hv
    exact ppr_ok ⟨rfl, rfl, h1⟩
  · cases h
end
end Qq
end
section
/- Texts: numbers that are read, bytes that are found: the program. -/
open Go Go.Vm Go.Proofs Sp Go.RowKit
namespace Sp
noncomputable section
def igV (s : ByteArray) : Int := if s.data.toList.all digB = true ∧ s.size ≤ 9 then dgF 0 s.data.toList else 0
def igB (s : ByteArray) : Bool := dgOk s.data.toList
def drV (s : ByteArray) : Int := if igB s = true then dgF 0 s.data.toList else 0
/-- The number that the first bytes tell. -/
def dgP (s : ByteArray) (p : Nat) : Int := dgF 0 (s.data.toList.take p)
def ixS (s : ByteArray) (c : Int) : Int := Lib.indexByte s.data.toList c.toNat.toUInt8
def csT (s p : ByteArray) : ByteArray := ofL (Lib.trimSuffix s.data.toList p.data.toList)
def csB (s p : ByteArray) : Bool := Lib.hasSuffix s.data.toList p.data.toList
def ctS (s : ByteArray) (c : UInt8) : Int := Lib.countByte s.data.toList c
def ixC (s : ByteArray) (c : UInt8) : Int := Lib.indexByte s.data.toList c
end
end Sp
namespace Qq
noncomputable section
noncomputable def lpIg (s : ByteArray) : Lp where
  σ := Nat
  E p := slots 42 [(0, .string s), (4, .int .i64 (dgP s p)), (8, .pointer (some ⟨0, 0, none⟩))]
  Hp p := [some (.iter s p)]
  I p := p ≤ s.size ∧ (0 < p → s.size ≤ 9) ∧ ∀ i, i < p → digI (bt s i) = true
  m p := s.size - p
noncomputable def hsIg (s : ByteArray) : Hs Tryz.prog where
  op y := if y = 809 then some (hSi Tryz.prog) else none
  lp _ := some (lpIg s)
  cl _ := keep 42 [0, 4, 8]
  au := auS []
theorem ig_t (s : ByteArray) (K : Value → Heap → Prop) :
    (fnP Tryz.prog c0 (hsIg s) (251 : FuncId) [Value.string s] [] K) =
    ((∃ (s_1 : Nat), Is (s_1 ≤ ByteArray.size s ∧ ((0 : Nat) < s_1 → ByteArray.size s ≤ (9 : Nat)) ∧ ∀ (i : Nat), i < s_1 → digI (bt s i) = true) ∧ [Value.string s, poi, poi, poi, Value.int IntKind.i64 (0 : Int), poi, poi, poi, Value.pointer (some { block := (0 : Nat), off := (0 : Nat) }), poi, poi, poi, poi, poi, poi, poi, poi, poi, poi, poi, poi, poi, poi, poi, poi, poi, poi, poi, poi, poi, poi, poi, poi, poi, poi, poi, poi, poi, poi, poi, poi, poi] = [Value.string s, poi, poi, poi, Value.int IntKind.i64 (dgP s s_1), poi, poi, poi, Value.pointer (some { block := (0 : Nat), off := (0 : Nat) }), poi, poi, poi, poi, poi, poi, poi, poi, poi, poi, poi, poi, poi, poi, poi, poi, poi, poi, poi, poi, poi, poi, poi, poi, poi, poi, poi, poi, poi, poi, poi, poi, poi] ∧ some (AObj.iter s (0 : Nat)) :: noH = some (AObj.iter s s_1) :: noH) ∧ ∀ (s_1 : Nat), Is (s_1 ≤ ByteArray.size s ∧ ((0 : Nat) < s_1 → ByteArray.size s ≤ (9 : Nat)) ∧ ∀ (i : Nat), i < s_1 → digI (bt s i) = true) → br (decide (s_1 < ByteArray.size s)) (br (decide ((↑(Prod.fst (Utf8.decode s s_1)) : Int) < (48 : Int))) (K (Value.tuple #[Value.int IntKind.i64 (0 : Int), Value.bool false]) noH) (br (decide ((57 : Int) < (↑(Prod.fst (Utf8.decode s s_1)) : Int))) (K (Value.tuple #[Value.int IntKind.i64 (0 : Int), Value.bool false]) noH) (br (decide ((9 : Int) < (↑(ByteArray.size s) : Int))) (K (Value.tuple #[Value.int IntKind.i64 (0 : Int), Value.bool false]) noH) (∃ (s' : Nat), Is (s' ≤ ByteArray.size s ∧ ((0 : Nat) < s' → ByteArray.size s ≤ (9 : Nat)) ∧ ∀ (i : Nat), i < s' → digI (bt s i) = true) ∧ Is (ByteArray.size s - s' < ByteArray.size s - s_1) ∧ [Value.string s, poi, poi, poi, Value.int IntKind.i64 (IntKind.wrap IntKind.i64 (IntKind.wrap IntKind.i64 ((10 : Int) * dgP s s_1) + IntKind.wrap IntKind.i64 (IntKind.wrap IntKind.i32 ((↑(Prod.fst (Utf8.decode s s_1)) : Int) - (48 : Int))))), poi, poi, poi, Value.pointer (some { block := (0 : Nat), off := (0 : Nat) }), poi, poi, poi, poi, poi, poi, poi, poi, poi, poi, poi, poi, poi, poi, poi, poi, poi, poi, poi, poi, poi, poi, poi, poi, poi, poi, poi, poi, poi, poi, poi, poi, poi] = [Value.string s, poi, poi, poi, Value.int IntKind.i64 (dgP s s'), poi, poi, poi, Value.pointer (some { block := (0 : Nat), off := (0 : Nat) }), poi, poi, poi, poi, poi, poi, poi, poi, poi, poi, poi, poi, poi, poi, poi, poi, poi, poi, poi, poi, poi, poi, poi, poi, poi, poi, poi, poi, poi, poi, poi, poi, poi] ∧ some (AObj.iter s (s_1 + Prod.snd (Utf8.decode s s_1))) :: noH = some (AObj.iter s s') :: noH)))) (br (!ByteArray.toList s == []) (br ((↑(ByteArray.size s) : Int) == (1 : Int)) (K (Value.tuple #[Value.int IntKind.i64 (dgP s s_1), Value.bool true]) noH) (Is ((0 : Int) ≤ (0 : Int) ∧ (0 : Int) < (↑(ByteArray.size s) : Int)) ∧ K (Value.tuple #[Value.int IntKind.i64 (dgP s s_1), Value.bool (bt s (0 : Nat) != (48 : Int))]) noH)) (K (Value.tuple #[Value.int IntKind.i64 (dgP s s_1), Value.bool false]) noH))) := by kernel_rfl
theorem dgF_snoc : ∀ (l : List UInt8) (n : Int) (b : UInt8), dgF n (l ++ [b]) = 10 * dgF n l + ((b.toNat : Int) - 48)
  | [], _, _ => rfl
  | _ :: r, _, b => dgF_snoc r _ b
theorem take_more {l : List UInt8} {p : Nat} (h : p < l.length) : l.take (p + 1) = l.take p ++ [l.getD p 0] := by
  rw [List.take_add_one, List.getD_eq_getElem?_getD, List.getElem?_eq_getElem h]; rfl
theorem size_len (s : ByteArray) : s.size = s.data.toList.length := Lib.size_eq s
theorem dgP_more {s : ByteArray} {p : Nat} (h : p < s.size) : dgP s (p + 1) = 10 * dgP s p + (bt s p - 48) := by
  rw [size_len] at h
  rw [dgP, take_more h, dgF_snoc]; rfl
theorem digI_in {c : Int} : digI c = true ↔ 48 ≤ c ∧ c ≤ 57 := by
  rw [digI, Bool.and_eq_true, decide_eq_true_eq, decide_eq_true_eq]
theorem pow_grow {p : Nat} : (10 : Int) ^ (p + 1) = 10 * 10 ^ p := by rw [Int.pow_succ, Int.mul_comm]
theorem dgP_in {s : ByteArray} : ∀ p, p ≤ s.size → (∀ i, i < p → digI (bt s i) = true) → 0 ≤ dgP s p ∧ dgP s p < 10 ^ p
  | 0, _, _ => ⟨Int.le_refl _, by rw [Int.pow_zero]; exact (by decide : (0 : Int) < 1)⟩
  | p + 1, h, hd => by
    obtain ⟨a, b⟩ := dgP_in (s := s) p (by omega) (fun i hi => hd i (by omega))
    have := digI_in.1 (hd p (by omega))
    rw [dgP_more (by omega), pow_grow]
    omega
theorem pow_small {p : Nat} (h : p ≤ 9) : (10 : Int) ^ p ≤ 1000000000 := by
  rcases Nat.lt_or_ge p 9 with h1 | h1
  · have : p = 0 ∨ p = 1 ∨ p = 2 ∨ p = 3 ∨ p = 4 ∨ p = 5 ∨ p = 6 ∨ p = 7 ∨ p = 8 := by omega
    rcases this with rfl | rfl | rfl | rfl | rfl | rfl | rfl | rfl | rfl <;> decide
  · rw [show p = 9 by omega]; decide
theorem all_digB {s : ByteArray} : s.data.toList.all digB = true ↔ ∀ i, i < s.size → digI (bt s i) = true := by
  rw [List.all_eq_true, size_len]
  have e : ∀ b : UInt8, digB b = digI (Int.ofNat b.toNat) := fun b => by
    rw [digB, digI]
    congr 1
    · exact decide_eq_decide.2 (by have e : Int.ofNat b.toNat = (b.toNat : Int) := rfl; omega)
    · exact decide_eq_decide.2 (by have e : Int.ofNat b.toNat = (b.toNat : Int) := rfl; omega)
  constructor
  · intro h i hi
    have := h (s.data.toList.getD i 0) (by rw [List.getD_eq_getElem?_getD, List.getElem?_eq_getElem hi]; exact List.getElem_mem hi)
    rw [e] at this
    exact this
  · intro h b hb
    obtain ⟨i, hi, rfl⟩ := List.mem_iff_getElem.1 hb
    have := h i hi
    rw [e]
    rw [bt, List.getD_eq_getElem?_getD, List.getElem?_eq_getElem hi] at this
    exact this
theorem ig_bad {s : ByteArray} {p : Nat} (hp : p < s.size) (h : digI (bt s p) = false ∨ 9 < s.size) : igV s = 0 ∧ igB s = false := by
  rcases h with h | h
  · have hn : ¬ s.data.toList.all digB = true := fun hall => by
      have := all_digB.1 hall p hp
      rw [h] at this; cases this
    have hf : s.data.toList.all digB = false := by simpa using hn
    exact ⟨by rw [igV, if_neg (fun h => hn h.1)], by rw [igB, dgOk, hf, Bool.and_false]⟩
  · have h2 : ¬ s.data.toList.length ≤ 9 := by rw [← size_len]; omega
    exact ⟨by rw [igV, if_neg (fun h => by omega)], by rw [igB, dgOk, decide_eq_false h2]; simp⟩
theorem ig_all {s : ByteArray} (h9 : 0 < s.size → s.size ≤ 9) (hd : ∀ i, i < s.size → digI (bt s i) = true) : igV s = dgP s s.size := by
  have h := all_digB.2 hd
  rw [igV, if_pos ⟨h, by omega⟩, dgP, size_len, List.take_length]
theorem bt_zero (s : ByteArray) : bt s 0 = (((s.data.toList.headD 0).toNat : Nat) : Int) := by
  rw [bt]
  cases s.data.toList <;> rfl
theorem igB_at {s : ByteArray} (h0 : 0 < s.size) (h9 : s.size ≤ 9) (hd : ∀ i, i < s.size → digI (bt s i) = true) : igB s = (decide (s.size = 1) || (bt s 0 != 48)) := by
  have h := all_digB.2 hd
  have e1 : decide (s.data.toList ≠ []) = true := decide_eq_true (fun e => by rw [size_len, e] at h0; simp at h0)
  have e2 : decide (s.data.toList.length ≤ 9) = true := decide_eq_true (by rw [← size_len]; exact h9)
  have e3 : decide (s.data.toList.headD 0 ≠ 48) = (bt s 0 != 48) := by
    rw [bt_zero]
    generalize s.data.toList.headD 0 = b
    rw [Bool.eq_iff_iff]
    simp only [decide_eq_true_eq, bne_iff_ne, ne_eq]
    refine not_congr ⟨fun e => by rw [e]; rfl, fun e => ?_⟩
    have : b.toNat = 48 := by omega
    exact UInt8.toNat_inj.1 this
  rw [igB, dgOk, h, e1, e2, e3, ← size_len]
  simp
theorem wrap32 {x : Int} (h1 : 0 ≤ x) (h2 : x < 2147483648) : IntKind.wrap .i32 x = x := by
  have h : IntKind.wrap .i32 x = if (true && decide (x % 4294967296 ≥ 2147483648)) = true then x % 4294967296 - 4294967296 else x % 4294967296 := rfl
  rw [h]
  simp only [Bool.true_and, decide_eq_true_eq]
  split <;> omega
set_option maxRecDepth 100000 in
theorem ig_ok (s : ByteArray) : SmallRes Tryz.prog 251 [.string s] [] (.tuple #[.int .i64 (igV s), .bool (igB s)]) [] := by
  refine fnP_res hm c0_ok (hs := hsIg s) ?_
  rw [ig_t]
  refine ⟨⟨(0 : Nat), ⟨Nat.zero_le _, fun h => by omega, fun i hi => by omega⟩, by first | trivial | rfl, by first | trivial | rfl⟩, fun p hp => br_of (fun hlt => ?_) (fun hge => ?_)⟩
  · have hlt : p < s.size := of_decide_eq_true hlt
    obtain ⟨p1, p2, p3⟩ := hp.out
    have bad : (digI (bt s p) = false ∨ 9 < s.size) → Value.tuple #[.int .i64 0, .bool false] = .tuple #[.int .i64 (igV s), .bool (igB s)] := fun h => by
      obtain ⟨a, b⟩ := ig_bad hlt h
      rw [a, b]
    have no : ∀ {c : Int}, (c < 48 ∨ 57 < c) → digI c = false := fun h => by
      cases hc : digI _ with
      | false => rfl
      | true => have := digI_in.1 hc; omega
    by_cases hb : bt s p < 128
    · obtain ⟨e1, e2⟩ := bt_low hlt hb
      simp only [e1, e2]
      refine br_of (fun h => ⟨bad (.inl (no (.inl (of_decide_eq_true h)))), by first | trivial | rfl⟩) (fun h1 => br_of (fun h => ⟨bad (.inl (no (.inr (of_decide_eq_true h)))), by first | trivial | rfl⟩) (fun h2 => br_of (fun h => ⟨bad (.inr (by have := of_decide_eq_true h; omega)), by first | trivial | rfl⟩) (fun h3 => ?_)))
      have h1 := of_decide_eq_false h1
      have h2 := of_decide_eq_false h2
      have h3 := of_decide_eq_false h3
      have hd := digI_in.2 (show 48 ≤ bt s p ∧ bt s p ≤ 57 by omega)
      obtain ⟨d0, d1⟩ := dgP_in p p1 p3
      have d2 := pow_small (p := p) (by omega)
      refine ⟨p + 1, ⟨hlt, fun _ => by omega, fun i hi => ?_⟩, ⟨by omega⟩, ?_, by first | trivial | rfl⟩
      · rcases Nat.lt_succ_iff_lt_or_eq.1 hi with h | rfl
        · exact p3 i h
        · exact hd
      · have w1 : IntKind.wrap .i32 (bt s p - 48) = bt s p - 48 := by
          exact wrap32 (by omega) (by omega)
        rw [dgP_more hlt, w1, wrap_eq (x := bt s p - 48) (by omega) (by omega), wrap_eq (x := 10 * dgP s p) (by omega) (by omega), wrap_eq (by omega) (by omega)]
    · have hh := bt_high hlt hb
      refine br_of (fun h => ?_) (fun _ => br_of (fun _ => ⟨bad (.inl (no (.inr (by omega)))), by first | trivial | rfl⟩) (fun h => ?_))
      · have := of_decide_eq_true h; omega
      · have := of_decide_eq_false h; omega
  · have hge : ¬ p < s.size := of_decide_eq_false hge
    obtain ⟨p1, p2, p3⟩ := hp.out
    have ep : p = s.size := by omega
    rw [ep] at p2 p3 ⊢
    have ev := ig_all p2 p3
    refine br_of (fun h => ?_) (fun h => ?_)
    · have h0 : 0 < s.size := by
        rcases Nat.eq_zero_or_pos s.size with e | e
        · have : s.data.toList = [] := List.eq_nil_of_length_eq_zero (by rw [← size_len]; exact e)
          rw [Lib.toList_data, this] at h; simp at h
        · exact e
      have eb := igB_at h0 (p2 h0) p3
      refine br_of (fun h1 => ?_) (fun h1 => ⟨⟨by omega, by omega⟩, ?_⟩)
      · have h1 : s.size = 1 := by have := beq_iff_eq.1 h1; omega
        rw [eb, ev, decide_eq_true h1]
        exact ⟨by first | trivial | rfl, by first | trivial | rfl⟩
      · have h1 : s.size ≠ 1 := by have := beq_eq_false_iff_ne.1 h1; omega
        rw [eb, ev, decide_eq_false h1, Bool.false_or]
        exact ⟨by first | trivial | rfl, by first | trivial | rfl⟩
    · have h0 : s.data.toList = [] := by
        rw [Lib.toList_data] at h
        simpa using h
      have eb : igB s = false := by rw [igB, h0]; rfl
      rw [ev, eb]
      exact ⟨by first | trivial | rfl, by first | trivial | rfl⟩
noncomputable def orcIg : OrcV
  | [.string s], [] => some (.tuple #[.int .i64 (igV s), .bool (igB s)], [], True)
  | _, _ => none
theorem okIg : OkV Tryz.prog 251 orcIg := by
  intro args H ret H' vc h hv
  unfold orcIg at h
  split at h
  · cases h; exact ig_ok _
  · cases h
/- What the library finds. -/
noncomputable def orcIb : OrcV
  | [.string s, .int .u8 c], [] => some (.int .i64 (ixS s c), [], True)
  | _, _ => none
theorem okIb : OkV Tryz.prog 226 orcIb := by
  intro args H ret H' vc h hv
  unfold orcIb at h
  split at h
  · rename_i s c
    cases h
    refine small_of_calls rfl fun F A ψ w args' hh hl => ?_
    match args', hl.len with
    | [a, b], _ =>
      have e0 := (hl.at_ 0).of_atom rfl
      have e1 := (hl.at_ 1).of_atom rfl
      simp only [List.getD_cons_zero, List.getD_cons_succ] at e0 e1
      subst e0 e1
      refine (Tryz.strings_IndexByte s c w).mono ?_
      rintro e w' ⟨rfl, rfl⟩
      exact ⟨rfl, Below.refl _ _⟩
  · cases h
noncomputable def orcCs : OrcV
  | [.string s, .string p], [] => some (.tuple #[.string (csT s p), .bool (csB s p)], [], s.size ≤ 9223372036854775807)
  | _, _ => none
theorem okCs : OkV Tryz.prog 184 orcCs := by
  intro args H ret H' vc h hv
  unfold orcCs at h
  split at h
  · rename_i s p
    cases h
    refine small_of_calls rfl fun F A ψ w args' hh hl => ?_
    match args', hl.len with
    | [a, b], _ =>
      have e0 := (hl.at_ 0).of_atom rfl
      have e1 := (hl.at_ 1).of_atom rfl
      simp only [List.getD_cons_zero, List.getD_cons_succ] at e0 e1
      subst e0 e1
      refine (Tryz.strings_CutSuffix s p w hv).mono ?_
      rintro e w' ⟨rfl, rfl⟩
      exact ⟨rfl, Below.refl _ _⟩
  · cases h
noncomputable def orcCt : OrcV
  | [.string s, .string ⟨⟨[c]⟩⟩], [] => some (.int .i64 (ctS s c), [], True)
  | _, _ => none
theorem okCt : OkV Tryz.prog 259 orcCt := by
  intro args H ret H' vc h hv
  unfold orcCt at h
  split at h
  · rename_i s c
    cases h
    refine small_of_calls rfl fun F A ψ w args' hh hl => ?_
    match args', hl.len with
    | [a, b], _ =>
      have e0 := (hl.at_ 0).of_atom rfl
      have e1 := (hl.at_ 1).of_atom rfl
      simp only [List.getD_cons_zero, List.getD_cons_succ] at e0 e1
      subst e0 e1
      refine (Tryz.strings_Count_one s c w).mono ?_
      rintro e w' ⟨rfl, rfl⟩
      exact ⟨rfl, Below.refl _ _⟩
  · cases h
noncomputable def orcIx : OrcV
  | [.string s, .string ⟨⟨[c]⟩⟩], [] => some (.int .i64 (ixC s c), [], True)
  | _, _ => none
theorem okIx : OkV Tryz.prog 260 orcIx := by
  intro args H ret H' vc h hv
  unfold orcIx at h
  split at h
  · rename_i s c
    cases h
    refine small_of_calls rfl fun F A ψ w args' hh hl => ?_
    match args', hl.len with
    | [a, b], _ =>
      have e0 := (hl.at_ 0).of_atom rfl
      have e1 := (hl.at_ 1).of_atom rfl
      simp only [List.getD_cons_zero, List.getD_cons_succ] at e0 e1
      subst e0 e1
      refine (Tryz.strings_Index_one s c w).mono ?_
      rintro e w' ⟨rfl, rfl⟩
      exact ⟨rfl, Below.refl _ _⟩
  · cases h
/- Numbers, read by the reference. -/
end
end Qq
end
section
/- Texts: the reference's reader. -/
open Go Go.Vm Go.Proofs Sp
namespace Sp
noncomputable section
/-- The parts of a string. -/
def spI (s : ByteArray) (c : Int) : List ByteArray := (spl c.toNat.toUInt8 s.data.toList).map ofL
/-- The string from a place on. -/
def drS (s : ByteArray) (i : Nat) : List UInt8 := s.data.toList.drop i
end
end Sp
namespace Qq
noncomputable section
noncomputable def lpRs (s : ByteArray) (c : Int) : Lp where
  σ := Nat × Nat × List ByteArray
  E x := slots 34 [(0, .string s), (1, .int .u8 c), (5, .slice (some ⟨0, 0, none⟩) x.2.2.length 0), (6, .int .i64 (Int.ofNat x.2.1)), (7, .int .i64 (Int.ofNat x.1))]
  Hp x := [some (.row (strs x.2.2) 1 true true true)]
  I x := x.2.1 ≤ x.1 ∧ x.1 ≤ s.size ∧ x.2.2.length ≤ x.2.1 ∧ spI s c = x.2.2 ++ (spl c.toNat.toUInt8 (drS s x.2.1)).map ofL ∧ c.toNat.toUInt8 ∉ (drS s x.2.1).take (x.1 - x.2.1)
  m x := s.size - x.1
noncomputable def lpRs0 (s : ByteArray) (c : Int) : Lp where
  σ := Nat
  E _ := slots 34 [(0, .string s), (1, .int .u8 c), (5, .slice (some ⟨0, 0, none⟩) 0 0), (6, .int .i64 0)]
  Hp _ := [some (.row (strs []) 1 true true true)]
  I _ := True
  m _ := 0
noncomputable def hsRs (s : ByteArray) (c : Int) : Hs Tryz.prog where
  op y := if y = 602 then some (hSi Tryz.prog) else if [706, 905].contains y then some (hAp Tryz.prog) else none
  cut y := if y = 3 then some (lpRs0 s c) else none
  lp _ := some (lpRs s c)
  cl y := if y = 3 then keep 34 [0, 1, 5, 6] else keep 34 [0, 1, 5, 6, 7]
  nl y := if y = 3 then [.slot 5 1] else []
  au := auS []
theorem rs_t (s : ByteArray) (c : Int) (K : Value → Heap → Prop) :
    (fnP Tryz.prog c0 (hsRs s c) (101 : FuncId) [Value.string s, Value.int IntKind.u8 c] [] K) =
    ((∃ (_s_1 : Nat), Is True ∧ [Value.string s, Value.int IntKind.u8 c, poi, poi, poi, Value.slice (some { block := (0 : Nat), off := (0 : Nat) }) (0 : Nat) (0 : Nat), Value.int IntKind.i64 (0 : Int), poi, poi, poi, poi, poi, poi, poi, poi, poi, poi, poi, poi, poi, poi, poi, poi, poi, poi, poi, poi, poi, poi, poi, poi, poi, poi, poi] = [Value.string s, Value.int IntKind.u8 c, poi, poi, poi, Value.slice (some { block := (0 : Nat), off := (0 : Nat) }) (0 : Nat) (0 : Nat), Value.int IntKind.i64 (0 : Int), poi, poi, poi, poi, poi, poi, poi, poi, poi, poi, poi, poi, poi, poi, poi, poi, poi, poi, poi, poi, poi, poi, poi, poi, poi, poi, poi] ∧ some (AObj.row [] (1 : Nat) true true true) :: noH = some (AObj.row [] (1 : Nat) true true true) :: noH) ∧ ∀ (_s_1 : Nat), Is True → (∃ (s_2 : Nat × Nat × List ByteArray), Is (Prod.fst (Prod.snd s_2) ≤ Prod.fst s_2 ∧ Prod.fst s_2 ≤ ByteArray.size s ∧ List.length (Prod.snd (Prod.snd s_2)) ≤ Prod.fst (Prod.snd s_2) ∧ spI s c = Prod.snd (Prod.snd s_2) ++ List.map ofL (spl (Nat.toUInt8 (Int.toNat c)) (drS s (Prod.fst (Prod.snd s_2)))) ∧ ¬Nat.toUInt8 (Int.toNat c) ∈ List.take (Prod.fst s_2 - Prod.fst (Prod.snd s_2)) (drS s (Prod.fst (Prod.snd s_2)))) ∧ [Value.string s, Value.int IntKind.u8 c, poi, poi, poi, Value.slice (some { block := (0 : Nat), off := (0 : Nat) }) (0 : Nat) (0 : Nat), Value.int IntKind.i64 (0 : Int), Value.int IntKind.i64 (0 : Int), poi, poi, poi, poi, poi, poi, poi, poi, poi, poi, poi, poi, poi, poi, poi, poi, poi, poi, poi, poi, poi, poi, poi, poi, poi, poi] = [Value.string s, Value.int IntKind.u8 c, poi, poi, poi, Value.slice (some { block := (0 : Nat), off := (0 : Nat) }) (List.length (Prod.snd (Prod.snd s_2))) (0 : Nat), Value.int IntKind.i64 (↑(Prod.fst (Prod.snd s_2)) : Int), Value.int IntKind.i64 (↑(Prod.fst s_2) : Int), poi, poi, poi, poi, poi, poi, poi, poi, poi, poi, poi, poi, poi, poi, poi, poi, poi, poi, poi, poi, poi, poi, poi, poi, poi, poi] ∧ some (AObj.row [] (1 : Nat) true true true) :: noH = some (AObj.row (strs (Prod.snd (Prod.snd s_2))) (1 : Nat) true true true) :: noH) ∧ ∀ (s_2 : Nat × Nat × List ByteArray), Is (Prod.fst (Prod.snd s_2) ≤ Prod.fst s_2 ∧ Prod.fst s_2 ≤ ByteArray.size s ∧ List.length (Prod.snd (Prod.snd s_2)) ≤ Prod.fst (Prod.snd s_2) ∧ spI s c = Prod.snd (Prod.snd s_2) ++ List.map ofL (spl (Nat.toUInt8 (Int.toNat c)) (drS s (Prod.fst (Prod.snd s_2)))) ∧ ¬Nat.toUInt8 (Int.toNat c) ∈ List.take (Prod.fst s_2 - Prod.fst (Prod.snd s_2)) (drS s (Prod.fst (Prod.snd s_2)))) → br (decide ((↑(Prod.fst s_2) : Int) < (↑(ByteArray.size s) : Int))) (Is ((0 : Int) ≤ (↑(Prod.fst s_2) : Int) ∧ (↑(Prod.fst s_2) : Int) < (↑(ByteArray.size s) : Int)) ∧ br (bt s (Int.toNat (↑(Prod.fst s_2) : Int)) == c) (Is ((0 : Int) ≤ (↑(Prod.fst (Prod.snd s_2)) : Int) ∧ (↑(Prod.fst (Prod.snd s_2)) : Int) ≤ (↑(Prod.fst s_2) : Int) ∧ (↑(Prod.fst s_2) : Int) ≤ (↑(ByteArray.size s) : Int)) ∧ Is (List.length (strs (Prod.snd (Prod.snd s_2))) = List.length (Prod.snd (Prod.snd s_2)) * (1 : Nat) ∧ (List.length (Prod.snd (Prod.snd s_2)) + (1 : Nat)) * (16 : Nat) ≤ (140737488355328 : Nat) ∧ List.length (Prod.snd (Prod.snd s_2)) + (1 : Nat) ≤ (9223372036854775807 : Nat)) ∧ ∃ (s' : Nat × Nat × List ByteArray), Is (Prod.fst (Prod.snd s') ≤ Prod.fst s' ∧ Prod.fst s' ≤ ByteArray.size s ∧ List.length (Prod.snd (Prod.snd s')) ≤ Prod.fst (Prod.snd s') ∧ spI s c = Prod.snd (Prod.snd s') ++ List.map ofL (spl (Nat.toUInt8 (Int.toNat c)) (drS s (Prod.fst (Prod.snd s')))) ∧ ¬Nat.toUInt8 (Int.toNat c) ∈ List.take (Prod.fst s' - Prod.fst (Prod.snd s')) (drS s (Prod.fst (Prod.snd s')))) ∧ Is (ByteArray.size s - Prod.fst s' < ByteArray.size s - Prod.fst s_2) ∧ [Value.string s, Value.int IntKind.u8 c, poi, poi, poi, Value.slice (some { block := (0 : Nat), off := (0 : Nat) }) (List.length (Prod.snd (Prod.snd s_2)) + (1 : Nat)) (0 : Nat), Value.int IntKind.i64 (IntKind.wrap IntKind.i64 ((↑(Prod.fst s_2) : Int) + (1 : Int))), Value.int IntKind.i64 (IntKind.wrap IntKind.i64 ((↑(Prod.fst s_2) : Int) + (1 : Int))), poi, poi, poi, poi, poi, poi, poi, poi, poi, poi, poi, poi, poi, poi, poi, poi, poi, poi, poi, poi, poi, poi, poi, poi, poi, poi] = [Value.string s, Value.int IntKind.u8 c, poi, poi, poi, Value.slice (some { block := (0 : Nat), off := (0 : Nat) }) (List.length (Prod.snd (Prod.snd s'))) (0 : Nat), Value.int IntKind.i64 (↑(Prod.fst (Prod.snd s')) : Int), Value.int IntKind.i64 (↑(Prod.fst s') : Int), poi, poi, poi, poi, poi, poi, poi, poi, poi, poi, poi, poi, poi, poi, poi, poi, poi, poi, poi, poi, poi, poi, poi, poi, poi, poi] ∧ some (AObj.row (strs (Prod.snd (Prod.snd s_2)) ++ [Value.string (sub s (↑(Prod.fst (Prod.snd s_2)) : Int) (↑(Prod.fst s_2) : Int))]) (1 : Nat) true true (List.all [Value.string (sub s (↑(Prod.fst (Prod.snd s_2)) : Int) (↑(Prod.fst s_2) : Int))] atom)) :: noH = some (AObj.row (strs (Prod.snd (Prod.snd s'))) (1 : Nat) true true true) :: noH) (∃ (s' : Nat × Nat × List ByteArray), Is (Prod.fst (Prod.snd s') ≤ Prod.fst s' ∧ Prod.fst s' ≤ ByteArray.size s ∧ List.length (Prod.snd (Prod.snd s')) ≤ Prod.fst (Prod.snd s') ∧ spI s c = Prod.snd (Prod.snd s') ++ List.map ofL (spl (Nat.toUInt8 (Int.toNat c)) (drS s (Prod.fst (Prod.snd s')))) ∧ ¬Nat.toUInt8 (Int.toNat c) ∈ List.take (Prod.fst s' - Prod.fst (Prod.snd s')) (drS s (Prod.fst (Prod.snd s')))) ∧ Is (ByteArray.size s - Prod.fst s' < ByteArray.size s - Prod.fst s_2) ∧ [Value.string s, Value.int IntKind.u8 c, poi, poi, poi, Value.slice (some { block := (0 : Nat), off := (0 : Nat) }) (List.length (Prod.snd (Prod.snd s_2))) (0 : Nat), Value.int IntKind.i64 (↑(Prod.fst (Prod.snd s_2)) : Int), Value.int IntKind.i64 (IntKind.wrap IntKind.i64 ((↑(Prod.fst s_2) : Int) + (1 : Int))), poi, poi, poi, poi, poi, poi, poi, poi, poi, poi, poi, poi, poi, poi, poi, poi, poi, poi, poi, poi, poi, poi, poi, poi, poi, poi] = [Value.string s, Value.int IntKind.u8 c, poi, poi, poi, Value.slice (some { block := (0 : Nat), off := (0 : Nat) }) (List.length (Prod.snd (Prod.snd s'))) (0 : Nat), Value.int IntKind.i64 (↑(Prod.fst (Prod.snd s')) : Int), Value.int IntKind.i64 (↑(Prod.fst s') : Int), poi, poi, poi, poi, poi, poi, poi, poi, poi, poi, poi, poi, poi, poi, poi, poi, poi, poi, poi, poi, poi, poi, poi, poi, poi, poi] ∧ some (AObj.row (strs (Prod.snd (Prod.snd s_2))) (1 : Nat) true true true) :: noH = some (AObj.row (strs (Prod.snd (Prod.snd s'))) (1 : Nat) true true true) :: noH)) (Is ((0 : Int) ≤ (↑(Prod.fst (Prod.snd s_2)) : Int) ∧ (↑(Prod.fst (Prod.snd s_2)) : Int) ≤ (↑(ByteArray.size s) : Int) ∧ (↑(ByteArray.size s) : Int) ≤ (↑(ByteArray.size s) : Int)) ∧ Is (List.length (strs (Prod.snd (Prod.snd s_2))) = List.length (Prod.snd (Prod.snd s_2)) * (1 : Nat) ∧ (List.length (Prod.snd (Prod.snd s_2)) + (1 : Nat)) * (16 : Nat) ≤ (140737488355328 : Nat) ∧ List.length (Prod.snd (Prod.snd s_2)) + (1 : Nat) ≤ (9223372036854775807 : Nat)) ∧ K (Value.slice (some { block := (0 : Nat), off := (0 : Nat) }) (List.length (Prod.snd (Prod.snd s_2)) + (1 : Nat)) (0 : Nat)) (some (AObj.row (strs (Prod.snd (Prod.snd s_2)) ++ [Value.string (sub s (↑(Prod.fst (Prod.snd s_2)) : Int) (↑(ByteArray.size s) : Int))]) (1 : Nat) true true (List.all [Value.string (sub s (↑(Prod.fst (Prod.snd s_2)) : Int) (↑(ByteArray.size s) : Int))] atom)) :: noH))) := by kernel_rfl
theorem strs_snoc (l : List ByteArray) (x : ByteArray) : strs l ++ [.string x] = strs (l ++ [x]) := by rw [strs, strs, List.map_append]; rfl
theorem strs_len (l : List ByteArray) : (strs l).length = l.length := by rw [strs, List.length_map]
theorem sub_eq (s : ByteArray) (a b : Nat) : sub s a b = ofL ((drS s a).take (b - a)) := by
  rw [sub, Int.toNat_natCast, Int.toNat_natCast, Lib.extract_eq]; rfl
theorem dr_len (s : ByteArray) (i : Nat) : (drS s i).length = s.size - i := by rw [drS, List.length_drop, ← size_len]
theorem dr_at {s : ByteArray} {a i : Nat} (h : a ≤ i) (h2 : i < s.size) : drS s a = (drS s a).take (i - a) ++ s.data.toList.getD i 0 :: drS s (i + 1) := by
  rw [size_len] at h2
  have e : drS s i = s.data.toList.getD i 0 :: drS s (i + 1) := by
    rw [drS, drS, List.drop_eq_getElem_cons h2, List.getD_eq_getElem?_getD, List.getElem?_eq_getElem h2]; rfl
  rw [← e]
  have e2 : drS s i = (drS s a).drop (i - a) := by rw [drS, drS, List.drop_drop, show a + (i - a) = i by omega]
  rw [e2, List.take_append_drop]
theorem dr_more {s : ByteArray} {a i : Nat} (h : a ≤ i) (h2 : i < s.size) : (drS s a).take (i + 1 - a) = (drS s a).take (i - a) ++ [s.data.toList.getD i 0] := by
  have hl := dr_len s a
  rw [show i + 1 - a = (i - a) + 1 by omega, take_more (by rw [hl]; omega)]
  congr 2
  rw [drS, List.getD_eq_getElem?_getD, List.getElem?_drop, show a + (i - a) = i by omega, List.getD_eq_getElem?_getD]
theorem byte_of {b : UInt8} {c : Int} (c0 : 0 ≤ c) (c1 : c < 256) : ((b.toNat : Nat) : Int) = c ↔ b = c.toNat.toUInt8 := by
  have e : c.toNat.toUInt8.toNat = c.toNat := by
    rw [Nat.toUInt8, UInt8.toNat_ofNat']
    omega
  constructor
  · intro h
    refine UInt8.toNat_inj.1 ?_
    rw [e]; omega
  · intro h
    rw [h, e]; omega
set_option maxRecDepth 100000 in
theorem rs_ok {s : ByteArray} {c : Int} (h : s.size ≤ 100000) (c0 : 0 ≤ c) (c1 : c < 256) : SmallRes Tryz.prog 101 [.string s, .int .u8 c] [] (.slice (some ⟨0, 0, none⟩) (spI s c).length 0) [some (.row (strs (spI s c)) 1 true true true)] := by
  refine fnP_res hm c0_ok (hs := hsRs s c) ?_
  rw [rs_t]
  refine ⟨⟨(0 : Nat), ⟨trivial⟩, by first | trivial | rfl, by first | trivial | rfl⟩, fun _ _ => ⟨⟨(0, 0, []), ⟨Nat.le_refl _, Nat.zero_le _, Nat.le_refl _, rfl, by simp⟩, by first | trivial | rfl, by first | trivial | rfl⟩, fun x hx => br_of (fun hc => ?_) (fun hc => ?_)⟩⟩
  · obtain ⟨i, a, out⟩ := x
    obtain ⟨i1, i2, i3, i4, i5⟩ := hx.out
    simp only at hc i1 i2 i3 i4 i5 ⊢
    have hc := lt_of_dec hc
    simp only [Int.toNat_natCast]
    refine ⟨⟨by omega, by omega⟩, br_of (fun hb => ?_) (fun hb => ⟨(i + 1, a, out), ⟨by simp only; omega, hc, i3, i4, ?_⟩, ⟨by simp only; omega⟩, by rw [up1 hc (by omega)], by first | trivial | rfl⟩)⟩
    · have hb : s.data.toList.getD i 0 = c.toNat.toUInt8 := (byte_of c0 c1).1 (beq_iff_eq.1 hb)
      refine ⟨⟨by omega, by omega, by omega⟩, ⟨by rw [strs_len, Nat.mul_one], by omega, by omega⟩, ⟨(i + 1, i + 1, out ++ [sub s a i]), ⟨Nat.le_refl _, hc, by simp only [List.length_append, List.length_cons, List.length_nil]; omega, ?_, by simp⟩, ⟨by simp only; omega⟩, ?_, ?_⟩⟩
      · rw [i4]
        simp only
        rw [dr_at i1 hc, hb, spl_cut i5, sub_eq]
        simp
      · rw [up1 hc (by omega)]
        simp only [List.length_append, List.length_cons, List.length_nil]
      · rw [strs_snoc]; first | trivial | rfl
    · have hb : ¬ s.data.toList.getD i 0 = c.toNat.toUInt8 := fun e => (beq_eq_false_iff_ne.1 hb) ((byte_of c0 c1).2 e)
      simp only
      rw [dr_more i1 hc, List.mem_append, not_or]
      exact ⟨i5, fun h => hb (List.mem_singleton.1 h).symm⟩
  · obtain ⟨i, a, out⟩ := x
    obtain ⟨i1, i2, i3, i4, i5⟩ := hx.out
    simp only at hc i1 i2 i3 i4 i5 ⊢
    have hc := ge_of_dec hc
    have e : i = s.size := by omega
    subst e
    rw [List.take_of_length_le (by rw [dr_len]; omega)] at i5
    have e1 : sub s (a : Int) (s.size : Int) = ofL (drS s a) := by rw [sub_eq, List.take_of_length_le (by rw [dr_len]; omega)]
    rw [spl_one i5] at i4
    rw [e1, strs_snoc, i4]
    refine ⟨⟨by omega, by omega, by omega⟩, ⟨by rw [strs_len, Nat.mul_one], by omega, by omega⟩, by simp, by first | trivial | rfl⟩
noncomputable def orcRs : OrcV
  | [.string s, .int .u8 c], [] => some (.slice (some ⟨0, 0, none⟩) (spI s c).length 0, [some (.row (strs (spI s c)) 1 true true true)], s.size ≤ 100000 ∧ 0 ≤ c ∧ c < 256)
  | _, _ => none
theorem okRs : OkV Tryz.prog 101 orcRs := by
  intro args H ret H' vc h hv
  unfold orcRs at h
  split at h
  · cases h; exact rs_ok hv.1 hv.2.1 hv.2.2
  · cases h
end
end Qq
end
