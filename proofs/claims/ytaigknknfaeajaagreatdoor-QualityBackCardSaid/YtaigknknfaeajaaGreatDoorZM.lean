/- Parts of the proof: TF, TG, TH, TI. -/
import Derived.Test.YtaigknknfaeajaaGreatDoorZL
import Derived.Test.YtaigknknfaeajaaGreatDoorZK
import Derived.Test.YtaigknknfaeajaaGreatDoorZS
import Derived.Test.YtaigknknfaeajaaGreatDoorZR
section
/- Texts: the words of a line, taken one by one. -/
open Go Go.Vm Go.Proofs Sp
namespace Sp
noncomputable section
/-- Whether there is no next word, or an empty one. -/
def tkB (ws : List ByteArray) (off m : Nat) : Bool := decide (m = 0) || (ws.getD off ⟨#[]⟩ == ⟨#[]⟩)
/-- The next word; how many there are behind it. -/
def tkS (ws : List ByteArray) (off m : Nat) : ByteArray := if tkB ws off m = true then ⟨#[]⟩ else ws.getD off ⟨#[]⟩
def tkM (ws : List ByteArray) (off m : Nat) : Nat := if tkB ws off m = true then 0 else m - 1
def wL (ws : List ByteArray) (off : Nat) : Go.Value := .string (ws.getD off ⟨#[]⟩)
end
end Sp
namespace Qq
noncomputable section
noncomputable def tkR (off m : Nat) (w : Bool) (i : Nat) : Option AObj := some (.row [.slice (some ⟨i, off, none⟩) m big, .bool w] 0 false true false)
noncomputable def wsR (ws : List ByteArray) : Option AObj := some (.row (strs ws) 1 true true true)
noncomputable def hsWd (ws : List ByteArray) : Hs Tryz.prog where
  op y := if [111, 404].contains y then some (hIa Tryz.prog) else if [112, 405].contains y then some (hLd Tryz.prog (wL ws)) else if y = 505 then some (hSl Tryz.prog) else none
  au := auT []
theorem wd_t (ws : List ByteArray) (off : Nat) (m : Nat) (w : Bool) (K : Value → Heap → Prop) :
    (fnP Tryz.prog c0 (hsWd ws) (186 : FuncId) [Value.pointer (some { block := (0 : Nat), off := (0 : Nat) })] [tkR off m w (1 : Nat), wsR ws] K) =
    (Is True ∧ br ((↑m : Int) == (0 : Int)) (Is True ∧ Is True ∧ K (Value.string { data := #[] }) (some (AObj.row [Value.slice none (0 : Nat) (0 : Nat), Value.bool true] (0 : Nat) false true (false && List.all [Value.slice none (0 : Nat) (0 : Nat)] atom && List.all [Value.bool true] atom)) :: some (AObj.row (strs ws) (1 : Nat) true true true) :: noH)) (Is True ∧ Is ((0 : Int) ≤ (0 : Int) ∧ (0 : Int) < (↑m : Int)) ∧ Is ((strs ws)[off + (0 : Nat)]? = some (Value.string (List.getD ws (off + (0 : Nat)) { data := #[] }))) ∧ br (ByteArray.toList (List.getD ws (off + (0 : Nat)) { data := #[] }) == []) (Is True ∧ Is True ∧ K (Value.string { data := #[] }) (some (AObj.row [Value.slice none (0 : Nat) (0 : Nat), Value.bool true] (0 : Nat) false true (false && List.all [Value.slice none (0 : Nat) (0 : Nat)] atom && List.all [Value.bool true] atom)) :: some (AObj.row (strs ws) (1 : Nat) true true true) :: noH)) (Is True ∧ Is ((0 : Int) ≤ (0 : Int) ∧ (0 : Int) < (↑m : Int)) ∧ Is ((strs ws)[off + (0 : Nat)]? = some (Value.string (List.getD ws (off + (0 : Nat)) { data := #[] }))) ∧ Is True ∧ Is ((0 : Int) ≤ (1 : Int) ∧ (1 : Int) ≤ (↑m : Int) ∧ (↑m : Int) ≤ (↑m : Int)) ∧ Is True ∧ K (Value.string (List.getD ws (off + (0 : Nat)) { data := #[] })) (some (AObj.row [Value.slice (some { block := (1 : Nat), off := off + (1 : Nat) }) (Int.toNat (↑m : Int) - (1 : Nat)) (18446744073709551616 : Nat), Value.bool w] (0 : Nat) false true (false && List.all [Value.slice (some { block := (1 : Nat), off := off + (1 : Nat) }) (Int.toNat (↑m : Int) - (1 : Nat)) (18446744073709551616 : Nat)] atom)) :: some (AObj.row (strs ws) (1 : Nat) true true true) :: noH)))) := by kernel_rfl
theorem strs_at {ws : List ByteArray} {i : Nat} (h : i < ws.length) : (strs ws)[i]? = some (.string (ws.getD i ⟨#[]⟩)) := by
  rw [strs, List.getElem?_map, List.getElem?_eq_getElem h, List.getD_eq_getElem?_getD, List.getElem?_eq_getElem h]; rfl
theorem beq_nil (s : ByteArray) : (s.toList == []) = (s == ⟨#[]⟩) := by
  obtain ⟨⟨l⟩⟩ := s
  rw [Lib.toList_data]
  cases l <;> rfl
noncomputable def isTk (ws : List ByteArray) (off m : Nat) : Prop := (m = 0 ∨ off + m ≤ ws.length) ∧ m ≤ 1000000
theorem tk_next {ws : List ByteArray} {off m : Nat} (h : isTk ws off m) : isTk ws (off + 1) (tkM ws off m) := by
  obtain ⟨h1, h2⟩ := h
  rw [tkM]
  split
  · exact ⟨.inl rfl, Nat.zero_le _⟩
  · exact ⟨by omega, by omega⟩
set_option maxRecDepth 100000 in
theorem wd_ok {ws : List ByteArray} {off m : Nat} {w : Bool} (h : isTk ws off m) : SmallRes Tryz.prog 186 [.pointer (some ⟨0, 0, none⟩)] [tkR off m w 1, wsR ws] (.string (tkS ws off m)) [tkR (off + 1) (tkM ws off m) (w || tkB ws off m) 1, wsR ws] := by
  obtain ⟨h1, h2⟩ := h
  cases hb : tkB ws off m with
  | true =>
    have hs : tkS ws off m = ⟨#[]⟩ := by rw [tkS, if_pos hb]
    have hm0 : tkM ws off m = 0 := by rw [tkM, if_pos hb]
    rw [hs, hm0, Bool.or_true]
    have base : SmallRes Tryz.prog 186 [.pointer (some ⟨0, 0, none⟩)] [tkR off m w 1, wsR ws] (.string ⟨#[]⟩) [some (.row [.slice none 0 0, .bool true] 0 false true false), wsR ws] := by
      refine fnP_res hm c0_ok (hs := hsWd ws) ?_
      rw [wd_t]
      simp only [Nat.add_zero]
      refine ⟨⟨trivial⟩, br_of (fun _ => ⟨⟨trivial⟩, ⟨trivial⟩, by first | trivial | rfl, by first | trivial | rfl⟩) (fun hc => ?_)⟩
      have hc : m ≠ 0 := by have := beq_eq_false_iff_ne.1 hc; omega
      refine ⟨⟨trivial⟩, ⟨by omega, by omega⟩, ⟨strs_at (by omega)⟩, br_of (fun _ => ⟨⟨trivial⟩, ⟨trivial⟩, by first | trivial | rfl, by first | trivial | rfl⟩) (fun he => ?_)⟩
      rw [beq_nil] at he
      rw [tkB, he, decide_eq_false hc] at hb
      cases hb
    exact base.cellView (id := 0) (j := 0) (jd := 1) (off := off + 1) rfl rfl rfl
  | false =>
    have hs : tkS ws off m = ws.getD off ⟨#[]⟩ := by rw [tkS, if_neg (by rw [hb]; decide)]
    have hm0 : tkM ws off m = m - 1 := by rw [tkM, if_neg (by rw [hb]; decide)]
    rw [hs, hm0, Bool.or_false]
    have hb2 := Bool.or_eq_false_iff.1 hb
    have hm' : m ≠ 0 := of_decide_eq_false hb2.1
    refine fnP_res hm c0_ok (hs := hsWd ws) ?_
    rw [wd_t]
    simp only [Nat.add_zero]
    refine ⟨⟨trivial⟩, br_of (fun hc => ?_) (fun _ => ⟨⟨trivial⟩, ⟨by omega, by omega⟩, ⟨strs_at (by omega)⟩, br_of (fun he => ?_) (fun _ => ⟨⟨trivial⟩, ⟨by omega, by omega⟩, ⟨strs_at (by omega)⟩, ⟨trivial⟩, ⟨by omega, by omega, by omega⟩, ⟨trivial⟩, by first | trivial | rfl, ?_⟩)⟩)⟩
    · exact absurd (by have := beq_iff_eq.1 hc; omega) hm'
    · rw [beq_nil, hb2.2] at he; cases he
    · first | trivial | rfl
noncomputable def orcWd (ws : List ByteArray) : OrcV
  | [.pointer (some ⟨0, 0, none⟩)], [some (.row [.slice (some ⟨1, off, none⟩) m c, .bool w] 0 false true fl), some (.row e 1 true true true)] =>
    some (.string (tkS ws off m), [some (.row [.slice (some ⟨1, off + 1, none⟩) (tkM ws off m) big, .bool (w || tkB ws off m)] 0 false true false), some (.row e 1 true true true)], e = strs ws ∧ isTk ws off m ∧ c = big ∧ fl = false)
  | _, _ => none
theorem okWd (ws : List ByteArray) : OkV Tryz.prog 186 (orcWd ws) := by
  intro args H ret H' vc h hv
  unfold orcWd at h
  split at h
  · cases h
    obtain ⟨rfl, h1, rfl, rfl⟩ := hv
    exact wd_ok h1
  · cases h
/- A number taken. -/
noncomputable def hsIn (ws : List ByteArray) : Hs Tryz.prog where
  au := auT [(186, hCa Tryz.prog 186 (orcWd ws) (okWd ws)), (251, hCa Tryz.prog 251 orcIg okIg)]
theorem in_t (ws : List ByteArray) (off : Nat) (m : Nat) (w : Bool) (K : Value → Heap → Prop) :
    (fnP Tryz.prog c0 (hsIn ws) (221 : FuncId) [Value.pointer (some { block := (0 : Nat), off := (0 : Nat) })] [tkR off m w (1 : Nat), wsR ws] K) =
    (Is (strs ws = strs ws ∧ isTk ws off m ∧ (18446744073709551616 : Nat) = (18446744073709551616 : Nat) ∧ false = false) ∧ Is True ∧ Is True ∧ br (w || tkB ws off m) (Is True ∧ K (Value.int IntKind.i64 (igV (tkS ws off m))) (some (AObj.row [Value.slice (some { block := (1 : Nat), off := off + (1 : Nat) }) (tkM ws off m) (18446744073709551616 : Nat), Value.bool true] (0 : Nat) false true (false && List.all [Value.bool true] atom)) :: some (AObj.row (strs ws) (1 : Nat) true true true) :: noH)) (Is True ∧ K (Value.int IntKind.i64 (igV (tkS ws off m))) (some (AObj.row [Value.slice (some { block := (1 : Nat), off := off + (1 : Nat) }) (tkM ws off m) (18446744073709551616 : Nat), Value.bool !igB (tkS ws off m)] (0 : Nat) false true (false && List.all [Value.bool !igB (tkS ws off m)] atom)) :: some (AObj.row (strs ws) (1 : Nat) true true true) :: noH))) := by kernel_rfl
noncomputable def orcIn (ws : List ByteArray) : OrcV
  | [.pointer (some ⟨0, 0, none⟩)], [some (.row [.slice (some ⟨1, off, none⟩) m c, .bool w] 0 false true fl), some (.row e 1 true true true)] =>
    some (.int .i64 (igV (tkS ws off m)), [some (.row [.slice (some ⟨1, off + 1, none⟩) (tkM ws off m) big, .bool (w || tkB ws off m || !igB (tkS ws off m))] 0 false true false), some (.row e 1 true true true)], e = strs ws ∧ isTk ws off m ∧ c = big ∧ fl = false)
  | _, _ => none
theorem okIn (ws : List ByteArray) : OkV Tryz.prog 221 (orcIn ws) := by
  intro args H ret H' vc h hv
  unfold orcIn at h
  split at h
  · rename_i off m c w fl e
    cases h
    obtain ⟨rfl, h1, rfl, rfl⟩ := hv
    refine fnP_res hm c0_ok (hs := hsIn ws) ?_
    show fnP Tryz.prog c0 (hsIn ws) 221 [.pointer (some ⟨0, 0, none⟩)] [tkR off m w 1, wsR ws] _
    rw [in_t]
    refine ⟨⟨rfl, h1, rfl, rfl⟩, ⟨trivial⟩, ⟨trivial⟩, br_of (fun hb => ?_) (fun hb => ?_)⟩
    · rw [hb, Bool.true_or]
      exact ⟨⟨trivial⟩, by first | trivial | rfl, by first | trivial | rfl⟩
    · rw [hb, Bool.false_or]
      exact ⟨⟨trivial⟩, by first | trivial | rfl, by first | trivial | rfl⟩
  · cases h
/- The three forms of lines. -/
noncomputable def sR (nm : ByteArray) (n k : Nat) (i j : Nat) : Option AObj := some (.row [.string nm, .slice (some ⟨i, 0, none⟩) n 0, .slice (some ⟨j, 0, none⟩) k 0] 0 false true false)
noncomputable def zR5 (zs : List Int) : Option AObj := some (.row (ints zs) 2 true true true)
noncomputable def kR5 (ks : List (Int × ByteArray)) : Option AObj := some (.row (acs ks) 2 true true true)
noncomputable def hsRd2 (ws : List ByteArray) : Hs Tryz.prog where
  op y := if [201, 301].contains y then some (hCa Tryz.prog 221 (orcIn ws) (okIn ws)) else if y = 407 then some (hAp Tryz.prog) else none
  au := auT [(186, hCa Tryz.prog 186 (orcWd ws) (okWd ws))]
noncomputable def hsRd (ws : List ByteArray) : Hs Tryz.prog where
  op y := if y = 307 then some (hAp Tryz.prog) else none
  au := auT [(186, hCa Tryz.prog 186 (orcWd ws) (okWd ws)), (221, hCa Tryz.prog 221 (orcIn ws) (okIn ws))]
theorem rd1_t (nm : ByteArray) (zs : List Int) (ks : List (Int × ByteArray)) (n : Nat) (k : Nat) (ws : List ByteArray) (off : Nat) (m : Nat) (w : Bool) (K : Value → Heap → Prop) :
    (fnP Tryz.prog c0 (hsRd ws) (219 : FuncId) [Value.pointer (some { block := (0 : Nat), off := (0 : Nat) }), Value.pointer (some { block := (3 : Nat), off := (0 : Nat) })] [sR nm n k (1 : Nat) (2 : Nat), zR5 zs, kR5 ks, tkR off m w (4 : Nat), wsR ws] K) =
    (Is (strs ws = strs ws ∧ isTk ws off m ∧ (18446744073709551616 : Nat) = (18446744073709551616 : Nat) ∧ false = false) ∧ Is True ∧ K undef (some (AObj.row [Value.string (tkS ws off m), Value.slice (some { block := (1 : Nat), off := (0 : Nat) }) n (0 : Nat), Value.slice (some { block := (2 : Nat), off := (0 : Nat) }) k (0 : Nat)] (0 : Nat) false true (false && List.all [Value.string (tkS ws off m)] atom)) :: some (AObj.row (ints zs) (2 : Nat) true true true) :: some (AObj.row (acs ks) (2 : Nat) true true true) :: some (AObj.row [Value.slice (some { block := (4 : Nat), off := off + (1 : Nat) }) (tkM ws off m) (18446744073709551616 : Nat), Value.bool (w || tkB ws off m)] (0 : Nat) false true false) :: some (AObj.row (strs ws) (1 : Nat) true true true) :: noH)) := by kernel_rfl
theorem rd2_t (nm : ByteArray) (zs : List Int) (ks : List (Int × ByteArray)) (n : Nat) (k : Nat) (ws : List ByteArray) (off : Nat) (m : Nat) (w : Bool) (K : Value → Heap → Prop) :
    (fnP Tryz.prog c0 (hsRd2 ws) (220 : FuncId) [Value.pointer (some { block := (0 : Nat), off := (0 : Nat) }), Value.pointer (some { block := (3 : Nat), off := (0 : Nat) })] [sR nm n k (1 : Nat) (2 : Nat), zR5 zs, kR5 ks, tkR off m w (4 : Nat), wsR ws] K) =
    (Is (strs ws = strs ws ∧ isTk ws off m ∧ (18446744073709551616 : Nat) = (18446744073709551616 : Nat) ∧ false = false) ∧ Is (strs ws = strs ws ∧ isTk ws (off + (1 : Nat)) (tkM ws off m) ∧ (18446744073709551616 : Nat) = (18446744073709551616 : Nat) ∧ false = false) ∧ Is True ∧ Is (List.length (ints zs) = n * (2 : Nat) ∧ (n + (1 : Nat)) * (16 : Nat) ≤ (140737488355328 : Nat) ∧ n + (1 : Nat) ≤ (9223372036854775807 : Nat)) ∧ Is True ∧ K undef (some (AObj.row [Value.string nm, Value.slice (some { block := (5 : Nat), off := (0 : Nat) }) (n + (1 : Nat)) (0 : Nat), Value.slice (some { block := (2 : Nat), off := (0 : Nat) }) k (0 : Nat)] (0 : Nat) false true (false && List.all [Value.slice (some { block := List.length (some (AObj.row [Value.string nm, Value.slice (some { block := (1 : Nat), off := (0 : Nat) }) n (0 : Nat), Value.slice (some { block := (2 : Nat), off := (0 : Nat) }) k (0 : Nat)] (0 : Nat) false true false) :: some (AObj.row (ints zs) (2 : Nat) true true true) :: some (AObj.row (acs ks) (2 : Nat) true true true) :: some (AObj.row [Value.slice (some { block := (4 : Nat), off := off + (1 : Nat) + (1 : Nat) }) (tkM ws (off + (1 : Nat)) (tkM ws off m)) (18446744073709551616 : Nat), Value.bool (w || tkB ws off m || !igB (tkS ws off m) || tkB ws (off + (1 : Nat)) (tkM ws off m) || !igB (tkS ws (off + (1 : Nat)) (tkM ws off m)))] (0 : Nat) false true false) :: some (AObj.row (strs ws) (1 : Nat) true true true) :: some (AObj.row [Value.int IntKind.i64 (igV (tkS ws off m)), Value.int IntKind.i64 (igV (tkS ws (off + (1 : Nat)) (tkM ws off m)))] (0 : Nat) false true (true && List.all [Value.int IntKind.i64 (igV (tkS ws off m))] atom && List.all [Value.int IntKind.i64 (igV (tkS ws (off + (1 : Nat)) (tkM ws off m)))] atom)) :: some (AObj.row [Value.int IntKind.i64 (igV (tkS ws off m)), Value.int IntKind.i64 (igV (tkS ws (off + (1 : Nat)) (tkM ws off m)))] (2 : Nat) false true (List.all [Value.int IntKind.i64 (igV (tkS ws off m)), Value.int IntKind.i64 (igV (tkS ws (off + (1 : Nat)) (tkM ws off m)))] atom)) :: noH), off := (0 : Nat) }) (n + (1 : Nat)) (0 : Nat)] atom)) :: none :: some (AObj.row (acs ks) (2 : Nat) true true true) :: some (AObj.row [Value.slice (some { block := (4 : Nat), off := off + (1 : Nat) + (1 : Nat) }) (tkM ws (off + (1 : Nat)) (tkM ws off m)) (18446744073709551616 : Nat), Value.bool (w || tkB ws off m || !igB (tkS ws off m) || tkB ws (off + (1 : Nat)) (tkM ws off m) || !igB (tkS ws (off + (1 : Nat)) (tkM ws off m)))] (0 : Nat) false true false) :: some (AObj.row (strs ws) (1 : Nat) true true true) :: some (AObj.row (ints zs ++ [Value.int IntKind.i64 (igV (tkS ws off m)), Value.int IntKind.i64 (igV (tkS ws (off + (1 : Nat)) (tkM ws off m)))]) (2 : Nat) true true (List.all [Value.int IntKind.i64 (igV (tkS ws off m)), Value.int IntKind.i64 (igV (tkS ws (off + (1 : Nat)) (tkM ws off m)))] atom)) :: noH)) := by kernel_rfl
theorem rd3_t (nm : ByteArray) (zs : List Int) (ks : List (Int × ByteArray)) (n : Nat) (k : Nat) (ws : List ByteArray) (off : Nat) (m : Nat) (w : Bool) (K : Value → Heap → Prop) :
    (fnP Tryz.prog c0 (hsRd ws) (222 : FuncId) [Value.pointer (some { block := (0 : Nat), off := (0 : Nat) }), Value.pointer (some { block := (3 : Nat), off := (0 : Nat) })] [sR nm n k (1 : Nat) (2 : Nat), zR5 zs, kR5 ks, tkR off m w (4 : Nat), wsR ws] K) =
    (Is (strs ws = strs ws ∧ isTk ws off m ∧ (18446744073709551616 : Nat) = (18446744073709551616 : Nat) ∧ false = false) ∧ Is (strs ws = strs ws ∧ isTk ws (off + (1 : Nat)) (tkM ws off m) ∧ (18446744073709551616 : Nat) = (18446744073709551616 : Nat) ∧ false = false) ∧ Is True ∧ Is (List.length (acs ks) = k * (2 : Nat) ∧ (k + (1 : Nat)) * (24 : Nat) ≤ (140737488355328 : Nat) ∧ k + (1 : Nat) ≤ (9223372036854775807 : Nat)) ∧ Is True ∧ K undef (some (AObj.row [Value.string nm, Value.slice (some { block := (1 : Nat), off := (0 : Nat) }) n (0 : Nat), Value.slice (some { block := (5 : Nat), off := (0 : Nat) }) (k + (1 : Nat)) (0 : Nat)] (0 : Nat) false true (false && List.all [Value.slice (some { block := List.length (some (AObj.row [Value.string nm, Value.slice (some { block := (1 : Nat), off := (0 : Nat) }) n (0 : Nat), Value.slice (some { block := (2 : Nat), off := (0 : Nat) }) k (0 : Nat)] (0 : Nat) false true false) :: some (AObj.row (ints zs) (2 : Nat) true true true) :: some (AObj.row (acs ks) (2 : Nat) true true true) :: some (AObj.row [Value.slice (some { block := (4 : Nat), off := off + (1 : Nat) + (1 : Nat) }) (tkM ws (off + (1 : Nat)) (tkM ws off m)) (18446744073709551616 : Nat), Value.bool (w || tkB ws off m || !igB (tkS ws off m) || tkB ws (off + (1 : Nat)) (tkM ws off m))] (0 : Nat) false true false) :: some (AObj.row (strs ws) (1 : Nat) true true true) :: some (AObj.row [Value.int IntKind.i64 (igV (tkS ws off m)), Value.string (tkS ws (off + (1 : Nat)) (tkM ws off m))] (0 : Nat) false true (true && List.all [Value.int IntKind.i64 (igV (tkS ws off m))] atom && List.all [Value.string (tkS ws (off + (1 : Nat)) (tkM ws off m))] atom)) :: some (AObj.row [Value.int IntKind.i64 (igV (tkS ws off m)), Value.string (tkS ws (off + (1 : Nat)) (tkM ws off m))] (2 : Nat) false true (List.all [Value.int IntKind.i64 (igV (tkS ws off m)), Value.string (tkS ws (off + (1 : Nat)) (tkM ws off m))] atom)) :: noH), off := (0 : Nat) }) (k + (1 : Nat)) (0 : Nat)] atom)) :: some (AObj.row (ints zs) (2 : Nat) true true true) :: none :: some (AObj.row [Value.slice (some { block := (4 : Nat), off := off + (1 : Nat) + (1 : Nat) }) (tkM ws (off + (1 : Nat)) (tkM ws off m)) (18446744073709551616 : Nat), Value.bool (w || tkB ws off m || !igB (tkS ws off m) || tkB ws (off + (1 : Nat)) (tkM ws off m))] (0 : Nat) false true false) :: some (AObj.row (strs ws) (1 : Nat) true true true) :: some (AObj.row (acs ks ++ [Value.int IntKind.i64 (igV (tkS ws off m)), Value.string (tkS ws (off + (1 : Nat)) (tkM ws off m))]) (2 : Nat) true true (List.all [Value.int IntKind.i64 (igV (tkS ws off m)), Value.string (tkS ws (off + (1 : Nat)) (tkM ws off m))] atom)) :: noH)) := by kernel_rfl
noncomputable def orcRd1 (zs : List Int) (ks : List (Int × ByteArray)) (ws : List ByteArray) : OrcV
  | [.pointer (some ⟨0, 0, none⟩), .pointer (some ⟨3, 0, none⟩)], [some (.row [.string _nm, .slice (some ⟨1, 0, none⟩) n z1, .slice (some ⟨2, 0, none⟩) k z2] 0 false true f1), some (.row e1 2 true true true), some (.row e2 2 true true true), some (.row [.slice (some ⟨4, off, none⟩) m c, .bool w] 0 false true f2), some (.row e 1 true true true)] =>
    some (undef, [some (.row [.string (tkS ws off m), .slice (some ⟨1, 0, none⟩) n 0, .slice (some ⟨2, 0, none⟩) k 0] 0 false true false), some (.row e1 2 true true true), some (.row e2 2 true true true), some (.row [.slice (some ⟨4, off + 1, none⟩) (tkM ws off m) big, .bool (w || tkB ws off m)] 0 false true false), some (.row e 1 true true true)], (e1 = ints zs ∧ e2 = acs ks ∧ zs.length = n * 2 ∧ ks.length = k ∧ n ≤ 100000 ∧ k ≤ 100000) ∧ e = strs ws ∧ isTk ws off m ∧ c = big ∧ f1 = false ∧ f2 = false ∧ z1 = 0 ∧ z2 = 0)
  | _, _ => none
set_option maxRecDepth 100000 in
theorem okRd1 (zs : List Int) (ks : List (Int × ByteArray)) (ws : List ByteArray) : OkV Tryz.prog 219 (orcRd1 zs ks ws) := by
  intro args H ret H' vc h hv
  unfold orcRd1 at h
  split at h
  · rename_i nm n z1 k z2 f1 e1 e2 off m c w f2 e
    cases h
    obtain ⟨⟨rfl, rfl, hz, hk, hn, hk2⟩, rfl, ht, rfl, rfl, rfl, rfl, rfl⟩ := hv
    refine fnP_res hm c0_ok (hs := hsRd ws) ?_
    show fnP Tryz.prog c0 (hsRd ws) 219 [.pointer (some ⟨0, 0, none⟩), .pointer (some ⟨3, 0, none⟩)] [sR nm n k 1 2, zR5 zs, kR5 ks, tkR off m w 4, wsR ws] _
    rw [rd1_t]
    exact ⟨⟨rfl, ht, rfl, rfl⟩, ⟨trivial⟩, by first | trivial | rfl, by first | trivial | rfl⟩
  · cases h
noncomputable def orcRd2 (zs : List Int) (ks : List (Int × ByteArray)) (ws : List ByteArray) : OrcV
  | [.pointer (some ⟨0, 0, none⟩), .pointer (some ⟨3, 0, none⟩)], [some (.row [.string nm, .slice (some ⟨1, 0, none⟩) n z1, .slice (some ⟨2, 0, none⟩) k z2] 0 false true f1), some (.row e1 2 true true true), some (.row e2 2 true true true), some (.row [.slice (some ⟨4, off, none⟩) m c, .bool w] 0 false true f2), some (.row e 1 true true true)] =>
    some (undef, [some (.row [.string nm, .slice (some ⟨5, 0, none⟩) (n + 1) 0, .slice (some ⟨2, 0, none⟩) k 0] 0 false true false), none, some (.row e2 2 true true true), some (.row [.slice (some ⟨4, off + 1 + 1, none⟩) (tkM ws (off + 1) (tkM ws off m)) big, .bool (w || tkB ws off m || !igB (tkS ws off m) || tkB ws (off + 1) (tkM ws off m) || !igB (tkS ws (off + 1) (tkM ws off m)))] 0 false true false), some (.row e 1 true true true), some (.row (ints (zs ++ [igV (tkS ws off m), igV (tkS ws (off + 1) (tkM ws off m))])) 2 true true true)], (e1 = ints zs ∧ e2 = acs ks ∧ zs.length = n * 2 ∧ ks.length = k ∧ n ≤ 100000 ∧ k ≤ 100000) ∧ e = strs ws ∧ isTk ws off m ∧ c = big ∧ f1 = false ∧ f2 = false ∧ z1 = 0 ∧ z2 = 0)
  | _, _ => none
set_option maxRecDepth 100000 in
theorem okRd2 (zs : List Int) (ks : List (Int × ByteArray)) (ws : List ByteArray) : OkV Tryz.prog 220 (orcRd2 zs ks ws) := by
  intro args H ret H' vc h hv
  unfold orcRd2 at h
  split at h
  · rename_i nm n z1 k z2 f1 e1 e2 off m c w f2 e
    cases h
    obtain ⟨⟨rfl, rfl, hz, hk, hn, hk2⟩, rfl, ht, rfl, rfl, rfl, rfl, rfl⟩ := hv
    refine fnP_res hm c0_ok (hs := hsRd2 ws) ?_
    show fnP Tryz.prog c0 (hsRd2 ws) 220 [.pointer (some ⟨0, 0, none⟩), .pointer (some ⟨3, 0, none⟩)] [sR nm n k 1 2, zR5 zs, kR5 ks, tkR off m w 4, wsR ws] _
    rw [rd2_t]
    exact ⟨⟨rfl, ht, rfl, rfl⟩, ⟨rfl, tk_next ht, rfl, rfl⟩, ⟨trivial⟩, ⟨by rw [ints_len]; exact hz, by omega, by omega⟩, ⟨trivial⟩, by first | trivial | rfl, by rw [← ints_app]; first | trivial | rfl⟩
  · cases h
noncomputable def orcRd3 (zs : List Int) (ks : List (Int × ByteArray)) (ws : List ByteArray) : OrcV
  | [.pointer (some ⟨0, 0, none⟩), .pointer (some ⟨3, 0, none⟩)], [some (.row [.string nm, .slice (some ⟨1, 0, none⟩) n z1, .slice (some ⟨2, 0, none⟩) k z2] 0 false true f1), some (.row e1 2 true true true), some (.row e2 2 true true true), some (.row [.slice (some ⟨4, off, none⟩) m c, .bool w] 0 false true f2), some (.row e 1 true true true)] =>
    some (undef, [some (.row [.string nm, .slice (some ⟨1, 0, none⟩) n 0, .slice (some ⟨5, 0, none⟩) (k + 1) 0] 0 false true false), some (.row e1 2 true true true), none, some (.row [.slice (some ⟨4, off + 1 + 1, none⟩) (tkM ws (off + 1) (tkM ws off m)) big, .bool (w || tkB ws off m || !igB (tkS ws off m) || tkB ws (off + 1) (tkM ws off m))] 0 false true false), some (.row e 1 true true true), some (.row (acs (ks ++ [(igV (tkS ws off m), (tkS ws (off + 1) (tkM ws off m)))])) 2 true true true)], (e1 = ints zs ∧ e2 = acs ks ∧ zs.length = n * 2 ∧ ks.length = k ∧ n ≤ 100000 ∧ k ≤ 100000) ∧ e = strs ws ∧ isTk ws off m ∧ c = big ∧ f1 = false ∧ f2 = false ∧ z1 = 0 ∧ z2 = 0)
  | _, _ => none
set_option maxRecDepth 100000 in
theorem okRd3 (zs : List Int) (ks : List (Int × ByteArray)) (ws : List ByteArray) : OkV Tryz.prog 222 (orcRd3 zs ks ws) := by
  intro args H ret H' vc h hv
  unfold orcRd3 at h
  split at h
  · rename_i nm n z1 k z2 f1 e1 e2 off m c w f2 e
    cases h
    obtain ⟨⟨rfl, rfl, hz, hk, hn, hk2⟩, rfl, ht, rfl, rfl, rfl, rfl, rfl⟩ := hv
    refine fnP_res hm c0_ok (hs := hsRd ws) ?_
    show fnP Tryz.prog c0 (hsRd ws) 222 [.pointer (some ⟨0, 0, none⟩), .pointer (some ⟨3, 0, none⟩)] [sR nm n k 1 2, zR5 zs, kR5 ks, tkR off m w 4, wsR ws] _
    rw [rd3_t]
    exact ⟨⟨rfl, ht, rfl, rfl⟩, ⟨rfl, tk_next ht, rfl, rfl⟩, ⟨trivial⟩, ⟨by rw [acs_len, hk], by omega, by omega⟩, ⟨trivial⟩, by first | trivial | rfl, by rw [← acs_app]; first | trivial | rfl⟩
  · cases h
end
end Qq
end
section
/- Texts: strings, parted by the library. -/
open Go Go.Vm Go.Proofs Sp
namespace Sp
noncomputable section
def spU (s : ByteArray) (c : UInt8) : List ByteArray := (spl c s.data.toList).map ofL
/-- What is left when i parts are taken. -/
def rsU (s : ByteArray) (c : UInt8) (i : Nat) : ByteArray := ofL (Qq.jn c ((spl c s.data.toList).drop i))
/-- The parts that are there already. -/
def spM (L : List ByteArray) (i : Nat) : List ByteArray := L.take i ++ List.replicate (L.length - i) ⟨#[]⟩
end
end Sp
namespace Qq
noncomputable section
noncomputable def zst (n : Nat) : List Value := strs (List.replicate n ⟨#[]⟩)
noncomputable def lpGs0 (s : ByteArray) (c : UInt8) : Lp where
  σ := Nat
  E _ := slots 66 [(0, .string s), (1, .string ⟨#[c]⟩), (2, .int .i64 0), (3, .int .i64 (Int.ofNat (spU s c).length - 1)), (9, .slice (some ⟨0, 0, none⟩) (spU s c).length 0)]
  Hp _ := [some (.row (strs (spM (spU s c) 0)) 1 true true true)]
  I _ := True
  m _ := 0
noncomputable def lpGs (s : ByteArray) (c : UInt8) : Lp where
  σ := Nat
  E i := slots 66 [(0, .string (rsU s c i)), (1, .string ⟨#[c]⟩), (2, .int .i64 0), (3, .int .i64 (Int.ofNat (spU s c).length - 1)), (9, .slice (some ⟨0, 0, none⟩) (spU s c).length 0), (10, .int .i64 (Int.ofNat i))]
  Hp i := [some (.row (strs (spM (spU s c) i)) 1 true true true)]
  I i := i + 1 ≤ (spU s c).length
  m i := (spU s c).length - i
noncomputable def hsGs (s : ByteArray) (c : UInt8) : Hs Tryz.prog where
  op y := if y = 801 then some (hMk Tryz.prog zst) else if [1407, 1703].contains y then some (hIa Tryz.prog) else if [1408, 1704].contains y then some (hSp Tryz.prog) else if y = 1803 then some (hSl Tryz.prog) else none
  cut y := if y = 10 then some (lpGs0 s c) else none
  lp y := if y = 11 then some (lpGs s c) else none
  cl y := if y = 10 then keep 66 [0, 1, 2, 3, 9] else keep 66 [0, 1, 2, 3, 9, 10]
  au := auS [(259, hCa Tryz.prog 259 orcCt okCt), (260, hCa Tryz.prog 260 orcIx okIx)]
theorem gs_t (s : ByteArray) (c : UInt8) (K : Value → Heap → Prop) :
    (fnP Tryz.prog c0 (hsGs s c) (228 : FuncId) [Value.string s, Value.string { data := #[c] }, Value.int IntKind.i64 (0 : Int), Value.int IntKind.i64 (-1 : Int)] [] K) =
    (Is True ∧ Is (((if IntKind.wrap IntKind.i64 ((↑(ByteArray.size s) : Int) + (1 : Int)) < IntKind.wrap IntKind.i64 (ctS s c + (1 : Int)) then IntKind.wrap IntKind.i64 ((↑(ByteArray.size s) : Int) + (1 : Int)) else IntKind.wrap IntKind.i64 (ctS s c + (1 : Int))) = if IntKind.wrap IntKind.i64 ((↑(ByteArray.size s) : Int) + (1 : Int)) < IntKind.wrap IntKind.i64 (ctS s c + (1 : Int)) then IntKind.wrap IntKind.i64 ((↑(ByteArray.size s) : Int) + (1 : Int)) else IntKind.wrap IntKind.i64 (ctS s c + (1 : Int))) ∧ ((0 : Int) ≤ if IntKind.wrap IntKind.i64 ((↑(ByteArray.size s) : Int) + (1 : Int)) < IntKind.wrap IntKind.i64 (ctS s c + (1 : Int)) then IntKind.wrap IntKind.i64 ((↑(ByteArray.size s) : Int) + (1 : Int)) else IntKind.wrap IntKind.i64 (ctS s c + (1 : Int))) ∧ (if IntKind.wrap IntKind.i64 ((↑(ByteArray.size s) : Int) + (1 : Int)) < IntKind.wrap IntKind.i64 (ctS s c + (1 : Int)) then IntKind.wrap IntKind.i64 ((↑(ByteArray.size s) : Int) + (1 : Int)) else IntKind.wrap IntKind.i64 (ctS s c + (1 : Int))) ≤ (9223372036854775807 : Int) ∧ ((16 : Int) * if IntKind.wrap IntKind.i64 ((↑(ByteArray.size s) : Int) + (1 : Int)) < IntKind.wrap IntKind.i64 (ctS s c + (1 : Int)) then IntKind.wrap IntKind.i64 ((↑(ByteArray.size s) : Int) + (1 : Int)) else IntKind.wrap IntKind.i64 (ctS s c + (1 : Int))) ≤ (281474976710656 : Int) ∧ zeroCells (Value.string { data := #[] }) (Int.toNat (if IntKind.wrap IntKind.i64 ((↑(ByteArray.size s) : Int) + (1 : Int)) < IntKind.wrap IntKind.i64 (ctS s c + (1 : Int)) then IntKind.wrap IntKind.i64 ((↑(ByteArray.size s) : Int) + (1 : Int)) else IntKind.wrap IntKind.i64 (ctS s c + (1 : Int))) * (1 : Nat)) (zst (Int.toNat (if IntKind.wrap IntKind.i64 ((↑(ByteArray.size s) : Int) + (1 : Int)) < IntKind.wrap IntKind.i64 (ctS s c + (1 : Int)) then IntKind.wrap IntKind.i64 ((↑(ByteArray.size s) : Int) + (1 : Int)) else IntKind.wrap IntKind.i64 (ctS s c + (1 : Int)))))) ∧ (∃ (_s_1 : Nat), Is True ∧ [Value.string s, Value.string { data := #[c] }, Value.int IntKind.i64 (0 : Int), Value.int IntKind.i64 (IntKind.wrap IntKind.i64 ((if IntKind.wrap IntKind.i64 ((↑(ByteArray.size s) : Int) + (1 : Int)) < IntKind.wrap IntKind.i64 (ctS s c + (1 : Int)) then IntKind.wrap IntKind.i64 ((↑(ByteArray.size s) : Int) + (1 : Int)) else IntKind.wrap IntKind.i64 (ctS s c + (1 : Int))) - (1 : Int))), poi, poi, poi, poi, poi, Value.slice (some { block := (0 : Nat), off := (0 : Nat) }) (Int.toNat (if IntKind.wrap IntKind.i64 ((↑(ByteArray.size s) : Int) + (1 : Int)) < IntKind.wrap IntKind.i64 (ctS s c + (1 : Int)) then IntKind.wrap IntKind.i64 ((↑(ByteArray.size s) : Int) + (1 : Int)) else IntKind.wrap IntKind.i64 (ctS s c + (1 : Int)))) (0 : Nat), poi, poi, poi, poi, poi, poi, poi, poi, poi, poi, poi, poi, poi, poi, poi, poi, poi, poi, poi, poi, poi, poi, poi, poi, poi, poi, poi, poi, poi, poi, poi, poi, poi, poi, poi, poi, poi, poi, poi, poi, poi, poi, poi, poi, poi, poi, poi, poi, poi, poi, poi, poi, poi, poi, poi, poi] = [Value.string s, Value.string { data := #[c] }, Value.int IntKind.i64 (0 : Int), Value.int IntKind.i64 ((↑(List.length (spU s c)) : Int) - (1 : Int)), poi, poi, poi, poi, poi, Value.slice (some { block := (0 : Nat), off := (0 : Nat) }) (List.length (spU s c)) (0 : Nat), poi, poi, poi, poi, poi, poi, poi, poi, poi, poi, poi, poi, poi, poi, poi, poi, poi, poi, poi, poi, poi, poi, poi, poi, poi, poi, poi, poi, poi, poi, poi, poi, poi, poi, poi, poi, poi, poi, poi, poi, poi, poi, poi, poi, poi, poi, poi, poi, poi, poi, poi, poi, poi, poi, poi, poi] ∧ some (AObj.row (zst (Int.toNat (if IntKind.wrap IntKind.i64 ((↑(ByteArray.size s) : Int) + (1 : Int)) < IntKind.wrap IntKind.i64 (ctS s c + (1 : Int)) then IntKind.wrap IntKind.i64 ((↑(ByteArray.size s) : Int) + (1 : Int)) else IntKind.wrap IntKind.i64 (ctS s c + (1 : Int))))) (1 : Nat) true true true) :: noH = some (AObj.row (strs (spM (spU s c) (0 : Nat))) (1 : Nat) true true true) :: noH) ∧ ∀ (_s_1 : Nat), Is True → (∃ (s_2 : Nat), Is (s_2 + (1 : Nat) ≤ List.length (spU s c)) ∧ [Value.string s, Value.string { data := #[c] }, Value.int IntKind.i64 (0 : Int), Value.int IntKind.i64 ((↑(List.length (spU s c)) : Int) - (1 : Int)), poi, poi, poi, poi, poi, Value.slice (some { block := (0 : Nat), off := (0 : Nat) }) (List.length (spU s c)) (0 : Nat), Value.int IntKind.i64 (0 : Int), poi, poi, poi, poi, poi, poi, poi, poi, poi, poi, poi, poi, poi, poi, poi, poi, poi, poi, poi, poi, poi, poi, poi, poi, poi, poi, poi, poi, poi, poi, poi, poi, poi, poi, poi, poi, poi, poi, poi, poi, poi, poi, poi, poi, poi, poi, poi, poi, poi, poi, poi, poi, poi, poi, poi] = [Value.string (rsU s c s_2), Value.string { data := #[c] }, Value.int IntKind.i64 (0 : Int), Value.int IntKind.i64 ((↑(List.length (spU s c)) : Int) - (1 : Int)), poi, poi, poi, poi, poi, Value.slice (some { block := (0 : Nat), off := (0 : Nat) }) (List.length (spU s c)) (0 : Nat), Value.int IntKind.i64 (↑s_2 : Int), poi, poi, poi, poi, poi, poi, poi, poi, poi, poi, poi, poi, poi, poi, poi, poi, poi, poi, poi, poi, poi, poi, poi, poi, poi, poi, poi, poi, poi, poi, poi, poi, poi, poi, poi, poi, poi, poi, poi, poi, poi, poi, poi, poi, poi, poi, poi, poi, poi, poi, poi, poi, poi, poi, poi] ∧ some (AObj.row (strs (spM (spU s c) (0 : Nat))) (1 : Nat) true true true) :: noH = some (AObj.row (strs (spM (spU s c) s_2)) (1 : Nat) true true true) :: noH) ∧ ∀ (s_2 : Nat), Is (s_2 + (1 : Nat) ≤ List.length (spU s c)) → br (decide ((↑s_2 : Int) < (↑(List.length (spU s c)) : Int) - (1 : Int))) (Is True ∧ br (decide (ixC (rsU s c s_2) c < (0 : Int))) (Is ((0 : Int) ≤ (↑s_2 : Int) ∧ (↑s_2 : Int) < (↑(List.length (spU s c)) : Int)) ∧ Is ((0 : Nat) + Int.toNat (↑s_2 : Int) * (1 : Nat) + List.length [Value.string (rsU s c s_2)] ≤ List.length (strs (spM (spU s c) s_2))) ∧ Is ((0 : Int) ≤ (0 : Int) ∧ (0 : Int) ≤ IntKind.wrap IntKind.i64 ((↑s_2 : Int) + (1 : Int)) ∧ IntKind.wrap IntKind.i64 ((↑s_2 : Int) + (1 : Int)) ≤ (↑(List.length (spU s c)) : Int)) ∧ K (Value.slice (some { block := (0 : Nat), off := (0 : Nat) }) (Int.toNat (IntKind.wrap IntKind.i64 ((↑s_2 : Int) + (1 : Int))) - (0 : Nat)) (18446744073709551616 : Nat)) (some (AObj.row (putL (strs (spM (spU s c) s_2)) ((0 : Nat) + Int.toNat (↑s_2 : Int) * (1 : Nat)) [Value.string (rsU s c s_2)]) (1 : Nat) true true (true && List.all [Value.string (rsU s c s_2)] atom)) :: noH)) (Is ((0 : Int) ≤ (0 : Int) ∧ (0 : Int) ≤ IntKind.wrap IntKind.i64 (ixC (rsU s c s_2) c + (0 : Int)) ∧ IntKind.wrap IntKind.i64 (ixC (rsU s c s_2) c + (0 : Int)) ≤ (↑(ByteArray.size (rsU s c s_2)) : Int)) ∧ Is ((0 : Int) ≤ (↑s_2 : Int) ∧ (↑s_2 : Int) < (↑(List.length (spU s c)) : Int)) ∧ Is ((0 : Nat) + Int.toNat (↑s_2 : Int) * (1 : Nat) + List.length [Value.string (sub (rsU s c s_2) (0 : Int) (IntKind.wrap IntKind.i64 (ixC (rsU s c s_2) c + (0 : Int))))] ≤ List.length (strs (spM (spU s c) s_2))) ∧ Is ((0 : Int) ≤ IntKind.wrap IntKind.i64 (ixC (rsU s c s_2) c + (↑(ByteArray.size { data := #[c] }) : Int)) ∧ IntKind.wrap IntKind.i64 (ixC (rsU s c s_2) c + (↑(ByteArray.size { data := #[c] }) : Int)) ≤ (↑(ByteArray.size (rsU s c s_2)) : Int) ∧ (↑(ByteArray.size (rsU s c s_2)) : Int) ≤ (↑(ByteArray.size (rsU s c s_2)) : Int)) ∧ ∃ (s' : Nat), Is (s' + (1 : Nat) ≤ List.length (spU s c)) ∧ Is (List.length (spU s c) - s' < List.length (spU s c) - s_2) ∧ [Value.string (sub (rsU s c s_2) (IntKind.wrap IntKind.i64 (ixC (rsU s c s_2) c + (↑(ByteArray.size { data := #[c] }) : Int))) (↑(ByteArray.size (rsU s c s_2)) : Int)), Value.string { data := #[c] }, Value.int IntKind.i64 (0 : Int), Value.int IntKind.i64 ((↑(List.length (spU s c)) : Int) - (1 : Int)), poi, poi, poi, poi, poi, Value.slice (some { block := (0 : Nat), off := (0 : Nat) }) (List.length (spU s c)) (0 : Nat), Value.int IntKind.i64 (IntKind.wrap IntKind.i64 ((↑s_2 : Int) + (1 : Int))), poi, poi, poi, poi, poi, poi, poi, poi, poi, poi, poi, poi, poi, poi, poi, poi, poi, poi, poi, poi, poi, poi, poi, poi, poi, poi, poi, poi, poi, poi, poi, poi, poi, poi, poi, poi, poi, poi, poi, poi, poi, poi, poi, poi, poi, poi, poi, poi, poi, poi, poi, poi, poi, poi, poi] = [Value.string (rsU s c s'), Value.string { data := #[c] }, Value.int IntKind.i64 (0 : Int), Value.int IntKind.i64 ((↑(List.length (spU s c)) : Int) - (1 : Int)), poi, poi, poi, poi, poi, Value.slice (some { block := (0 : Nat), off := (0 : Nat) }) (List.length (spU s c)) (0 : Nat), Value.int IntKind.i64 (↑s' : Int), poi, poi, poi, poi, poi, poi, poi, poi, poi, poi, poi, poi, poi, poi, poi, poi, poi, poi, poi, poi, poi, poi, poi, poi, poi, poi, poi, poi, poi, poi, poi, poi, poi, poi, poi, poi, poi, poi, poi, poi, poi, poi, poi, poi, poi, poi, poi, poi, poi, poi, poi, poi, poi, poi, poi] ∧ some (AObj.row (putL (strs (spM (spU s c) s_2)) ((0 : Nat) + Int.toNat (↑s_2 : Int) * (1 : Nat)) [Value.string (sub (rsU s c s_2) (0 : Int) (IntKind.wrap IntKind.i64 (ixC (rsU s c s_2) c + (0 : Int))))]) (1 : Nat) true true (true && List.all [Value.string (sub (rsU s c s_2) (0 : Int) (IntKind.wrap IntKind.i64 (ixC (rsU s c s_2) c + (0 : Int))))] atom)) :: noH = some (AObj.row (strs (spM (spU s c) s')) (1 : Nat) true true true) :: noH)) (Is ((0 : Int) ≤ (↑s_2 : Int) ∧ (↑s_2 : Int) < (↑(List.length (spU s c)) : Int)) ∧ Is ((0 : Nat) + Int.toNat (↑s_2 : Int) * (1 : Nat) + List.length [Value.string (rsU s c s_2)] ≤ List.length (strs (spM (spU s c) s_2))) ∧ Is ((0 : Int) ≤ (0 : Int) ∧ (0 : Int) ≤ IntKind.wrap IntKind.i64 ((↑s_2 : Int) + (1 : Int)) ∧ IntKind.wrap IntKind.i64 ((↑s_2 : Int) + (1 : Int)) ≤ (↑(List.length (spU s c)) : Int)) ∧ K (Value.slice (some { block := (0 : Nat), off := (0 : Nat) }) (Int.toNat (IntKind.wrap IntKind.i64 ((↑s_2 : Int) + (1 : Int))) - (0 : Nat)) (18446744073709551616 : Nat)) (some (AObj.row (putL (strs (spM (spU s c) s_2)) ((0 : Nat) + Int.toNat (↑s_2 : Int) * (1 : Nat)) [Value.string (rsU s c s_2)]) (1 : Nat) true true (true && List.all [Value.string (rsU s c s_2)] atom)) :: noH))) := by kernel_rfl
theorem ixb_of {c : UInt8} {r : List UInt8} : ∀ {a : List UInt8}, c ∉ a → Lib.indexByte (a ++ c :: r) c = (a.length : Int)
  | [], _ => by rw [List.nil_append, Lib.indexByte]; simp
  | b :: a, h => by
    simp only [List.mem_cons, not_or] at h
    have hb : ¬ b = c := fun e => h.1 e.symm
    have hbe : (b == c) = false := beq_eq_false_iff_ne.2 hb
    have ih := ixb_of (r := r) h.2
    rw [List.cons_append, Lib.indexByte, hbe, ih]
    simp
theorem spU_len (s : ByteArray) (c : UInt8) : (spU s c).length = s.data.toList.count c + 1 := by rw [spU, List.length_map, spl_len]
theorem spU_at (s : ByteArray) (c : UInt8) {i : Nat} : (spU s c).getD i ⟨#[]⟩ = ofL ((spl c s.data.toList).getD i []) := by
  rw [spU, List.getD_eq_getElem?_getD, List.getElem?_map, List.getD_eq_getElem?_getD]
  cases (spl c s.data.toList)[i]? <;> rfl
theorem get_drop {α : Type} {l : List α} {i : Nat} (d : α) (h : i < l.length) : l.drop i = l.getD i d :: l.drop (i + 1) := by
  rw [List.drop_eq_getElem_cons h, List.getD_eq_getElem?_getD, List.getElem?_eq_getElem h]; rfl
theorem rsU_zero (s : ByteArray) (c : UInt8) : rsU s c 0 = s := by
  rw [rsU, List.drop_zero, jn_spl, ofL_data]
theorem rsU_last {s : ByteArray} {c : UInt8} {i : Nat} (h : i + 1 = (spU s c).length) : rsU s c i = (spU s c).getD i ⟨#[]⟩ := by
  rw [spU_len, ← spl_len] at h
  rw [spU_at, rsU, get_drop [] (by omega), List.drop_eq_nil_of_le (by omega), jn]
theorem rsU_step {s : ByteArray} {c : UInt8} {i : Nat} (h : i + 1 < (spU s c).length) :
    ixC (rsU s c i) c = (((spU s c).getD i ⟨#[]⟩).size : Int) ∧ sub (rsU s c i) 0 (((spU s c).getD i ⟨#[]⟩).size : Int) = (spU s c).getD i ⟨#[]⟩ ∧
    (rsU s c i).size = ((spU s c).getD i ⟨#[]⟩).size + 1 + (rsU s c (i + 1)).size ∧ sub (rsU s c i) ((((spU s c).getD i ⟨#[]⟩).size + 1 : Nat) : Int) ((rsU s c i).size : Int) = rsU s c (i + 1) := by
  rw [spU_len, ← spl_len] at h
  have hf := spl_free (c := c) s.data.toList
  rw [spU_at]
  have e : jn c ((spl c s.data.toList).drop i) = (spl c s.data.toList).getD i [] ++ c :: jn c ((spl c s.data.toList).drop (i + 1)) := by
    rw [get_drop [] (show i < (spl c s.data.toList).length by omega), get_drop [] (show i + 1 < (spl c s.data.toList).length by omega), jn]
  have hn : c ∉ (spl c s.data.toList).getD i [] := by
    refine hf _ ?_
    rw [List.getD_eq_getElem?_getD, List.getElem?_eq_getElem (show i < _ by omega)]
    exact List.getElem_mem _
  rw [rsU, rsU, e]
  generalize (spl c s.data.toList).getD i [] = a at *
  generalize jn c ((spl c s.data.toList).drop (i + 1)) = r at *
  have es : (ofL (a ++ c :: r)).size = a.length + 1 + r.length := by rw [size_ofL, List.length_append, List.length_cons]; omega
  refine ⟨?_, ?_, ?_, ?_⟩
  · rw [ixC, data_ofL, ixb_of hn, size_ofL]
  · have := sub_eq (ofL (a ++ c :: r)) 0 (ofL a).size
    rw [show ((0 : Nat) : Int) = 0 from rfl] at this
    rw [this, drS, List.drop_zero, data_ofL, size_ofL, Nat.sub_zero, List.take_left]
  · rw [es, size_ofL, size_ofL]
  · rw [sub_eq, es, size_ofL, drS, data_ofL]
    have e3 : (a ++ c :: r).drop (a.length + 1) = r := by
      rw [show a ++ c :: r = (a ++ [c]) ++ r by simp, show a.length + 1 = (a ++ [c]).length by simp, List.drop_left]
    rw [e3, List.take_of_length_le (by omega)]
theorem spM_zero (L : List ByteArray) : spM L 0 = List.replicate L.length ⟨#[]⟩ := by rw [spM, List.take_zero, List.nil_append, Nat.sub_zero]
theorem spM_len {L : List ByteArray} {i : Nat} (h : i ≤ L.length) : (spM L i).length = L.length := by
  rw [spM, List.length_append, List.length_take, List.length_replicate]; omega
theorem spM_full (L : List ByteArray) : spM L L.length = L := by
  rw [spM, List.take_length, Nat.sub_self]; simp
theorem put_spM {L : List ByteArray} {i : Nat} (h : i < L.length) : putL (strs (spM L i)) i [.string (L.getD i ⟨#[]⟩)] = strs (spM L (i + 1)) := by
  have e1 : spM L i = L.take i ++ ⟨#[]⟩ :: List.replicate (L.length - (i + 1)) ⟨#[]⟩ := by
    rw [spM, show L.length - i = (L.length - (i + 1)) + 1 by omega, List.replicate_succ]
  have e2 : spM L (i + 1) = L.take i ++ L.getD i ⟨#[]⟩ :: List.replicate (L.length - (i + 1)) ⟨#[]⟩ := by
    rw [spM, List.take_add_one, List.getD_eq_getElem?_getD, List.getElem?_eq_getElem h]
    simp only [Option.toList, Option.getD_some, List.append_assoc, List.singleton_append]
  have hl : (strs (L.take i)).length = i := by rw [strs_len, List.length_take]; omega
  rw [e1, e2, putL, splice]
  simp only [strs, List.map_append, List.map_cons, List.length_cons, List.length_nil] at hl ⊢
  rw [List.take_append_of_le_length (by omega), List.take_of_length_le (by omega)]
  congr 1
  rw [show (L.take i).map Value.string ++ Value.string ⟨#[]⟩ :: (List.replicate (L.length - (i + 1)) ⟨#[]⟩).map Value.string = ((L.take i).map Value.string ++ [Value.string ⟨#[]⟩]) ++ (List.replicate (L.length - (i + 1)) ⟨#[]⟩).map Value.string by simp,
    List.drop_append_of_le_length (by simp at hl ⊢; omega), List.drop_of_length_le (by simp at hl ⊢; omega)]
  rfl
theorem spl_small (c : UInt8) (l : List UInt8) (i : Nat) : ((spl c l).getD i []).length ≤ l.length := by
  refine spl_all (c := c) (P := fun l => ∀ i, ((spl c l).getD i []).length ≤ l.length) (fun a h i => ?_) (fun a r h ih i => ?_) l i
  · rw [spl_one h]
    cases i with
    | zero => exact Nat.le_refl _
    | succ i => simp
  · rw [spl_cut h]
    cases i with
    | zero => simp
    | succ i =>
      have := ih i
      simp only [List.getD_cons_succ, List.length_append, List.length_cons]
      omega
theorem zst_ok (n : Nat) : Sp.zeroCells (.string ⟨#[]⟩) (n * 1) (zst n) := by
  unfold Sp.zeroCells zst zrow
  refine List.ext_getElem? fun i => ?_
  by_cases hi : i < n
  · simp [strs, Value.cells, hi, Nat.mod_one]
  · rw [List.getElem?_eq_none (by simp; omega), List.getElem?_eq_none (by simp [strs]; omega)]
set_option maxRecDepth 100000 in
theorem gs_ok {s : ByteArray} {c : UInt8} (h : s.size ≤ 10000) : SmallRes Tryz.prog 228 [.string s, .string ⟨#[c]⟩, .int .i64 0, .int .i64 (-1)] [] (.slice (some ⟨0, 0, none⟩) (spU s c).length big) [some (.row (strs (spU s c)) 1 true true true)] := by
  refine fnP_res hm c0_ok (hs := hsGs s c) ?_
  rw [gs_t]
  have hc : s.data.toList.count c ≤ s.size := by rw [size_len]; exact List.count_le_length
  have hl := spU_len s c
  have en : (if IntKind.wrap .i64 ((s.size : Int) + 1) < IntKind.wrap .i64 (ctS s c + 1) then IntKind.wrap .i64 ((s.size : Int) + 1) else IntKind.wrap .i64 (ctS s c + 1)) = ((spU s c).length : Int) := by
    have e1 : ctS s c = ((s.data.toList.count c : Nat) : Int) := rfl
    rw [e1, wrap_eq (by omega) (by omega), wrap_eq (by omega) (by omega), hl]
    split <;> omega
  rw [en]
  simp only [Int.toNat_natCast]
  refine ⟨⟨trivial⟩, ⟨by first | trivial | rfl, by omega, by omega, by omega, zst_ok _⟩, ⟨(0 : Nat), ⟨trivial⟩, by rw [wrap_eq (by omega) (by omega)], by rw [spM_zero]; first | trivial | rfl⟩, fun _ _ => ⟨⟨(0 : Nat), ⟨by omega⟩, by rw [rsU_zero]; first | trivial | rfl, by first | trivial | rfl⟩, fun i hi => br_of (fun hb => ?_) (fun hb => ?_)⟩⟩
  · have hb := of_decide_eq_true hb
    have hlt : i + 1 < (spU s c).length := by omega
    obtain ⟨q1, q2, q3, q4⟩ := rsU_step hlt
    have hb1 : ByteArray.size ⟨#[c]⟩ = 1 := rfl
    have hsz : ((spU s c).getD i ⟨#[]⟩).size ≤ s.size := by
      rw [spU_at, size_ofL, size_len]
      exact spl_small _ _ _
    have e1 : IntKind.wrap .i64 ((((spU s c).getD i ⟨#[]⟩).size : Int) + 0) = (((spU s c).getD i ⟨#[]⟩).size : Int) := by rw [wrap_eq (by omega) (by omega)]; omega
    have e2 : IntKind.wrap .i64 ((((spU s c).getD i ⟨#[]⟩).size : Int) + ((1 : Nat) : Int)) = ((((spU s c).getD i ⟨#[]⟩).size + 1 : Nat) : Int) := by rw [wrap_eq (by omega) (by omega)]; omega
    rw [q1]
    simp only [hb1, e1, e2, q2, q4, Nat.zero_add, Nat.mul_one]
    refine ⟨⟨trivial⟩, br_of (fun h => ?_) (fun _ => ⟨⟨by omega, by omega, by omega⟩, ⟨by omega, by omega⟩, ⟨by rw [strs_len, spM_len (by omega)]; simp only [List.length_cons, List.length_nil]; omega⟩, ⟨by omega, by omega, by omega⟩, i + 1, ⟨by omega⟩, ⟨by omega⟩, by rw [up1 (show i < (spU s c).length by omega) (by omega)], ?_⟩)⟩
    · have := of_decide_eq_true h; omega
    · rw [put_spM (by omega)]; first | trivial | rfl
  · have hb := of_decide_eq_false hb
    have hi := hi.out
    have e : i + 1 = (spU s c).length := by omega
    rw [up1 (show i < (spU s c).length by omega) (by omega), rsU_last e]
    simp only [Nat.zero_add, Nat.mul_one, Int.toNat_natCast]
    refine ⟨⟨by omega, by omega⟩, ⟨by rw [strs_len, spM_len (by omega)]; simp only [List.length_cons, List.length_nil]; omega⟩, ⟨by omega, by omega, by omega⟩, by rw [e]; first | trivial | rfl, ?_⟩
    rw [put_spM (by omega), e, spM_full]; first | trivial | rfl
noncomputable def orcGs : OrcV
  | [.string s, .string ⟨⟨[c]⟩⟩, .int .i64 a, .int .i64 b], [] => some (.slice (some ⟨0, 0, none⟩) (spU s c).length big, [some (.row (strs (spU s c)) 1 true true true)], s.size ≤ 10000 ∧ a = 0 ∧ b = -1)
  | _, _ => none
theorem okGs : OkV Tryz.prog 228 orcGs := by
  intro args H ret H' vc h hv
  unfold orcGs at h
  split at h
  · cases h
    obtain ⟨h1, rfl, rfl⟩ := hv
    exact gs_ok h1
  · cases h
noncomputable def hsSpl : Hs Tryz.prog where
  au := auS [(228, hCa Tryz.prog 228 orcGs okGs)]
theorem spl_t (s : ByteArray) (c : UInt8) (K : Value → Heap → Prop) :
    (fnP Tryz.prog c0 hsSpl (185 : FuncId) [Value.string s, Value.string { data := #[c] }] [] K) =
    (Is (ByteArray.size s ≤ (10000 : Nat) ∧ (0 : Int) = (0 : Int) ∧ (-1 : Int) = (-1 : Int)) ∧ K (Value.slice (some { block := (0 : Nat), off := (0 : Nat) }) (List.length (spU s c)) (18446744073709551616 : Nat)) (some (AObj.row (strs (spU s c)) (1 : Nat) true true true) :: noH)) := by kernel_rfl
noncomputable def orcSpl : OrcV
  | [.string s, .string ⟨⟨[c]⟩⟩], [] => some (.slice (some ⟨0, 0, none⟩) (spU s c).length big, [some (.row (strs (spU s c)) 1 true true true)], s.size ≤ 10000)
  | _, _ => none
theorem okSpl : OkV Tryz.prog 185 orcSpl := by
  intro args H ret H' vc h hv
  unfold orcSpl at h
  split at h
  · rename_i s c
    cases h
    refine fnP_res hm c0_ok (hs := hsSpl) ?_
    show fnP Tryz.prog c0 hsSpl 185 [.string s, .string ⟨#[c]⟩] [] _
    rw [spl_t]
    exact ⟨⟨hv, rfl, rfl⟩, by first | trivial | rfl, by first | trivial | rfl⟩
  · cases h
end
end Qq
end
section
/- Texts: the kind of a line; lines. -/
open Go Go.Vm Go.Proofs Sp
namespace Sp
noncomputable section
/-- The kind of a line, by its first word. -/
def kdS (w : ByteArray) : Int := if w.toList = wSec then 0 else if w.toList = wMea then 1 else if w.toList = wAct then 2 else -1
end
end Sp
namespace Qq
noncomputable section
noncomputable def wR (w : ByteArray) : Option AObj := some (.row [.string w] 0 false true true)
noncomputable def fR9 : Option AObj := some (.row fmR 0 false true true)
noncomputable def hsIf : Hs Tryz.prog where
  au := auT []
theorem if_t (w : ByteArray) (c : Nat) (K : Value → Heap → Prop) :
    (fnP Tryz.prog c0 hsIf (187 : FuncId) [Value.slice (some { block := (0 : Nat), off := (0 : Nat) }) (3 : Nat) c, Value.func (Fn.func (188 : FuncId)) #[] #[Value.pointer (some { block := (1 : Nat), off := (0 : Nat) })]] [fR9, wR w] K) =
    (br ([(115 : UInt8), (101 : UInt8), (99 : UInt8), (116 : UInt8), (105 : UInt8), (111 : UInt8), (110 : UInt8)] == ByteArray.toList w) (K (Value.int IntKind.i64 (0 : Int)) (some (AObj.row [Value.string { data := #[(115 : UInt8), (101 : UInt8), (99 : UInt8), (116 : UInt8), (105 : UInt8), (111 : UInt8), (110 : UInt8)] }, Value.func (Fn.func (219 : Nat)) #[] #[], Value.string { data := #[(109 : UInt8), (101 : UInt8), (97 : UInt8), (115 : UInt8), (117 : UInt8), (114 : UInt8), (101 : UInt8), (100 : UInt8)] }, Value.func (Fn.func (220 : Nat)) #[] #[], Value.string { data := #[(97 : UInt8), (99 : UInt8), (116 : UInt8)] }, Value.func (Fn.func (222 : Nat)) #[] #[]] (0 : Nat) false true true) :: some (AObj.row [Value.string w] (0 : Nat) false true true) :: noH)) (br ([(109 : UInt8), (101 : UInt8), (97 : UInt8), (115 : UInt8), (117 : UInt8), (114 : UInt8), (101 : UInt8), (100 : UInt8)] == ByteArray.toList w) (K (Value.int IntKind.i64 (1 : Int)) (some (AObj.row [Value.string { data := #[(115 : UInt8), (101 : UInt8), (99 : UInt8), (116 : UInt8), (105 : UInt8), (111 : UInt8), (110 : UInt8)] }, Value.func (Fn.func (219 : Nat)) #[] #[], Value.string { data := #[(109 : UInt8), (101 : UInt8), (97 : UInt8), (115 : UInt8), (117 : UInt8), (114 : UInt8), (101 : UInt8), (100 : UInt8)] }, Value.func (Fn.func (220 : Nat)) #[] #[], Value.string { data := #[(97 : UInt8), (99 : UInt8), (116 : UInt8)] }, Value.func (Fn.func (222 : Nat)) #[] #[]] (0 : Nat) false true true) :: some (AObj.row [Value.string w] (0 : Nat) false true true) :: noH)) (br ([(97 : UInt8), (99 : UInt8), (116 : UInt8)] == ByteArray.toList w) (K (Value.int IntKind.i64 (2 : Int)) (some (AObj.row [Value.string { data := #[(115 : UInt8), (101 : UInt8), (99 : UInt8), (116 : UInt8), (105 : UInt8), (111 : UInt8), (110 : UInt8)] }, Value.func (Fn.func (219 : Nat)) #[] #[], Value.string { data := #[(109 : UInt8), (101 : UInt8), (97 : UInt8), (115 : UInt8), (117 : UInt8), (114 : UInt8), (101 : UInt8), (100 : UInt8)] }, Value.func (Fn.func (220 : Nat)) #[] #[], Value.string { data := #[(97 : UInt8), (99 : UInt8), (116 : UInt8)] }, Value.func (Fn.func (222 : Nat)) #[] #[]] (0 : Nat) false true true) :: some (AObj.row [Value.string w] (0 : Nat) false true true) :: noH)) (K (Value.int IntKind.i64 (-1 : Int)) (some (AObj.row [Value.string { data := #[(115 : UInt8), (101 : UInt8), (99 : UInt8), (116 : UInt8), (105 : UInt8), (111 : UInt8), (110 : UInt8)] }, Value.func (Fn.func (219 : Nat)) #[] #[], Value.string { data := #[(109 : UInt8), (101 : UInt8), (97 : UInt8), (115 : UInt8), (117 : UInt8), (114 : UInt8), (101 : UInt8), (100 : UInt8)] }, Value.func (Fn.func (220 : Nat)) #[] #[], Value.string { data := #[(97 : UInt8), (99 : UInt8), (116 : UInt8)] }, Value.func (Fn.func (222 : Nat)) #[] #[]] (0 : Nat) false true true) :: some (AObj.row [Value.string w] (0 : Nat) false true true) :: noH))))) := by kernel_rfl
end
end Qq
end
section
/- Texts: a further line, read by the reference. -/
open Go Go.Vm Go.Proofs Sp
namespace Sp
noncomputable section
def sAct : ByteArray := ⟨#[97, 99, 116]⟩
def sMea : ByteArray := ⟨#[109, 101, 97, 115, 117, 114, 101, 100]⟩
def sSec : ByteArray := ⟨#[115, 101, 99, 116, 105, 111, 110]⟩
def wd (ws : List ByteArray) (i : Nat) : ByteArray := ws.getD i ⟨#[]⟩
/-- Whether the words of a further line have their form. -/
def pdO (ks : List (Int × ByteArray)) (ws : List ByteArray) : Bool :=
  decide (ws.length = 3) && !(wd ws 1 == ⟨#[]⟩) && !(wd ws 2 == ⟨#[]⟩) && igB (wd ws 1) && (wd ws 0 == sAct || (wd ws 0 == sMea && igB (wd ws 2) && ks.isEmpty))
def pdZ (zs : List Int) (ks : List (Int × ByteArray)) (ws : List ByteArray) : List Int := if pdO ks ws = true ∧ (wd ws 0 == sAct) = false then zs ++ [drV (wd ws 1), drV (wd ws 2)] else zs
def pdK (ks : List (Int × ByteArray)) (ws : List ByteArray) : List (Int × ByteArray) := if pdO ks ws = true ∧ (wd ws 0 == sAct) = true then ks ++ [(drV (wd ws 1), wd ws 2)] else ks
def pdN (n : Nat) (ks : List (Int × ByteArray)) (ws : List ByteArray) : Nat := if pdO ks ws = true ∧ (wd ws 0 == sAct) = false then n + 1 else n
def pdM (k : Nat) (ks : List (Int × ByteArray)) (ws : List ByteArray) : Nat := if pdO ks ws = true ∧ (wd ws 0 == sAct) = true then k + 1 else k
end
end Sp
namespace Qq
noncomputable section
theorem beq_lit (s : ByteArray) (l : List UInt8) : (s.toList == l) = (s == ofL l) := by
  obtain ⟨⟨a⟩⟩ := s
  rw [Lib.toList_data]
  show (a == l) = (Array.mk a == l.toArray)
  rw [Bool.eq_iff_iff]
  simp
theorem of_not {b : Bool} (h : (!b) = true) : b = false := by cases b <;> first | rfl | cases h
theorem of_notf {b : Bool} (h : (!b) = false) : b = true := by cases b <;> first | rfl | cases h
end
end Qq
end
