/- Parts of the proof: YA, YH, QO, QP, QT, QU, QV, QX, QY, QZ, YCa, QAA, QBB, QCC, QS, QC, QD, QE0, QE1. -/
import Derived.Test.YtdpnlnfpjmjgaaaGreatDoorZAC
import Derived.Test.YtdpnlnfpjmjgaaaGreatDoorZAD
import Derived.Shelf.Strings.Builder1
import Derived.Shelf.Strings.Builder2
import Derived.Shelf.Strings.OnBuilder
import Derived.Shelf.Small.Bits
import Derived.Shelf.Small.Strs
import Derived.Shelf.Small.Wraps
import Derived.Shelf.Strings.BuilderF
import Derived.Shelf.Strings.BuilderK
import Derived.Shelf.Utf8.RuneCount
import Derived.Shelf.Strings.Builder2Cap
import Derived.Shelf.Strconv.Itoa0
import Derived.Shelf.Strconv.Itoa1
import Derived.Shelf.LaysM
import Derived.Shelf.Strconv.Itoa2
import Derived.Shelf.Strconv.Itoa3
import Derived.Shelf.Strings.Search1
import Derived.Shelf.Strings.Search2
import Derived.Shelf.Strings.Search3
import Derived.Shelf.Strings.Count
import Derived.Shelf.Strings.Shaped
import Derived.Shelf.Strings.Prefix
import Derived.Shelf.Strings.Split
import Derived.Shelf.Strings.SplitShaped
import Derived.Shelf.Unicode.Decode
import Derived.Shelf.Strings.RuneCount
import Derived.Shelf.Strings.Explode
import Derived.Shelf.Unicode.DecodeSlow
import Derived.Shelf.Unicode.DecodeAny
import Derived.Shelf.Slices.Turned
import Derived.Ground.Names2Prog
import Derived.Shelf.Slices.SearchI
import Derived.Test.YtdpnlnfpjmjgaaaGreatDoorProg
section
/- Lists of sections that are given: how they lie; the reference's ShortList. -/
open Go Go.Vm Go.Proofs Sp
namespace Sp
noncomputable section
/-- A list of sections: names, measurements, interventions, how many. -/
structure Ls where
  nm : Nat → ByteArray
  zs : Nat → List Int
  ks : Nat → List (Int × ByteArray)
  N : Nat → Nat
  K : Nat → Nat
noncomputable def secV (l : Ls) (i : Nat) : Value := .agg #[.string (l.nm i), .slice (some ⟨1 + 2 * i, 0, none⟩) (l.N i) big, .slice (some ⟨2 + 2 * i, 0, none⟩) (l.K i) big]
noncomputable def secAt (l : Ls) (off : Nat) : Value := secV l (off / 3)
noncomputable def lsC (l : Ls) (n : Nat) : List Value := (List.range n).flatMap fun i => [.string (l.nm i), .slice (some ⟨1 + 2 * i, 0, none⟩) (l.N i) big, .slice (some ⟨2 + 2 * i, 0, none⟩) (l.K i) big]
noncomputable def lsR (l : Ls) (n : Nat) : Option AObj := some (.row (lsC l n) 3 false false false)
noncomputable def shI (l : Ls) (i : Nat) : Bool := shortS (l.nm i) (l.N i) (l.ks i) (l.K i)
noncomputable def shA (l : Ls) : Nat → Bool
  | 0 => true
  | n + 1 => shA l n && shI l n
noncomputable def shL (l : Ls) (n : Nat) : Bool := shA l n && (decide ((n : Int) ≤ 6) || (n : Int) == 33)
end
end Sp
namespace Qq
noncomputable section
/-- The lists of the sections, behind their list. -/
def lsIn (l : Ls) (n : Nat) (T : Heap) : Prop := ∀ i, i < n → rd T (2 * i) = some (.row (ints (l.zs i)) 2 false false true) ∧ rd T (2 * i + 1) = some (.row (acs (l.ks i)) 2 false false true)
/-- Sections that are given, each with its lists. -/
def okLs (l : Ls) (n : Nat) : Prop := ∀ i, i < n → (l.zs i).length = l.N i * 2 ∧ (l.ks i).length = l.K i ∧ l.N i ≤ 9223372036854775807 ∧ l.K i ≤ 9223372036854775807
noncomputable def selS (f : Nat → Value) (r : List Value → Option (List Value)) (p : Nat → List Value → Prop) (l : Ls) : Sel
  | .agg ⟨[.string nm, .slice (some ⟨j, 0, none⟩) n c, .slice (some ⟨k, 0, none⟩) m d]⟩ :: t =>
    match r t with
    | some t' => some ([j, k], .agg #[.string nm, .slice (some ⟨0, 0, none⟩) n c, .slice (some ⟨1, 0, none⟩) m d] :: t', [some (.row (ints (l.zs ((j - 1) / 2))) 2 false false true), some (.row (acs (l.ks ((j - 1) / 2))) 2 false false true)], f ((j - 1) / 2), (nm = l.nm ((j - 1) / 2) ∧ n = l.N ((j - 1) / 2) ∧ m = l.K ((j - 1) / 2)) ∧ p ((j - 1) / 2) t')
    | none => none
  | _ => none
def noMore : List Value → Option (List Value)
  | [] => some []
  | _ => none
noncomputable def selSh (l : Ls) : Sel := selS (fun i => .bool (shI l i)) noMore (fun i _ => (l.ks i).length = l.K i ∧ l.N i ≤ 9223372036854775807 ∧ l.K i ≤ 9223372036854775807) l
theorem selSh_ok (l : Ls) : ∀ ar ids a0 H0 ret vc, selSh l ar = some (ids, a0, H0, ret, vc) → vc → SmallRes Tryz.prog 34 a0 H0 ret H0 := by
  intro ar ids a0 H0 ret vc h hv
  unfold selSh selS at h
  split at h
  · rename_i nm j n c k m d t
    split at h
    · rename_i t' ht
      cases h
      have e : t' = [] := by
        unfold noMore at ht
        split at ht
        · cases ht; rfl
        · cases ht
      subst e
      obtain ⟨⟨rfl, rfl, rfl⟩, h1, h2, h3⟩ := hv
      exact short_okV (l.zs ((j - 1) / 2)) (l.ks ((j - 1) / 2)) _ _ _ _ _ rfl ⟨rfl, rfl, h1, h2, h3⟩
    · cases h
  · cases h
noncomputable def lpSl (l : Ls) (n c : Nat) (T : Heap) : Lp where
  σ := Nat
  E s := slots 24 [(0, .slice (some ⟨0, 0, none⟩) n c), (3, .int .i64 (s : Int))]
  Hp _ := lsR l n :: T
  I s := s ≤ n ∧ shA l s = true
  m s := n - s
noncomputable def hsSl (l : Ls) (n c : Nat) (T : Heap) : Hs Tryz.prog where
  op y := if y = 402 then some (hIa Tryz.prog) else if y = 403 then some (hLd Tryz.prog (secAt l)) else if y = 404 then some (hCi Tryz.prog 34 (selSh l) (selSh_ok l)) else none
  lp _ := some (lpSl l n c T)
  cl _ := keep 24 [0, 3]
  nl _ := [.stay]
  rn := [.stay]
  au := au0 Tryz.prog
theorem shL_t (l : Ls) (n : Nat) (c : Nat) (T : Heap) (K : Value → Heap → Prop) :
    (fnP Tryz.prog c0 (hsSl l n c T) (5 : FuncId) [Value.slice (some { block := (0 : Nat), off := (0 : Nat) }) n c] (lsR l n :: T) K) =
    ((∃ (s : Nat), Is (s ≤ n ∧ shA l s = true) ∧ [Value.slice (some { block := (0 : Nat), off := (0 : Nat) }) n c, poi, poi, Value.int IntKind.i64 (0 : Int), poi, poi, poi, poi, poi, poi, poi, poi, poi, poi, poi, poi, poi, poi, poi, poi, poi, poi, poi, poi] = [Value.slice (some { block := (0 : Nat), off := (0 : Nat) }) n c, poi, poi, Value.int IntKind.i64 (↑s : Int), poi, poi, poi, poi, poi, poi, poi, poi, poi, poi, poi, poi, poi, poi, poi, poi, poi, poi, poi, poi] ∧ some (AObj.row (lsC l n) (3 : Nat) false false false) :: T = some (AObj.row (lsC l n) (3 : Nat) false false false) :: T) ∧ ∀ (s : Nat), Is (s ≤ n ∧ shA l s = true) → br (decide ((↑s : Int) < (↑n : Int))) (Is ((0 : Int) ≤ (↑s : Int) ∧ (↑s : Int) < (↑n : Int)) ∧ Is ((if (0 : Nat) + Int.toNat (↑s : Int) * (3 : Nat) + (3 : Nat) ≤ List.length (lsC l n) then some (Value.agg (List.toArray (List.take (3 : Nat) (List.drop ((0 : Nat) + Int.toNat (↑s : Int) * (3 : Nat)) (lsC l n))))) else none) = some (Value.agg #[Value.string (Ls.nm l (((0 : Nat) + Int.toNat (↑s : Int) * (3 : Nat)) / (3 : Nat))), Value.slice (some { block := (1 : Nat) + (2 : Nat) * (((0 : Nat) + Int.toNat (↑s : Int) * (3 : Nat)) / (3 : Nat)), off := (0 : Nat) }) (Ls.N l (((0 : Nat) + Int.toNat (↑s : Int) * (3 : Nat)) / (3 : Nat))) (18446744073709551616 : Nat), Value.slice (some { block := (2 : Nat) + (2 : Nat) * (((0 : Nat) + Int.toNat (↑s : Int) * (3 : Nat)) / (3 : Nat)), off := (0 : Nat) }) (Ls.K l (((0 : Nat) + Int.toNat (↑s : Int) * (3 : Nat)) / (3 : Nat))) (18446744073709551616 : Nat)])) ∧ Is (CiOK (some (AObj.row (lsC l n) (3 : Nat) false false false) :: T) [Value.agg #[Value.string (Ls.nm l (((0 : Nat) + Int.toNat (↑s : Int) * (3 : Nat)) / (3 : Nat))), Value.slice (some { block := (1 : Nat) + (2 : Nat) * (((0 : Nat) + Int.toNat (↑s : Int) * (3 : Nat)) / (3 : Nat)), off := (0 : Nat) }) (Ls.N l (((0 : Nat) + Int.toNat (↑s : Int) * (3 : Nat)) / (3 : Nat))) (18446744073709551616 : Nat), Value.slice (some { block := (2 : Nat) + (2 : Nat) * (((0 : Nat) + Int.toNat (↑s : Int) * (3 : Nat)) / (3 : Nat)), off := (0 : Nat) }) (Ls.K l (((0 : Nat) + Int.toNat (↑s : Int) * (3 : Nat)) / (3 : Nat))) (18446744073709551616 : Nat)]] [(1 : Nat) + (2 : Nat) * (((0 : Nat) + Int.toNat (↑s : Int) * (3 : Nat)) / (3 : Nat)), (2 : Nat) + (2 : Nat) * (((0 : Nat) + Int.toNat (↑s : Int) * (3 : Nat)) / (3 : Nat))] [Value.agg #[Value.string (Ls.nm l (((0 : Nat) + Int.toNat (↑s : Int) * (3 : Nat)) / (3 : Nat))), Value.slice (some { block := (0 : Nat), off := (0 : Nat) }) (Ls.N l (((0 : Nat) + Int.toNat (↑s : Int) * (3 : Nat)) / (3 : Nat))) (18446744073709551616 : Nat), Value.slice (some { block := (1 : Nat), off := (0 : Nat) }) (Ls.K l (((0 : Nat) + Int.toNat (↑s : Int) * (3 : Nat)) / (3 : Nat))) (18446744073709551616 : Nat)]] (some (AObj.row (ints (Ls.zs l (((1 : Nat) + (2 : Nat) * (((0 : Nat) + Int.toNat (↑s : Int) * (3 : Nat)) / (3 : Nat)) - (1 : Nat)) / (2 : Nat)))) (2 : Nat) false false true) :: some (AObj.row (acs (Ls.ks l (((1 : Nat) + (2 : Nat) * (((0 : Nat) + Int.toNat (↑s : Int) * (3 : Nat)) / (3 : Nat)) - (1 : Nat)) / (2 : Nat)))) (2 : Nat) false false true) :: noH) (Value.bool (shI l (((1 : Nat) + (2 : Nat) * (((0 : Nat) + Int.toNat (↑s : Int) * (3 : Nat)) / (3 : Nat)) - (1 : Nat)) / (2 : Nat)))) ∧ (Ls.nm l (((0 : Nat) + Int.toNat (↑s : Int) * (3 : Nat)) / (3 : Nat)) = Ls.nm l (((1 : Nat) + (2 : Nat) * (((0 : Nat) + Int.toNat (↑s : Int) * (3 : Nat)) / (3 : Nat)) - (1 : Nat)) / (2 : Nat)) ∧ Ls.N l (((0 : Nat) + Int.toNat (↑s : Int) * (3 : Nat)) / (3 : Nat)) = Ls.N l (((1 : Nat) + (2 : Nat) * (((0 : Nat) + Int.toNat (↑s : Int) * (3 : Nat)) / (3 : Nat)) - (1 : Nat)) / (2 : Nat)) ∧ Ls.K l (((0 : Nat) + Int.toNat (↑s : Int) * (3 : Nat)) / (3 : Nat)) = Ls.K l (((1 : Nat) + (2 : Nat) * (((0 : Nat) + Int.toNat (↑s : Int) * (3 : Nat)) / (3 : Nat)) - (1 : Nat)) / (2 : Nat))) ∧ List.length (Ls.ks l (((1 : Nat) + (2 : Nat) * (((0 : Nat) + Int.toNat (↑s : Int) * (3 : Nat)) / (3 : Nat)) - (1 : Nat)) / (2 : Nat))) = Ls.K l (((1 : Nat) + (2 : Nat) * (((0 : Nat) + Int.toNat (↑s : Int) * (3 : Nat)) / (3 : Nat)) - (1 : Nat)) / (2 : Nat)) ∧ Ls.N l (((1 : Nat) + (2 : Nat) * (((0 : Nat) + Int.toNat (↑s : Int) * (3 : Nat)) / (3 : Nat)) - (1 : Nat)) / (2 : Nat)) ≤ (9223372036854775807 : Nat) ∧ Ls.K l (((1 : Nat) + (2 : Nat) * (((0 : Nat) + Int.toNat (↑s : Int) * (3 : Nat)) / (3 : Nat)) - (1 : Nat)) / (2 : Nat)) ≤ (9223372036854775807 : Nat)) ∧ br (!shI l (((1 : Nat) + (2 : Nat) * (((0 : Nat) + Int.toNat (↑s : Int) * (3 : Nat)) / (3 : Nat)) - (1 : Nat)) / (2 : Nat))) (K (Value.bool false) (some (AObj.row (lsC l n) (3 : Nat) false false false) :: T)) (∃ (s' : Nat), Is (s' ≤ n ∧ shA l s' = true) ∧ Is (n - s' < n - s) ∧ [Value.slice (some { block := (0 : Nat), off := (0 : Nat) }) n c, poi, poi, Value.int IntKind.i64 (IntKind.wrap IntKind.i64 ((↑s : Int) + (1 : Int))), poi, poi, poi, poi, poi, poi, poi, poi, poi, poi, poi, poi, poi, poi, poi, poi, poi, poi, poi, poi] = [Value.slice (some { block := (0 : Nat), off := (0 : Nat) }) n c, poi, poi, Value.int IntKind.i64 (↑s' : Int), poi, poi, poi, poi, poi, poi, poi, poi, poi, poi, poi, poi, poi, poi, poi, poi, poi, poi, poi, poi] ∧ some (AObj.row (lsC l n) (3 : Nat) false false false) :: T = some (AObj.row (lsC l n) (3 : Nat) false false false) :: T)) (br (decide ((↑n : Int) ≤ (6 : Int))) (K (Value.bool true) (some (AObj.row (lsC l n) (3 : Nat) false false false) :: T)) (K (Value.bool ((↑n : Int) == (33 : Int))) (some (AObj.row (lsC l n) (3 : Nat) false false false) :: T)))) := by kernel_rfl
theorem e3 (s : Nat) : (0 + s * 3) / 3 = s := by omega
theorem e2 (s : Nat) : (1 + 2 * s - 1) / 2 = s := by omega
theorem lsC_succ (l : Ls) (n : Nat) : lsC l (n + 1) = lsC l n ++ [.string (l.nm n), .slice (some ⟨1 + 2 * n, 0, none⟩) (l.N n) big, .slice (some ⟨2 + 2 * n, 0, none⟩) (l.K n) big] := by
  rw [lsC, List.range_succ, List.flatMap_append, List.flatMap_singleton]; rfl
theorem lsC_len (l : Ls) : ∀ n, (lsC l n).length = 3 * n
  | 0 => rfl
  | n + 1 => by rw [lsC_succ, List.length_append, lsC_len l n]; rfl
theorem lsC_part (l : Ls) {s : Nat} : ∀ {n : Nat}, s < n → ((lsC l n).drop (s * 3)).take 3 = [.string (l.nm s), .slice (some ⟨1 + 2 * s, 0, none⟩) (l.N s) big, .slice (some ⟨2 + 2 * s, 0, none⟩) (l.K s) big]
  | n + 1, h => by
    have hl := lsC_len l n
    rw [lsC_succ]
    by_cases h' : s = n
    · subst h'
      rw [List.drop_append_of_le_length (by omega), List.drop_eq_nil_of_le (by omega), List.nil_append, List.take_of_length_le (by simp)]
    · rw [List.drop_append_of_le_length (by omega), List.take_append_of_le_length (by rw [List.length_drop]; omega), lsC_part l (n := n) (by omega)]
theorem lsC_ld (l : Ls) {s n : Nat} (h : s < n) : (if 0 + s * 3 + 3 ≤ (lsC l n).length then some (Value.agg (((lsC l n).drop (0 + s * 3)).take 3).toArray) else none) = some (secV l s) := by
  rw [lsC_len, if_pos (by omega), Nat.zero_add, lsC_part l h]; rfl
theorem rd_ls {l : Ls} {n s : Nat} {T : Heap} {r : Option AObj} (h : lsIn l n T) (hs : s < n) : rd (r :: T) (1 + 2 * s) = some (.row (ints (l.zs s)) 2 false false true) ∧ rd (r :: T) (2 + 2 * s) = some (.row (acs (l.ks s)) 2 false false true) := by
  obtain ⟨h1, h2⟩ := h s hs
  refine ⟨?_, ?_⟩
  · rw [show 1 + 2 * s = 2 * s + 1 by omega, rd_cons]; exact h1
  · rw [show 2 + 2 * s = 2 * s + 1 + 1 by omega, rd_cons]; exact h2
theorem sec_ci {l : Ls} {n s : Nat} {T : Heap} {r : Option AObj} (h : lsIn l n T) (hs : s < n) {t : List Value} (ht : ∀ v ∈ t, atom v = true) {ret : Value} (hr : atom ret = true) :
    CiOK (r :: T) (.agg #[.string (l.nm s), .slice (some ⟨1 + 2 * s, 0, none⟩) (l.N s) big, .slice (some ⟨2 + 2 * s, 0, none⟩) (l.K s) big] :: t) [1 + 2 * s, 2 + 2 * s] (.agg #[.string (l.nm s), .slice (some ⟨0, 0, none⟩) (l.N s) big, .slice (some ⟨1, 0, none⟩) (l.K s) big] :: t)
      [some (.row (ints (l.zs s)) 2 false false true), some (.row (acs (l.ks s)) 2 false false true)] ret := by
  obtain ⟨h1, h2⟩ := rd_ls (r := r) h hs
  exact ci_two h1 h2 (by omega) hr (ren_two (by omega) ht)
theorem shA_step {l : Ls} {s : Nat} (h : shA l s = true) (hs : shI l s = true) : shA l (s + 1) = true := by rw [shA, h, hs]; rfl
theorem shA_no {l : Ls} {s : Nat} (hs : shI l s = false) : ∀ {n : Nat}, s < n → shA l n = false
  | n + 1, h => by
    rw [shA]
    by_cases e : s = n
    · subst e; rw [hs, Bool.and_false]
    · rw [shA_no hs (n := n) (by omega), Bool.false_and]
theorem shL_ok {l : Ls} {n c : Nat} {T : Heap} (h : lsIn l n T) (hl : okLs l n) (h9 : n ≤ 9223372036854775807) : SmallRes Tryz.prog 5 [.slice (some ⟨0, 0, none⟩) n c] (lsR l n :: T) (.bool (shL l n)) (lsR l n :: T) := by
  refine fnP_res hm c0_ok (hs := hsSl l n c T) ?_
  show fnP Tryz.prog c0 (hsSl l n c T) 5 _ _ _
  rw [shL_t]
  refine ⟨⟨(0 : Nat), ⟨Nat.zero_le _, rfl⟩, by first | trivial | rfl, rfl⟩, fun s hs => br_of (fun hc => ?_) (fun hc => ?_)⟩
  · have hc := lt_of_dec hc
    simp only [Int.toNat_natCast, e3, e2]
    obtain ⟨h1, h2, h3, h4⟩ := hl s hc
    refine ⟨⟨by omega, by omega⟩, ⟨lsC_ld l hc⟩, ⟨sec_ci h hc (by simp) rfl, ⟨by trivial, by trivial, by trivial⟩, h2, h3, h4⟩, br_of (fun hb => ?_) (fun hb => ?_)⟩
    · have hb : shI l s = false := by
        cases h : shI l s
        · rfl
        · rw [h] at hb; cases hb
      exact ⟨by rw [shL, shA_no hb hc]; rfl, rfl⟩
    · have hb : shI l s = true := by
        cases h : shI l s
        · rw [h] at hb; cases hb
        · rfl
      exact ⟨s + 1, ⟨by omega, shA_step hs.out.2 hb⟩, ⟨by omega⟩, by rw [show IntKind.wrap .i64 ((s : Int) + 1) = ((s + 1 : Nat) : Int) from (wrap_eq (by omega) (by omega)).trans (by omega)], by first | trivial | rfl⟩
  · have hc := ge_of_dec hc
    have : n = s := by have := hs.out.1; omega
    subst this
    have ha := hs.out.2
    refine br_of (fun h6 => ⟨?_, rfl⟩) (fun h6 => ⟨?_, rfl⟩)
    · rw [shL, ha, h6]; rfl
    · rw [shL, ha, h6]; rfl

end
end Qq
end
section
/- The list of the sections, as the program has them. -/
open Go Go.Vm Go.Proofs Sp
namespace Sp
open Qq
noncomputable section
/-- Cells of a section's lists, of few elements. -/
def secIs (n k : Nat) (e1 e2 : List Value) : Prop := ∃ (zs : List Int) (ks : List (Int × ByteArray)), e1 = ints zs ∧ e2 = acs ks ∧ zs.length = n * 2 ∧ ks.length = k ∧ n ≤ 1000 ∧ k ≤ 1000
end
end Sp
namespace Qq
noncomputable section
/-- The lists of n sections. -/
def lsT (l : Ls) (n : Nat) : Heap := (List.range n).flatMap fun i => [some (.row (ints (l.zs i)) 2 false false true), some (.row (acs (l.ks i)) 2 false false true)]
def lsG (l : Ls) (n : Nat) : Heap := lsR l n :: lsT l n
noncomputable def orcOwnG : OrcV
  | [.agg ⟨[.string nm, .slice (some ⟨0, 0, none⟩) n _, .slice (some ⟨1, 0, none⟩) k _]⟩], [some (.row e1 2 m1 w1 true), some (.row e2 2 m2 w2 true)] =>
    some (.agg #[.string nm, .slice (some ⟨2, 0, none⟩) n 0, .slice (some ⟨3, 0, none⟩) k 0], [some (.row e1 2 m1 w1 true), some (.row e2 2 m2 w2 true), some (.row e1 2 true true true), some (.row e2 2 true true true)], secIs n k e1 e2)
  | _, _ => none
theorem okOwnG : OkV Tryz.prog 44 orcOwnG := by
  intro args H ret H' vc h hv
  unfold orcOwnG at h
  split at h
  · cases h
    obtain ⟨zs, ks, rfl, rfl, h1, h2, h3, h4⟩ := hv
    exact own_ok h1 h2 h3 h4
  · cases h
noncomputable def hsLi : Hs Tryz.prog where
  rn := [.only (.slot 0 3)]
  nl _ := [.stay]
  au := auCalls [(44, hCa Tryz.prog 44 orcOwnG okOwnG)]
theorem li0_t (l : Ls) (c : Nat) (K : Value → Heap → Prop) :
    (fnP Tryz.prog c0 hsLi (7 : FuncId) [Value.slice (some { block := (0 : Nat), off := (0 : Nat) }) (0 : Nat) c] (lsG l (0 : Nat)) K) =
    (K (Value.slice (some { block := (1 : Nat), off := (0 : Nat) }) (0 : Nat) (0 : Nat)) (some (AObj.row [] (3 : Nat) false false false) :: some (AObj.row [] (3 : Nat) true true true) :: noH)) := by kernel_rfl
theorem li1_t (l : Ls) (c : Nat) (K : Value → Heap → Prop) :
    (fnP Tryz.prog c0 hsLi (7 : FuncId) [Value.slice (some { block := (0 : Nat), off := (0 : Nat) }) (1 : Nat) c] (lsG l (1 : Nat)) K) =
    (Is (secIs (Ls.N l (0 : Nat)) (Ls.K l (0 : Nat)) (ints (Ls.zs l (0 : Nat))) (acs (Ls.ks l (0 : Nat)))) ∧ K (Value.slice (some { block := (3 : Nat), off := (0 : Nat) }) (1 : Nat) (0 : Nat)) (some (AObj.row [Value.string (Ls.nm l (0 : Nat)), Value.slice (some { block := (1 : Nat), off := (0 : Nat) }) (Ls.N l (0 : Nat)) (18446744073709551616 : Nat), Value.slice (some { block := (2 : Nat), off := (0 : Nat) }) (Ls.K l (0 : Nat)) (18446744073709551616 : Nat)] (3 : Nat) false false false) :: some (AObj.row (ints (Ls.zs l (0 : Nat))) (2 : Nat) false false true) :: some (AObj.row (acs (Ls.ks l (0 : Nat))) (2 : Nat) false false true) :: some (AObj.row [Value.string (Ls.nm l (0 : Nat)), Value.slice (some { block := (4 : Nat), off := (0 : Nat) }) (Ls.N l (0 : Nat)) (0 : Nat), Value.slice (some { block := (5 : Nat), off := (0 : Nat) }) (Ls.K l (0 : Nat)) (0 : Nat)] (3 : Nat) true true (List.all [Value.string (Ls.nm l (0 : Nat)), Value.slice (some { block := (4 : Nat), off := (0 : Nat) }) (Ls.N l (0 : Nat)) (0 : Nat), Value.slice (some { block := (5 : Nat), off := (0 : Nat) }) (Ls.K l (0 : Nat)) (0 : Nat)] atom)) :: some (AObj.row (ints (Ls.zs l (0 : Nat))) (2 : Nat) true true true) :: some (AObj.row (acs (Ls.ks l (0 : Nat))) (2 : Nat) true true true) :: noH)) := by kernel_rfl
theorem li2_t (l : Ls) (c : Nat) (K : Value → Heap → Prop) :
    (fnP Tryz.prog c0 hsLi (7 : FuncId) [Value.slice (some { block := (0 : Nat), off := (0 : Nat) }) (2 : Nat) c] (lsG l (2 : Nat)) K) =
    (Is (secIs (Ls.N l (0 : Nat)) (Ls.K l (0 : Nat)) (ints (Ls.zs l (0 : Nat))) (acs (Ls.ks l (0 : Nat)))) ∧ Is (secIs (Ls.N l (1 : Nat)) (Ls.K l (1 : Nat)) (ints (Ls.zs l (1 : Nat))) (acs (Ls.ks l (1 : Nat)))) ∧ K (Value.slice (some { block := (5 : Nat), off := (0 : Nat) }) (2 : Nat) (0 : Nat)) (some (AObj.row [Value.string (Ls.nm l (0 : Nat)), Value.slice (some { block := (1 : Nat), off := (0 : Nat) }) (Ls.N l (0 : Nat)) (18446744073709551616 : Nat), Value.slice (some { block := (2 : Nat), off := (0 : Nat) }) (Ls.K l (0 : Nat)) (18446744073709551616 : Nat), Value.string (Ls.nm l (1 : Nat)), Value.slice (some { block := (3 : Nat), off := (0 : Nat) }) (Ls.N l (1 : Nat)) (18446744073709551616 : Nat), Value.slice (some { block := (4 : Nat), off := (0 : Nat) }) (Ls.K l (1 : Nat)) (18446744073709551616 : Nat)] (3 : Nat) false false false) :: some (AObj.row (ints (Ls.zs l (0 : Nat))) (2 : Nat) false false true) :: some (AObj.row (acs (Ls.ks l (0 : Nat))) (2 : Nat) false false true) :: some (AObj.row (ints (Ls.zs l (1 : Nat))) (2 : Nat) false false true) :: some (AObj.row (acs (Ls.ks l (1 : Nat))) (2 : Nat) false false true) :: some (AObj.row [Value.string (Ls.nm l (0 : Nat)), Value.slice (some { block := (6 : Nat), off := (0 : Nat) }) (Ls.N l (0 : Nat)) (0 : Nat), Value.slice (some { block := (7 : Nat), off := (0 : Nat) }) (Ls.K l (0 : Nat)) (0 : Nat), Value.string (Ls.nm l (1 : Nat)), Value.slice (some { block := (8 : Nat), off := (0 : Nat) }) (Ls.N l (1 : Nat)) (0 : Nat), Value.slice (some { block := (9 : Nat), off := (0 : Nat) }) (Ls.K l (1 : Nat)) (0 : Nat)] (3 : Nat) true true (List.all [Value.string (Ls.nm l (0 : Nat)), Value.slice (some { block := (6 : Nat), off := (0 : Nat) }) (Ls.N l (0 : Nat)) (0 : Nat), Value.slice (some { block := (7 : Nat), off := (0 : Nat) }) (Ls.K l (0 : Nat)) (0 : Nat)] atom && List.all [Value.string (Ls.nm l (1 : Nat)), Value.slice (some { block := (11 : Nat), off := (0 : Nat) }) (Ls.N l (1 : Nat)) (0 : Nat), Value.slice (some { block := (12 : Nat), off := (0 : Nat) }) (Ls.K l (1 : Nat)) (0 : Nat)] atom)) :: some (AObj.row (ints (Ls.zs l (0 : Nat))) (2 : Nat) true true true) :: some (AObj.row (acs (Ls.ks l (0 : Nat))) (2 : Nat) true true true) :: some (AObj.row (ints (Ls.zs l (1 : Nat))) (2 : Nat) true true true) :: some (AObj.row (acs (Ls.ks l (1 : Nat))) (2 : Nat) true true true) :: noH)) := by kernel_rfl
theorem li3_t (l : Ls) (c : Nat) (K : Value → Heap → Prop) :
    (fnP Tryz.prog c0 hsLi (7 : FuncId) [Value.slice (some { block := (0 : Nat), off := (0 : Nat) }) (3 : Nat) c] (lsG l (3 : Nat)) K) =
    (Is (secIs (Ls.N l (0 : Nat)) (Ls.K l (0 : Nat)) (ints (Ls.zs l (0 : Nat))) (acs (Ls.ks l (0 : Nat)))) ∧ Is (secIs (Ls.N l (1 : Nat)) (Ls.K l (1 : Nat)) (ints (Ls.zs l (1 : Nat))) (acs (Ls.ks l (1 : Nat)))) ∧ Is (secIs (Ls.N l (2 : Nat)) (Ls.K l (2 : Nat)) (ints (Ls.zs l (2 : Nat))) (acs (Ls.ks l (2 : Nat)))) ∧ K (Value.slice (some { block := (7 : Nat), off := (0 : Nat) }) (3 : Nat) (0 : Nat)) (some (AObj.row [Value.string (Ls.nm l (0 : Nat)), Value.slice (some { block := (1 : Nat), off := (0 : Nat) }) (Ls.N l (0 : Nat)) (18446744073709551616 : Nat), Value.slice (some { block := (2 : Nat), off := (0 : Nat) }) (Ls.K l (0 : Nat)) (18446744073709551616 : Nat), Value.string (Ls.nm l (1 : Nat)), Value.slice (some { block := (3 : Nat), off := (0 : Nat) }) (Ls.N l (1 : Nat)) (18446744073709551616 : Nat), Value.slice (some { block := (4 : Nat), off := (0 : Nat) }) (Ls.K l (1 : Nat)) (18446744073709551616 : Nat), Value.string (Ls.nm l (2 : Nat)), Value.slice (some { block := (5 : Nat), off := (0 : Nat) }) (Ls.N l (2 : Nat)) (18446744073709551616 : Nat), Value.slice (some { block := (6 : Nat), off := (0 : Nat) }) (Ls.K l (2 : Nat)) (18446744073709551616 : Nat)] (3 : Nat) false false false) :: some (AObj.row (ints (Ls.zs l (0 : Nat))) (2 : Nat) false false true) :: some (AObj.row (acs (Ls.ks l (0 : Nat))) (2 : Nat) false false true) :: some (AObj.row (ints (Ls.zs l (1 : Nat))) (2 : Nat) false false true) :: some (AObj.row (acs (Ls.ks l (1 : Nat))) (2 : Nat) false false true) :: some (AObj.row (ints (Ls.zs l (2 : Nat))) (2 : Nat) false false true) :: some (AObj.row (acs (Ls.ks l (2 : Nat))) (2 : Nat) false false true) :: some (AObj.row [Value.string (Ls.nm l (0 : Nat)), Value.slice (some { block := (8 : Nat), off := (0 : Nat) }) (Ls.N l (0 : Nat)) (0 : Nat), Value.slice (some { block := (9 : Nat), off := (0 : Nat) }) (Ls.K l (0 : Nat)) (0 : Nat), Value.string (Ls.nm l (1 : Nat)), Value.slice (some { block := (10 : Nat), off := (0 : Nat) }) (Ls.N l (1 : Nat)) (0 : Nat), Value.slice (some { block := (11 : Nat), off := (0 : Nat) }) (Ls.K l (1 : Nat)) (0 : Nat), Value.string (Ls.nm l (2 : Nat)), Value.slice (some { block := (12 : Nat), off := (0 : Nat) }) (Ls.N l (2 : Nat)) (0 : Nat), Value.slice (some { block := (13 : Nat), off := (0 : Nat) }) (Ls.K l (2 : Nat)) (0 : Nat)] (3 : Nat) true true (List.all [Value.string (Ls.nm l (0 : Nat)), Value.slice (some { block := (8 : Nat), off := (0 : Nat) }) (Ls.N l (0 : Nat)) (0 : Nat), Value.slice (some { block := (9 : Nat), off := (0 : Nat) }) (Ls.K l (0 : Nat)) (0 : Nat)] atom && List.all [Value.string (Ls.nm l (1 : Nat)), Value.slice (some { block := (13 : Nat), off := (0 : Nat) }) (Ls.N l (1 : Nat)) (0 : Nat), Value.slice (some { block := (14 : Nat), off := (0 : Nat) }) (Ls.K l (1 : Nat)) (0 : Nat)] atom && List.all [Value.string (Ls.nm l (2 : Nat)), Value.slice (some { block := (18 : Nat), off := (0 : Nat) }) (Ls.N l (2 : Nat)) (0 : Nat), Value.slice (some { block := (19 : Nat), off := (0 : Nat) }) (Ls.K l (2 : Nat)) (0 : Nat)] atom)) :: some (AObj.row (ints (Ls.zs l (0 : Nat))) (2 : Nat) true true true) :: some (AObj.row (acs (Ls.ks l (0 : Nat))) (2 : Nat) true true true) :: some (AObj.row (ints (Ls.zs l (1 : Nat))) (2 : Nat) true true true) :: some (AObj.row (acs (Ls.ks l (1 : Nat))) (2 : Nat) true true true) :: some (AObj.row (ints (Ls.zs l (2 : Nat))) (2 : Nat) true true true) :: some (AObj.row (acs (Ls.ks l (2 : Nat))) (2 : Nat) true true true) :: noH)) := by kernel_rfl
theorem li4_t (l : Ls) (c : Nat) (K : Value → Heap → Prop) :
    (fnP Tryz.prog c0 hsLi (7 : FuncId) [Value.slice (some { block := (0 : Nat), off := (0 : Nat) }) (4 : Nat) c] (lsG l (4 : Nat)) K) =
    (Is (secIs (Ls.N l (0 : Nat)) (Ls.K l (0 : Nat)) (ints (Ls.zs l (0 : Nat))) (acs (Ls.ks l (0 : Nat)))) ∧ Is (secIs (Ls.N l (1 : Nat)) (Ls.K l (1 : Nat)) (ints (Ls.zs l (1 : Nat))) (acs (Ls.ks l (1 : Nat)))) ∧ Is (secIs (Ls.N l (2 : Nat)) (Ls.K l (2 : Nat)) (ints (Ls.zs l (2 : Nat))) (acs (Ls.ks l (2 : Nat)))) ∧ Is (secIs (Ls.N l (3 : Nat)) (Ls.K l (3 : Nat)) (ints (Ls.zs l (3 : Nat))) (acs (Ls.ks l (3 : Nat)))) ∧ K (Value.slice (some { block := (9 : Nat), off := (0 : Nat) }) (4 : Nat) (0 : Nat)) (some (AObj.row [Value.string (Ls.nm l (0 : Nat)), Value.slice (some { block := (1 : Nat), off := (0 : Nat) }) (Ls.N l (0 : Nat)) (18446744073709551616 : Nat), Value.slice (some { block := (2 : Nat), off := (0 : Nat) }) (Ls.K l (0 : Nat)) (18446744073709551616 : Nat), Value.string (Ls.nm l (1 : Nat)), Value.slice (some { block := (3 : Nat), off := (0 : Nat) }) (Ls.N l (1 : Nat)) (18446744073709551616 : Nat), Value.slice (some { block := (4 : Nat), off := (0 : Nat) }) (Ls.K l (1 : Nat)) (18446744073709551616 : Nat), Value.string (Ls.nm l (2 : Nat)), Value.slice (some { block := (5 : Nat), off := (0 : Nat) }) (Ls.N l (2 : Nat)) (18446744073709551616 : Nat), Value.slice (some { block := (6 : Nat), off := (0 : Nat) }) (Ls.K l (2 : Nat)) (18446744073709551616 : Nat), Value.string (Ls.nm l (3 : Nat)), Value.slice (some { block := (7 : Nat), off := (0 : Nat) }) (Ls.N l (3 : Nat)) (18446744073709551616 : Nat), Value.slice (some { block := (8 : Nat), off := (0 : Nat) }) (Ls.K l (3 : Nat)) (18446744073709551616 : Nat)] (3 : Nat) false false false) :: some (AObj.row (ints (Ls.zs l (0 : Nat))) (2 : Nat) false false true) :: some (AObj.row (acs (Ls.ks l (0 : Nat))) (2 : Nat) false false true) :: some (AObj.row (ints (Ls.zs l (1 : Nat))) (2 : Nat) false false true) :: some (AObj.row (acs (Ls.ks l (1 : Nat))) (2 : Nat) false false true) :: some (AObj.row (ints (Ls.zs l (2 : Nat))) (2 : Nat) false false true) :: some (AObj.row (acs (Ls.ks l (2 : Nat))) (2 : Nat) false false true) :: some (AObj.row (ints (Ls.zs l (3 : Nat))) (2 : Nat) false false true) :: some (AObj.row (acs (Ls.ks l (3 : Nat))) (2 : Nat) false false true) :: some (AObj.row [Value.string (Ls.nm l (0 : Nat)), Value.slice (some { block := (10 : Nat), off := (0 : Nat) }) (Ls.N l (0 : Nat)) (0 : Nat), Value.slice (some { block := (11 : Nat), off := (0 : Nat) }) (Ls.K l (0 : Nat)) (0 : Nat), Value.string (Ls.nm l (1 : Nat)), Value.slice (some { block := (12 : Nat), off := (0 : Nat) }) (Ls.N l (1 : Nat)) (0 : Nat), Value.slice (some { block := (13 : Nat), off := (0 : Nat) }) (Ls.K l (1 : Nat)) (0 : Nat), Value.string (Ls.nm l (2 : Nat)), Value.slice (some { block := (14 : Nat), off := (0 : Nat) }) (Ls.N l (2 : Nat)) (0 : Nat), Value.slice (some { block := (15 : Nat), off := (0 : Nat) }) (Ls.K l (2 : Nat)) (0 : Nat), Value.string (Ls.nm l (3 : Nat)), Value.slice (some { block := (16 : Nat), off := (0 : Nat) }) (Ls.N l (3 : Nat)) (0 : Nat), Value.slice (some { block := (17 : Nat), off := (0 : Nat) }) (Ls.K l (3 : Nat)) (0 : Nat)] (3 : Nat) true true (List.all [Value.string (Ls.nm l (0 : Nat)), Value.slice (some { block := (10 : Nat), off := (0 : Nat) }) (Ls.N l (0 : Nat)) (0 : Nat), Value.slice (some { block := (11 : Nat), off := (0 : Nat) }) (Ls.K l (0 : Nat)) (0 : Nat)] atom && List.all [Value.string (Ls.nm l (1 : Nat)), Value.slice (some { block := (15 : Nat), off := (0 : Nat) }) (Ls.N l (1 : Nat)) (0 : Nat), Value.slice (some { block := (16 : Nat), off := (0 : Nat) }) (Ls.K l (1 : Nat)) (0 : Nat)] atom && List.all [Value.string (Ls.nm l (2 : Nat)), Value.slice (some { block := (20 : Nat), off := (0 : Nat) }) (Ls.N l (2 : Nat)) (0 : Nat), Value.slice (some { block := (21 : Nat), off := (0 : Nat) }) (Ls.K l (2 : Nat)) (0 : Nat)] atom && List.all [Value.string (Ls.nm l (3 : Nat)), Value.slice (some { block := (25 : Nat), off := (0 : Nat) }) (Ls.N l (3 : Nat)) (0 : Nat), Value.slice (some { block := (26 : Nat), off := (0 : Nat) }) (Ls.K l (3 : Nat)) (0 : Nat)] atom)) :: some (AObj.row (ints (Ls.zs l (0 : Nat))) (2 : Nat) true true true) :: some (AObj.row (acs (Ls.ks l (0 : Nat))) (2 : Nat) true true true) :: some (AObj.row (ints (Ls.zs l (1 : Nat))) (2 : Nat) true true true) :: some (AObj.row (acs (Ls.ks l (1 : Nat))) (2 : Nat) true true true) :: some (AObj.row (ints (Ls.zs l (2 : Nat))) (2 : Nat) true true true) :: some (AObj.row (acs (Ls.ks l (2 : Nat))) (2 : Nat) true true true) :: some (AObj.row (ints (Ls.zs l (3 : Nat))) (2 : Nat) true true true) :: some (AObj.row (acs (Ls.ks l (3 : Nat))) (2 : Nat) true true true) :: noH)) := by kernel_rfl
theorem li5_t (l : Ls) (c : Nat) (K : Value → Heap → Prop) :
    (fnP Tryz.prog c0 hsLi (7 : FuncId) [Value.slice (some { block := (0 : Nat), off := (0 : Nat) }) (5 : Nat) c] (lsG l (5 : Nat)) K) =
    (Is (secIs (Ls.N l (0 : Nat)) (Ls.K l (0 : Nat)) (ints (Ls.zs l (0 : Nat))) (acs (Ls.ks l (0 : Nat)))) ∧ Is (secIs (Ls.N l (1 : Nat)) (Ls.K l (1 : Nat)) (ints (Ls.zs l (1 : Nat))) (acs (Ls.ks l (1 : Nat)))) ∧ Is (secIs (Ls.N l (2 : Nat)) (Ls.K l (2 : Nat)) (ints (Ls.zs l (2 : Nat))) (acs (Ls.ks l (2 : Nat)))) ∧ Is (secIs (Ls.N l (3 : Nat)) (Ls.K l (3 : Nat)) (ints (Ls.zs l (3 : Nat))) (acs (Ls.ks l (3 : Nat)))) ∧ Is (secIs (Ls.N l (4 : Nat)) (Ls.K l (4 : Nat)) (ints (Ls.zs l (4 : Nat))) (acs (Ls.ks l (4 : Nat)))) ∧ K (Value.slice (some { block := (11 : Nat), off := (0 : Nat) }) (5 : Nat) (0 : Nat)) (some (AObj.row [Value.string (Ls.nm l (0 : Nat)), Value.slice (some { block := (1 : Nat), off := (0 : Nat) }) (Ls.N l (0 : Nat)) (18446744073709551616 : Nat), Value.slice (some { block := (2 : Nat), off := (0 : Nat) }) (Ls.K l (0 : Nat)) (18446744073709551616 : Nat), Value.string (Ls.nm l (1 : Nat)), Value.slice (some { block := (3 : Nat), off := (0 : Nat) }) (Ls.N l (1 : Nat)) (18446744073709551616 : Nat), Value.slice (some { block := (4 : Nat), off := (0 : Nat) }) (Ls.K l (1 : Nat)) (18446744073709551616 : Nat), Value.string (Ls.nm l (2 : Nat)), Value.slice (some { block := (5 : Nat), off := (0 : Nat) }) (Ls.N l (2 : Nat)) (18446744073709551616 : Nat), Value.slice (some { block := (6 : Nat), off := (0 : Nat) }) (Ls.K l (2 : Nat)) (18446744073709551616 : Nat), Value.string (Ls.nm l (3 : Nat)), Value.slice (some { block := (7 : Nat), off := (0 : Nat) }) (Ls.N l (3 : Nat)) (18446744073709551616 : Nat), Value.slice (some { block := (8 : Nat), off := (0 : Nat) }) (Ls.K l (3 : Nat)) (18446744073709551616 : Nat), Value.string (Ls.nm l (4 : Nat)), Value.slice (some { block := (9 : Nat), off := (0 : Nat) }) (Ls.N l (4 : Nat)) (18446744073709551616 : Nat), Value.slice (some { block := (10 : Nat), off := (0 : Nat) }) (Ls.K l (4 : Nat)) (18446744073709551616 : Nat)] (3 : Nat) false false false) :: some (AObj.row (ints (Ls.zs l (0 : Nat))) (2 : Nat) false false true) :: some (AObj.row (acs (Ls.ks l (0 : Nat))) (2 : Nat) false false true) :: some (AObj.row (ints (Ls.zs l (1 : Nat))) (2 : Nat) false false true) :: some (AObj.row (acs (Ls.ks l (1 : Nat))) (2 : Nat) false false true) :: some (AObj.row (ints (Ls.zs l (2 : Nat))) (2 : Nat) false false true) :: some (AObj.row (acs (Ls.ks l (2 : Nat))) (2 : Nat) false false true) :: some (AObj.row (ints (Ls.zs l (3 : Nat))) (2 : Nat) false false true) :: some (AObj.row (acs (Ls.ks l (3 : Nat))) (2 : Nat) false false true) :: some (AObj.row (ints (Ls.zs l (4 : Nat))) (2 : Nat) false false true) :: some (AObj.row (acs (Ls.ks l (4 : Nat))) (2 : Nat) false false true) :: some (AObj.row [Value.string (Ls.nm l (0 : Nat)), Value.slice (some { block := (12 : Nat), off := (0 : Nat) }) (Ls.N l (0 : Nat)) (0 : Nat), Value.slice (some { block := (13 : Nat), off := (0 : Nat) }) (Ls.K l (0 : Nat)) (0 : Nat), Value.string (Ls.nm l (1 : Nat)), Value.slice (some { block := (14 : Nat), off := (0 : Nat) }) (Ls.N l (1 : Nat)) (0 : Nat), Value.slice (some { block := (15 : Nat), off := (0 : Nat) }) (Ls.K l (1 : Nat)) (0 : Nat), Value.string (Ls.nm l (2 : Nat)), Value.slice (some { block := (16 : Nat), off := (0 : Nat) }) (Ls.N l (2 : Nat)) (0 : Nat), Value.slice (some { block := (17 : Nat), off := (0 : Nat) }) (Ls.K l (2 : Nat)) (0 : Nat), Value.string (Ls.nm l (3 : Nat)), Value.slice (some { block := (18 : Nat), off := (0 : Nat) }) (Ls.N l (3 : Nat)) (0 : Nat), Value.slice (some { block := (19 : Nat), off := (0 : Nat) }) (Ls.K l (3 : Nat)) (0 : Nat), Value.string (Ls.nm l (4 : Nat)), Value.slice (some { block := (20 : Nat), off := (0 : Nat) }) (Ls.N l (4 : Nat)) (0 : Nat), Value.slice (some { block := (21 : Nat), off := (0 : Nat) }) (Ls.K l (4 : Nat)) (0 : Nat)] (3 : Nat) true true (List.all [Value.string (Ls.nm l (0 : Nat)), Value.slice (some { block := (12 : Nat), off := (0 : Nat) }) (Ls.N l (0 : Nat)) (0 : Nat), Value.slice (some { block := (13 : Nat), off := (0 : Nat) }) (Ls.K l (0 : Nat)) (0 : Nat)] atom && List.all [Value.string (Ls.nm l (1 : Nat)), Value.slice (some { block := (17 : Nat), off := (0 : Nat) }) (Ls.N l (1 : Nat)) (0 : Nat), Value.slice (some { block := (18 : Nat), off := (0 : Nat) }) (Ls.K l (1 : Nat)) (0 : Nat)] atom && List.all [Value.string (Ls.nm l (2 : Nat)), Value.slice (some { block := (22 : Nat), off := (0 : Nat) }) (Ls.N l (2 : Nat)) (0 : Nat), Value.slice (some { block := (23 : Nat), off := (0 : Nat) }) (Ls.K l (2 : Nat)) (0 : Nat)] atom && List.all [Value.string (Ls.nm l (3 : Nat)), Value.slice (some { block := (27 : Nat), off := (0 : Nat) }) (Ls.N l (3 : Nat)) (0 : Nat), Value.slice (some { block := (28 : Nat), off := (0 : Nat) }) (Ls.K l (3 : Nat)) (0 : Nat)] atom && List.all [Value.string (Ls.nm l (4 : Nat)), Value.slice (some { block := (32 : Nat), off := (0 : Nat) }) (Ls.N l (4 : Nat)) (0 : Nat), Value.slice (some { block := (33 : Nat), off := (0 : Nat) }) (Ls.K l (4 : Nat)) (0 : Nat)] atom)) :: some (AObj.row (ints (Ls.zs l (0 : Nat))) (2 : Nat) true true true) :: some (AObj.row (acs (Ls.ks l (0 : Nat))) (2 : Nat) true true true) :: some (AObj.row (ints (Ls.zs l (1 : Nat))) (2 : Nat) true true true) :: some (AObj.row (acs (Ls.ks l (1 : Nat))) (2 : Nat) true true true) :: some (AObj.row (ints (Ls.zs l (2 : Nat))) (2 : Nat) true true true) :: some (AObj.row (acs (Ls.ks l (2 : Nat))) (2 : Nat) true true true) :: some (AObj.row (ints (Ls.zs l (3 : Nat))) (2 : Nat) true true true) :: some (AObj.row (acs (Ls.ks l (3 : Nat))) (2 : Nat) true true true) :: some (AObj.row (ints (Ls.zs l (4 : Nat))) (2 : Nat) true true true) :: some (AObj.row (acs (Ls.ks l (4 : Nat))) (2 : Nat) true true true) :: noH)) := by kernel_rfl
theorem li6_t (l : Ls) (c : Nat) (K : Value → Heap → Prop) :
    (fnP Tryz.prog c0 hsLi (7 : FuncId) [Value.slice (some { block := (0 : Nat), off := (0 : Nat) }) (6 : Nat) c] (lsG l (6 : Nat)) K) =
    (Is (secIs (Ls.N l (0 : Nat)) (Ls.K l (0 : Nat)) (ints (Ls.zs l (0 : Nat))) (acs (Ls.ks l (0 : Nat)))) ∧ Is (secIs (Ls.N l (1 : Nat)) (Ls.K l (1 : Nat)) (ints (Ls.zs l (1 : Nat))) (acs (Ls.ks l (1 : Nat)))) ∧ Is (secIs (Ls.N l (2 : Nat)) (Ls.K l (2 : Nat)) (ints (Ls.zs l (2 : Nat))) (acs (Ls.ks l (2 : Nat)))) ∧ Is (secIs (Ls.N l (3 : Nat)) (Ls.K l (3 : Nat)) (ints (Ls.zs l (3 : Nat))) (acs (Ls.ks l (3 : Nat)))) ∧ Is (secIs (Ls.N l (4 : Nat)) (Ls.K l (4 : Nat)) (ints (Ls.zs l (4 : Nat))) (acs (Ls.ks l (4 : Nat)))) ∧ Is (secIs (Ls.N l (5 : Nat)) (Ls.K l (5 : Nat)) (ints (Ls.zs l (5 : Nat))) (acs (Ls.ks l (5 : Nat)))) ∧ K (Value.slice (some { block := (13 : Nat), off := (0 : Nat) }) (6 : Nat) (0 : Nat)) (some (AObj.row [Value.string (Ls.nm l (0 : Nat)), Value.slice (some { block := (1 : Nat), off := (0 : Nat) }) (Ls.N l (0 : Nat)) (18446744073709551616 : Nat), Value.slice (some { block := (2 : Nat), off := (0 : Nat) }) (Ls.K l (0 : Nat)) (18446744073709551616 : Nat), Value.string (Ls.nm l (1 : Nat)), Value.slice (some { block := (3 : Nat), off := (0 : Nat) }) (Ls.N l (1 : Nat)) (18446744073709551616 : Nat), Value.slice (some { block := (4 : Nat), off := (0 : Nat) }) (Ls.K l (1 : Nat)) (18446744073709551616 : Nat), Value.string (Ls.nm l (2 : Nat)), Value.slice (some { block := (5 : Nat), off := (0 : Nat) }) (Ls.N l (2 : Nat)) (18446744073709551616 : Nat), Value.slice (some { block := (6 : Nat), off := (0 : Nat) }) (Ls.K l (2 : Nat)) (18446744073709551616 : Nat), Value.string (Ls.nm l (3 : Nat)), Value.slice (some { block := (7 : Nat), off := (0 : Nat) }) (Ls.N l (3 : Nat)) (18446744073709551616 : Nat), Value.slice (some { block := (8 : Nat), off := (0 : Nat) }) (Ls.K l (3 : Nat)) (18446744073709551616 : Nat), Value.string (Ls.nm l (4 : Nat)), Value.slice (some { block := (9 : Nat), off := (0 : Nat) }) (Ls.N l (4 : Nat)) (18446744073709551616 : Nat), Value.slice (some { block := (10 : Nat), off := (0 : Nat) }) (Ls.K l (4 : Nat)) (18446744073709551616 : Nat), Value.string (Ls.nm l (5 : Nat)), Value.slice (some { block := (11 : Nat), off := (0 : Nat) }) (Ls.N l (5 : Nat)) (18446744073709551616 : Nat), Value.slice (some { block := (12 : Nat), off := (0 : Nat) }) (Ls.K l (5 : Nat)) (18446744073709551616 : Nat)] (3 : Nat) false false false) :: some (AObj.row (ints (Ls.zs l (0 : Nat))) (2 : Nat) false false true) :: some (AObj.row (acs (Ls.ks l (0 : Nat))) (2 : Nat) false false true) :: some (AObj.row (ints (Ls.zs l (1 : Nat))) (2 : Nat) false false true) :: some (AObj.row (acs (Ls.ks l (1 : Nat))) (2 : Nat) false false true) :: some (AObj.row (ints (Ls.zs l (2 : Nat))) (2 : Nat) false false true) :: some (AObj.row (acs (Ls.ks l (2 : Nat))) (2 : Nat) false false true) :: some (AObj.row (ints (Ls.zs l (3 : Nat))) (2 : Nat) false false true) :: some (AObj.row (acs (Ls.ks l (3 : Nat))) (2 : Nat) false false true) :: some (AObj.row (ints (Ls.zs l (4 : Nat))) (2 : Nat) false false true) :: some (AObj.row (acs (Ls.ks l (4 : Nat))) (2 : Nat) false false true) :: some (AObj.row (ints (Ls.zs l (5 : Nat))) (2 : Nat) false false true) :: some (AObj.row (acs (Ls.ks l (5 : Nat))) (2 : Nat) false false true) :: some (AObj.row [Value.string (Ls.nm l (0 : Nat)), Value.slice (some { block := (14 : Nat), off := (0 : Nat) }) (Ls.N l (0 : Nat)) (0 : Nat), Value.slice (some { block := (15 : Nat), off := (0 : Nat) }) (Ls.K l (0 : Nat)) (0 : Nat), Value.string (Ls.nm l (1 : Nat)), Value.slice (some { block := (16 : Nat), off := (0 : Nat) }) (Ls.N l (1 : Nat)) (0 : Nat), Value.slice (some { block := (17 : Nat), off := (0 : Nat) }) (Ls.K l (1 : Nat)) (0 : Nat), Value.string (Ls.nm l (2 : Nat)), Value.slice (some { block := (18 : Nat), off := (0 : Nat) }) (Ls.N l (2 : Nat)) (0 : Nat), Value.slice (some { block := (19 : Nat), off := (0 : Nat) }) (Ls.K l (2 : Nat)) (0 : Nat), Value.string (Ls.nm l (3 : Nat)), Value.slice (some { block := (20 : Nat), off := (0 : Nat) }) (Ls.N l (3 : Nat)) (0 : Nat), Value.slice (some { block := (21 : Nat), off := (0 : Nat) }) (Ls.K l (3 : Nat)) (0 : Nat), Value.string (Ls.nm l (4 : Nat)), Value.slice (some { block := (22 : Nat), off := (0 : Nat) }) (Ls.N l (4 : Nat)) (0 : Nat), Value.slice (some { block := (23 : Nat), off := (0 : Nat) }) (Ls.K l (4 : Nat)) (0 : Nat), Value.string (Ls.nm l (5 : Nat)), Value.slice (some { block := (24 : Nat), off := (0 : Nat) }) (Ls.N l (5 : Nat)) (0 : Nat), Value.slice (some { block := (25 : Nat), off := (0 : Nat) }) (Ls.K l (5 : Nat)) (0 : Nat)] (3 : Nat) true true (List.all [Value.string (Ls.nm l (0 : Nat)), Value.slice (some { block := (14 : Nat), off := (0 : Nat) }) (Ls.N l (0 : Nat)) (0 : Nat), Value.slice (some { block := (15 : Nat), off := (0 : Nat) }) (Ls.K l (0 : Nat)) (0 : Nat)] atom && List.all [Value.string (Ls.nm l (1 : Nat)), Value.slice (some { block := (19 : Nat), off := (0 : Nat) }) (Ls.N l (1 : Nat)) (0 : Nat), Value.slice (some { block := (20 : Nat), off := (0 : Nat) }) (Ls.K l (1 : Nat)) (0 : Nat)] atom && List.all [Value.string (Ls.nm l (2 : Nat)), Value.slice (some { block := (24 : Nat), off := (0 : Nat) }) (Ls.N l (2 : Nat)) (0 : Nat), Value.slice (some { block := (25 : Nat), off := (0 : Nat) }) (Ls.K l (2 : Nat)) (0 : Nat)] atom && List.all [Value.string (Ls.nm l (3 : Nat)), Value.slice (some { block := (29 : Nat), off := (0 : Nat) }) (Ls.N l (3 : Nat)) (0 : Nat), Value.slice (some { block := (30 : Nat), off := (0 : Nat) }) (Ls.K l (3 : Nat)) (0 : Nat)] atom && List.all [Value.string (Ls.nm l (4 : Nat)), Value.slice (some { block := (34 : Nat), off := (0 : Nat) }) (Ls.N l (4 : Nat)) (0 : Nat), Value.slice (some { block := (35 : Nat), off := (0 : Nat) }) (Ls.K l (4 : Nat)) (0 : Nat)] atom && List.all [Value.string (Ls.nm l (5 : Nat)), Value.slice (some { block := (39 : Nat), off := (0 : Nat) }) (Ls.N l (5 : Nat)) (0 : Nat), Value.slice (some { block := (40 : Nat), off := (0 : Nat) }) (Ls.K l (5 : Nat)) (0 : Nat)] atom)) :: some (AObj.row (ints (Ls.zs l (0 : Nat))) (2 : Nat) true true true) :: some (AObj.row (acs (Ls.ks l (0 : Nat))) (2 : Nat) true true true) :: some (AObj.row (ints (Ls.zs l (1 : Nat))) (2 : Nat) true true true) :: some (AObj.row (acs (Ls.ks l (1 : Nat))) (2 : Nat) true true true) :: some (AObj.row (ints (Ls.zs l (2 : Nat))) (2 : Nat) true true true) :: some (AObj.row (acs (Ls.ks l (2 : Nat))) (2 : Nat) true true true) :: some (AObj.row (ints (Ls.zs l (3 : Nat))) (2 : Nat) true true true) :: some (AObj.row (acs (Ls.ks l (3 : Nat))) (2 : Nat) true true true) :: some (AObj.row (ints (Ls.zs l (4 : Nat))) (2 : Nat) true true true) :: some (AObj.row (acs (Ls.ks l (4 : Nat))) (2 : Nat) true true true) :: some (AObj.row (ints (Ls.zs l (5 : Nat))) (2 : Nat) true true true) :: some (AObj.row (acs (Ls.ks l (5 : Nat))) (2 : Nat) true true true) :: noH)) := by kernel_rfl
end
end Qq
end
section
/- Parts of a section, and their sums. -/
open Go Go.Vm Go.Proofs Sp
namespace Sp
noncomputable section
/-- A sum over pairs. -/
noncomputable def sumP (g : Int → Int → Int) : List Int → Int
  | d :: x :: r => g d x + sumP g r
  | _ => 0
noncomputable def d0 (zs : List Int) (off : Nat) : Int := zs.getD off 0
noncomputable def sX (zs : List Int) (off i : Nat) : Int := sumP (fun d _ => d - d0 zs off) ((zs.drop off).take (i * 2))
noncomputable def sY (zs : List Int) (off i : Nat) : Int := sumP (fun _ x => x) ((zs.drop off).take (i * 2))
noncomputable def sXX (zs : List Int) (off i : Nat) : Int := sumP (fun d _ => (d - d0 zs off) * (d - d0 zs off)) ((zs.drop off).take (i * 2))
noncomputable def sXY (zs : List Int) (off i : Nat) : Int := sumP (fun d x => (d - d0 zs off) * x) ((zs.drop off).take (i * 2))
noncomputable def lvl (zs : List Int) (off m : Nat) : Int := sY zs off m * sXX zs off m - sX zs off m * sXY zs off m
noncomputable def slp (zs : List Int) (off m : Nat) : Int := m * sXY zs off m - sX zs off m * sY zs off m
noncomputable def dn (zs : List Int) (off m : Nat) : Int := m * sXX zs off m - sX zs off m * sX zs off m
/-- Where a period ends. -/
noncomputable def upto (zs : List Int) (ks : List (Int × ByteArray)) (n k i : Nat) : Nat := if i < k then frm zs ks (i + 1) else n
end
end Sp
namespace Qq
noncomputable section
noncomputable def sp2 (zs : List Int) (ks : List (Int × ByteArray)) (n k off : Nat) : Value := .agg #[.int .i64 (Int.ofNat (frm zs ks (off / 2))), .int .i64 (Int.ofNat (upto zs ks n k (off / 2)))]
noncomputable def hsPd (zs : List Int) (ks : List (Int × ByteArray)) (n k : Nat) : Hs Tryz.prog where
  op y := if y = 103 then some (hIa Tryz.prog) else if y = 104 then some (hLd Tryz.prog (sp2 zs ks n k)) else if y = 206 then some (hSl Tryz.prog) else none
  au := auCalls [(60, hCa Tryz.prog 60 (orcPerV zs ks) (per_okV zs ks))]
theorem pd_t (nm : ByteArray) (zs : List Int) (ks : List (Int × ByteArray)) (n : Nat) (c : Nat) (k : Nat) (d : Nat) (p : Int) (K : Value → Heap → Prop) :
    (fnP Tryz.prog c0 (hsPd zs ks n k) (73 : FuncId) [Value.agg (List.toArray (secA nm (0 : Nat) n c (1 : Nat) k d)), Value.int IntKind.i64 p] (hp2 zs ks true true true true []) K) =
    (Is (isSec zs ks n k (ints zs) (acs ks) ∧ mchk zs (-1 : Int) = (0 : Int) ∧ achk ks (-1 : Int) = (0 : Int)) ∧ Is ((0 : Int) ≤ p ∧ p < (↑(k + (1 : Nat)) : Int)) ∧ Is ((if (0 : Nat) + Int.toNat p * (2 : Nat) + (2 : Nat) ≤ List.length (ints (spans zs ks n k)) then some (Value.agg (List.toArray (List.take (2 : Nat) (List.drop ((0 : Nat) + Int.toNat p * (2 : Nat)) (ints (spans zs ks n k)))))) else none) = some (Value.agg #[Value.int IntKind.i64 (↑(frm zs ks (((0 : Nat) + Int.toNat p * (2 : Nat)) / (2 : Nat))) : Int), Value.int IntKind.i64 (↑(upto zs ks n k (((0 : Nat) + Int.toNat p * (2 : Nat)) / (2 : Nat))) : Int)])) ∧ Is ((0 : Int) ≤ (↑(frm zs ks (((0 : Nat) + Int.toNat p * (2 : Nat)) / (2 : Nat))) : Int) ∧ (↑(frm zs ks (((0 : Nat) + Int.toNat p * (2 : Nat)) / (2 : Nat))) : Int) ≤ (↑(upto zs ks n k (((0 : Nat) + Int.toNat p * (2 : Nat)) / (2 : Nat))) : Int) ∧ (↑(upto zs ks n k (((0 : Nat) + Int.toNat p * (2 : Nat)) / (2 : Nat))) : Int) ≤ (↑n : Int)) ∧ K (Value.slice (some { block := (0 : Nat), off := (0 : Nat) + Int.toNat (↑(frm zs ks (((0 : Nat) + Int.toNat p * (2 : Nat)) / (2 : Nat))) : Int) * (2 : Nat) }) (Int.toNat (↑(upto zs ks n k (((0 : Nat) + Int.toNat p * (2 : Nat)) / (2 : Nat))) : Int) - Int.toNat (↑(frm zs ks (((0 : Nat) + Int.toNat p * (2 : Nat)) / (2 : Nat))) : Int)) (18446744073709551616 : Nat)) (some (AObj.row (ints zs) (2 : Nat) true true true) :: some (AObj.row (acs ks) (2 : Nat) true true true) :: noH)) := by kernel_rfl
noncomputable def hsIn (zs : List Int) (ks : List (Int × ByteArray)) (n k : Nat) : Hs Tryz.prog where
  op y := if y = 103 then some (hIa Tryz.prog) else if y = 104 then some (hLd Tryz.prog (sp2 zs ks n k)) else if y = 207 then some (hSl Tryz.prog) else if y = 208 then some (hAe Tryz.prog false) else none
  au := auCalls [(153, hCa Tryz.prog 153 (orcPerRV zs ks) (perR_okV zs ks))]
theorem in_t (nm : ByteArray) (zs : List Int) (ks : List (Int × ByteArray)) (n : Nat) (c : Nat) (k : Nat) (d : Nat) (p : Int) (K : Value → Heap → Prop) :
    (fnP Tryz.prog c0 (hsIn zs ks n k) (131 : FuncId) [Value.agg (List.toArray (secA nm (0 : Nat) n c (1 : Nat) k d)), Value.int IntKind.i64 p] (hp2 zs ks false false false false []) K) =
    (Is (isSec zs ks n k (ints zs) (acs ks)) ∧ Is ((0 : Int) ≤ p ∧ p < (↑(k + (1 : Nat)) : Int)) ∧ Is ((if (0 : Nat) + Int.toNat p * (2 : Nat) + (2 : Nat) ≤ List.length (ints (spans zs ks n k)) then some (Value.agg (List.toArray (List.take (2 : Nat) (List.drop ((0 : Nat) + Int.toNat p * (2 : Nat)) (ints (spans zs ks n k)))))) else none) = some (Value.agg #[Value.int IntKind.i64 (↑(frm zs ks (((0 : Nat) + Int.toNat p * (2 : Nat)) / (2 : Nat))) : Int), Value.int IntKind.i64 (↑(upto zs ks n k (((0 : Nat) + Int.toNat p * (2 : Nat)) / (2 : Nat))) : Int)])) ∧ Is ((0 : Int) ≤ (↑(frm zs ks (((0 : Nat) + Int.toNat p * (2 : Nat)) / (2 : Nat))) : Int) ∧ (↑(frm zs ks (((0 : Nat) + Int.toNat p * (2 : Nat)) / (2 : Nat))) : Int) ≤ (↑(upto zs ks n k (((0 : Nat) + Int.toNat p * (2 : Nat)) / (2 : Nat))) : Int) ∧ (↑(upto zs ks n k (((0 : Nat) + Int.toNat p * (2 : Nat)) / (2 : Nat))) : Int) ≤ (↑n : Int)) ∧ Is ((0 : Nat) + Int.toNat (↑(frm zs ks (((0 : Nat) + Int.toNat p * (2 : Nat)) / (2 : Nat))) : Int) * (2 : Nat) + (Int.toNat (↑(upto zs ks n k (((0 : Nat) + Int.toNat p * (2 : Nat)) / (2 : Nat))) : Int) - Int.toNat (↑(frm zs ks (((0 : Nat) + Int.toNat p * (2 : Nat)) / (2 : Nat))) : Int)) * (2 : Nat) ≤ List.length (ints zs) ∧ (∀ (v : Value), v ∈ ints zs → atom v = true) ∧ (Int.toNat (↑(upto zs ks n k (((0 : Nat) + Int.toNat p * (2 : Nat)) / (2 : Nat))) : Int) - Int.toNat (↑(frm zs ks (((0 : Nat) + Int.toNat p * (2 : Nat)) / (2 : Nat))) : Int)) * (16 : Nat) ≤ (140737488355328 : Nat) ∧ Int.toNat (↑(upto zs ks n k (((0 : Nat) + Int.toNat p * (2 : Nat)) / (2 : Nat))) : Int) - Int.toNat (↑(frm zs ks (((0 : Nat) + Int.toNat p * (2 : Nat)) / (2 : Nat))) : Int) ≤ (9223372036854775807 : Nat)) ∧ K (Value.slice (some { block := (2 : Nat), off := (0 : Nat) }) (Int.toNat (↑(upto zs ks n k (((0 : Nat) + Int.toNat p * (2 : Nat)) / (2 : Nat))) : Int) - Int.toNat (↑(frm zs ks (((0 : Nat) + Int.toNat p * (2 : Nat)) / (2 : Nat))) : Int)) (0 : Nat)) (some (AObj.row (ints zs) (2 : Nat) false false true) :: some (AObj.row (acs ks) (2 : Nat) false false true) :: some (AObj.row (List.take ((Int.toNat (↑(upto zs ks n k (((0 : Nat) + Int.toNat p * (2 : Nat)) / (2 : Nat))) : Int) - Int.toNat (↑(frm zs ks (((0 : Nat) + Int.toNat p * (2 : Nat)) / (2 : Nat))) : Int)) * (2 : Nat)) (List.drop ((0 : Nat) + Int.toNat (↑(frm zs ks (((0 : Nat) + Int.toNat p * (2 : Nat)) / (2 : Nat))) : Int) * (2 : Nat)) (ints zs))) (2 : Nat) true true true) :: noH)) := by kernel_rfl
/- The program's sums. -/
noncomputable def lpFt (zs : List Int) (off m c : Nat) (m1 w1 : Bool) : Lp where
  σ := Nat
  E i := slots 71 [(0, .slice (some ⟨0, off, none⟩) m c), (2, .pointer (some ⟨1, 0, none⟩)), (3, .int .i64 (Int.ofNat m)), (4, .int .i64 (sX zs off i)), (5, .int .i64 (sY zs off i)), (6, .int .i64 (sXX zs off i)), (7, .int .i64 (sXY zs off i)),
    (13, .slice (some ⟨0, off, none⟩) m c), (14, .int .i64 (Int.ofNat m)), (15, .int .i64 (Int.ofNat i))]
  Hp _ := [some (.row (ints zs) 2 m1 w1 true), some (.row [.int .i64 0, .int .i64 0, .int .i64 0, .int .i64 0] 0 false true true)]
  I i := i ≤ m
  m i := m - i
noncomputable def hsFt (zs : List Int) (off m c : Nat) (m1 w1 : Bool) : Hs Tryz.prog where
  op y := if [500, 603, 1001].contains y then some (hIa Tryz.prog) else if y = 501 then some (hLd Tryz.prog (z2 zs)) else if [605, 1003].contains y then some (hLd Tryz.prog (zI zs)) else none
  lp _ := some (lpFt zs off m c m1 w1)
  cl _ := keep 71 [0, 2, 3, 4, 5, 6, 7, 13, 14, 15]
  au := au0 Tryz.prog
theorem ft_t (zs : List Int) (off : Nat) (m : Nat) (c : Nat) (m1 : Bool) (w1 : Bool) (K : Value → Heap → Prop) :
    (fnP Tryz.prog c0 (hsFt zs off m c m1 w1) (105 : FuncId) [Value.slice (some { block := (0 : Nat), off := off }) m c] [some (AObj.row (ints zs) (2 : Nat) m1 w1 true)] K) =
    ((∃ s, Is (s ≤ m) ∧ [Value.slice (some { block := (0 : Nat), off := off }) m c, poi, Value.pointer (some { block := (1 : Nat), off := (0 : Nat) }), Value.int IntKind.i64 (↑m : Int), Value.int IntKind.i64 (0 : Int), Value.int IntKind.i64 (0 : Int), Value.int IntKind.i64 (0 : Int), Value.int IntKind.i64 (0 : Int), poi, poi, poi, poi, poi, Value.slice (some { block := (0 : Nat), off := off }) m c, Value.int IntKind.i64 (↑m : Int), Value.int IntKind.i64 (0 : Int), poi, poi, poi, poi, poi, poi, poi, poi, poi, poi, poi, poi, poi, poi, poi, poi, poi, poi, poi, poi, poi, poi, poi, poi, poi, poi, poi, poi, poi, poi, poi, poi, poi, poi, poi, poi, poi, poi, poi, poi, poi, poi, poi, poi, poi, poi, poi, poi, poi, poi, poi, poi, poi, poi, poi] = [Value.slice (some { block := (0 : Nat), off := off }) m c, poi, Value.pointer (some { block := (1 : Nat), off := (0 : Nat) }), Value.int IntKind.i64 (↑m : Int), Value.int IntKind.i64 (sX zs off s), Value.int IntKind.i64 (sY zs off s), Value.int IntKind.i64 (sXX zs off s), Value.int IntKind.i64 (sXY zs off s), poi, poi, poi, poi, poi, Value.slice (some { block := (0 : Nat), off := off }) m c, Value.int IntKind.i64 (↑m : Int), Value.int IntKind.i64 (↑s : Int), poi, poi, poi, poi, poi, poi, poi, poi, poi, poi, poi, poi, poi, poi, poi, poi, poi, poi, poi, poi, poi, poi, poi, poi, poi, poi, poi, poi, poi, poi, poi, poi, poi, poi, poi, poi, poi, poi, poi, poi, poi, poi, poi, poi, poi, poi, poi, poi, poi, poi, poi, poi, poi, poi, poi] ∧ some (AObj.row (ints zs) (2 : Nat) m1 w1 true) :: some (AObj.row [Value.int IntKind.i64 (0 : Int), Value.int IntKind.i64 (0 : Int), Value.int IntKind.i64 (0 : Int), Value.int IntKind.i64 (0 : Int)] (0 : Nat) false true true) :: noH = some (AObj.row (ints zs) (2 : Nat) m1 w1 true) :: some (AObj.row [Value.int IntKind.i64 (0 : Int), Value.int IntKind.i64 (0 : Int), Value.int IntKind.i64 (0 : Int), Value.int IntKind.i64 (0 : Int)] (0 : Nat) false true true) :: noH) ∧ ∀ (s : Nat), Is (s ≤ m) → br (decide ((↑s : Int) < (↑m : Int))) (Is ((0 : Int) ≤ (↑s : Int) ∧ (↑s : Int) < (↑m : Int)) ∧ Is ((if off + Int.toNat (↑s : Int) * (2 : Nat) + (2 : Nat) ≤ List.length (ints zs) then some (Value.agg (List.toArray (List.take (2 : Nat) (List.drop (off + Int.toNat (↑s : Int) * (2 : Nat)) (ints zs))))) else none) = some (Value.agg #[Value.int IntKind.i64 (List.getD zs (off + Int.toNat (↑s : Int) * (2 : Nat)) (0 : Int)), Value.int IntKind.i64 (List.getD zs (off + Int.toNat (↑s : Int) * (2 : Nat) + (1 : Nat)) (0 : Int))])) ∧ Is ((0 : Int) ≤ (0 : Int) ∧ (0 : Int) < (↑m : Int)) ∧ Is ((ints zs)[off + (0 : Nat) + (0 : Nat)]? = some (Value.int IntKind.i64 (List.getD zs (off + (0 : Nat) + (0 : Nat)) (0 : Int)))) ∧ ∃ s', Is (s' ≤ m) ∧ Is (m - s' < m - s) ∧ [Value.slice (some { block := (0 : Nat), off := off }) m c, poi, Value.pointer (some { block := (1 : Nat), off := (0 : Nat) }), Value.int IntKind.i64 (↑m : Int), Value.int IntKind.i64 (IntKind.wrap IntKind.i64 (sX zs off s + IntKind.wrap IntKind.i64 (List.getD zs (off + Int.toNat (↑s : Int) * (2 : Nat)) (0 : Int) - List.getD zs (off + (0 : Nat) + (0 : Nat)) (0 : Int)))), Value.int IntKind.i64 (IntKind.wrap IntKind.i64 (sY zs off s + List.getD zs (off + Int.toNat (↑s : Int) * (2 : Nat) + (1 : Nat)) (0 : Int))), Value.int IntKind.i64 (IntKind.wrap IntKind.i64 (sXX zs off s + IntKind.wrap IntKind.i64 (IntKind.wrap IntKind.i64 (List.getD zs (off + Int.toNat (↑s : Int) * (2 : Nat)) (0 : Int) - List.getD zs (off + (0 : Nat) + (0 : Nat)) (0 : Int)) * IntKind.wrap IntKind.i64 (List.getD zs (off + Int.toNat (↑s : Int) * (2 : Nat)) (0 : Int) - List.getD zs (off + (0 : Nat) + (0 : Nat)) (0 : Int))))), Value.int IntKind.i64 (IntKind.wrap IntKind.i64 (sXY zs off s + IntKind.wrap IntKind.i64 (IntKind.wrap IntKind.i64 (List.getD zs (off + Int.toNat (↑s : Int) * (2 : Nat)) (0 : Int) - List.getD zs (off + (0 : Nat) + (0 : Nat)) (0 : Int)) * List.getD zs (off + Int.toNat (↑s : Int) * (2 : Nat) + (1 : Nat)) (0 : Int)))), poi, poi, poi, poi, poi, Value.slice (some { block := (0 : Nat), off := off }) m c, Value.int IntKind.i64 (↑m : Int), Value.int IntKind.i64 (IntKind.wrap IntKind.i64 ((↑s : Int) + (1 : Int))), poi, poi, poi, poi, poi, poi, poi, poi, poi, poi, poi, poi, poi, poi, poi, poi, poi, poi, poi, poi, poi, poi, poi, poi, poi, poi, poi, poi, poi, poi, poi, poi, poi, poi, poi, poi, poi, poi, poi, poi, poi, poi, poi, poi, poi, poi, poi, poi, poi, poi, poi, poi, poi, poi, poi] = [Value.slice (some { block := (0 : Nat), off := off }) m c, poi, Value.pointer (some { block := (1 : Nat), off := (0 : Nat) }), Value.int IntKind.i64 (↑m : Int), Value.int IntKind.i64 (sX zs off s'), Value.int IntKind.i64 (sY zs off s'), Value.int IntKind.i64 (sXX zs off s'), Value.int IntKind.i64 (sXY zs off s'), poi, poi, poi, poi, poi, Value.slice (some { block := (0 : Nat), off := off }) m c, Value.int IntKind.i64 (↑m : Int), Value.int IntKind.i64 (↑s' : Int), poi, poi, poi, poi, poi, poi, poi, poi, poi, poi, poi, poi, poi, poi, poi, poi, poi, poi, poi, poi, poi, poi, poi, poi, poi, poi, poi, poi, poi, poi, poi, poi, poi, poi, poi, poi, poi, poi, poi, poi, poi, poi, poi, poi, poi, poi, poi, poi, poi, poi, poi, poi, poi, poi, poi] ∧ some (AObj.row (ints zs) (2 : Nat) m1 w1 true) :: some (AObj.row [Value.int IntKind.i64 (0 : Int), Value.int IntKind.i64 (0 : Int), Value.int IntKind.i64 (0 : Int), Value.int IntKind.i64 (0 : Int)] (0 : Nat) false true true) :: noH = some (AObj.row (ints zs) (2 : Nat) m1 w1 true) :: some (AObj.row [Value.int IntKind.i64 (0 : Int), Value.int IntKind.i64 (0 : Int), Value.int IntKind.i64 (0 : Int), Value.int IntKind.i64 (0 : Int)] (0 : Nat) false true true) :: noH) (Is ((0 : Int) ≤ (0 : Int) ∧ (0 : Int) < (↑m : Int)) ∧ Is ((ints zs)[off + (0 : Nat) + (0 : Nat)]? = some (Value.int IntKind.i64 (List.getD zs (off + (0 : Nat) + (0 : Nat)) (0 : Int)))) ∧ K (Value.agg #[Value.int IntKind.i64 (List.getD zs (off + (0 : Nat) + (0 : Nat)) (0 : Int)), Value.int IntKind.i64 (IntKind.wrap IntKind.i64 (IntKind.wrap IntKind.i64 (sY zs off s * sXX zs off s) - IntKind.wrap IntKind.i64 (sX zs off s * sXY zs off s))), Value.int IntKind.i64 (IntKind.wrap IntKind.i64 (IntKind.wrap IntKind.i64 ((↑m : Int) * sXY zs off s) - IntKind.wrap IntKind.i64 (sX zs off s * sY zs off s))), Value.int IntKind.i64 (IntKind.wrap IntKind.i64 (IntKind.wrap IntKind.i64 ((↑m : Int) * sXX zs off s) - IntKind.wrap IntKind.i64 (sX zs off s * sX zs off s)))]) (some (AObj.row (ints zs) (2 : Nat) m1 w1 true) :: noH))) := by kernel_rfl
/- The reference's sums. -/
noncomputable def lpFR (zs : List Int) (off m c : Nat) (m1 w1 : Bool) : Lp where
  σ := Nat
  E i := slots 74 [(0, .slice (some ⟨0, off, none⟩) m c), (2, .pointer (some ⟨1, 0, none⟩)), (3, .int .i64 (Int.ofNat m)), (4, .int .i64 (sX zs off i)), (5, .int .i64 (sY zs off i)), (6, .int .i64 (sXX zs off i)), (7, .int .i64 (sXY zs off i)), (8, .int .i64 (Int.ofNat i))]
  Hp _ := [some (.row (ints zs) 2 m1 w1 true), some (.row [.int .i64 0, .int .i64 0, .int .i64 0] 0 false true true)]
  I i := i ≤ m
  m i := m - i
noncomputable def hsFR (zs : List Int) (off m c : Nat) (m1 w1 : Bool) : Hs Tryz.prog where
  op y := if [502, 506, 606, 709].contains y then some (hIa Tryz.prog) else if [504, 508, 608, 711].contains y then some (hLd Tryz.prog (zI zs)) else none
  lp _ := some (lpFR zs off m c m1 w1)
  cl _ := keep 74 [0, 2, 3, 4, 5, 6, 7, 8]
  au := au0 Tryz.prog
theorem fr_t (zs : List Int) (off : Nat) (m : Nat) (c : Nat) (m1 : Bool) (w1 : Bool) (K : Value → Heap → Prop) :
    (fnP Tryz.prog c0 (hsFR zs off m c m1 w1) (132 : FuncId) [Value.slice (some { block := (0 : Nat), off := off }) m c] [some (AObj.row (ints zs) (2 : Nat) m1 w1 true)] K) =
    ((∃ s, Is (s ≤ m) ∧ [Value.slice (some { block := (0 : Nat), off := off }) m c, poi, Value.pointer (some { block := (1 : Nat), off := (0 : Nat) }), Value.int IntKind.i64 (↑m : Int), Value.int IntKind.i64 (0 : Int), Value.int IntKind.i64 (0 : Int), Value.int IntKind.i64 (0 : Int), Value.int IntKind.i64 (0 : Int), Value.int IntKind.i64 (0 : Int), poi, poi, poi, poi, poi, poi, poi, poi, poi, poi, poi, poi, poi, poi, poi, poi, poi, poi, poi, poi, poi, poi, poi, poi, poi, poi, poi, poi, poi, poi, poi, poi, poi, poi, poi, poi, poi, poi, poi, poi, poi, poi, poi, poi, poi, poi, poi, poi, poi, poi, poi, poi, poi, poi, poi, poi, poi, poi, poi, poi, poi, poi, poi, poi, poi] = [Value.slice (some { block := (0 : Nat), off := off }) m c, poi, Value.pointer (some { block := (1 : Nat), off := (0 : Nat) }), Value.int IntKind.i64 (↑m : Int), Value.int IntKind.i64 (sX zs off s), Value.int IntKind.i64 (sY zs off s), Value.int IntKind.i64 (sXX zs off s), Value.int IntKind.i64 (sXY zs off s), Value.int IntKind.i64 (↑s : Int), poi, poi, poi, poi, poi, poi, poi, poi, poi, poi, poi, poi, poi, poi, poi, poi, poi, poi, poi, poi, poi, poi, poi, poi, poi, poi, poi, poi, poi, poi, poi, poi, poi, poi, poi, poi, poi, poi, poi, poi, poi, poi, poi, poi, poi, poi, poi, poi, poi, poi, poi, poi, poi, poi, poi, poi, poi, poi, poi, poi, poi, poi, poi, poi, poi] ∧ some (AObj.row (ints zs) (2 : Nat) m1 w1 true) :: some (AObj.row [Value.int IntKind.i64 (0 : Int), Value.int IntKind.i64 (0 : Int), Value.int IntKind.i64 (0 : Int)] (0 : Nat) false true true) :: noH = some (AObj.row (ints zs) (2 : Nat) m1 w1 true) :: some (AObj.row [Value.int IntKind.i64 (0 : Int), Value.int IntKind.i64 (0 : Int), Value.int IntKind.i64 (0 : Int)] (0 : Nat) false true true) :: noH) ∧ ∀ (s : Nat), Is (s ≤ m) → br (decide ((↑s : Int) < (↑m : Int))) (Is ((0 : Int) ≤ (↑s : Int) ∧ (↑s : Int) < (↑m : Int)) ∧ Is ((ints zs)[off + Int.toNat (↑s : Int) * (2 : Nat) + (0 : Nat)]? = some (Value.int IntKind.i64 (List.getD zs (off + Int.toNat (↑s : Int) * (2 : Nat) + (0 : Nat)) (0 : Int)))) ∧ Is ((0 : Int) ≤ (0 : Int) ∧ (0 : Int) < (↑m : Int)) ∧ Is ((ints zs)[off + (0 : Nat) + (0 : Nat)]? = some (Value.int IntKind.i64 (List.getD zs (off + (0 : Nat) + (0 : Nat)) (0 : Int)))) ∧ Is ((0 : Int) ≤ (↑s : Int) ∧ (↑s : Int) < (↑m : Int)) ∧ Is ((ints zs)[off + Int.toNat (↑s : Int) * (2 : Nat) + (1 : Nat)]? = some (Value.int IntKind.i64 (List.getD zs (off + Int.toNat (↑s : Int) * (2 : Nat) + (1 : Nat)) (0 : Int)))) ∧ Is ((0 : Int) ≤ (↑s : Int) ∧ (↑s : Int) < (↑m : Int)) ∧ Is ((ints zs)[off + Int.toNat (↑s : Int) * (2 : Nat) + (1 : Nat)]? = some (Value.int IntKind.i64 (List.getD zs (off + Int.toNat (↑s : Int) * (2 : Nat) + (1 : Nat)) (0 : Int)))) ∧ ∃ s', Is (s' ≤ m) ∧ Is (m - s' < m - s) ∧ [Value.slice (some { block := (0 : Nat), off := off }) m c, poi, Value.pointer (some { block := (1 : Nat), off := (0 : Nat) }), Value.int IntKind.i64 (↑m : Int), Value.int IntKind.i64 (IntKind.wrap IntKind.i64 (sX zs off s + IntKind.wrap IntKind.i64 (List.getD zs (off + Int.toNat (↑s : Int) * (2 : Nat) + (0 : Nat)) (0 : Int) - List.getD zs (off + (0 : Nat) + (0 : Nat)) (0 : Int)))), Value.int IntKind.i64 (IntKind.wrap IntKind.i64 (sY zs off s + List.getD zs (off + Int.toNat (↑s : Int) * (2 : Nat) + (1 : Nat)) (0 : Int))), Value.int IntKind.i64 (IntKind.wrap IntKind.i64 (sXX zs off s + IntKind.wrap IntKind.i64 (IntKind.wrap IntKind.i64 (List.getD zs (off + Int.toNat (↑s : Int) * (2 : Nat) + (0 : Nat)) (0 : Int) - List.getD zs (off + (0 : Nat) + (0 : Nat)) (0 : Int)) * IntKind.wrap IntKind.i64 (List.getD zs (off + Int.toNat (↑s : Int) * (2 : Nat) + (0 : Nat)) (0 : Int) - List.getD zs (off + (0 : Nat) + (0 : Nat)) (0 : Int))))), Value.int IntKind.i64 (IntKind.wrap IntKind.i64 (sXY zs off s + IntKind.wrap IntKind.i64 (IntKind.wrap IntKind.i64 (List.getD zs (off + Int.toNat (↑s : Int) * (2 : Nat) + (0 : Nat)) (0 : Int) - List.getD zs (off + (0 : Nat) + (0 : Nat)) (0 : Int)) * List.getD zs (off + Int.toNat (↑s : Int) * (2 : Nat) + (1 : Nat)) (0 : Int)))), Value.int IntKind.i64 (IntKind.wrap IntKind.i64 ((↑s : Int) + (1 : Int))), poi, poi, poi, poi, poi, poi, poi, poi, poi, poi, poi, poi, poi, poi, poi, poi, poi, poi, poi, poi, poi, poi, poi, poi, poi, poi, poi, poi, poi, poi, poi, poi, poi, poi, poi, poi, poi, poi, poi, poi, poi, poi, poi, poi, poi, poi, poi, poi, poi, poi, poi, poi, poi, poi, poi, poi, poi, poi, poi, poi, poi, poi, poi, poi, poi] = [Value.slice (some { block := (0 : Nat), off := off }) m c, poi, Value.pointer (some { block := (1 : Nat), off := (0 : Nat) }), Value.int IntKind.i64 (↑m : Int), Value.int IntKind.i64 (sX zs off s'), Value.int IntKind.i64 (sY zs off s'), Value.int IntKind.i64 (sXX zs off s'), Value.int IntKind.i64 (sXY zs off s'), Value.int IntKind.i64 (↑s' : Int), poi, poi, poi, poi, poi, poi, poi, poi, poi, poi, poi, poi, poi, poi, poi, poi, poi, poi, poi, poi, poi, poi, poi, poi, poi, poi, poi, poi, poi, poi, poi, poi, poi, poi, poi, poi, poi, poi, poi, poi, poi, poi, poi, poi, poi, poi, poi, poi, poi, poi, poi, poi, poi, poi, poi, poi, poi, poi, poi, poi, poi, poi, poi, poi, poi] ∧ some (AObj.row (ints zs) (2 : Nat) m1 w1 true) :: some (AObj.row [Value.int IntKind.i64 (0 : Int), Value.int IntKind.i64 (0 : Int), Value.int IntKind.i64 (0 : Int)] (0 : Nat) false true true) :: noH = some (AObj.row (ints zs) (2 : Nat) m1 w1 true) :: some (AObj.row [Value.int IntKind.i64 (0 : Int), Value.int IntKind.i64 (0 : Int), Value.int IntKind.i64 (0 : Int)] (0 : Nat) false true true) :: noH) (K (Value.agg #[Value.int IntKind.i64 (IntKind.wrap IntKind.i64 (IntKind.wrap IntKind.i64 (sY zs off s * sXX zs off s) - IntKind.wrap IntKind.i64 (sX zs off s * sXY zs off s))), Value.int IntKind.i64 (IntKind.wrap IntKind.i64 (IntKind.wrap IntKind.i64 ((↑m : Int) * sXY zs off s) - IntKind.wrap IntKind.i64 (sX zs off s * sY zs off s))), Value.int IntKind.i64 (IntKind.wrap IntKind.i64 (IntKind.wrap IntKind.i64 ((↑m : Int) * sXX zs off s) - IntKind.wrap IntKind.i64 (sX zs off s * sX zs off s)))]) (some (AObj.row (ints zs) (2 : Nat) m1 w1 true) :: noH))) := by kernel_rfl
theorem sumP_take (g : Int → Int → Int) : ∀ (L : List Int) (i : Nat), i * 2 + 2 ≤ L.length → sumP g (L.take ((i + 1) * 2)) = sumP g (L.take (i * 2)) + g (L.getD (i * 2) 0) (L.getD (i * 2 + 1) 0)
  | [], i, h => by simp at h
  | [_], i, h => by simp at h
  | a :: b :: r, 0, _ => by simp [sumP]
  | a :: b :: r, i + 1, h => by
    have ih := sumP_take g r i (by simp only [List.length_cons] at h; omega)
    have e1 : (i + 1 + 1) * 2 = (i + 1) * 2 + 1 + 1 := by omega
    have e2 : (i + 1) * 2 = i * 2 + 1 + 1 := by omega
    have e3 : (a :: b :: r).getD ((i + 1) * 2) 0 = r.getD (i * 2) 0 := by rw [e2]; rfl
    have e4 : (a :: b :: r).getD ((i + 1) * 2 + 1) 0 = r.getD (i * 2 + 1) 0 := by rw [show (i + 1) * 2 + 1 = i * 2 + 1 + 1 + 1 by omega]; rfl
    rw [e3, e4, e1, List.take_succ_cons, List.take_succ_cons]
    rw [show (a :: b :: r).take ((i + 1) * 2) = a :: b :: r.take (i * 2) by rw [e2, List.take_succ_cons, List.take_succ_cons]]
    simp only [sumP]
    rw [ih]
    omega
theorem getD_drop (zs : List Int) (off j : Nat) : (zs.drop off).getD j 0 = zs.getD (off + j) 0 := by
  simp [List.getD_eq_getElem?_getD, List.getElem?_drop]
theorem sumP_step (g : Int → Int → Int) {zs : List Int} {off i : Nat} (h : off + i * 2 + 2 ≤ zs.length) :
    sumP g ((zs.drop off).take ((i + 1) * 2)) = sumP g ((zs.drop off).take (i * 2)) + g (zs.getD (off + i * 2) 0) (zs.getD (off + i * 2 + 1) 0) := by
  have := sumP_take g (zs.drop off) i (by rw [List.length_drop]; omega)
  rw [getD_drop, getD_drop] at this
  rw [this, Nat.add_assoc]
/-- A part whose sums do not leave the machine's integers. -/
structure Part (zs : List Int) (off m : Nat) : Prop where
  len : off + m * 2 ≤ zs.length
  few : m ≤ 32
  day : ∀ i, i < m → d0 zs off ≤ zs.getD (off + i * 2) 0 ∧ zs.getD (off + i * 2) 0 ≤ 100000
  idx : ∀ i, i < m → 0 ≤ zs.getD (off + i * 2 + 1) 0 ∧ zs.getD (off + i * 2 + 1) 0 ≤ 100000
  z0 : 0 ≤ d0 zs off
theorem sumP_le {g : Int → Int → Int} {zs : List Int} {off m : Nat} {B : Int} (hl : off + m * 2 ≤ zs.length) (hb : ∀ i, i < m → 0 ≤ g (zs.getD (off + i * 2) 0) (zs.getD (off + i * 2 + 1) 0) ∧ g (zs.getD (off + i * 2) 0) (zs.getD (off + i * 2 + 1) 0) ≤ B) :
    ∀ i : Nat, i ≤ m → 0 ≤ sumP g ((zs.drop off).take (i * 2)) ∧ sumP g ((zs.drop off).take (i * 2)) ≤ B * i
  | 0, _ => by simp [sumP]
  | i + 1, h => by
    obtain ⟨h1, h2⟩ := sumP_le hl hb i (by omega)
    obtain ⟨h3, h4⟩ := hb i (by omega)
    rw [sumP_step g (by omega)]
    have e : B * ((i + 1 : Nat) : Int) = B * (i : Int) + B := by rw [Int.natCast_add, Int.mul_add]; simp
    rw [e]
    omega
theorem mul_in {a b A B : Int} (a0 : 0 ≤ a) (aA : a ≤ A) (b0 : 0 ≤ b) (bB : b ≤ B) : 0 ≤ a * b ∧ a * b ≤ A * B :=
  ⟨Int.mul_nonneg a0 b0, Int.mul_le_mul aA bB b0 (Int.le_trans a0 aA)⟩
theorem Part.sums {zs : List Int} {off m : Nat} (h : Part zs off m) {i : Nat} (hi : i ≤ m) :
    (0 ≤ sX zs off i ∧ sX zs off i ≤ 3200000) ∧ (0 ≤ sY zs off i ∧ sY zs off i ≤ 3200000) ∧ (0 ≤ sXX zs off i ∧ sXX zs off i ≤ 320000000000) ∧ (0 ≤ sXY zs off i ∧ sXY zs off i ≤ 320000000000) := by
  have hd := h.z0
  have hm := h.few
  have up : ∀ {s B : Int}, 0 ≤ B → 0 ≤ s ∧ s ≤ B * i → 0 ≤ s ∧ s ≤ B * 32 := fun {s B} hB ⟨a, b⟩ => ⟨a, Int.le_trans b (Int.mul_le_mul_of_nonneg_left (by omega) hB)⟩
  refine ⟨up (B := 100000) (by omega) (sumP_le h.len (fun j hj => ?_) i hi), up (B := 100000) (by omega) (sumP_le h.len (fun j hj => h.idx j hj) i hi), up (B := 10000000000) (by omega) (sumP_le h.len (fun j hj => ?_) i hi), up (B := 10000000000) (by omega) (sumP_le h.len (fun j hj => ?_) i hi)⟩
  · have := h.day j hj; omega
  · obtain ⟨q1, q2⟩ := h.day j hj
    obtain ⟨u, hu⟩ : ∃ u, u = zs.getD (off + j * 2) 0 - Sp.d0 zs off := ⟨_, rfl⟩
    simp only [← hu]
    have hu : 0 ≤ u ∧ u ≤ 100000 := by omega
    have := mul_in hu.1 hu.2 hu.1 hu.2
    exact ⟨this.1, by omega⟩
  · obtain ⟨q1, q2⟩ := h.day j hj
    obtain ⟨q3, q4⟩ := h.idx j hj
    obtain ⟨u, hu⟩ : ∃ u, u = zs.getD (off + j * 2) 0 - Sp.d0 zs off := ⟨_, rfl⟩
    simp only [← hu]
    have hu : 0 ≤ u ∧ u ≤ 100000 := by omega
    have := mul_in hu.1 hu.2 q3 q4
    exact ⟨this.1, by omega⟩

/-- The numbers of the line do not leave the machine's integers. -/
theorem Part.line {zs : List Int} {off m : Nat} (h : Part zs off m) :
    (-1024000000000000000 ≤ lvl zs off m ∧ lvl zs off m ≤ 1024000000000000000) ∧ (-10240000000000 ≤ slp zs off m ∧ slp zs off m ≤ 10240000000000) ∧ (-10240000000000 ≤ dn zs off m ∧ dn zs off m ≤ 10240000000000) ∧
      W (W (sY zs off m * sXX zs off m) - W (sX zs off m * sXY zs off m)) = lvl zs off m ∧ W (W (m * sXY zs off m) - W (sX zs off m * sY zs off m)) = slp zs off m ∧ W (W (m * sXX zs off m) - W (sX zs off m * sX zs off m)) = dn zs off m := by
  obtain ⟨⟨x0, x1⟩, ⟨y0, y1⟩, ⟨p0, p1⟩, ⟨q0, q1⟩⟩ := h.sums (Nat.le_refl m)
  have hm := h.few
  have a1 := mul_in y0 y1 p0 p1
  have a2 := mul_in x0 x1 q0 q1
  have a3 := mul_in (show (0 : Int) ≤ m by omega) (show (m : Int) ≤ 32 by omega) q0 q1
  have a4 := mul_in x0 x1 y0 y1
  have a5 := mul_in (show (0 : Int) ≤ m by omega) (show (m : Int) ≤ 32 by omega) p0 p1
  have a6 := mul_in x0 x1 x0 x1
  simp only [lvl, slp, dn, W]
  rw [wrap_eq (x := sY zs off m * sXX zs off m) (by omega) (by omega), wrap_eq (x := sX zs off m * sXY zs off m) (by omega) (by omega), wrap_eq (x := m * sXY zs off m) (by omega) (by omega), wrap_eq (x := sX zs off m * sY zs off m) (by omega) (by omega),
    wrap_eq (x := m * sXX zs off m) (by omega) (by omega), wrap_eq (x := sX zs off m * sX zs off m) (by omega) (by omega)]
  refine ⟨⟨by omega, by omega⟩, ⟨by omega, by omega⟩, ⟨by omega, by omega⟩, wrap_eq (by omega) (by omega), wrap_eq (by omega) (by omega), wrap_eq (by omega) (by omega)⟩
theorem Part.step {zs : List Int} {off m i : Nat} (h : Part zs off m) (hi : i < m) :
    W (sX zs off i + W (zs.getD (off + i * 2) 0 - zs.getD off 0)) = sX zs off (i + 1) ∧ W (sY zs off i + zs.getD (off + i * 2 + 1) 0) = sY zs off (i + 1) ∧
      W (sXX zs off i + W (W (zs.getD (off + i * 2) 0 - zs.getD off 0) * W (zs.getD (off + i * 2) 0 - zs.getD off 0))) = sXX zs off (i + 1) ∧
      W (sXY zs off i + W (W (zs.getD (off + i * 2) 0 - zs.getD off 0) * zs.getD (off + i * 2 + 1) 0)) = sXY zs off (i + 1) := by
  have hl := h.len
  have g := h.sums (i := i + 1) hi
  have e1 : sX zs off (i + 1) = sX zs off i + (zs.getD (off + i * 2) 0 - d0 zs off) := sumP_step _ (by omega)
  have e2 : sY zs off (i + 1) = sY zs off i + zs.getD (off + i * 2 + 1) 0 := sumP_step _ (by omega)
  have e3 : sXX zs off (i + 1) = sXX zs off i + (zs.getD (off + i * 2) 0 - d0 zs off) * (zs.getD (off + i * 2) 0 - d0 zs off) := sumP_step _ (by omega)
  have e4 : sXY zs off (i + 1) = sXY zs off i + (zs.getD (off + i * 2) 0 - d0 zs off) * zs.getD (off + i * 2 + 1) 0 := sumP_step _ (by omega)
  obtain ⟨q1, q2⟩ := h.day i hi
  obtain ⟨q3, q4⟩ := h.idx i hi
  have hd := h.z0
  have hd0 : zs.getD off 0 = d0 zs off := rfl
  rw [hd0]
  obtain ⟨u, hu⟩ : ∃ u, u = zs.getD (off + i * 2) 0 - d0 zs off := ⟨_, rfl⟩
  rw [← hu] at e1 e3 e4 ⊢
  have hu : 0 ≤ u ∧ u ≤ 100000 := by omega
  have b1 := mul_in hu.1 hu.2 hu.1 hu.2
  have b2 := mul_in hu.1 hu.2 q3 q4
  obtain ⟨⟨x0, x1⟩, ⟨y0, y1⟩, ⟨p0, p1⟩, ⟨r0, r1⟩⟩ := g
  simp only [W]
  rw [wrap_eq (x := u) (by omega) (by omega), wrap_eq (x := u * u) (by omega) (by omega), wrap_eq (x := u * zs.getD (off + i * 2 + 1) 0) (by omega) (by omega), ← e1, ← e2, ← e3, ← e4]
  exact ⟨wrap_eq (by omega) (by omega), wrap_eq (by omega) (by omega), wrap_eq (by omega) (by omega), wrap_eq (by omega) (by omega)⟩
theorem spn_get (zs : List Int) (ks : List (Int × ByteArray)) : ∀ i j, j < i → (spn zs ks i)[j * 2]? = some ((frm zs ks j : Nat) : Int) ∧ (spn zs ks i)[j * 2 + 1]? = some ((frm zs ks (j + 1) : Nat) : Int)
  | 0, _, h => by omega
  | i + 1, j, h => by
    have hl := spn_len zs ks i
    simp only [spn]
    rcases Nat.lt_or_ge j i with h' | h'
    · rw [List.getElem?_append_left (by omega), List.getElem?_append_left (by omega)]
      exact spn_get zs ks i j h'
    · obtain rfl : j = i := by omega
      rw [List.getElem?_append_right (by omega), List.getElem?_append_right (by omega), hl]
      simp
theorem spans_get (zs : List Int) (ks : List (Int × ByteArray)) (n k : Nat) {j : Nat} (h : j ≤ k) :
    (spans zs ks n k).getD (j * 2) 0 = ((frm zs ks j : Nat) : Int) ∧ (spans zs ks n k).getD (j * 2 + 1) 0 = ((upto zs ks n k j : Nat) : Int) := by
  have hl := spn_len zs ks k
  simp only [spans, List.getD_eq_getElem?_getD]
  rcases Nat.lt_or_ge j k with h' | h'
  · obtain ⟨e1, e2⟩ := spn_get zs ks k j h'
    rw [List.getElem?_append_left (by omega), List.getElem?_append_left (by omega), e1, e2, upto, if_pos h']
    exact ⟨rfl, rfl⟩
  · obtain rfl : j = k := by omega
    rw [List.getElem?_append_right (by omega), List.getElem?_append_right (by omega), hl, upto, if_neg (by omega)]
    simp
theorem frm_le {zs : List Int} {ks : List (Int × ByteArray)} {n : Nat} (hz : zs.length = n * 2) (i : Nat) : frm zs ks i ≤ n := by
  cases i with
  | zero => exact Nat.zero_le _
  | succ i => have := cnt_le zs (ks.getD i (0, ⟨#[]⟩)).1; simp only [frm]; omega
theorem upto_le {zs : List Int} {ks : List (Int × ByteArray)} {n k i : Nat} (hz : zs.length = n * 2) (hk : ks.length = k) (ha : achk ks (-1) = 0) (_hi : i ≤ k) : frm zs ks i ≤ upto zs ks n k i ∧ upto zs ks n k i ≤ n := by
  simp only [upto]
  split
  · exact ⟨frm_up ha (by omega), frm_le hz _⟩
  · exact ⟨frm_le hz _, Nat.le_refl _⟩
set_option maxRecDepth 100000 in
theorem pd_ok {nm : ByteArray} {zs : List Int} {ks : List (Int × ByteArray)} {n c k d : Nat} {p : Int} (hz : zs.length = n * 2) (hk : ks.length = k) (hn : n ≤ 1000) (hk2 : k ≤ 1000) (hmm : mchk zs (-1) = 0) (ha : achk ks (-1) = 0) (p0 : 0 ≤ p) (p1 : p ≤ k) :
    SmallRes Tryz.prog 73 [.agg (secA nm 0 n c 1 k d).toArray, .int .i64 p] (hp2 zs ks true true true true [])
      (.slice (some ⟨0, frm zs ks p.toNat * 2, none⟩) (upto zs ks n k p.toNat - frm zs ks p.toNat) big) (hp2 zs ks true true true true []) := by
  refine fnP_res hm c0_ok (hs := hsPd zs ks n k) ?_
  rw [pd_t]
  obtain ⟨g1, g2⟩ := spans_get zs ks n k (j := p.toNat) (by omega)
  obtain ⟨u1, u2⟩ := upto_le (n := n) (i := p.toNat) hz hk ha (by omega)
  have e2 : p.toNat * 2 / 2 = p.toNat := by omega
  have hl := spans_len zs ks n k
  simp only [Nat.zero_add, Int.toNat_natCast, e2]
  refine ⟨⟨⟨rfl, rfl, hz, hk, hn, hk2⟩, hmm, ha⟩, ⟨p0, by omega⟩, ⟨?_⟩, ⟨by omega, by omega, by omega⟩, rfl, rfl⟩
  rw [ints_len, if_pos (by omega), ints_pair (by omega), g1, g2]
set_option maxRecDepth 100000 in
theorem in_ok {nm : ByteArray} {zs : List Int} {ks : List (Int × ByteArray)} {n c k d : Nat} {p : Int} (hz : zs.length = n * 2) (hk : ks.length = k) (hn : n ≤ 1000) (hk2 : k ≤ 1000) (ha : achk ks (-1) = 0) (p0 : 0 ≤ p) (p1 : p ≤ k) :
    SmallRes Tryz.prog 131 [.agg (secA nm 0 n c 1 k d).toArray, .int .i64 p] (hp2 zs ks false false false false [])
      (.slice (some ⟨2, 0, none⟩) (upto zs ks n k p.toNat - frm zs ks p.toNat) 0) (hp2 zs ks false false false false [lst2 ((zs.drop (frm zs ks p.toNat * 2)).take ((upto zs ks n k p.toNat - frm zs ks p.toNat) * 2))]) := by
  refine fnP_res hm c0_ok (hs := hsIn zs ks n k) ?_
  rw [in_t]
  obtain ⟨g1, g2⟩ := spans_get zs ks n k (j := p.toNat) (by omega)
  obtain ⟨u1, u2⟩ := upto_le (n := n) (i := p.toNat) hz hk ha (by omega)
  have e2 : p.toNat * 2 / 2 = p.toNat := by omega
  have hl := spans_len zs ks n k
  simp only [Nat.zero_add, Int.toNat_natCast, e2]
  refine ⟨⟨rfl, rfl, hz, hk, hn, hk2⟩, ⟨p0, by omega⟩, ⟨?_⟩, ⟨by omega, by omega, by omega⟩, ⟨by rw [ints_len]; omega, fun v hv => ?_, by omega, by omega⟩, by first | trivial | rfl, ?_⟩
  · rw [ints_len, if_pos (by omega), ints_pair (by omega), g1, g2]
  · obtain ⟨z, _, rfl⟩ := List.mem_map.1 hv; rfl
  · rw [ints_drop, ints_take]; rfl
set_option maxRecDepth 100000 in
theorem ft_ok {zs : List Int} {off m c : Nat} {m1 w1 : Bool} (h : Part zs off m) (h0 : 0 < m) :
    SmallRes Tryz.prog 105 [.slice (some ⟨0, off, none⟩) m c] [some (.row (ints zs) 2 m1 w1 true)] (.agg #[.int .i64 (zs.getD off 0), .int .i64 (lvl zs off m), .int .i64 (slp zs off m), .int .i64 (dn zs off m)]) [some (.row (ints zs) 2 m1 w1 true)] := by
  refine fnP_res hm c0_ok (hs := hsFt zs off m c m1 w1) ?_
  rw [ft_t]
  have hl := h.len
  have hf := h.few
  refine ⟨⟨(0 : Nat), ⟨by omega⟩, by first | trivial | rfl, by first | trivial | rfl⟩, fun s hs => br_of (fun hc => ?_) (fun hc => ?_)⟩
  · have hc := lt_of_dec hc
    obtain ⟨s1, s2, s3, s4⟩ := h.step hc
    simp only [W] at s1 s2 s3 s4
    simp only [Nat.add_zero, Int.toNat_natCast]
    refine ⟨⟨by omega, by omega⟩, ⟨by rw [ints_len, if_pos (show off + s * 2 + 2 ≤ zs.length by omega), ints_pair (by omega)]⟩, ⟨by omega, by omega⟩, ⟨ints_at (by omega)⟩, s + 1, ⟨hc⟩, ⟨by omega⟩, ?_, by first | trivial | rfl⟩
    rw [s1, s2, s3, s4, up1 hc (by omega)]
  · have hc := ge_of_dec hc
    obtain rfl : s = m := by have := hs.out; omega
    obtain ⟨_, _, _, l1, l2, l3⟩ := h.line
    simp only [W] at l1 l2 l3
    simp only [Nat.add_zero]
    rw [l1, l2, l3]
    exact ⟨⟨by omega, by omega⟩, ⟨ints_at (by omega)⟩, by first | trivial | rfl, by first | trivial | rfl⟩
set_option maxRecDepth 100000 in
theorem fr_ok {zs : List Int} {off m c : Nat} {m1 w1 : Bool} (h : Part zs off m) :
    SmallRes Tryz.prog 132 [.slice (some ⟨0, off, none⟩) m c] [some (.row (ints zs) 2 m1 w1 true)] (.agg #[.int .i64 (lvl zs off m), .int .i64 (slp zs off m), .int .i64 (dn zs off m)]) [some (.row (ints zs) 2 m1 w1 true)] := by
  refine fnP_res hm c0_ok (hs := hsFR zs off m c m1 w1) ?_
  rw [fr_t]
  have hl := h.len
  have hf := h.few
  refine ⟨⟨(0 : Nat), ⟨by omega⟩, by first | trivial | rfl, by first | trivial | rfl⟩, fun s hs => br_of (fun hc => ?_) (fun hc => ?_)⟩
  · have hc := lt_of_dec hc
    obtain ⟨s1, s2, s3, s4⟩ := h.step hc
    simp only [W] at s1 s2 s3 s4
    simp only [Nat.add_zero, Int.toNat_natCast]
    refine ⟨⟨by omega, by omega⟩, ⟨ints_at (by omega)⟩, ⟨by omega, by omega⟩, ⟨ints_at (by omega)⟩, ⟨by omega, by omega⟩, ⟨ints_at (by omega)⟩, ⟨by omega, by omega⟩, ⟨ints_at (by omega)⟩, s + 1, ⟨hc⟩, ⟨by omega⟩, ?_, by first | trivial | rfl⟩
    rw [s1, s2, s3, s4, up1 hc (by omega)]
  · have hc := ge_of_dec hc
    obtain rfl : s = m := by have := hs.out; omega
    obtain ⟨_, _, _, l1, l2, l3⟩ := h.line
    simp only [W] at l1 l2 l3
    rw [l1, l2, l3]
    exact ⟨by first | trivial | rfl, by first | trivial | rfl⟩
end
end Qq
end
section
/- Lines of periods. -/
open Go Go.Vm Go.Proofs Sp
namespace Qq
noncomputable section
theorem mchk_all : ∀ (zs : List Int) (last : Int), mchk zs last = 0 → ∀ i, i * 2 + 2 ≤ zs.length →
    last < zs.getD (i * 2) 0 ∧ 0 ≤ zs.getD (i * 2) 0 ∧ zs.getD (i * 2) 0 ≤ 100000 ∧ 0 ≤ zs.getD (i * 2 + 1) 0 ∧ zs.getD (i * 2 + 1) 0 ≤ 100000
  | [], _, _, i, h => by simp at h
  | [_], _, _, i, h => by simp at h
  | a :: b :: r, last, hm, i, h => by
    obtain ⟨h1, h2⟩ := mchk_cons hm
    simp only [mchk] at hm
    have h3 := fi_zero.1 (sel_zero.1 hm).1 (chkM a b) (by simp)
    have h4 := wi_zero.1 (fi_zero.1 h3 (wi a 0 100000) (by simp))
    have h5 := wi_zero.1 (fi_zero.1 h3 (wi b 0 100000) (by simp))
    cases i with
    | zero => simp; omega
    | succ i =>
      have := mchk_all r a h2 i (by simp only [List.length_cons] at h; omega)
      have e3 : (a :: b :: r).getD ((i + 1) * 2) 0 = r.getD (i * 2) 0 := by rw [show (i + 1) * 2 = i * 2 + 1 + 1 by omega]; rfl
      have e4 : (a :: b :: r).getD ((i + 1) * 2 + 1) 0 = r.getD (i * 2 + 1) 0 := by rw [show (i + 1) * 2 + 1 = i * 2 + 1 + 1 + 1 by omega]; rfl
      rw [e3, e4]
      omega
theorem mchk_up : ∀ (zs : List Int) (last : Int), mchk zs last = 0 → ∀ i j, i < j → j * 2 + 2 ≤ zs.length → zs.getD (i * 2) 0 < zs.getD (j * 2) 0
  | [], _, _, i, j, _, h => by simp at h
  | [_], _, _, i, j, _, h => by simp at h
  | a :: b :: r, last, hm, i, j, hij, h => by
    obtain ⟨h1, h2⟩ := mchk_cons hm
    obtain ⟨j, rfl⟩ : ∃ j', j = j' + 1 := ⟨j - 1, by omega⟩
    have hj : j * 2 + 2 ≤ r.length := by simp only [List.length_cons] at h; omega
    have e3 : (a :: b :: r).getD ((j + 1) * 2) 0 = r.getD (j * 2) 0 := by rw [show (j + 1) * 2 = j * 2 + 1 + 1 by omega]; rfl
    rw [e3]
    cases i with
    | zero => simpa using (mchk_all r a h2 j hj).1
    | succ i =>
      have e4 : (a :: b :: r).getD ((i + 1) * 2) 0 = r.getD (i * 2) 0 := by rw [show (i + 1) * 2 = i * 2 + 1 + 1 by omega]; rfl
      rw [e4]
      exact mchk_up r a h2 i j (by omega) hj
theorem part_of {zs : List Int} {n f m : Nat} (hz : zs.length = n * 2) (hn : n ≤ 32) (hm : mchk zs (-1) = 0) (h : f + m ≤ n) : Part zs (f * 2) m where
  len := by omega
  few := by omega
  day i hi := by
    have e : f * 2 + i * 2 = (f + i) * 2 := by omega
    rw [e]
    refine ⟨?_, (mchk_all zs (-1) hm (f + i) (by omega)).2.2.1⟩
    show zs.getD (f * 2) 0 ≤ _
    rcases Nat.eq_zero_or_pos i with h0 | h0
    · subst h0; exact Int.le_refl _
    · exact Int.le_of_lt (mchk_up zs (-1) hm f (f + i) (by omega) (by omega))
  idx i hi := by
    have e : f * 2 + i * 2 + 1 = (f + i) * 2 + 1 := by omega
    rw [e]
    exact (mchk_all zs (-1) hm (f + i) (by omega)).2.2.2
  z0 := by
    show 0 ≤ zs.getD (f * 2) 0
    rcases Nat.lt_or_ge f n with h' | h'
    · exact (mchk_all zs (-1) hm f (by omega)).2.1
    · rw [List.getD_eq_getElem?_getD, List.getElem?_eq_none (by omega)]; exact Int.le_refl _
/-- The squares of the differences from c. -/
theorem gap_eq (b c : Int) : ∀ (N : Nat) (L : List Int), L.length = N * 2 → sumP (fun d _ => (c - (d - b)) * (c - (d - b))) L = N * (c * c) - 2 * c * sumP (fun d _ => d - b) L + sumP (fun d _ => (d - b) * (d - b)) L
  | 0, [], _ => by simp [sumP]
  | N + 1, [_], h => by simp only [List.length_cons, List.length_nil] at h; omega
  | N + 1, u :: v :: r, h => by
    have ih := gap_eq b c N r (by simp only [List.length_cons] at h; omega)
    simp only [sumP]
    rw [ih]
    push_cast
    grind
theorem sumP_nonneg {g : Int → Int → Int} (hg : ∀ d x, 0 ≤ g d x) : ∀ L : List Int, 0 ≤ sumP g L
  | [] => by simp [sumP]
  | [_] => by simp [sumP]
  | a :: b :: r => by have := sumP_nonneg hg r; have := hg a b; simp only [sumP]; omega
theorem sq0 (x : Int) : 0 ≤ x * x := by
  rcases Int.le_total 0 x with h | h
  · exact Int.mul_nonneg h h
  · have := Int.mul_nonneg (show 0 ≤ -x by omega) (show 0 ≤ -x by omega)
    rwa [Int.neg_mul_neg] at this
theorem gap_pos (b : Int) : ∀ (N : Nat) (L : List Int), L.length = N * 2 → 0 ≤ N * sumP (fun d _ => (d - b) * (d - b)) L - sumP (fun d _ => d - b) L * sumP (fun d _ => d - b) L
  | 0, [], _ => by simp [sumP]
  | N + 1, [_], h => by simp only [List.length_cons, List.length_nil] at h; omega
  | N + 1, u :: v :: r, h => by
    have hr : r.length = N * 2 := by simp only [List.length_cons] at h; omega
    have ih := gap_pos b N r hr
    have e := gap_eq b (u - b) N r hr
    have p := sumP_nonneg (g := fun d _ => ((u - b) - (d - b)) * ((u - b) - (d - b))) (fun d x => sq0 _) r
    rw [e] at p
    simp only [sumP]
    push_cast
    grind
theorem gap_two (b : Int) (N : Nat) (u v w x : Int) (r : List Int) (hr : r.length = N * 2) (hne : u ≠ w) :
    0 < ((N + 2 : Nat) : Int) * sumP (fun d _ => (d - b) * (d - b)) (u :: v :: w :: x :: r) - sumP (fun d _ => d - b) (u :: v :: w :: x :: r) * sumP (fun d _ => d - b) (u :: v :: w :: x :: r) := by
  have ih := gap_pos b (N + 1) (w :: x :: r) (by simp only [List.length_cons]; omega)
  have e := gap_eq b (u - b) (N + 1) (w :: x :: r) (by simp only [List.length_cons]; omega)
  have p := sumP_nonneg (g := fun d _ => ((u - b) - (d - b)) * ((u - b) - (d - b))) (fun d x => sq0 _) r
  have q : 0 < ((u - b) - (w - b)) * ((u - b) - (w - b)) := by
    rcases Int.lt_or_gt_of_ne hne with h | h
    · have := Int.mul_pos (show 0 < w - u by omega) (show 0 < w - u by omega)
      grind
    · have := Int.mul_pos (show 0 < u - w by omega) (show 0 < u - w by omega)
      grind
  simp only [sumP] at *
  push_cast at *
  grind
theorem dn_pos {zs : List Int} {n f m : Nat} (hz : zs.length = n * 2) (hm : mchk zs (-1) = 0) (h : f + m ≤ n) (h2 : 2 ≤ m) : 0 < dn zs (f * 2) m := by
  simp only [dn, sX, sXX]
  have hL : ((zs.drop (f * 2)).take (m * 2)).length = m * 2 := by rw [List.length_take, List.length_drop]; omega
  have g : ∀ j, j < m * 2 → ((zs.drop (f * 2)).take (m * 2))[j]? = some (zs.getD (f * 2 + j) 0) := fun j hj => by
    rw [List.getElem?_take_of_lt hj, List.getElem?_drop, List.getD_eq_getElem?_getD, List.getElem?_eq_getElem (by omega)]
    rfl
  generalize (zs.drop (f * 2)).take (m * 2) = L at *
  obtain ⟨N, rfl⟩ : ∃ N, m = N + 2 := ⟨m - 2, by omega⟩
  obtain _ | ⟨u, _ | ⟨v, _ | ⟨w, _ | ⟨x, r⟩⟩⟩⟩ := L
  · simp at hL
  · simp at hL; omega
  · simp at hL; omega
  · simp at hL; omega
  · have g0 := g 0 (by omega)
    have g2 := g 2 (by omega)
    simp at g0 g2
    refine gap_two (d0 zs (f * 2)) N u v w x r (by simp only [List.length_cons] at hL; omega) ?_
    have := mchk_up zs (-1) hm f (f + 1) (by omega) (by omega)
    rw [show (f + 1) * 2 = f * 2 + 2 by omega] at this
    simp only [List.getD_eq_getElem?_getD] at this
    rw [g0, g2]
    omega
end
end Qq
end
section
/- Small contracts about sections and lines. -/
open Go Go.Vm Go.Proofs Sp
namespace Sp
noncomputable section
end
end Sp
namespace Qq
noncomputable section
noncomputable def orcDay : Orc
  | [.int .i64 x], [] => some (.int .i64 (wi x 0 100000), [])
  | _, _ => none
theorem idxP_t (x : Int) (K : Value → Heap → Prop) :
    (fnP Tryz.prog c2 h0 (38 : FuncId) [Value.int IntKind.i64 x] [] K) =
    (K (Value.int IntKind.i64 (wi x (0 : Int) (100000 : Int))) noH) := by kernel_rfl
theorem idxR_t (x : Int) (K : Value → Heap → Prop) :
    (fnP Tryz.prog cr2 h0 (10 : FuncId) [Value.int IntKind.i64 x] [] K) =
    (K (Value.int IntKind.i64 (wi x (0 : Int) (100000 : Int))) noH) := by kernel_rfl
theorem okIdxP : Ok Tryz.prog 38 orcDay := by
  intro args H ret H' h
  unfold orcDay at h
  split at h
  · cases h
    refine fnP_res hm c2_ok (hs := h0) ?_
    rw [idxP_t]
    exact ⟨rfl, rfl⟩
  · cases h
theorem okIdxR : Ok Tryz.prog 10 orcDay := by
  intro args H ret H' h
  unfold orcDay at h
  split at h
  · cases h
    refine fnP_res hm cr2_ok (hs := h0) ?_
    rw [idxR_t]
    exact ⟨rfl, rfl⟩
  · cases h
theorem flP_t (a : Int) (b : Int) (K : Value → Heap → Prop) :
    (fnP Tryz.prog c0 h4 (106 : FuncId) [Value.int IntKind.i64 a, Value.int IntKind.i64 b] [] K) =
    (Is (b ≠ (0 : Int)) ∧ br (decide (a < IntKind.wrap IntKind.i64 (IntKind.wrap IntKind.i64 (Int.tdiv a b) * b))) (K (Value.int IntKind.i64 (IntKind.wrap IntKind.i64 (IntKind.wrap IntKind.i64 (Int.tdiv a b) - (1 : Int)))) noH) (K (Value.int IntKind.i64 (IntKind.wrap IntKind.i64 (Int.tdiv a b))) noH)) := by kernel_rfl
theorem flR_t (a : Int) (b : Int) (K : Value → Heap → Prop) :
    (fnP Tryz.prog c0 h4 (154 : FuncId) [Value.int IntKind.i64 a, Value.int IntKind.i64 b] [] K) =
    (Is (b ≠ (0 : Int)) ∧ br (decide (a < IntKind.wrap IntKind.i64 (IntKind.wrap IntKind.i64 (Int.tdiv a b) * b))) (K (Value.int IntKind.i64 (IntKind.wrap IntKind.i64 (IntKind.wrap IntKind.i64 (Int.tdiv a b) - (1 : Int)))) noH) (K (Value.int IntKind.i64 (IntKind.wrap IntKind.i64 (Int.tdiv a b))) noH)) := by kernel_rfl
theorem floor_law {a b : Int} (h0 : 0 < b) (h1 : b ≤ 4000000000000000000) (h2 : -4000000000000000000 ≤ a) (h3 : a ≤ 4000000000000000000) :
    W (a.tdiv b) = a.tdiv b ∧ W (a.tdiv b * b) = a.tdiv b * b ∧ W (a.tdiv b - 1) = a.tdiv b - 1 ∧ (a < a.tdiv b * b → a.tdiv b - 1 = a / b) ∧ (¬ a < a.tdiv b * b → a.tdiv b = a / b) := by
  have hq : (a.tdiv b).natAbs ≤ a.natAbs := Int.natAbs_tdiv_le_natAbs a b
  have e := Int.tdiv_eq_ediv (a := a) (b := b)
  have s : b.sign = 1 := Int.sign_eq_one_of_pos h0
  have m := Int.emod_add_mul_ediv a b
  have m0 := Int.emod_nonneg a (show b ≠ 0 by omega)
  have m1 := Int.emod_lt_of_pos a h0
  have c : b * (a / b) = (a / b) * b := Int.mul_comm ..
  rw [s] at e
  have hb : a.tdiv b * b = (a / b) * b ∨ a.tdiv b * b = (a / b) * b + b := by
    split at e
    · left; rw [e, Int.add_zero]
    · right; rw [e, Int.add_mul, Int.one_mul]
  refine ⟨wrap_eq (by omega) (by omega), wrap_eq (by omega) (by omega), wrap_eq (by omega) (by omega), fun h => ?_, fun h => ?_⟩
  · split at e
    · rw [e, Int.add_zero] at h; omega
    · omega
  · split at e
    · omega
    · rw [e, Int.add_mul, Int.one_mul] at h; omega
noncomputable def orcFl : OrcV
  | [.int .i64 a, .int .i64 b], [] => some (.int .i64 (a / b), [], 0 < b ∧ b ≤ 4000000000000000000 ∧ -4000000000000000000 ≤ a ∧ a ≤ 4000000000000000000)
  | _, _ => none
theorem okFlP : OkV Tryz.prog 106 orcFl := by
  intro args H ret H' vc h hv
  unfold orcFl at h
  split at h
  · cases h
    obtain ⟨v1, v2, v3, v4⟩ := hv
    refine fnP_res hm c0_ok (hs := h4) ?_
    rw [flP_t]
    obtain ⟨q1, q2, q3, q4, q5⟩ := floor_law v1 v2 v3 v4
    simp only [W] at q1 q2 q3
    rw [q1, q2, q3]
    exact ⟨⟨by omega⟩, br_of (fun h => ⟨by rw [q4 (of_decide_eq_true h)], rfl⟩) (fun h => ⟨by rw [q5 (of_decide_eq_false h)], rfl⟩)⟩
  · cases h
theorem okFlR : OkV Tryz.prog 154 orcFl := by
  intro args H ret H' vc h hv
  unfold orcFl at h
  split at h
  · cases h
    obtain ⟨v1, v2, v3, v4⟩ := hv
    refine fnP_res hm c0_ok (hs := h4) ?_
    rw [flR_t]
    obtain ⟨q1, q2, q3, q4, q5⟩ := floor_law v1 v2 v3 v4
    simp only [W] at q1 q2 q3
    rw [q1, q2, q3]
    exact ⟨⟨by omega⟩, br_of (fun h => ⟨by rw [q4 (of_decide_eq_true h)], rfl⟩) (fun h => ⟨by rw [q5 (of_decide_eq_false h)], rfl⟩)⟩
  · cases h
end
end Qq
end
section
/- The program's lines of periods. -/
open Go Go.Vm Go.Proofs Sp
namespace Sp
noncomputable section
noncomputable def lz (m : Nat) (x : Int) : Int := if m < 2 then 0 else x
end
end Sp
namespace Qq
noncomputable section
/-- A valid section, and one of its periods. -/
noncomputable def isPer (zs : List Int) (ks : List (Int × ByteArray)) (n k : Nat) (p : Int) (e1 e2 : List Value) : Prop :=
  isSec zs ks n k e1 e2 ∧ mchk zs (-1) = 0 ∧ achk ks (-1) = 0 ∧ n ≤ 32 ∧ 0 ≤ p ∧ p ≤ k
noncomputable def pf (zs : List Int) (ks : List (Int × ByteArray)) (p : Int) : Nat := frm zs ks p.toNat
noncomputable def pm (zs : List Int) (ks : List (Int × ByteArray)) (n k : Nat) (p : Int) : Nat := upto zs ks n k p.toNat - frm zs ks p.toNat
noncomputable def orcPdV (zs : List Int) (ks : List (Int × ByteArray)) : OrcV
  | [.agg ⟨[.string _nm, .slice (some ⟨0, 0, none⟩) n _c, .slice (some ⟨1, 0, none⟩) k _d]⟩, .int .i64 p], [some (.row e1 2 true true true), some (.row e2 2 true true true)] => some (.slice (some ⟨0, pf zs ks p * 2, none⟩) (pm zs ks n k p) big, [some (.row e1 2 true true true), some (.row e2 2 true true true)], isPer zs ks n k p e1 e2)
  | _, _ => none
theorem pd_okV (zs : List Int) (ks : List (Int × ByteArray)) : OkV Tryz.prog 73 (orcPdV zs ks) := by
  intro args H ret H' vc h hv
  unfold orcPdV at h
  split at h
  · cases h
    obtain ⟨⟨rfl, rfl, h1, h2, h3, h4⟩, h5, h6, h7, h8, h9⟩ := hv
    exact pd_ok h1 h2 h3 h4 h5 h6 h8 h9
  · cases h
noncomputable def orcInV (zs : List Int) (ks : List (Int × ByteArray)) : OrcV
  | [.agg ⟨[.string _nm, .slice (some ⟨0, 0, none⟩) n _c, .slice (some ⟨1, 0, none⟩) k _d]⟩, .int .i64 p], [some (.row e1 2 false false true), some (.row e2 2 false false true)] => some (.slice (some ⟨2, 0, none⟩) (pm zs ks n k p) 0, [some (.row e1 2 false false true), some (.row e2 2 false false true), lst2 ((zs.drop (pf zs ks p * 2)).take (pm zs ks n k p * 2))], isPer zs ks n k p e1 e2)
  | _, _ => none
theorem in_okV (zs : List Int) (ks : List (Int × ByteArray)) : OkV Tryz.prog 131 (orcInV zs ks) := by
  intro args H ret H' vc h hv
  unfold orcInV at h
  split at h
  · cases h
    obtain ⟨⟨rfl, rfl, h1, h2, h3, h4⟩, h5, h6, h7, h8, h9⟩ := hv
    exact in_ok h1 h2 h3 h4 h6 h8 h9
  · cases h
noncomputable def orcFtV (zs : List Int) : OrcV
  | [.slice (some ⟨0, off, none⟩) m _c], [some (.row e1 2 m1 w1 true)] => some (.agg #[.int .i64 (zs.getD off 0), .int .i64 (lvl zs off m), .int .i64 (slp zs off m), .int .i64 (dn zs off m)], [some (.row e1 2 m1 w1 true)], e1 = ints zs ∧ Part zs off m ∧ 0 < m)
  | _, _ => none
theorem ft_okV (zs : List Int) : OkV Tryz.prog 105 (orcFtV zs) := by
  intro args H ret H' vc h hv
  unfold orcFtV at h
  split at h
  · cases h
    obtain ⟨rfl, h1, h2⟩ := hv
    exact ft_ok h1 h2
  · cases h
noncomputable def hsLn (zs : List Int) (ks : List (Int × ByteArray)) : Hs Tryz.prog where
  au := auCalls [(73, hCa Tryz.prog 73 (orcPdV zs ks) (pd_okV zs ks)), (105, hCa Tryz.prog 105 (orcFtV zs) (ft_okV zs))]
theorem ln_t (nm : ByteArray) (zs : List Int) (ks : List (Int × ByteArray)) (n : Nat) (c : Nat) (k : Nat) (d : Nat) (p : Int) (K : Value → Heap → Prop) :
    (fnP Tryz.prog c2 (hsLn zs ks) (62 : FuncId) [Value.agg (List.toArray (secA nm (0 : Nat) n c (1 : Nat) k d)), Value.int IntKind.i64 p] (hp2 zs ks true true true true []) K) =
    (Is (isPer zs ks n k p (ints zs) (acs ks)) ∧ br (decide ((↑(pm zs ks n k p) : Int) < (2 : Int))) (K (Value.tuple #[Value.agg #[Value.int IntKind.i64 (0 : Int), Value.int IntKind.i64 (0 : Int), Value.int IntKind.i64 (0 : Int), Value.int IntKind.i64 (0 : Int)], Value.int IntKind.i64 (16 : Int)]) (some (AObj.row (ints zs) (2 : Nat) true true true) :: some (AObj.row (acs ks) (2 : Nat) true true true) :: noH)) (Is (ints zs = ints zs ∧ Part zs (pf zs ks p * (2 : Nat)) (pm zs ks n k p) ∧ (0 : Nat) < pm zs ks n k p) ∧ K (Value.tuple #[Value.agg #[Value.int IntKind.i64 (List.getD zs (pf zs ks p * (2 : Nat)) (0 : Int)), Value.int IntKind.i64 (lvl zs (pf zs ks p * (2 : Nat)) (pm zs ks n k p)), Value.int IntKind.i64 (slp zs (pf zs ks p * (2 : Nat)) (pm zs ks n k p)), Value.int IntKind.i64 (dn zs (pf zs ks p * (2 : Nat)) (pm zs ks n k p))], Value.int IntKind.i64 (0 : Int)]) (some (AObj.row (ints zs) (2 : Nat) true true true) :: some (AObj.row (acs ks) (2 : Nat) true true true) :: noH))) := by kernel_rfl
theorem per_part {zs : List Int} {ks : List (Int × ByteArray)} {n k : Nat} {p : Int} {e1 e2 : List Value} (h : isPer zs ks n k p e1 e2) : Part zs (pf zs ks p * 2) (pm zs ks n k p) ∧ (2 ≤ pm zs ks n k p → 0 < dn zs (pf zs ks p * 2) (pm zs ks n k p)) := by
  obtain ⟨⟨_, _, h1, h2, _, _⟩, h5, h6, h7, h8, h9⟩ := h
  obtain ⟨u1, u2⟩ := upto_le (n := n) (i := p.toNat) h1 h2 h6 (by omega)
  exact ⟨part_of h1 h7 h5 (by simp only [pf, pm]; omega), fun h => dn_pos h1 h5 (by simp only [pf, pm]; omega) h⟩
theorem ln_ok {nm : ByteArray} {zs : List Int} {ks : List (Int × ByteArray)} {n c k d : Nat} {p : Int} (hi : isPer zs ks n k p (ints zs) (acs ks)) :
    SmallRes Tryz.prog 62 [.agg (secA nm 0 n c 1 k d).toArray, .int .i64 p] (hp2 zs ks true true true true [])
      (.tuple #[.agg #[.int .i64 (lz (pm zs ks n k p) (zs.getD (pf zs ks p * 2) 0)), .int .i64 (lz (pm zs ks n k p) (lvl zs (pf zs ks p * 2) (pm zs ks n k p))), .int .i64 (lz (pm zs ks n k p) (slp zs (pf zs ks p * 2) (pm zs ks n k p))), .int .i64 (lz (pm zs ks n k p) (dn zs (pf zs ks p * 2) (pm zs ks n k p)))], .int .i64 (wh (decide (pm zs ks n k p < 2)) 16)])
      (hp2 zs ks true true true true []) := by
  refine fnP_res hm c2_ok (hs := hsLn zs ks) ?_
  rw [ln_t]
  obtain ⟨hp, _⟩ := per_part hi
  refine ⟨⟨hi⟩, br_of (fun h => ?_) (fun h => ?_)⟩
  · have h : pm zs ks n k p < 2 := by have := of_decide_eq_true h; omega
    simp only [lz, if_pos h, decide_eq_true h]
    exact ⟨by first | trivial | rfl, by first | trivial | rfl⟩
  · have h : ¬ pm zs ks n k p < 2 := by have := of_decide_eq_false h; omega
    simp only [lz, if_neg h, decide_eq_false h]
    exact ⟨⟨by first | trivial | rfl, hp, by omega⟩, by first | trivial | rfl, by first | trivial | rfl⟩
end
end Qq
end
section
/- The program's answers about lines. -/
open Go Go.Vm Go.Proofs Sp
namespace Qq
noncomputable section
noncomputable def orcLnV (zs : List Int) (ks : List (Int × ByteArray)) : OrcV
  | [.agg ⟨[.string _nm, .slice (some ⟨0, 0, none⟩) n _c, .slice (some ⟨1, 0, none⟩) k _d]⟩, .int .i64 p], [some (.row e1 2 true true true), some (.row e2 2 true true true)] =>
    some (.tuple #[.agg #[.int .i64 (lz (pm zs ks n k p) (zs.getD (pf zs ks p * 2) 0)), .int .i64 (lz (pm zs ks n k p) (lvl zs (pf zs ks p * 2) (pm zs ks n k p))), .int .i64 (lz (pm zs ks n k p) (slp zs (pf zs ks p * 2) (pm zs ks n k p))), .int .i64 (lz (pm zs ks n k p) (dn zs (pf zs ks p * 2) (pm zs ks n k p)))], .int .i64 (wh (decide (pm zs ks n k p < 2)) 16)],
      [some (.row e1 2 true true true), some (.row e2 2 true true true)], isPer zs ks n k p e1 e2)
  | _, _ => none
theorem ln_okV (zs : List Int) (ks : List (Int × ByteArray)) : OkV Tryz.prog 62 (orcLnV zs ks) := by
  intro args H ret H' vc h hv
  unfold orcLnV at h
  split at h
  · cases h
    obtain ⟨⟨rfl, rfl, h1⟩, h2⟩ := hv
    exact ln_ok ⟨⟨rfl, rfl, h1⟩, h2⟩
  · cases h
end
end Qq
namespace Sp
noncomputable section
noncomputable def gz (e x : Int) : Int := if e = 0 then x else 0
end
end Sp
namespace Qq
noncomputable section
noncomputable def pL (zs : List Int) (ks : List (Int × ByteArray)) (n k : Nat) (p : Int) : Int := lvl zs (pf zs ks p * 2) (pm zs ks n k p)
noncomputable def pS (zs : List Int) (ks : List (Int × ByteArray)) (n k : Nat) (p : Int) : Int := slp zs (pf zs ks p * 2) (pm zs ks n k p)
noncomputable def pD (zs : List Int) (ks : List (Int × ByteArray)) (n k : Nat) (p : Int) : Int := dn zs (pf zs ks p * 2) (pm zs ks n k p)
theorem few_iff {m : Nat} : (wh (decide (m < 2)) 16 != 0) = decide (m < 2) := by
  cases decide (m < 2) <;> rfl
end
end Qq
end
section
/- When a line reaches a limit. -/
open Go Go.Vm Go.Proofs Sp
namespace Qq
noncomputable section
noncomputable def hsRc : Hs Tryz.prog where
  au := auCalls [(106, hCa Tryz.prog 106 orcFl okFlP)]
theorem rc_t (a : Int) (b : Int) (c : Int) (d : Int) (l : Int) (f : Int) (K : Value → Heap → Prop) :
    (fnP Tryz.prog c0 hsRc (74 : FuncId) [Value.agg #[Value.int IntKind.i64 a, Value.int IntKind.i64 b, Value.int IntKind.i64 c, Value.int IntKind.i64 d], Value.int IntKind.i64 l, Value.int IntKind.i64 f] [] K) =
    (br (decide (IntKind.wrap IntKind.i64 (IntKind.wrap IntKind.i64 (l * d) - IntKind.wrap IntKind.i64 (b + IntKind.wrap IntKind.i64 (c * IntKind.wrap IntKind.i64 (f - a)))) ≤ (0 : Int))) (K (Value.tuple #[Value.int IntKind.i64 f, Value.bool true]) noH) (br (decide (c ≤ (0 : Int))) (K (Value.tuple #[Value.int IntKind.i64 (0 : Int), Value.bool false]) noH) (Is ((0 : Int) < c ∧ c ≤ (4000000000000000000 : Int) ∧ (-4000000000000000000 : Int) ≤ IntKind.wrap IntKind.i64 ((0 : Int) - IntKind.wrap IntKind.i64 (IntKind.wrap IntKind.i64 (l * d) - IntKind.wrap IntKind.i64 (b + IntKind.wrap IntKind.i64 (c * IntKind.wrap IntKind.i64 (f - a))))) ∧ IntKind.wrap IntKind.i64 ((0 : Int) - IntKind.wrap IntKind.i64 (IntKind.wrap IntKind.i64 (l * d) - IntKind.wrap IntKind.i64 (b + IntKind.wrap IntKind.i64 (c * IntKind.wrap IntKind.i64 (f - a))))) ≤ (4000000000000000000 : Int)) ∧ K (Value.tuple #[Value.int IntKind.i64 (IntKind.wrap IntKind.i64 (f - IntKind.wrap IntKind.i64 ((0 : Int) - IntKind.wrap IntKind.i64 (IntKind.wrap IntKind.i64 (l * d) - IntKind.wrap IntKind.i64 (b + IntKind.wrap IntKind.i64 (c * IntKind.wrap IntKind.i64 (f - a))))) / c)), Value.bool (decide (IntKind.wrap IntKind.i64 (f - IntKind.wrap IntKind.i64 ((0 : Int) - IntKind.wrap IntKind.i64 (IntKind.wrap IntKind.i64 (l * d) - IntKind.wrap IntKind.i64 (b + IntKind.wrap IntKind.i64 (c * IntKind.wrap IntKind.i64 (f - a))))) / c) ≤ (100000 : Int)))]) noH))) := by kernel_rfl
noncomputable def hsLa (zs : List Int) : Hs Tryz.prog where
  op y := if [104].contains y then some (hIa Tryz.prog) else if [106].contains y then some (hLd Tryz.prog (zI zs)) else none
  au := au0 Tryz.prog
theorem la_t (zs : List Int) (off : Nat) (m : Nat) (c : Nat) (m1 : Bool) (w1 : Bool) (K : Value → Heap → Prop) :
    (fnP Tryz.prog c0 (hsLa zs) (72 : FuncId) [Value.slice (some { block := (0 : Nat), off := off }) m c] [some (AObj.row (ints zs) (2 : Nat) m1 w1 true)] K) =
    (Is ((0 : Int) ≤ IntKind.wrap IntKind.i64 ((↑m : Int) - (1 : Int)) ∧ IntKind.wrap IntKind.i64 ((↑m : Int) - (1 : Int)) < (↑m : Int)) ∧ Is ((ints zs)[off + Int.toNat (IntKind.wrap IntKind.i64 ((↑m : Int) - (1 : Int))) * (2 : Nat) + (0 : Nat)]? = some (Value.int IntKind.i64 (List.getD zs (off + Int.toNat (IntKind.wrap IntKind.i64 ((↑m : Int) - (1 : Int))) * (2 : Nat) + (0 : Nat)) (0 : Int)))) ∧ K (Value.int IntKind.i64 (List.getD zs (off + Int.toNat (IntKind.wrap IntKind.i64 ((↑m : Int) - (1 : Int))) * (2 : Nat) + (0 : Nat)) (0 : Int))) (some (AObj.row (ints zs) (2 : Nat) m1 w1 true) :: noH)) := by kernel_rfl
theorem laR_t (zs : List Int) (off : Nat) (m : Nat) (c : Nat) (m1 : Bool) (w1 : Bool) (K : Value → Heap → Prop) :
    (fnP Tryz.prog c0 (hsLa zs) (133 : FuncId) [Value.slice (some { block := (0 : Nat), off := off }) m c] [some (AObj.row (ints zs) (2 : Nat) m1 w1 true)] K) =
    (Is ((0 : Int) ≤ IntKind.wrap IntKind.i64 ((↑m : Int) - (1 : Int)) ∧ IntKind.wrap IntKind.i64 ((↑m : Int) - (1 : Int)) < (↑m : Int)) ∧ Is ((ints zs)[off + Int.toNat (IntKind.wrap IntKind.i64 ((↑m : Int) - (1 : Int))) * (2 : Nat) + (0 : Nat)]? = some (Value.int IntKind.i64 (List.getD zs (off + Int.toNat (IntKind.wrap IntKind.i64 ((↑m : Int) - (1 : Int))) * (2 : Nat) + (0 : Nat)) (0 : Int)))) ∧ K (Value.int IntKind.i64 (List.getD zs (off + Int.toNat (IntKind.wrap IntKind.i64 ((↑m : Int) - (1 : Int))) * (2 : Nat) + (0 : Nat)) (0 : Int))) (some (AObj.row (ints zs) (2 : Nat) m1 w1 true) :: noH)) := by kernel_rfl
noncomputable def orcLaV (zs : List Int) : OrcV
  | [.slice (some ⟨0, off, none⟩) m _c], [some (.row e1 2 m1 w1 true)] => some (.int .i64 (zs.getD (off + (m - 1) * 2) 0), [some (.row e1 2 m1 w1 true)], e1 = ints zs ∧ 0 < m ∧ m ≤ 1000 ∧ off + m * 2 ≤ zs.length)
  | _, _ => none
theorem la_okV (zs : List Int) : OkV Tryz.prog 72 (orcLaV zs) := by
  intro args H ret H' vc h hv
  unfold orcLaV at h
  split at h
  · rename_i off m c e1 m1 w1
    cases h
    obtain ⟨rfl, h1, h2, h3⟩ := hv
    refine fnP_res hm c0_ok (hs := hsLa zs) ?_
    rw [la_t]
    have e : IntKind.wrap .i64 ((m : Int) - 1) = ((m - 1 : Nat) : Int) := by rw [wrap_eq (by omega) (by omega)]; omega
    rw [e]
    simp only [Nat.add_zero, Int.toNat_natCast]
    exact ⟨⟨by omega, by omega⟩, ⟨ints_at (by omega)⟩, by first | trivial | rfl, by first | trivial | rfl⟩
  · cases h
theorem laR_okV (zs : List Int) : OkV Tryz.prog 133 (orcLaV zs) := by
  intro args H ret H' vc h hv
  unfold orcLaV at h
  split at h
  · rename_i off m c e1 m1 w1
    cases h
    obtain ⟨rfl, h1, h2, h3⟩ := hv
    refine fnP_res hm c0_ok (hs := hsLa zs) ?_
    rw [laR_t]
    have e : IntKind.wrap .i64 ((m : Int) - 1) = ((m - 1 : Nat) : Int) := by rw [wrap_eq (by omega) (by omega)]; omega
    rw [e]
    simp only [Nat.add_zero, Int.toNat_natCast]
    exact ⟨⟨by omega, by omega⟩, ⟨ints_at (by omega)⟩, by first | trivial | rfl, by first | trivial | rfl⟩
  · cases h
end
end Qq
end
section
/- When a line reaches a limit: the contract. -/
open Go Go.Vm Go.Proofs Sp
namespace Sp
noncomputable section
noncomputable def rcS (a b c d l f : Int) : Int := l * d - (b + c * (f - a))
noncomputable def rcN (a b c d l f : Int) : Int := if rcS a b c d l f ≤ 0 then f else if c ≤ 0 then 0 else f - (-rcS a b c d l f) / c
noncomputable def rcB (a b c d l f : Int) : Bool := decide (rcS a b c d l f ≤ 0) || (!decide (c ≤ 0) && decide (f - (-rcS a b c d l f) / c ≤ 100000))
structure RcOK (a b c d l f : Int) : Prop where
  a0 : 0 ≤ a
  a1 : a ≤ 100000
  f0 : 0 ≤ f
  f1 : f ≤ 100000
  b0 : -1024000000000000000 ≤ b
  b1 : b ≤ 1024000000000000000
  p0 : -1024000000000000000 ≤ c * (f - a)
  p1 : c * (f - a) ≤ 1024000000000000000
  c1 : c ≤ 10240000000000
  q0 : 0 ≤ l * d
  q1 : l * d ≤ 1024000000000000000
end
end Sp
namespace Qq
noncomputable section
noncomputable def orcRc : OrcV
  | [.agg ⟨[.int .i64 a, .int .i64 b, .int .i64 c, .int .i64 d]⟩, .int .i64 l, .int .i64 f], [] => some (.tuple #[.int .i64 (rcN a b c d l f), .bool (rcB a b c d l f)], [], RcOK a b c d l f)
  | _, _ => none
theorem okRc : OkV Tryz.prog 74 orcRc := by
  intro args H ret H' vc h hv
  unfold orcRc at h
  split at h
  · rename_i a b c d l f
    cases h
    obtain ⟨a0, a1, f0, f1, b0, b1, p0, p1, c1, q0, q1⟩ := hv
    refine fnP_res hm c0_ok (hs := hsRc) ?_
    rw [rc_t]
    have e1 : IntKind.wrap .i64 (f - a) = f - a := wrap_eq (by omega) (by omega)
    have e2 : IntKind.wrap .i64 (c * (f - a)) = c * (f - a) := wrap_eq (by omega) (by omega)
    have e3 : IntKind.wrap .i64 (b + c * (f - a)) = b + c * (f - a) := wrap_eq (by omega) (by omega)
    have e4 : IntKind.wrap .i64 (l * d) = l * d := wrap_eq (by omega) (by omega)
    have e5 : IntKind.wrap .i64 (l * d - (b + c * (f - a))) = rcS a b c d l f := wrap_eq (by omega) (by omega)
    have hs : rcS a b c d l f = l * d - (b + c * (f - a)) := rfl
    have e6 : IntKind.wrap .i64 (0 - rcS a b c d l f) = - rcS a b c d l f := by rw [wrap_eq (by omega) (by omega)]; omega
    rw [e1, e2, e3, e4, e5, e6]
    refine br_of (fun h => ?_) (fun h => br_of (fun h2 => ?_) (fun h2 => ?_))
    · have hh := of_decide_eq_true h
      rw [rcN, rcB, if_pos hh, h]
      exact ⟨rfl, rfl⟩
    · have hh := of_decide_eq_false h
      have hh2 := of_decide_eq_true h2
      rw [rcN, rcB, if_neg hh, if_pos hh2, h, h2]
      exact ⟨rfl, rfl⟩
    · have hh := of_decide_eq_false h
      have hh2 := of_decide_eq_false h2
      have k1 : (-rcS a b c d l f) / c ≤ 0 := Int.ediv_nonpos_of_nonpos_of_neg (by omega) (by omega)
      have k2 : -rcS a b c d l f ≤ (-rcS a b c d l f) / c := by
        refine Int.le_ediv_of_mul_le (by omega) ?_
        have := Int.mul_le_mul_of_nonneg_left (show 1 ≤ c by omega) (show 0 ≤ rcS a b c d l f by omega)
        rw [Int.neg_mul]; omega
      have e7 : IntKind.wrap .i64 (f - (-rcS a b c d l f) / c) = f - (-rcS a b c d l f) / c := wrap_eq (by omega) (by omega)
      rw [e7, rcN, rcB, if_neg hh, if_neg hh2, h, h2]
      exact ⟨⟨by omega, by omega, by omega, by omega⟩, rfl, rfl⟩
  · cases h
end
end Qq
end
section
/- The program's Reached. -/
open Go Go.Vm Go.Proofs Sp
namespace Qq
noncomputable section
noncomputable def hsRd (zs : List Int) (ks : List (Int × ByteArray)) : Hs Tryz.prog where
  au := auCalls [(62, hCa Tryz.prog 62 (orcLnV zs ks) (ln_okV zs ks)), (73, hCa Tryz.prog 73 (orcPdV zs ks) (pd_okV zs ks)), (72, hCa Tryz.prog 72 (orcLaV zs) (la_okV zs)), (74, hCa Tryz.prog 74 orcRc okRc)]
theorem rd_t (nm : ByteArray) (zs : List Int) (ks : List (Int × ByteArray)) (n : Nat) (c : Nat) (k : Nat) (d : Nat) (p : Int) (l : Int) (K : Value → Heap → Prop) :
    (fnP Tryz.prog c2 (hsRd zs ks) (39 : FuncId) [Value.agg (List.toArray (secA nm (0 : Nat) n c (1 : Nat) k d)), Value.int IntKind.i64 p, Value.int IntKind.i64 l] (hp2 zs ks true true true true []) K) =
    (Is (isPer zs ks n k p (ints zs) (acs ks)) ∧ br (wh (decide (pm zs ks n k p < (2 : Nat))) (16 : Int) != (0 : Int)) (K (Value.tuple #[Value.int IntKind.i64 (0 : Int), Value.int IntKind.i64 (wh (decide (pm zs ks n k p < (2 : Nat))) (16 : Int))]) (some (AObj.row (ints zs) (2 : Nat) true true true) :: some (AObj.row (acs ks) (2 : Nat) true true true) :: noH)) (Is (isPer zs ks n k p (ints zs) (acs ks)) ∧ Is (ints zs = ints zs ∧ (0 : Nat) < pm zs ks n k p ∧ pm zs ks n k p ≤ (1000 : Nat) ∧ pf zs ks p * (2 : Nat) + pm zs ks n k p * (2 : Nat) ≤ List.length zs) ∧ Is (RcOK (lz (pm zs ks n k p) (List.getD zs (pf zs ks p * (2 : Nat)) (0 : Int))) (lz (pm zs ks n k p) (lvl zs (pf zs ks p * (2 : Nat)) (pm zs ks n k p))) (lz (pm zs ks n k p) (slp zs (pf zs ks p * (2 : Nat)) (pm zs ks n k p))) (lz (pm zs ks n k p) (dn zs (pf zs ks p * (2 : Nat)) (pm zs ks n k p))) l (List.getD zs (pf zs ks p * (2 : Nat) + (pm zs ks n k p - (1 : Nat)) * (2 : Nat)) (0 : Int))) ∧ br (!rcB (lz (pm zs ks n k p) (List.getD zs (pf zs ks p * (2 : Nat)) (0 : Int))) (lz (pm zs ks n k p) (lvl zs (pf zs ks p * (2 : Nat)) (pm zs ks n k p))) (lz (pm zs ks n k p) (slp zs (pf zs ks p * (2 : Nat)) (pm zs ks n k p))) (lz (pm zs ks n k p) (dn zs (pf zs ks p * (2 : Nat)) (pm zs ks n k p))) l (List.getD zs (pf zs ks p * (2 : Nat) + (pm zs ks n k p - (1 : Nat)) * (2 : Nat)) (0 : Int))) (K (Value.tuple #[Value.int IntKind.i64 (0 : Int), Value.int IntKind.i64 (7 : Int)]) (some (AObj.row (ints zs) (2 : Nat) true true true) :: some (AObj.row (acs ks) (2 : Nat) true true true) :: noH)) (K (Value.tuple #[Value.int IntKind.i64 (rcN (lz (pm zs ks n k p) (List.getD zs (pf zs ks p * (2 : Nat)) (0 : Int))) (lz (pm zs ks n k p) (lvl zs (pf zs ks p * (2 : Nat)) (pm zs ks n k p))) (lz (pm zs ks n k p) (slp zs (pf zs ks p * (2 : Nat)) (pm zs ks n k p))) (lz (pm zs ks n k p) (dn zs (pf zs ks p * (2 : Nat)) (pm zs ks n k p))) l (List.getD zs (pf zs ks p * (2 : Nat) + (pm zs ks n k p - (1 : Nat)) * (2 : Nat)) (0 : Int))), Value.int IntKind.i64 (0 : Int)]) (some (AObj.row (ints zs) (2 : Nat) true true true) :: some (AObj.row (acs ks) (2 : Nat) true true true) :: noH)))) := by kernel_rfl
noncomputable def pZ (zs : List Int) (ks : List (Int × ByteArray)) (n k : Nat) (p : Int) : Int := zs.getD (pf zs ks p * 2 + (pm zs ks n k p - 1) * 2) 0
noncomputable def p0D (zs : List Int) (ks : List (Int × ByteArray)) (p : Int) : Int := zs.getD (pf zs ks p * 2) 0
noncomputable def rdN (zs : List Int) (ks : List (Int × ByteArray)) (n k : Nat) (p l : Int) : Int := rcN (p0D zs ks p) (pL zs ks n k p) (pS zs ks n k p) (pD zs ks n k p) l (pZ zs ks n k p)
noncomputable def rdB (zs : List Int) (ks : List (Int × ByteArray)) (n k : Nat) (p l : Int) : Bool := rcB (p0D zs ks p) (pL zs ks n k p) (pS zs ks n k p) (pD zs ks n k p) l (pZ zs ks n k p)
noncomputable def rdE (zs : List Int) (ks : List (Int × ByteArray)) (n k : Nat) (p l : Int) : Int := sel (wh (decide (pm zs ks n k p < 2)) 16) (wh (!rdB zs ks n k p l) 7)
theorem rc_in {zs : List Int} {ks : List (Int × ByteArray)} {n k : Nat} {p l : Int} {e1 e2 : List Value} (h : isPer zs ks n k p e1 e2) (hm : 2 ≤ pm zs ks n k p) (l0 : 0 ≤ l) (l1 : l ≤ 100000) :
    RcOK (p0D zs ks p) (pL zs ks n k p) (pS zs ks n k p) (pD zs ks n k p) l (pZ zs ks n k p) := by
  obtain ⟨h1, h2⟩ := per_part h
  have h2 := h2 hm
  obtain ⟨⟨b0, b1⟩, ⟨s1, s2⟩, ⟨d1, d2⟩, _⟩ := h1.line
  have z0 := h1.z0
  have y0 := (h1.day 0 (by omega)).2
  have y1 := h1.day (pm zs ks n k p - 1) (by omega)
  have e0 : d0 zs (pf zs ks p * 2) = p0D zs ks p := rfl
  rw [e0] at z0 y1
  rw [Nat.zero_mul, Nat.add_zero] at y0
  have y0 : p0D zs ks p ≤ 100000 := y0
  have y1 : p0D zs ks p ≤ pZ zs ks n k p ∧ pZ zs ks n k p ≤ 100000 := y1
  have s1 : -10240000000000 ≤ pS zs ks n k p := s1
  have s2 : pS zs ks n k p ≤ 10240000000000 := s2
  have hd : 0 < pD zs ks n k p := h2
  have d2 : pD zs ks n k p ≤ 10240000000000 := d2
  have b : -1024000000000000000 ≤ pS zs ks n k p * (pZ zs ks n k p - p0D zs ks p) ∧ pS zs ks n k p * (pZ zs ks n k p - p0D zs ks p) ≤ 1024000000000000000 := by
    have := mul_in (a := (pS zs ks n k p).natAbs) (b := (pZ zs ks n k p - p0D zs ks p).natAbs) (A := 10240000000000) (B := 100000) (by omega) (by omega) (by omega) (by omega)
    rw [← Int.natCast_mul, ← Int.natAbs_mul] at this
    omega
  have q := mul_in l0 l1 (show 0 ≤ pD zs ks n k p by omega) d2
  exact ⟨by omega, by omega, by omega, by omega, b0, b1, b.1, b.2, s2, q.1, by omega⟩
theorem rd_ok {nm : ByteArray} {zs : List Int} {ks : List (Int × ByteArray)} {n c k d : Nat} {p l : Int} (hp : isPer zs ks n k p (ints zs) (acs ks)) (l0 : 0 ≤ l) (l1 : l ≤ 100000) :
    SmallRes Tryz.prog 39 [.agg (secA nm 0 n c 1 k d).toArray, .int .i64 p, .int .i64 l] (hp2 zs ks true true true true [])
      (.tuple #[.int .i64 (gz (rdE zs ks n k p l) (rdN zs ks n k p l)), .int .i64 (rdE zs ks n k p l)]) (hp2 zs ks true true true true []) := by
  refine fnP_res hm c2_ok (hs := hsRd zs ks) ?_
  rw [rd_t]
  obtain ⟨h1, _⟩ := per_part hp
  rw [few_iff]
  refine ⟨⟨hp⟩, br_of (fun h => ?_) (fun h => ?_)⟩
  · have hw : wh (decide (pm zs ks n k p < 2)) 16 = 16 := by rw [h]; rfl
    rw [rdE, hw]
    exact ⟨by first | trivial | rfl, by first | trivial | rfl⟩
  · have hw : wh (decide (pm zs ks n k p < 2)) 16 = 0 := by rw [h]; rfl
    have hn : ¬ pm zs ks n k p < 2 := of_decide_eq_false h
    have hr := rc_in hp (by omega) l0 l1
    have hl := h1.len
    have hf := h1.few
    simp only [lz, if_neg hn]
    refine ⟨⟨hp⟩, ⟨by first | trivial | rfl, by omega, by omega, hl⟩, ⟨hr⟩, br_of (fun hb => ?_) (fun hb => ?_)⟩
    · have hb : (!rdB zs ks n k p l) = true := hb
      rw [rdE, hw, hb]
      exact ⟨by first | trivial | rfl, by first | trivial | rfl⟩
    · have hb : (!rdB zs ks n k p l) = false := hb
      rw [rdE, hw, hb]
      exact ⟨by first | trivial | rfl, by first | trivial | rfl⟩
end
end Qq
end
section
/- The day on which a section is due, as a number. -/
open Go Go.Vm Go.Proofs Sp
namespace Qq
noncomputable section
noncomputable def duN (zs : List Int) (ks : List (Int × ByteArray)) (n k : Nat) (x : Int) : Int := if rdE zs ks n k (k : Int) x = 0 then rdN zs ks n k (k : Int) x else 100001
/-- The i-th of a list. -/
noncomputable def dI (l : Ls) (x : Int) (i : Nat) : Int := duN (l.zs i) (l.ks i) (l.N i) (l.K i) x
end
end Qq
end
section
/- The program's Reached, with its checks. -/
open Go Go.Vm Go.Proofs Sp
namespace Qq
noncomputable section
noncomputable def orcRdV (zs : List Int) (ks : List (Int × ByteArray)) : OrcV
  | [.agg ⟨[.string _nm, .slice (some ⟨0, 0, none⟩) n _c, .slice (some ⟨1, 0, none⟩) k _d]⟩, .int .i64 p, .int .i64 l], [some (.row e1 2 true true true), some (.row e2 2 true true true)] =>
    some (.tuple #[.int .i64 (gz (rdE zs ks n k p l) (rdN zs ks n k p l)), .int .i64 (rdE zs ks n k p l)], [some (.row e1 2 true true true), some (.row e2 2 true true true)], isPer zs ks n k p e1 e2 ∧ 0 ≤ l ∧ l ≤ 100000)
  | _, _ => none
theorem rd_okV (zs : List Int) (ks : List (Int × ByteArray)) : OkV Tryz.prog 39 (orcRdV zs ks) := by
  intro args H ret H' vc h hv
  unfold orcRdV at h
  split at h
  · cases h
    obtain ⟨⟨⟨rfl, rfl, h1⟩, h2⟩, h3, h4⟩ := hv
    exact rd_ok ⟨⟨rfl, rfl, h1⟩, h2⟩ h3 h4
  · cases h
end
end Qq
end
section
/- The reference's answers about lines. -/
open Go Go.Vm Go.Proofs Sp
namespace Qq
noncomputable section
/-- The measurements of a period, by themselves. -/
noncomputable def pP (zs : List Int) (ks : List (Int × ByteArray)) (n k : Nat) (p : Int) : List Int := (zs.drop (pf zs ks p * 2)).take (pm zs ks n k p * 2)
noncomputable def orcInP (zs : List Int) (ks : List (Int × ByteArray)) : OrcV
  | [.agg ⟨[.string _nm, .slice (some ⟨0, 0, none⟩) n _c, .slice (some ⟨1, 0, none⟩) k _d]⟩, .int .i64 p], [some (.row e1 2 false false true), some (.row e2 2 false false true)] => some (.slice (some ⟨2, 0, none⟩) (pm zs ks n k p) 0, [some (.row e1 2 false false true), some (.row e2 2 false false true), lst2 (pP zs ks n k p)], isPer zs ks n k p e1 e2)
  | _, _ => none
theorem in_okP (zs : List Int) (ks : List (Int × ByteArray)) : OkV Tryz.prog 131 (orcInP zs ks) := in_okV zs ks
noncomputable def orcFrV (P : List Int) : OrcV
  | [.slice (some ⟨0, off, none⟩) m _c], [some (.row e1 2 m1 w1 true)] => some (.agg #[.int .i64 (lvl P off m), .int .i64 (slp P off m), .int .i64 (dn P off m)], [some (.row e1 2 m1 w1 true)], e1 = ints P ∧ Part P off m)
  | _, _ => none
theorem fr_okV (P : List Int) : OkV Tryz.prog 132 (orcFrV P) := by
  intro args H ret H' vc h hv
  unfold orcFrV at h
  split at h
  · cases h
    obtain ⟨rfl, h1⟩ := hv
    exact fr_ok h1
  · cases h
noncomputable def hsFl : Hs Tryz.prog where
  au := auCalls [(154, hCa Tryz.prog 154 orcFl okFlR)]
theorem ce_t (a : Int) (b : Int) (K : Value → Heap → Prop) :
    (fnP Tryz.prog c0 hsFl (134 : FuncId) [Value.int IntKind.i64 a, Value.int IntKind.i64 b] [] K) =
    (Is ((0 : Int) < b ∧ b ≤ (4000000000000000000 : Int) ∧ (-4000000000000000000 : Int) ≤ IntKind.wrap IntKind.i64 ((0 : Int) - a) ∧ IntKind.wrap IntKind.i64 ((0 : Int) - a) ≤ (4000000000000000000 : Int)) ∧ K (Value.int IntKind.i64 (IntKind.wrap IntKind.i64 ((0 : Int) - IntKind.wrap IntKind.i64 ((0 : Int) - a) / b))) noH) := by kernel_rfl
noncomputable def hsFew (zs : List Int) (ks : List (Int × ByteArray)) : Hs Tryz.prog where
  au := auCalls [(131, hCa Tryz.prog 131 (orcInP zs ks) (in_okP zs ks))]
theorem few_t (nm : ByteArray) (zs : List Int) (ks : List (Int × ByteArray)) (n : Nat) (c : Nat) (k : Nat) (d : Nat) (p : Int) (K : Value → Heap → Prop) :
    (fnP Tryz.prog cr2 (hsFew zs ks) (93 : FuncId) [Value.agg (List.toArray (secA nm (0 : Nat) n c (1 : Nat) k d)), Value.int IntKind.i64 p] (hp2 zs ks false false false false []) K) =
    (Is (isPer zs ks n k p (ints zs) (acs ks)) ∧ K (Value.int IntKind.i64 (wh (decide ((↑(pm zs ks n k p) : Int) < (2 : Int))) (16 : Int))) (some (AObj.row (ints zs) (2 : Nat) false false true) :: some (AObj.row (acs ks) (2 : Nat) false false true) :: noH)) := by kernel_rfl
theorem pP_len {zs : List Int} {off m : Nat} (h : Part zs off m) : ((zs.drop off).take (m * 2)).length = m * 2 := by
  have := h.len
  rw [List.length_take, List.length_drop]; omega
theorem pP_get {zs : List Int} {off m j : Nat} (hj : j < m * 2) : ((zs.drop off).take (m * 2)).getD j 0 = zs.getD (off + j) 0 := by
  simp only [List.getD_eq_getElem?_getD, List.getElem?_take, if_pos hj, List.getElem?_drop]
/-- The numbers of a part are those of its own list. -/
theorem part_own {zs : List Int} {off m : Nat} (h : Part zs off m) (hm : 0 < m) : Part ((zs.drop off).take (m * 2)) 0 m ∧ lvl ((zs.drop off).take (m * 2)) 0 m = lvl zs off m ∧ slp ((zs.drop off).take (m * 2)) 0 m = slp zs off m ∧ dn ((zs.drop off).take (m * 2)) 0 m = dn zs off m := by
  have e0 : d0 ((zs.drop off).take (m * 2)) 0 = d0 zs off := by rw [d0, pP_get (by omega)]; rfl
  have et : ((((zs.drop off).take (m * 2)).drop 0).take (m * 2)) = (zs.drop off).take (m * 2) := by rw [List.drop_zero, List.take_take, Nat.min_self]
  have x : sX ((zs.drop off).take (m * 2)) 0 m = sX zs off m := by simp only [sX, e0, et]
  have y : sY ((zs.drop off).take (m * 2)) 0 m = sY zs off m := by simp only [sY, et]
  have xx : sXX ((zs.drop off).take (m * 2)) 0 m = sXX zs off m := by simp only [sXX, e0, et]
  have xy : sXY ((zs.drop off).take (m * 2)) 0 m = sXY zs off m := by simp only [sXY, e0, et]
  refine ⟨⟨by rw [pP_len h]; omega, h.few, fun i hi => ?_, fun i hi => ?_, by rw [e0]; exact h.z0⟩, by simp only [lvl, x, y, xx, xy], by simp only [slp, x, y, xy], by simp only [dn, x, xx]⟩
  · rw [e0, Nat.zero_add, pP_get (by omega)]; exact h.day i hi
  · rw [Nat.zero_add, pP_get (by omega), ← Nat.add_assoc]; exact h.idx i hi
noncomputable def orcCe : OrcV
  | [.int .i64 a, .int .i64 b], [] => some (.int .i64 (-((-a) / b)), [], 0 < b ∧ b ≤ 4000000000000000000 ∧ -4000000000000000000 ≤ a ∧ a ≤ 4000000000000000000)
  | _, _ => none
theorem okCe : OkV Tryz.prog 134 orcCe := by
  intro args H ret H' vc h hv
  unfold orcCe at h
  split at h
  · rename_i a b
    cases h
    obtain ⟨v1, v2, v3, v4⟩ := hv
    refine fnP_res hm c0_ok (hs := hsFl) ?_
    rw [ce_t]
    have e1 : IntKind.wrap .i64 (0 - a) = -a := by rw [wrap_eq (by omega) (by omega)]; omega
    have k1 : -4000000000000000000 ≤ (-a) / b := by
      refine Int.le_ediv_of_mul_le (by omega) ?_
      have := Int.mul_le_mul_of_nonneg_left (show 1 ≤ b by omega) (show (0 : Int) ≤ 4000000000000000000 by omega)
      rw [Int.neg_mul]; omega
    have k2 : (-a) / b ≤ 4000000000000000000 := by
      refine Int.ediv_le_of_le_mul (by omega) ?_
      have := Int.mul_le_mul_of_nonneg_left (show 1 ≤ b by omega) (show (0 : Int) ≤ 4000000000000000000 by omega)
      omega
    have e2 : IntKind.wrap .i64 (0 - (-a) / b) = -((-a) / b) := by rw [wrap_eq (by omega) (by omega)]; omega
    rw [e1, e2]
    exact ⟨⟨by omega, by omega, by omega, by omega⟩, by first | trivial | rfl, by first | trivial | rfl⟩
  · cases h
end
end Qq
end
section
/- The reference's answers about lines: contracts. -/
open Go Go.Vm Go.Proofs Sp
namespace Qq
noncomputable section
/-- The period's own list: what it is. -/
theorem per_own {zs : List Int} {ks : List (Int × ByteArray)} {n k : Nat} {p : Int} {e1 e2 : List Value} (h : isPer zs ks n k p e1 e2) (hm : 2 ≤ pm zs ks n k p) :
    Part (pP zs ks n k p) 0 (pm zs ks n k p) ∧ lvl (pP zs ks n k p) 0 (pm zs ks n k p) = pL zs ks n k p ∧ slp (pP zs ks n k p) 0 (pm zs ks n k p) = pS zs ks n k p ∧ dn (pP zs ks n k p) 0 (pm zs ks n k p) = pD zs ks n k p ∧
      (pP zs ks n k p).getD 0 0 = p0D zs ks p ∧ (pP zs ks n k p).getD ((pm zs ks n k p - 1) * 2) 0 = pZ zs ks n k p ∧ (pP zs ks n k p).length = pm zs ks n k p * 2 := by
  obtain ⟨h1, _⟩ := per_part h
  obtain ⟨a, b, c, d⟩ := part_own h1 (by omega)
  exact ⟨a, b, c, d, pP_get (by omega), pP_get (by omega), pP_len h1⟩
noncomputable def hsReR' (zs : List Int) (ks : List (Int × ByteArray)) (n k : Nat) (p : Int) : Hs Tryz.prog where
  op y := if [307, 701].contains y then some (hIa Tryz.prog) else if [309, 703].contains y then some (hLd Tryz.prog (zI (pP zs ks n k p))) else none
  au := auCalls [(131, hCa Tryz.prog 131 (orcInP zs ks) (in_okP zs ks)), (132, hCa Tryz.prog 132 (orcFrV (pP zs ks n k p)) (fr_okV _)), (133, hCaR Tryz.prog 133 (orcLaV (pP zs ks n k p)) (laR_okV _)), (134, hCa Tryz.prog 134 orcCe okCe)]
theorem reR_t (nm : ByteArray) (zs : List Int) (ks : List (Int × ByteArray)) (n : Nat) (c : Nat) (k : Nat) (d : Nat) (p : Int) (l : Int) (K : Value → Heap → Prop) :
    (fnP Tryz.prog cr2 (hsReR' zs ks n k p) (94 : FuncId) [Value.agg (List.toArray (secA nm (0 : Nat) n c (1 : Nat) k d)), Value.int IntKind.i64 p, Value.int IntKind.i64 l] (hp2 zs ks false false false false []) K) =
    (Is (isPer zs ks n k p (ints zs) (acs ks)) ∧ Is (ints (pP zs ks n k p) = ints (pP zs ks n k p) ∧ Part (pP zs ks n k p) (0 : Nat) (pm zs ks n k p)) ∧ Is (ints (pP zs ks n k p) = ints (pP zs ks n k p) ∧ (0 : Nat) < pm zs ks n k p ∧ pm zs ks n k p ≤ (1000 : Nat) ∧ (0 : Nat) + pm zs ks n k p * (2 : Nat) ≤ List.length (pP zs ks n k p)) ∧ Is ((0 : Int) ≤ (0 : Int) ∧ (0 : Int) < (↑(pm zs ks n k p) : Int)) ∧ Is ((ints (pP zs ks n k p))[(0 : Nat)]? = some (Value.int IntKind.i64 (List.getD (pP zs ks n k p) (0 : Nat) (0 : Int)))) ∧ br (decide (IntKind.wrap IntKind.i64 (l * dn (pP zs ks n k p) (0 : Nat) (pm zs ks n k p)) ≤ IntKind.wrap IntKind.i64 (lvl (pP zs ks n k p) (0 : Nat) (pm zs ks n k p) + IntKind.wrap IntKind.i64 (slp (pP zs ks n k p) (0 : Nat) (pm zs ks n k p) * IntKind.wrap IntKind.i64 (List.getD (pP zs ks n k p) ((0 : Nat) + (pm zs ks n k p - (1 : Nat)) * (2 : Nat)) (0 : Int) - List.getD (pP zs ks n k p) (0 : Nat) (0 : Int)))))) (Is (ints (pP zs ks n k p) = ints (pP zs ks n k p) ∧ (0 : Nat) < pm zs ks n k p ∧ pm zs ks n k p ≤ (1000 : Nat) ∧ (0 : Nat) + pm zs ks n k p * (2 : Nat) ≤ List.length (pP zs ks n k p)) ∧ K (Value.tuple #[Value.int IntKind.i64 (List.getD (pP zs ks n k p) ((0 : Nat) + (pm zs ks n k p - (1 : Nat)) * (2 : Nat)) (0 : Int)), Value.int IntKind.i64 (0 : Int)]) (some (AObj.row (ints zs) (2 : Nat) false false true) :: some (AObj.row (acs ks) (2 : Nat) false false true) :: noH)) (br (decide (slp (pP zs ks n k p) (0 : Nat) (pm zs ks n k p) ≤ (0 : Int))) (K (Value.tuple #[Value.int IntKind.i64 (0 : Int), Value.int IntKind.i64 (7 : Int)]) (some (AObj.row (ints zs) (2 : Nat) false false true) :: some (AObj.row (acs ks) (2 : Nat) false false true) :: noH)) (Is ((0 : Int) ≤ (0 : Int) ∧ (0 : Int) < (↑(pm zs ks n k p) : Int)) ∧ Is ((ints (pP zs ks n k p))[(0 : Nat)]? = some (Value.int IntKind.i64 (List.getD (pP zs ks n k p) (0 : Nat) (0 : Int)))) ∧ Is ((0 : Int) < slp (pP zs ks n k p) (0 : Nat) (pm zs ks n k p) ∧ slp (pP zs ks n k p) (0 : Nat) (pm zs ks n k p) ≤ (4000000000000000000 : Int) ∧ (-4000000000000000000 : Int) ≤ IntKind.wrap IntKind.i64 (IntKind.wrap IntKind.i64 (l * dn (pP zs ks n k p) (0 : Nat) (pm zs ks n k p)) - lvl (pP zs ks n k p) (0 : Nat) (pm zs ks n k p)) ∧ IntKind.wrap IntKind.i64 (IntKind.wrap IntKind.i64 (l * dn (pP zs ks n k p) (0 : Nat) (pm zs ks n k p)) - lvl (pP zs ks n k p) (0 : Nat) (pm zs ks n k p)) ≤ (4000000000000000000 : Int)) ∧ br (decide ((100000 : Int) < IntKind.wrap IntKind.i64 (List.getD (pP zs ks n k p) (0 : Nat) (0 : Int) + -(-IntKind.wrap IntKind.i64 (IntKind.wrap IntKind.i64 (l * dn (pP zs ks n k p) (0 : Nat) (pm zs ks n k p)) - lvl (pP zs ks n k p) (0 : Nat) (pm zs ks n k p)) / slp (pP zs ks n k p) (0 : Nat) (pm zs ks n k p))))) (K (Value.tuple #[Value.int IntKind.i64 (0 : Int), Value.int IntKind.i64 (7 : Int)]) (some (AObj.row (ints zs) (2 : Nat) false false true) :: some (AObj.row (acs ks) (2 : Nat) false false true) :: noH)) (K (Value.tuple #[Value.int IntKind.i64 (IntKind.wrap IntKind.i64 (List.getD (pP zs ks n k p) (0 : Nat) (0 : Int) + -(-IntKind.wrap IntKind.i64 (IntKind.wrap IntKind.i64 (l * dn (pP zs ks n k p) (0 : Nat) (pm zs ks n k p)) - lvl (pP zs ks n k p) (0 : Nat) (pm zs ks n k p)) / slp (pP zs ks n k p) (0 : Nat) (pm zs ks n k p)))), Value.int IntKind.i64 (0 : Int)]) (some (AObj.row (ints zs) (2 : Nat) false false true) :: some (AObj.row (acs ks) (2 : Nat) false false true) :: noH))))) := by kernel_rfl
theorem reR_ok {nm : ByteArray} {zs : List Int} {ks : List (Int × ByteArray)} {n c k d : Nat} {p l : Int} (hi : isPer zs ks n k p (ints zs) (acs ks)) (hm2 : 2 ≤ pm zs ks n k p) (l0 : 0 ≤ l) (l1 : l ≤ 100000) :
    SmallRes Tryz.prog 94 [.agg (secA nm 0 n c 1 k d).toArray, .int .i64 p, .int .i64 l] (hp2 zs ks false false false false [])
      (.tuple #[.int .i64 (gz (wh (!rdB zs ks n k p l) 7) (rdN zs ks n k p l)), .int .i64 (wh (!rdB zs ks n k p l) 7)]) (hp2 zs ks false false false false []) := by
  refine fnP_res hm cr2_ok (hs := hsReR' zs ks n k p) ?_
  rw [reR_t]
  obtain ⟨a, b, s, e, g, z, hl⟩ := per_own hi hm2
  obtain ⟨a0, a1, f0, f1, b0, b1, p0, p1, c1, q0, q1⟩ := rc_in hi hm2 l0 l1
  have hf := a.few
  simp only [Nat.zero_add]
  rw [b, s, e, g, z]
  have hsA : (ints (pP zs ks n k p))[(0 : Nat)]? = some (.int .i64 (p0D zs ks p)) := by rw [← g]; exact ints_at (by omega)
  have hB : ∀ x, rdB zs ks n k p l = x → (wh (!rdB zs ks n k p l) 7 = if x = true then 0 else 7) := by
    intro x hx; rw [hx]; cases x <;> rfl
  generalize hA : p0D zs ks p = A at *
  generalize hL : pL zs ks n k p = B at *
  generalize hS : pS zs ks n k p = C at *
  generalize hD : pD zs ks n k p = D at *
  generalize hZ : pZ zs ks n k p = F at *
  have hN : rdN zs ks n k p l = rcN A B C D l F := by rw [rdN, hA, hL, hS, hD, hZ]
  have hBB : rdB zs ks n k p l = rcB A B C D l F := by rw [rdB, hA, hL, hS, hD, hZ]
  have hs : rcS A B C D l F = l * D - (B + C * (F - A)) := rfl
  have e1 : IntKind.wrap .i64 (F - A) = F - A := wrap_eq (by omega) (by omega)
  have e2 : IntKind.wrap .i64 (C * (F - A)) = C * (F - A) := wrap_eq (by omega) (by omega)
  have e3 : IntKind.wrap .i64 (B + C * (F - A)) = B + C * (F - A) := wrap_eq (by omega) (by omega)
  have e4 : IntKind.wrap .i64 (l * D) = l * D := wrap_eq (by omega) (by omega)
  have e5 : IntKind.wrap .i64 (l * D - B) = l * D - B := wrap_eq (by omega) (by omega)
  rw [e1, e2, e3, e4, e5, hN, hBB]
  refine ⟨⟨hi⟩, ⟨by first | trivial | rfl, a⟩, ⟨by first | trivial | rfl, by omega, by omega, by omega⟩, ⟨by omega, by omega⟩, ⟨hsA⟩, br_of (fun h => ⟨⟨by first | trivial | rfl, by omega, by omega, by omega⟩, ?_⟩) (fun h => br_of (fun h2 => ?_) (fun h2 => ?_))⟩
  · have h := of_decide_eq_true h
    have hc : rcS A B C D l F ≤ 0 := by omega
    rw [rcN, rcB, if_pos hc, decide_eq_true hc]
    exact ⟨by first | trivial | rfl, by first | trivial | rfl⟩
  · have h := of_decide_eq_false h
    have h2 := of_decide_eq_true h2
    have hc : ¬ rcS A B C D l F ≤ 0 := by omega
    rw [rcN, rcB, if_neg hc, if_pos h2, decide_eq_false hc, decide_eq_true h2]
    exact ⟨by first | trivial | rfl, by first | trivial | rfl⟩
  · have h := of_decide_eq_false h
    have h2 := of_decide_eq_false h2
    have hc : ¬ rcS A B C D l F ≤ 0 := by omega
    have k1 : (-rcS A B C D l F) / C ≤ 0 := Int.ediv_nonpos_of_nonpos_of_neg (by omega) (by omega)
    have k2 : -rcS A B C D l F ≤ (-rcS A B C D l F) / C := by
      refine Int.le_ediv_of_mul_le (by omega) ?_
      have := Int.mul_le_mul_of_nonneg_left (show 1 ≤ C by omega) (show 0 ≤ rcS A B C D l F by omega)
      rw [Int.neg_mul]; omega
    have k3 : (-rcS A B C D l F) / C = (-(l * D - B)) / C + (F - A) := by
      rw [← Int.add_mul_ediv_left _ _ (show C ≠ 0 by omega)]
      congr 1
      omega
    have e7 : A + -((-(l * D - B)) / C) = F - (-rcS A B C D l F) / C := by omega
    have e6 : IntKind.wrap .i64 (A + -((-(l * D - B)) / C)) = F - (-rcS A B C D l F) / C := by rw [e7]; exact wrap_eq (by omega) (by omega)
    rw [e6, rcN, rcB, if_neg hc, if_neg h2, decide_eq_false hc, decide_eq_false h2]
    refine ⟨⟨by omega, by omega⟩, ⟨hsA⟩, ⟨by omega, by omega, by omega, by omega⟩, br_of (fun h3 => ?_) (fun h3 => ?_)⟩
    · have h3 := of_decide_eq_true h3
      have h4 : decide (F - (-rcS A B C D l F) / C ≤ 100000) = false := decide_eq_false (by omega)
      rw [h4]
      exact ⟨by first | trivial | rfl, by first | trivial | rfl⟩
    · have h3 := of_decide_eq_false h3
      have h4 : decide (F - (-rcS A B C D l F) / C ≤ 100000) = true := decide_eq_true (by omega)
      rw [h4]
      exact ⟨by first | trivial | rfl, by first | trivial | rfl⟩
end
end Qq
end
section
/-
  DERIVED: THE SHELF's CONTRACTS AT THIS DUMP, IN PLAIN WORDS (tools/lay-plain.mjs out of 'TryzShelf.lean', which tools/lay-shelf.mjs wrote): THE SAME DECLARATIONS UNDER THE SAME NAMES: 'import', 'namespace', 'open', 'def', 'theorem' AND NOTHING ELSE: no command of the shelf's: FOR A HAND-IN. Each laying: the table of numbers ('.._ren') and one theorem, a field a fact of the dump's own or the kernel's comparison; each contract: ONE APPLICATION.
-/
namespace Go.Proofs
open Go.Shelf
def Tryz.lays156_ren : Go.Shelf.Ren := ⟨fun | 156 => 114 | 165 => 142 | 166 => 143 | 169 => 144 | 240 => 156 | 241 => 157 | 276 => 164 | 277 => 165 | n => n, fun | 31 => 181 | 9 => 9 | 3 => 3 | 4 => 4 | 0 => 0 | 20 => 20 | 72 => 212 | 76 => 216 | 70 => 209 | 37 => 210 | 75 => 215 | 127 => 228 | 164 => 235 | 5 => 5 | 80 => 179 | n => n, fun | n => n⟩
theorem Tryz.lays156 : Go.Proofs.Lays.n156 Tryz.prog Tryz.lays156_ren := {
  mixed := by kernel_rfl
  f156 := Tryz.func114.trans (congrArg some (by kernel_rfl))
  f165 := Tryz.func142.trans (congrArg some (by kernel_rfl))
  f166 := Tryz.func143.trans (congrArg some (by kernel_rfl))
  f169 := Tryz.func144.trans (congrArg some (by kernel_rfl))
  f240 := Tryz.func156.trans (congrArg some (by kernel_rfl))
  f241 := Tryz.func157.trans (congrArg some (by kernel_rfl))
  f276 := Tryz.func164.trans (congrArg some (by kernel_rfl))
  f277 := Tryz.func165.trans (congrArg some (by kernel_rfl))
  t0 := Tryz.underlying0
  a0 := Tryz.isAgg0
  z0 := Tryz.sizeOf0
  v0 := Tryz.zeroValue0
  t3 := Tryz.underlying3
  a3 := Tryz.isAgg3
  z3 := Tryz.sizeOf3
  v3 := Tryz.zeroValue3
  t4 := Tryz.underlying4
  a4 := Tryz.isAgg4
  z4 := Tryz.sizeOf4
  v4 := Tryz.zeroValue4
  t9 := Tryz.underlying9
  a9 := Tryz.isAgg9
  z9 := Tryz.sizeOf9
  v9 := Tryz.zeroValue9
  t20 := Tryz.underlying20
  a20 := Tryz.isAgg20
  z20 := Tryz.sizeOf20
  v20 := Tryz.zeroValue20
  t31 := Tryz.underlying181
  a31 := Tryz.isAgg181
  z31 := Tryz.sizeOf181
  v31 := Tryz.zeroValue181
  t37 := Tryz.underlying210
  a37 := Tryz.isAgg210
  z37 := Tryz.sizeOf210
  v37 := Tryz.zeroValue210
  t70 := Tryz.underlying209
  a70 := Tryz.isAgg209
  z70 := Tryz.sizeOf209
  v70 := Tryz.zeroValue209
  t72 := Tryz.underlying212
  a72 := Tryz.isAgg212
  z72 := Tryz.sizeOf212
  v72 := Tryz.zeroValue212
  t75 := Tryz.underlying215
  a75 := Tryz.isAgg215
  z75 := Tryz.sizeOf215
  v75 := Tryz.zeroValue215
  t76 := Tryz.underlying216
  a76 := Tryz.isAgg216
  z76 := Tryz.sizeOf216
  v76 := Tryz.zeroValue216
  t127 := Tryz.underlying228
  a127 := Tryz.isAgg228
  z127 := Tryz.sizeOf228
  v127 := Tryz.zeroValue228
  t164 := Tryz.underlying235
  a164 := Tryz.isAgg235
  z164 := Tryz.sizeOf235
  v164 := Tryz.zeroValue235 }
theorem Tryz.Builder_Extra_156 : Builder.Extra Tryz.prog Tryz.lays156_ren := {
  sizeBuilder := by kernel_rfl
  liesBuilder := by kernel_rfl
  t5 := Tryz.underlying5
  a5 := Tryz.isAgg5
  z5 := Tryz.sizeOf5
  v5 := Tryz.zeroValue5
  infoByte := by kernel_rfl
  cellsByte := by kernel_rfl
  sizeByte := by kernel_rfl
  neB5 := by decide }
open Go.RowKit in
/-- No element: the empty string; the world is as it was. (Whatever the slice's address and capacity: a nil slice too.) (LAID: no walk: one application.) -/
theorem Tryz.strings_Join_none (a : Option Addr) (c : Nat) (sep : ByteArray) (w : World) :
    Calls Tryz.prog 114 #[.slice a 0 c, .string sep] w fun e w' => e = .returned (.string ⟨#[]⟩) ∧ w' = w := Any.strings_Join_none Tryz.lays156 Tryz.Builder_Extra_156 a c sep w
open Go.RowKit in
/-- strings.Join: "Join concatenates the elements of its first argument to create a single string. The separator string sep is placed between elements in the resulting string.": HOWEVER MANY ELEMENTS. Below the heap's end the world is as it was. (LAID: no walk: one application.) -/
theorem Tryz.strings_Join (bk o c : Nat) (xs : List ByteArray) (sep : ByteArray) (w : World) (hcells : ∀ (j : Nat) x, xs[j]? = some x → w.cell? ⟨bk, o + j, none⟩ = some (.string x)) (hbk : bk < w.heap.size) (hN : xs.length ≤ 140737488355328) (hcap : xs.length ≤ c) (hlen : (Lib.join (xs.map (·.data.toList)) sep.data.toList).length ≤ 140737488355328) :
    Calls Tryz.prog 114 #[.slice (some ⟨bk, o, none⟩) xs.length c, .string sep] w fun e w' => e = .returned (.string ⟨(Lib.join (xs.map (·.data.toList)) sep.data.toList).toArray⟩) ∧ Below w.heap.size w w' := Any.strings_Join Tryz.lays156 Tryz.Builder_Extra_156 bk o c xs sep w hcells hbk hN hcap hlen
def Tryz.laysM171_ren : Go.Shelf.Ren := ⟨fun | 171 => 81 | 243 => 115 | 246 => 145 | 283 => 158 | 284 => 159 | 285 => 160 | 286 => 161 | 129 => 127 | 317 => 166 | 318 => 167 | 319 => 168 | 320 => 169 | 337 => 170 | 338 => 171 | n => n, fun | 3 => 3 | 9 => 9 | 2 => 2 | 4 => 4 | 171 => 229 | 0 => 0 | 53 => 194 | 37 => 210 | 5 => 5 | 173 => 231 | 212 => 239 | 51 => 192 | 20 => 20 | 213 => 240 | 46 => 156 | 232 => 241 | 233 => 242 | n => n, fun | 17 => 0 | 18 => 2 | 19 => 3 | n => n⟩
theorem Tryz.laysM171 : Go.Proofs.LaysM.n171 Tryz.prog Tryz.laysM171_ren := {
  mixed := by kernel_rfl
  f129 := Tryz.func127.trans (congrArg some (by kernel_rfl))
  f171 := Tryz.func81.trans (congrArg some (by kernel_rfl))
  f243 := Tryz.func115.trans (congrArg some (by kernel_rfl))
  f246 := Tryz.func145.trans (congrArg some (by kernel_rfl))
  f283 := Tryz.func158.trans (congrArg some (by kernel_rfl))
  f284 := Tryz.func159.trans (congrArg some (by kernel_rfl))
  f285 := Tryz.func160.trans (congrArg some (by kernel_rfl))
  f286 := Tryz.func161.trans (congrArg some (by kernel_rfl))
  f317 := Tryz.func166.trans (congrArg some (by kernel_rfl))
  f318 := Tryz.func167.trans (congrArg some (by kernel_rfl))
  f319 := Tryz.func168.trans (congrArg some (by kernel_rfl))
  f320 := Tryz.func169.trans (congrArg some (by kernel_rfl))
  f337 := Tryz.func170.trans (congrArg some (by kernel_rfl))
  f338 := Tryz.func171.trans (congrArg some (by kernel_rfl))
  t0 := Tryz.underlying0
  a0 := Tryz.isAgg0
  z0 := Tryz.sizeOf0
  v0 := Tryz.zeroValue0
  t2 := Tryz.underlying2
  a2 := Tryz.isAgg2
  z2 := Tryz.sizeOf2
  v2 := Tryz.zeroValue2
  t3 := Tryz.underlying3
  a3 := Tryz.isAgg3
  z3 := Tryz.sizeOf3
  v3 := Tryz.zeroValue3
  t4 := Tryz.underlying4
  a4 := Tryz.isAgg4
  z4 := Tryz.sizeOf4
  v4 := Tryz.zeroValue4
  t5 := Tryz.underlying5
  a5 := Tryz.isAgg5
  z5 := Tryz.sizeOf5
  v5 := Tryz.zeroValue5
  t9 := Tryz.underlying9
  a9 := Tryz.isAgg9
  z9 := Tryz.sizeOf9
  v9 := Tryz.zeroValue9
  t20 := Tryz.underlying20
  a20 := Tryz.isAgg20
  z20 := Tryz.sizeOf20
  v20 := Tryz.zeroValue20
  t37 := Tryz.underlying210
  a37 := Tryz.isAgg210
  z37 := Tryz.sizeOf210
  v37 := Tryz.zeroValue210
  t46 := Tryz.underlying156
  a46 := Tryz.isAgg156
  z46 := Tryz.sizeOf156
  v46 := Tryz.zeroValue156
  t51 := Tryz.underlying192
  a51 := Tryz.isAgg192
  z51 := Tryz.sizeOf192
  v51 := Tryz.zeroValue192
  t53 := Tryz.underlying194
  a53 := Tryz.isAgg194
  z53 := Tryz.sizeOf194
  v53 := Tryz.zeroValue194
  t171 := Tryz.underlying229
  a171 := Tryz.isAgg229
  z171 := Tryz.sizeOf229
  v171 := Tryz.zeroValue229
  t173 := Tryz.underlying231
  a173 := Tryz.isAgg231
  z173 := Tryz.sizeOf231
  v173 := Tryz.zeroValue231
  t212 := Tryz.underlying239
  a212 := Tryz.isAgg239
  z212 := Tryz.sizeOf239
  v212 := Tryz.zeroValue239
  t213 := Tryz.underlying240
  a213 := Tryz.isAgg240
  z213 := Tryz.sizeOf240
  t232 := Tryz.underlying241
  a232 := Tryz.isAgg241
  z232 := Tryz.sizeOf241
  v232 := Tryz.zeroValue241
  t233 := Tryz.underlying242
  a233 := Tryz.isAgg242
  z233 := Tryz.sizeOf242
  v233 := Tryz.zeroValue242
  g17 := by kernel_rfl
  g18 := by kernel_rfl
  g19 := by kernel_rfl
  i0 := by kernel_rfl
  i2 := by kernel_rfl
  i3 := by kernel_rfl
  i4 := by kernel_rfl
  i5 := by kernel_rfl
  i9 := by kernel_rfl
  i20 := by kernel_rfl
  i37 := by kernel_rfl
  i46 := by kernel_rfl
  i51 := by kernel_rfl
  i53 := by kernel_rfl
  i171 := by kernel_rfl
  i173 := by kernel_rfl
  i212 := by kernel_rfl
  i232 := by kernel_rfl
  i233 := by kernel_rfl
  m17 := by kernel_rfl
  m18 := by kernel_rfl
  m19 := by kernel_rfl }
open Go.RowKit Go.Sort Go.Lib in
/-- strconv.Itoa: "Itoa is equivalent to FormatInt(int64(i), 10).": i's DECIMAL NUMERAL ('Lib.itoa': a '-' where i is negative, then the digits), FOR EVERY int. The world behind the call: the world before it, new blocks behind the heap (the library's 'var a [24]byte'), draws. (LAID: no walk: one application.) -/
theorem Tryz.strconv_Itoa (n : Int) (h0 : -9223372036854775808 ≤ n) (h1 : n ≤ 9223372036854775807) (w : World) (htab : Lib.TabIs Tryz.prog w "internal/strconv.uint64pow10" .u64 Lib.pow10Tab) :
    Calls Tryz.prog 81 #[.int .i64 n] w fun e w' => e = .returned (.string ⟨(Lib.itoa n).toArray⟩) ∧ ∃ k os, w' = grow (w.drewN k) os := Any.strconv_Itoa Tryz.laysM171 n h0 h1 w htab
end Go.Proofs
end
section
/- The library's contracts, taken over. -/
open Go Go.Vm Go.Proofs Sp Go.RowKit Go.Sort
namespace Qq
noncomputable section

theorem HRel.lays' {P : Program} {F : Fr P} {A : Nat → Prop} {ψ : Nat → Gh} {H : Heap} {w : World} (h : HRel F A ψ H w) : lays P w := h.fr.lay w h.fr.block h.fr.size

theorem below_grow (w : World) (k : Nat) (os : Array Obj) : Below w.heap.size w (grow (w.drewN k) os) :=
  ⟨rfl, rfl, rfl, by simp [grow, World.drewN], fun j hj => by
    show (w.heap ++ os)[j]? = _
    rw [Array.getElem?_append_left hj]⟩

noncomputable def orcItoaV : OrcV
  | [.int .i64 n], [] => some (.string ⟨(Lib.itoa n).toArray⟩, [], -9223372036854775808 ≤ n ∧ n ≤ 9223372036854775807)
  | _, _ => none
theorem gTab : Tryz.prog.globalNamed "internal/strconv.uint64pow10" ≠ none := by
  have h : (Tryz.prog.globalNamed "internal/strconv.uint64pow10").isSome = true := by kernel_rfl
  intro e; rw [e] at h; cases h
theorem okItoaV : OkV Tryz.prog 81 orcItoaV := by
  intro args H ret H' vc h hv
  unfold orcItoaV at h
  split at h
  · rename_i n
    cases h
    refine small_of_calls rfl fun F A ψ w args' hh hl => ?_
    have e0 : args' = [.int .i64 n] := by
      have h1 := hl.len
      match args', h1 with
      | [v], _ =>
        have := (hl.at_ 0).of_atom rfl
        simpa using this
    subst e0
    refine (Tryz.strconv_Itoa n hv.1 hv.2 w (HRel.lays' hh gTab)).mono ?_
    rintro e w' ⟨rfl, k, os, rfl⟩
    refine ⟨rfl, ?_⟩
    exact below_grow w k os
  · cases h

/-- A number that is known. -/
noncomputable def orcItoa : Orc
  | [.int .i64 n], [] => if -9223372036854775808 ≤ n ∧ n ≤ 9223372036854775807 then some (.string ⟨(Lib.itoa n).toArray⟩, []) else none
  | _, _ => none
theorem okItoa : Ok Tryz.prog 81 orcItoa := by
  intro args H ret H' h
  unfold orcItoa at h
  split at h
  · rename_i n
    split at h
    · rename_i hc
      cases h
      exact okItoaV _ _ _ _ _ rfl hc
    · cases h
  · cases h

/-- Strings in cells. -/
noncomputable def strsOf : List Value → Option (List ByteArray)
  | [] => some []
  | .string s :: r => (strsOf r).map (s :: ·)
  | _ => none
theorem strsOf_eq : ∀ {cs : List Value} {l : List ByteArray}, strsOf cs = some l → cs = l.map .string
  | [], l, h => by simp [strsOf] at h; subst h; rfl
  | v :: r, l, h => by
    cases v with
    | string s =>
      simp only [strsOf] at h
      obtain ⟨l', h1, rfl⟩ := Option.map_eq_some_iff.1 h
      rw [strsOf_eq h1]; rfl
    | _ => simp [strsOf] at h
noncomputable def orcJoinV : OrcV
  | [.slice (some ⟨0, 0, none⟩) n _c, .string sep], [some (.row cells es more rw flat)] =>
    match strsOf cells with
    | some l => if n = l.length then some (.string ⟨(Lib.join (l.map (·.data.toList)) sep.data.toList).toArray⟩, [some (.row cells es more rw flat)], n ≤ 140737488355328 ∧ (Lib.join (l.map (·.data.toList)) sep.data.toList).length ≤ 140737488355328) else none
    | none => none
  | _, _ => none
theorem okJoinV : OkV Tryz.prog 114 orcJoinV := by
  intro args H ret H' vc h hv
  unfold orcJoinV at h
  split at h
  · rename_i n c sep cells es more rw flat
    split at h
    · rename_i l hl
      split at h
      · rename_i hn
        cases h
        have hcs := strsOf_eq hl
        refine small_of_calls rfl fun F A ψ w args' hh hl' => ?_
        have h1 := hl'.len
        match args', h1 with
        | [v, u], _ =>
          have e1 := (hl'.at_ 1).of_atom rfl
          have e0 := hl'.at_ 0
          simp only [List.getD_cons_zero, List.getD_cons_succ] at e0 e1
          subst e1
          obtain ⟨hA, ad, cap', rfl, hcap, ha, _⟩ := e0.slice_inv
          subst hn
          by_cases hl0 : l.length = 0
          · obtain rfl := List.eq_nil_of_length_eq_zero hl0
            refine (Tryz.strings_Join_none ad cap' sep w).mono ?_
            rintro e w' ⟨rfl, rfl⟩
            exact ⟨rfl, Below.refl _ _⟩
          obtain rfl := ha.resolve_left hl0
          obtain ⟨hblk, arr, el, fz, hb, hes, hce, _, _⟩ := (hh.live 0 _ rfl).2.2 (vd_row (by rw [hcs]; simp; omega))
          refine (Tryz.strings_Join (ψ 0).blk ((ψ 0).off + 0) cap' l sep w (fun j x hx => ?_) hblk hv.1 hcap hv.2).mono ?_
          · have hj := (List.getElem?_eq_some_iff.1 hx).1
            obtain ⟨v', k1, k2, k3⟩ := hce j (by rw [hcs]; simpa using hj)
            have : cells.getD j poi = .string x := by rw [hcs]; simp [List.getD_eq_getElem?_getD, hx]
            rw [this] at k3
            have := k3.of_atom rfl
            subst this
            simp [World.cell?, hb, k1]
          · rintro e w' ⟨rfl, hw⟩
            exact ⟨rfl, hw⟩
      · cases h
    · cases h
  · cases h
noncomputable def orcJoin : Orc
  | [.slice (some ⟨0, 0, none⟩) n _, .string sep], [some (.row cells es more rw flat)] =>
    match strsOf cells with
    | some l => if n = l.length then (if n ≤ 1000 ∧ (Lib.join (l.map (·.data.toList)) sep.data.toList).length ≤ 1000 then some (.string ⟨(Lib.join (l.map (·.data.toList)) sep.data.toList).toArray⟩, [some (.row cells es more rw flat)]) else none) else none
    | none => none
  | _, _ => none
theorem okJoin : Ok Tryz.prog 114 orcJoin := by
  intro args H ret H' h
  unfold orcJoin at h
  split at h
  · rename_i n c sep cells es more rw flat
    split at h
    · rename_i l hl
      split at h
      · rename_i hn
        split at h
        · rename_i hc
          cases h
          refine okJoinV _ _ _ _ (n ≤ 140737488355328 ∧ (Lib.join (l.map (·.data.toList)) sep.data.toList).length ≤ 140737488355328) ?_ ⟨by omega, by omega⟩
          simp only [orcJoinV, hl, if_pos hn]
        · cases h
      · cases h
    · cases h
  · cases h
noncomputable def lib0 : List (Nat × Orc) := [(81, orcItoa), (114, orcJoin)]
theorem lib0_all : ∀ p ∈ lib0, Ok Tryz.prog p.1 p.2 := all_cons okItoa (all_cons okJoin all_nil)
end
end Qq
end
section
/- The indices of the shown run. -/
open Go Go.Vm Go.Proofs Sp
namespace Qq
noncomputable section

noncomputable def smpl : List Value := [.float .f32 1065353216, .float .f32 1073741824, .float .f32 1077936128, .float .f32 1082130432]
noncomputable def runCells (id c : Nat) : List Value := [.string ⟨#[114]⟩, .int .i64 100, .slice (some ⟨id, 0, none⟩) 4 c, .slice none 0 0]
noncomputable def hcW : Heap := [some (.row [.int .i64 2] 0 false false true), some (.row (runCells 2 4) 0 false false false), some (.row smpl 1 false false true)]
noncomputable def capW : List Value := [.pointer (some ⟨0, 0, none⟩), .pointer (some ⟨1, 0, none⟩)]
noncomputable def elW : Nat → List Value
  | 0 => [.int .i64 0, .agg #[.int .i64 2, .int .i64 48, .int .i64 1280]]
  | _ => [.int .i64 2, .agg #[.int .i64 2, .int .i64 112, .int .i64 6400]]
noncomputable def hsW : Ys Tryz.prog := {au := au0 Tryz.prog, ys := [10]}
theorem itW_t (_K : Prop) :
    (iterY Tryz.prog c0 hsW hcW (2 : Nat) elW (139 : FuncId) capW) =
    (∀ (l : Nat), Is ((0 : Nat) < (2 : Nat)) ∧ l = l ∧ [Value.int IntKind.i64 (0 : Int), Value.agg #[Value.int IntKind.i64 (2 : Int), Value.int IntKind.i64 (48 : Int), Value.int IntKind.i64 (1280 : Int)]] = [Value.int IntKind.i64 (0 : Int), Value.agg #[Value.int IntKind.i64 (2 : Int), Value.int IntKind.i64 (48 : Int), Value.int IntKind.i64 (1280 : Int)]] ∧ (Is ((1 : Nat) < (2 : Nat)) ∧ l = l ∧ [Value.int IntKind.i64 (2 : Int), Value.agg #[Value.int IntKind.i64 (2 : Int), Value.int IntKind.i64 (112 : Int), Value.int IntKind.i64 (6400 : Int)]] = [Value.int IntKind.i64 (2 : Int), Value.agg #[Value.int IntKind.i64 (2 : Int), Value.int IntKind.i64 (112 : Int), Value.int IntKind.i64 (6400 : Int)]] ∧ Is ((2 : Nat) = (2 : Nat)) ∧ Is ((1 : Nat) < (2 : Nat))) ∧ Is ((0 : Nat) < (2 : Nat))) := by kernel_rfl
theorem itW_ok : IterRes Tryz.prog 139 capW hcW 2 elW :=
  iterY_ok (hs := hsW) hm c0_ok (by
    rw [itW_t True]
    exact fun l => ⟨⟨by decide⟩, rfl, rfl, ⟨⟨by decide⟩, rfl, rfl, ⟨rfl⟩, ⟨by decide⟩⟩, ⟨by decide⟩⟩)
noncomputable def itW : It Tryz.prog where
  gf := 139
  fn cap H := some (2, elW, cap = capW ∧ H = hcW)
  ok := by
    intro cap H N el vc h hv
    cases h
    obtain ⟨rfl, rfl⟩ := hv
    exact itW_ok
noncomputable def rfW : Rf Tryz.prog where
  it := itW
  k := 5
  conc := true
  E := slots 28 [(3, .pointer (some ⟨1, 0, none⟩)), (5, .pointer (some ⟨2, 0, none⟩)), (11, .func (.func 139) #[] #[.pointer (some ⟨3, 0, none⟩), .pointer (some ⟨4, 0, none⟩)])]
  Hp i := [some (.row smpl 1 false false true), some (.row [.int .i64 2] 0 false true true),
    some (.row [match i with | 0 => .slice none 0 0 | 1 => .slice (some ⟨5, 0, none⟩) 1 0 | _ => .slice (some ⟨5, 0, none⟩) 2 0] 0 false true (match i with | 0 => true | _ => false)),
    some (.row [.int .i64 2] 0 false false true), some (.row (runCells 0 4) 0 false false false)] ++
    (match i with | 0 => [] | 1 => [some (.row [.int .i64 64] 1 true true true)] | _ => [some (.row [.int .i64 64, .int .i64 64] 1 true true true)])
noncomputable def hsI : Hs Tryz.prog := {au := au0 Tryz.prog, rf := fun _ => some rfW, cl := fun _ => keep 28 [3, 5, 11]}
theorem idxW_t (K : Value → Heap → Prop) :
    (fnP Tryz.prog c0 hsI (56 : FuncId) [Value.agg (List.toArray (runCells (0 : Nat) (4 : Nat))), Value.int IntKind.i64 (2 : Int)] [some (AObj.row smpl (1 : Nat) false false true)] K) =
    ([poi, poi, poi, Value.pointer (some { block := (1 : Nat), off := (0 : Nat) }), poi, Value.pointer (some { block := (2 : Nat), off := (0 : Nat) }), poi, poi, poi, poi, poi, Value.func (Fn.func (139 : Nat)) #[] #[Value.pointer (some { block := (3 : Nat), off := (0 : Nat) }), Value.pointer (some { block := (4 : Nat), off := (0 : Nat) })], poi, poi, poi, poi, poi, poi, poi, poi, poi, poi, poi, poi, poi, poi, poi, poi] = [poi, poi, poi, Value.pointer (some { block := (1 : Nat), off := (0 : Nat) }), poi, Value.pointer (some { block := (2 : Nat), off := (0 : Nat) }), poi, poi, poi, poi, poi, Value.func (Fn.func (139 : Nat)) #[] #[Value.pointer (some { block := (3 : Nat), off := (0 : Nat) }), Value.pointer (some { block := (4 : Nat), off := (0 : Nat) })], poi, poi, poi, poi, poi, poi, poi, poi, poi, poi, poi, poi, poi, poi, poi, poi] ∧ some (AObj.row [Value.float FloatKind.f32 (1065353216 : Nat), Value.float FloatKind.f32 (1073741824 : Nat), Value.float FloatKind.f32 (1077936128 : Nat), Value.float FloatKind.f32 (1082130432 : Nat)] (1 : Nat) false false true) :: some (AObj.row [Value.int IntKind.i64 (2 : Int)] (0 : Nat) false true true) :: some (AObj.row [Value.slice none (0 : Nat) (0 : Nat)] (0 : Nat) false true true) :: some (AObj.row [Value.int IntKind.i64 (2 : Int)] (0 : Nat) false false true) :: some (AObj.row [Value.string { data := #[(114 : UInt8)] }, Value.int IntKind.i64 (100 : Int), Value.slice (some { block := (0 : Nat), off := (0 : Nat) }) (4 : Nat) (4 : Nat), Value.slice none (0 : Nat) (0 : Nat)] (0 : Nat) false false false) :: noH = some (AObj.row [Value.float FloatKind.f32 (1065353216 : Nat), Value.float FloatKind.f32 (1073741824 : Nat), Value.float FloatKind.f32 (1077936128 : Nat), Value.float FloatKind.f32 (1082130432 : Nat)] (1 : Nat) false false true) :: some (AObj.row [Value.int IntKind.i64 (2 : Int)] (0 : Nat) false true true) :: some (AObj.row [Value.slice none (0 : Nat) (0 : Nat)] (0 : Nat) false true true) :: some (AObj.row [Value.int IntKind.i64 (2 : Int)] (0 : Nat) false false true) :: some (AObj.row [Value.string { data := #[(114 : UInt8)] }, Value.int IntKind.i64 (100 : Int), Value.slice (some { block := (0 : Nat), off := (0 : Nat) }) (4 : Nat) (4 : Nat), Value.slice none (0 : Nat) (0 : Nat)] (0 : Nat) false false false) :: noH ∧ [poi, poi, poi, Value.pointer (some { block := (1 : Nat), off := (0 : Nat) }), poi, Value.pointer (some { block := (2 : Nat), off := (0 : Nat) }), poi, poi, poi, poi, poi, Value.func (Fn.func (139 : Nat)) #[] #[Value.pointer (some { block := (3 : Nat), off := (0 : Nat) }), Value.pointer (some { block := (4 : Nat), off := (0 : Nat) })], poi, poi, poi, poi, poi, poi, poi, poi, poi, poi, poi, poi, poi, poi, poi, poi] = [poi, poi, poi, Value.pointer (some { block := (1 : Nat), off := (0 : Nat) }), poi, Value.pointer (some { block := (2 : Nat), off := (0 : Nat) }), poi, poi, poi, poi, poi, Value.func (Fn.func (139 : Nat)) #[] #[Value.pointer (some { block := (3 : Nat), off := (0 : Nat) }), Value.pointer (some { block := (4 : Nat), off := (0 : Nat) })], poi, poi, poi, poi, poi, poi, poi, poi, poi, poi, poi, poi, poi, poi, poi, poi] ∧ Is ([Value.pointer (some { block := (0 : Nat), off := (0 : Nat) }), Value.pointer (some { block := (1 : Nat), off := (0 : Nat) })] = [Value.pointer (some { block := (0 : Nat), off := (0 : Nat) }), Value.pointer (some { block := (1 : Nat), off := (0 : Nat) })] ∧ some (AObj.row [Value.int IntKind.i64 (2 : Int)] (0 : Nat) false false true) :: some (AObj.row [Value.string { data := #[(114 : UInt8)] }, Value.int IntKind.i64 (100 : Int), Value.slice (some { block := (2 : Nat), off := (0 : Nat) }) (4 : Nat) (4 : Nat), Value.slice none (0 : Nat) (0 : Nat)] (0 : Nat) false false false) :: some (AObj.row [Value.float FloatKind.f32 (1065353216 : Nat), Value.float FloatKind.f32 (1073741824 : Nat), Value.float FloatKind.f32 (1077936128 : Nat), Value.float FloatKind.f32 (1082130432 : Nat)] (1 : Nat) false false true) :: noH = some (AObj.row [Value.int IntKind.i64 (2 : Int)] (0 : Nat) false false true) :: some (AObj.row [Value.string { data := #[(114 : UInt8)] }, Value.int IntKind.i64 (100 : Int), Value.slice (some { block := (2 : Nat), off := (0 : Nat) }) (4 : Nat) (4 : Nat), Value.slice none (0 : Nat) (0 : Nat)] (0 : Nat) false false false) :: some (AObj.row [Value.float FloatKind.f32 (1065353216 : Nat), Value.float FloatKind.f32 (1073741824 : Nat), Value.float FloatKind.f32 (1077936128 : Nat), Value.float FloatKind.f32 (1082130432 : Nat)] (1 : Nat) false false true) :: noH) ∧ Is True ∧ ((True ∧ (Is True → some (AObj.row [Value.float FloatKind.f32 (1065353216 : Nat), Value.float FloatKind.f32 (1073741824 : Nat), Value.float FloatKind.f32 (1077936128 : Nat), Value.float FloatKind.f32 (1082130432 : Nat)] (1 : Nat) false false true) :: some (AObj.row [Value.int IntKind.i64 (2 : Int)] (0 : Nat) false true true) :: some (AObj.row [Value.slice (some { block := (5 : Nat), off := (0 : Nat) }) (1 : Nat) (0 : Nat)] (0 : Nat) false true false) :: some (AObj.row [Value.int IntKind.i64 (2 : Int)] (0 : Nat) false false true) :: some (AObj.row [Value.string { data := #[(114 : UInt8)] }, Value.int IntKind.i64 (100 : Int), Value.slice (some { block := (0 : Nat), off := (0 : Nat) }) (4 : Nat) (4 : Nat), Value.slice none (0 : Nat) (0 : Nat)] (0 : Nat) false false false) :: some (AObj.row [Value.int IntKind.i64 (64 : Int)] (1 : Nat) true true true) :: noH = some (AObj.row [Value.float FloatKind.f32 (1065353216 : Nat), Value.float FloatKind.f32 (1073741824 : Nat), Value.float FloatKind.f32 (1077936128 : Nat), Value.float FloatKind.f32 (1082130432 : Nat)] (1 : Nat) false false true) :: some (AObj.row [Value.int IntKind.i64 (2 : Int)] (0 : Nat) false true true) :: some (AObj.row [Value.slice (some { block := (5 : Nat), off := (0 : Nat) }) (1 : Nat) (0 : Nat)] (0 : Nat) false true false) :: some (AObj.row [Value.int IntKind.i64 (2 : Int)] (0 : Nat) false false true) :: some (AObj.row [Value.string { data := #[(114 : UInt8)] }, Value.int IntKind.i64 (100 : Int), Value.slice (some { block := (0 : Nat), off := (0 : Nat) }) (4 : Nat) (4 : Nat), Value.slice none (0 : Nat) (0 : Nat)] (0 : Nat) false false false) :: some (AObj.row [Value.int IntKind.i64 (64 : Int)] (1 : Nat) true true true) :: noH ∧ Is True)) ∧ (Is True → some (AObj.row [Value.float FloatKind.f32 (1065353216 : Nat), Value.float FloatKind.f32 (1073741824 : Nat), Value.float FloatKind.f32 (1077936128 : Nat), Value.float FloatKind.f32 (1082130432 : Nat)] (1 : Nat) false false true) :: some (AObj.row [Value.int IntKind.i64 (2 : Int)] (0 : Nat) false true true) :: some (AObj.row [Value.slice (some { block := (5 : Nat), off := (0 : Nat) }) (2 : Nat) (0 : Nat)] (0 : Nat) false true false) :: some (AObj.row [Value.int IntKind.i64 (2 : Int)] (0 : Nat) false false true) :: some (AObj.row [Value.string { data := #[(114 : UInt8)] }, Value.int IntKind.i64 (100 : Int), Value.slice (some { block := (0 : Nat), off := (0 : Nat) }) (4 : Nat) (4 : Nat), Value.slice none (0 : Nat) (0 : Nat)] (0 : Nat) false false false) :: some (AObj.row [Value.int IntKind.i64 (64 : Int), Value.int IntKind.i64 (64 : Int)] (1 : Nat) true true true) :: noH = some (AObj.row [Value.float FloatKind.f32 (1065353216 : Nat), Value.float FloatKind.f32 (1073741824 : Nat), Value.float FloatKind.f32 (1077936128 : Nat), Value.float FloatKind.f32 (1082130432 : Nat)] (1 : Nat) false false true) :: some (AObj.row [Value.int IntKind.i64 (2 : Int)] (0 : Nat) false true true) :: some (AObj.row [Value.slice (some { block := (5 : Nat), off := (0 : Nat) }) (2 : Nat) (0 : Nat)] (0 : Nat) false true false) :: some (AObj.row [Value.int IntKind.i64 (2 : Int)] (0 : Nat) false false true) :: some (AObj.row [Value.string { data := #[(114 : UInt8)] }, Value.int IntKind.i64 (100 : Int), Value.slice (some { block := (0 : Nat), off := (0 : Nat) }) (4 : Nat) (4 : Nat), Value.slice none (0 : Nat) (0 : Nat)] (0 : Nat) false false false) :: some (AObj.row [Value.int IntKind.i64 (64 : Int), Value.int IntKind.i64 (64 : Int)] (1 : Nat) true true true) :: noH ∧ Is True)) ∧ (Is True → K (Value.slice (some { block := (1 : Nat), off := (0 : Nat) }) (2 : Nat) (0 : Nat)) (some (AObj.row [Value.float FloatKind.f32 (1065353216 : Nat), Value.float FloatKind.f32 (1073741824 : Nat), Value.float FloatKind.f32 (1077936128 : Nat), Value.float FloatKind.f32 (1082130432 : Nat)] (1 : Nat) false false true) :: some (AObj.row [Value.int IntKind.i64 (64 : Int), Value.int IntKind.i64 (64 : Int)] (1 : Nat) true true true) :: noH)) ∧ ∀ (_s : Empty), Is False → False) := by kernel_rfl
theorem idxW : SmallRes Tryz.prog 56 [.agg (runCells 0 4).toArray, .int .i64 2] [some (.row smpl 1 false false true)] (.slice (some ⟨1, 0, none⟩) 2 0) [some (.row smpl 1 false false true), some (.row [.int .i64 64, .int .i64 64] 1 true true true)] :=
  fnP_res hm c0_ok (hs := hsI) (by
    rw [idxW_t]
    refine ⟨rfl, rfl, rfl, ⟨rfl, rfl⟩, ⟨trivial⟩, ⟨⟨trivial, fun _ => ⟨rfl, ⟨trivial⟩⟩⟩, fun _ => ⟨rfl, ⟨trivial⟩⟩⟩, fun _ => ⟨rfl, rfl⟩, fun s => s.elim⟩)
noncomputable def orcIdx : Orc
  | [.agg ⟨[.string nm, .int .i64 fst, .slice (some ⟨0, 0, none⟩) 4 4, .slice none 0 0]⟩, .int .i64 2], [some (.row [.float .f32 a, .float .f32 b, .float .f32 c, .float .f32 d] 1 false rw true)] =>
    if nm.data.toList = [114] ∧ fst = 100 ∧ a = 1065353216 ∧ b = 1073741824 ∧ c = 1077936128 ∧ d = 1082130432 then
      some (.slice (some ⟨1, 0, none⟩) 2 0, [some (.row smpl 1 false rw true), some (.row [.int .i64 64, .int .i64 64] 1 true true true)]) else none
  | _, _ => none
theorem okIdx : Ok Tryz.prog 56 orcIdx := by
  intro args H ret H' h
  unfold orcIdx at h
  split at h
  · rename_i nm fst a b c d rw
    split at h
    · rename_i hc
      obtain ⟨h1, rfl, rfl, rfl, rfl, rfl⟩ := hc
      cases h
      have : nm = ⟨#[114]⟩ := by
        obtain ⟨⟨l⟩⟩ := nm
        simp only at h1
        subst h1; rfl
      subst this
      cases rw with
      | false => exact idxW
      | true => exact regain (H := [some (.row smpl 1 false true true)]) [0] idxW (by rfl) (by rfl)
    · cases h
  · cases h
end
end Qq
end
section
/- The table under which awake is evaluated. -/
open Go Go.Vm Go.Proofs Sp
namespace Qq
noncomputable section
noncomputable def tabA : List (Nat × Orc) := (56, orcIdx) :: (lib0 ++ t2)
theorem tabA_all : ∀ p ∈ tabA, Ok Tryz.prog p.1 p.2 := all_cons okIdx (by
  intro p hp
  rcases List.mem_append.1 hp with h | h
  · exact lib0_all p h
  · exact t2_all p h)
noncomputable def ctxA : CallF := ctx Tryz.prog tabA
theorem ctxA_ok : CallOK Tryz.prog ctxA := ctx_ok hm tabA_all
end
end Qq
end
section
/- Calls that awake makes, evaluated: part 1. -/
open Go Go.Vm Go.Proofs Sp
namespace Qq
noncomputable section
noncomputable def awk0 : Key := ([], noH)
noncomputable def awr0 : Ans := (Value.agg #[Value.string { data := #[(114 : UInt8)] }, Value.int IntKind.i64 (100 : Int), Value.slice (some { block := (0 : Nat), off := (0 : Nat) }) (4 : Nat) (4 : Nat), Value.slice none (0 : Nat) (0 : Nat)], some (AObj.row [Value.float FloatKind.f32 (1065353216 : Nat), Value.float FloatKind.f32 (1073741824 : Nat), Value.float FloatKind.f32 (1077936128 : Nat), Value.float FloatKind.f32 (1082130432 : Nat)] (1 : Nat) false true true) :: noH)
theorem awt0 : runT Tryz.prog ctxA 14 awk0 = some awr0 := by kernel_rfl
noncomputable def awk1 : Key := ([Value.agg #[Value.string { data := #[(114 : UInt8)] }, Value.int IntKind.i64 (100 : Int), Value.slice (some { block := (0 : Nat), off := (0 : Nat) }) (4 : Nat) (4 : Nat), Value.slice none (0 : Nat) (0 : Nat)], Value.agg #[Value.int IntKind.i64 (100 : Int), Value.int IntKind.i64 (104 : Int)]], some (AObj.row [Value.float FloatKind.f32 (1065353216 : Nat), Value.float FloatKind.f32 (1073741824 : Nat), Value.float FloatKind.f32 (1077936128 : Nat), Value.float FloatKind.f32 (1082130432 : Nat)] (1 : Nat) false true true) :: noH)
noncomputable def awr1 : Ans := (Value.tuple #[Value.agg #[Value.int IntKind.i64 (4 : Int), Value.int IntKind.i64 (160 : Int), Value.int IntKind.i64 (7680 : Int)], Value.int IntKind.i64 (0 : Int)], some (AObj.row [Value.float FloatKind.f32 (1065353216 : Nat), Value.float FloatKind.f32 (1073741824 : Nat), Value.float FloatKind.f32 (1077936128 : Nat), Value.float FloatKind.f32 (1082130432 : Nat)] (1 : Nat) false true true) :: noH)
theorem awt1 : runT Tryz.prog ctxA 13 awk1 = some awr1 := by kernel_rfl
noncomputable def awk2 : Key := ([Value.agg #[Value.int IntKind.i64 (4 : Int), Value.int IntKind.i64 (160 : Int), Value.int IntKind.i64 (7680 : Int)]], noH)
noncomputable def awr2 : Ans := (Value.tuple #[Value.agg #[Value.int IntKind.i64 (320 : Int), Value.int IntKind.i64 (1 : Int)], Value.int IntKind.i64 (0 : Int)], noH)
theorem awt2 : runT Tryz.prog ctxA 15 awk2 = some awr2 := by kernel_rfl
noncomputable def awk3 : Key := ([Value.agg #[Value.string { data := #[(114 : UInt8)] }, Value.int IntKind.i64 (100 : Int), Value.slice (some { block := (0 : Nat), off := (0 : Nat) }) (4 : Nat) (4 : Nat), Value.slice none (0 : Nat) (0 : Nat)], Value.int IntKind.i64 (2 : Int)], some (AObj.row [Value.float FloatKind.f32 (1065353216 : Nat), Value.float FloatKind.f32 (1073741824 : Nat), Value.float FloatKind.f32 (1077936128 : Nat), Value.float FloatKind.f32 (1082130432 : Nat)] (1 : Nat) false true true) :: noH)
noncomputable def awr3 : Ans := (Value.tuple #[Value.slice (some { block := (1 : Nat), off := (0 : Nat) }) (2 : Nat) (0 : Nat), Value.int IntKind.i64 (0 : Int)], some (AObj.row [Value.float FloatKind.f32 (1065353216 : Nat), Value.float FloatKind.f32 (1073741824 : Nat), Value.float FloatKind.f32 (1077936128 : Nat), Value.float FloatKind.f32 (1082130432 : Nat)] (1 : Nat) false true true) :: some (AObj.row [Value.int IntKind.i64 (64 : Int), Value.int IntKind.i64 (64 : Int)] (1 : Nat) true true true) :: noH)
theorem awt3 : runT Tryz.prog ctxA 16 awk3 = some awr3 := by kernel_rfl
noncomputable def awk4 : Key := ([Value.agg #[Value.string { data := #[(114 : UInt8)] }, Value.int IntKind.i64 (100 : Int), Value.slice (some { block := (0 : Nat), off := (0 : Nat) }) (4 : Nat) (4 : Nat), Value.slice none (0 : Nat) (0 : Nat)], Value.int IntKind.i64 (2 : Int)], some (AObj.row [Value.float FloatKind.f32 (1065353216 : Nat), Value.float FloatKind.f32 (1073741824 : Nat), Value.float FloatKind.f32 (1077936128 : Nat), Value.float FloatKind.f32 (1082130432 : Nat)] (1 : Nat) false true true) :: noH)
noncomputable def awr4 : Ans := (Value.tuple #[Value.int IntKind.i64 (0 : Int), Value.int IntKind.i64 (64 : Int), Value.int IntKind.i64 (0 : Int)], some (AObj.row [Value.float FloatKind.f32 (1065353216 : Nat), Value.float FloatKind.f32 (1073741824 : Nat), Value.float FloatKind.f32 (1077936128 : Nat), Value.float FloatKind.f32 (1082130432 : Nat)] (1 : Nat) false true true) :: noH)
theorem awt4 : runT Tryz.prog ctxA 17 awk4 = some awr4 := by kernel_rfl
noncomputable def awk5 : Key := ([Value.agg #[Value.string { data := #[(114 : UInt8)] }, Value.int IntKind.i64 (100 : Int), Value.slice (some { block := (0 : Nat), off := (0 : Nat) }) (4 : Nat) (4 : Nat), Value.slice none (0 : Nat) (0 : Nat)], Value.int IntKind.i64 (2 : Int), Value.int IntKind.i64 (60 : Int)], some (AObj.row [Value.float FloatKind.f32 (1065353216 : Nat), Value.float FloatKind.f32 (1073741824 : Nat), Value.float FloatKind.f32 (1077936128 : Nat), Value.float FloatKind.f32 (1082130432 : Nat)] (1 : Nat) false true true) :: noH)
noncomputable def awr5 : Ans := (Value.tuple #[Value.slice (some { block := (1 : Nat), off := (0 : Nat) }) (1 : Nat) (0 : Nat), Value.int IntKind.i64 (0 : Int)], some (AObj.row [Value.float FloatKind.f32 (1065353216 : Nat), Value.float FloatKind.f32 (1073741824 : Nat), Value.float FloatKind.f32 (1077936128 : Nat), Value.float FloatKind.f32 (1082130432 : Nat)] (1 : Nat) false true true) :: some (AObj.row [Value.int IntKind.i64 (100 : Int), Value.int IntKind.i64 (104 : Int)] (2 : Nat) true true true) :: noH)
theorem awt5 : runT Tryz.prog ctxA 18 awk5 = some awr5 := by kernel_rfl
noncomputable def awk6 : Key := ([], noH)
noncomputable def awr6 : Ans := (Value.agg #[Value.string { data := #[(110 : UInt8), (111 : UInt8), (114 : UInt8), (116 : UInt8), (104 : UInt8)] }, Value.slice (some { block := (0 : Nat), off := (0 : Nat) }) (6 : Nat) (6 : Nat), Value.slice (some { block := (1 : Nat), off := (0 : Nat) }) (1 : Nat) (1 : Nat)], some (AObj.row [Value.int IntKind.i64 (0 : Int), Value.int IntKind.i64 (100 : Int), Value.int IntKind.i64 (10 : Int), Value.int IntKind.i64 (120 : Int), Value.int IntKind.i64 (20 : Int), Value.int IntKind.i64 (140 : Int), Value.int IntKind.i64 (30 : Int), Value.int IntKind.i64 (60 : Int), Value.int IntKind.i64 (40 : Int), Value.int IntKind.i64 (66 : Int), Value.int IntKind.i64 (50 : Int), Value.int IntKind.i64 (75 : Int)] (2 : Nat) false true true) :: some (AObj.row [Value.int IntKind.i64 (25 : Int), Value.string { data := #[(116 : UInt8), (97 : UInt8), (109 : UInt8), (112 : UInt8), (105 : UInt8), (110 : UInt8), (103 : UInt8)] }] (2 : Nat) false true true) :: noH)
theorem awt6 : runT Tryz.prog ctxA 20 awk6 = some awr6 := by kernel_rfl
noncomputable def awk7 : Key := ([Value.agg #[Value.string { data := #[(110 : UInt8), (111 : UInt8), (114 : UInt8), (116 : UInt8), (104 : UInt8)] }, Value.slice (some { block := (0 : Nat), off := (0 : Nat) }) (6 : Nat) (6 : Nat), Value.slice (some { block := (1 : Nat), off := (0 : Nat) }) (1 : Nat) (1 : Nat)]], some (AObj.row [Value.int IntKind.i64 (0 : Int), Value.int IntKind.i64 (100 : Int), Value.int IntKind.i64 (10 : Int), Value.int IntKind.i64 (120 : Int), Value.int IntKind.i64 (20 : Int), Value.int IntKind.i64 (140 : Int), Value.int IntKind.i64 (30 : Int), Value.int IntKind.i64 (60 : Int), Value.int IntKind.i64 (40 : Int), Value.int IntKind.i64 (66 : Int), Value.int IntKind.i64 (50 : Int), Value.int IntKind.i64 (75 : Int)] (2 : Nat) false true true) :: some (AObj.row [Value.int IntKind.i64 (25 : Int), Value.string { data := #[(116 : UInt8), (97 : UInt8), (109 : UInt8), (112 : UInt8), (105 : UInt8), (110 : UInt8), (103 : UInt8)] }] (2 : Nat) false true true) :: noH)
noncomputable def awr7 : Ans := (Value.tuple #[Value.slice (some { block := (2 : Nat), off := (0 : Nat) }) (2 : Nat) (0 : Nat), Value.int IntKind.i64 (0 : Int)], some (AObj.row [Value.int IntKind.i64 (0 : Int), Value.int IntKind.i64 (100 : Int), Value.int IntKind.i64 (10 : Int), Value.int IntKind.i64 (120 : Int), Value.int IntKind.i64 (20 : Int), Value.int IntKind.i64 (140 : Int), Value.int IntKind.i64 (30 : Int), Value.int IntKind.i64 (60 : Int), Value.int IntKind.i64 (40 : Int), Value.int IntKind.i64 (66 : Int), Value.int IntKind.i64 (50 : Int), Value.int IntKind.i64 (75 : Int)] (2 : Nat) false true true) :: some (AObj.row [Value.int IntKind.i64 (25 : Int), Value.string { data := #[(116 : UInt8), (97 : UInt8), (109 : UInt8), (112 : UInt8), (105 : UInt8), (110 : UInt8), (103 : UInt8)] }] (2 : Nat) false true true) :: some (AObj.row [Value.int IntKind.i64 (0 : Int), Value.int IntKind.i64 (3 : Int), Value.int IntKind.i64 (3 : Int), Value.int IntKind.i64 (6 : Int)] (2 : Nat) true true true) :: noH)
theorem awt7 : runT Tryz.prog ctxA 19 awk7 = some awr7 := by kernel_rfl
noncomputable def awk8 : Key := ([Value.agg #[Value.string { data := #[(110 : UInt8), (111 : UInt8), (114 : UInt8), (116 : UInt8), (104 : UInt8)] }, Value.slice (some { block := (0 : Nat), off := (0 : Nat) }) (6 : Nat) (6 : Nat), Value.slice (some { block := (1 : Nat), off := (0 : Nat) }) (1 : Nat) (1 : Nat)], Value.int IntKind.i64 (0 : Int)], some (AObj.row [Value.int IntKind.i64 (0 : Int), Value.int IntKind.i64 (100 : Int), Value.int IntKind.i64 (10 : Int), Value.int IntKind.i64 (120 : Int), Value.int IntKind.i64 (20 : Int), Value.int IntKind.i64 (140 : Int), Value.int IntKind.i64 (30 : Int), Value.int IntKind.i64 (60 : Int), Value.int IntKind.i64 (40 : Int), Value.int IntKind.i64 (66 : Int), Value.int IntKind.i64 (50 : Int), Value.int IntKind.i64 (75 : Int)] (2 : Nat) false true true) :: some (AObj.row [Value.int IntKind.i64 (25 : Int), Value.string { data := #[(116 : UInt8), (97 : UInt8), (109 : UInt8), (112 : UInt8), (105 : UInt8), (110 : UInt8), (103 : UInt8)] }] (2 : Nat) false true true) :: noH)
noncomputable def awr8 : Ans := (Value.tuple #[Value.agg #[Value.int IntKind.i64 (0 : Int), Value.int IntKind.i64 (100 : Int), Value.int IntKind.i64 (1 : Int), Value.int IntKind.i64 (2 : Int), Value.int IntKind.i64 (1 : Int)], Value.int IntKind.i64 (0 : Int)], some (AObj.row [Value.int IntKind.i64 (0 : Int), Value.int IntKind.i64 (100 : Int), Value.int IntKind.i64 (10 : Int), Value.int IntKind.i64 (120 : Int), Value.int IntKind.i64 (20 : Int), Value.int IntKind.i64 (140 : Int), Value.int IntKind.i64 (30 : Int), Value.int IntKind.i64 (60 : Int), Value.int IntKind.i64 (40 : Int), Value.int IntKind.i64 (66 : Int), Value.int IntKind.i64 (50 : Int), Value.int IntKind.i64 (75 : Int)] (2 : Nat) false true true) :: some (AObj.row [Value.int IntKind.i64 (25 : Int), Value.string { data := #[(116 : UInt8), (97 : UInt8), (109 : UInt8), (112 : UInt8), (105 : UInt8), (110 : UInt8), (103 : UInt8)] }] (2 : Nat) false true true) :: noH)
theorem awt8 : runT Tryz.prog ctxA 21 awk8 = some awr8 := by kernel_rfl
noncomputable def awk9 : Key := ([Value.agg #[Value.string { data := #[(110 : UInt8), (111 : UInt8), (114 : UInt8), (116 : UInt8), (104 : UInt8)] }, Value.slice (some { block := (0 : Nat), off := (0 : Nat) }) (6 : Nat) (6 : Nat), Value.slice (some { block := (1 : Nat), off := (0 : Nat) }) (1 : Nat) (1 : Nat)], Value.int IntKind.i64 (1 : Int)], some (AObj.row [Value.int IntKind.i64 (0 : Int), Value.int IntKind.i64 (100 : Int), Value.int IntKind.i64 (10 : Int), Value.int IntKind.i64 (120 : Int), Value.int IntKind.i64 (20 : Int), Value.int IntKind.i64 (140 : Int), Value.int IntKind.i64 (30 : Int), Value.int IntKind.i64 (60 : Int), Value.int IntKind.i64 (40 : Int), Value.int IntKind.i64 (66 : Int), Value.int IntKind.i64 (50 : Int), Value.int IntKind.i64 (75 : Int)] (2 : Nat) false true true) :: some (AObj.row [Value.int IntKind.i64 (25 : Int), Value.string { data := #[(116 : UInt8), (97 : UInt8), (109 : UInt8), (112 : UInt8), (105 : UInt8), (110 : UInt8), (103 : UInt8)] }] (2 : Nat) false true true) :: noH)
noncomputable def awr9 : Ans := (Value.tuple #[Value.agg #[Value.int IntKind.i64 (30 : Int), Value.int IntKind.i64 (119 : Int), Value.int IntKind.i64 (2 : Int), Value.int IntKind.i64 (3 : Int), Value.int IntKind.i64 (4 : Int)], Value.int IntKind.i64 (0 : Int)], some (AObj.row [Value.int IntKind.i64 (0 : Int), Value.int IntKind.i64 (100 : Int), Value.int IntKind.i64 (10 : Int), Value.int IntKind.i64 (120 : Int), Value.int IntKind.i64 (20 : Int), Value.int IntKind.i64 (140 : Int), Value.int IntKind.i64 (30 : Int), Value.int IntKind.i64 (60 : Int), Value.int IntKind.i64 (40 : Int), Value.int IntKind.i64 (66 : Int), Value.int IntKind.i64 (50 : Int), Value.int IntKind.i64 (75 : Int)] (2 : Nat) false true true) :: some (AObj.row [Value.int IntKind.i64 (25 : Int), Value.string { data := #[(116 : UInt8), (97 : UInt8), (109 : UInt8), (112 : UInt8), (105 : UInt8), (110 : UInt8), (103 : UInt8)] }] (2 : Nat) false true true) :: noH)
theorem awt9 : runT Tryz.prog ctxA 21 awk9 = some awr9 := by kernel_rfl
noncomputable def awk10 : Key := ([Value.agg #[Value.string { data := #[(110 : UInt8), (111 : UInt8), (114 : UInt8), (116 : UInt8), (104 : UInt8)] }, Value.slice (some { block := (0 : Nat), off := (0 : Nat) }) (6 : Nat) (6 : Nat), Value.slice (some { block := (1 : Nat), off := (0 : Nat) }) (1 : Nat) (1 : Nat)], Value.int IntKind.i64 (0 : Int), Value.int IntKind.i64 (25 : Int)], some (AObj.row [Value.int IntKind.i64 (0 : Int), Value.int IntKind.i64 (100 : Int), Value.int IntKind.i64 (10 : Int), Value.int IntKind.i64 (120 : Int), Value.int IntKind.i64 (20 : Int), Value.int IntKind.i64 (140 : Int), Value.int IntKind.i64 (30 : Int), Value.int IntKind.i64 (60 : Int), Value.int IntKind.i64 (40 : Int), Value.int IntKind.i64 (66 : Int), Value.int IntKind.i64 (50 : Int), Value.int IntKind.i64 (75 : Int)] (2 : Nat) false true true) :: some (AObj.row [Value.int IntKind.i64 (25 : Int), Value.string { data := #[(116 : UInt8), (97 : UInt8), (109 : UInt8), (112 : UInt8), (105 : UInt8), (110 : UInt8), (103 : UInt8)] }] (2 : Nat) false true true) :: noH)
noncomputable def awr10 : Ans := (Value.tuple #[Value.agg #[Value.int IntKind.i64 (150 : Int), Value.int IntKind.i64 (1 : Int)], Value.int IntKind.i64 (0 : Int)], some (AObj.row [Value.int IntKind.i64 (0 : Int), Value.int IntKind.i64 (100 : Int), Value.int IntKind.i64 (10 : Int), Value.int IntKind.i64 (120 : Int), Value.int IntKind.i64 (20 : Int), Value.int IntKind.i64 (140 : Int), Value.int IntKind.i64 (30 : Int), Value.int IntKind.i64 (60 : Int), Value.int IntKind.i64 (40 : Int), Value.int IntKind.i64 (66 : Int), Value.int IntKind.i64 (50 : Int), Value.int IntKind.i64 (75 : Int)] (2 : Nat) false true true) :: some (AObj.row [Value.int IntKind.i64 (25 : Int), Value.string { data := #[(116 : UInt8), (97 : UInt8), (109 : UInt8), (112 : UInt8), (105 : UInt8), (110 : UInt8), (103 : UInt8)] }] (2 : Nat) false true true) :: noH)
theorem awt10 : runT Tryz.prog ctxA 22 awk10 = some awr10 := by kernel_rfl
noncomputable def awk11 : Key := ([Value.agg #[Value.string { data := #[(110 : UInt8), (111 : UInt8), (114 : UInt8), (116 : UInt8), (104 : UInt8)] }, Value.slice (some { block := (0 : Nat), off := (0 : Nat) }) (6 : Nat) (6 : Nat), Value.slice (some { block := (1 : Nat), off := (0 : Nat) }) (1 : Nat) (1 : Nat)], Value.int IntKind.i64 (0 : Int)], some (AObj.row [Value.int IntKind.i64 (0 : Int), Value.int IntKind.i64 (100 : Int), Value.int IntKind.i64 (10 : Int), Value.int IntKind.i64 (120 : Int), Value.int IntKind.i64 (20 : Int), Value.int IntKind.i64 (140 : Int), Value.int IntKind.i64 (30 : Int), Value.int IntKind.i64 (60 : Int), Value.int IntKind.i64 (40 : Int), Value.int IntKind.i64 (66 : Int), Value.int IntKind.i64 (50 : Int), Value.int IntKind.i64 (75 : Int)] (2 : Nat) false true true) :: some (AObj.row [Value.int IntKind.i64 (25 : Int), Value.string { data := #[(116 : UInt8), (97 : UInt8), (109 : UInt8), (112 : UInt8), (105 : UInt8), (110 : UInt8), (103 : UInt8)] }] (2 : Nat) false true true) :: noH)
noncomputable def awr11 : Ans := (Value.tuple #[Value.agg #[Value.int IntKind.i64 (150 : Int), Value.int IntKind.i64 (1 : Int), Value.int IntKind.i64 (223 : Int), Value.int IntKind.i64 (4 : Int)], Value.int IntKind.i64 (0 : Int)], some (AObj.row [Value.int IntKind.i64 (0 : Int), Value.int IntKind.i64 (100 : Int), Value.int IntKind.i64 (10 : Int), Value.int IntKind.i64 (120 : Int), Value.int IntKind.i64 (20 : Int), Value.int IntKind.i64 (140 : Int), Value.int IntKind.i64 (30 : Int), Value.int IntKind.i64 (60 : Int), Value.int IntKind.i64 (40 : Int), Value.int IntKind.i64 (66 : Int), Value.int IntKind.i64 (50 : Int), Value.int IntKind.i64 (75 : Int)] (2 : Nat) false true true) :: some (AObj.row [Value.int IntKind.i64 (25 : Int), Value.string { data := #[(116 : UInt8), (97 : UInt8), (109 : UInt8), (112 : UInt8), (105 : UInt8), (110 : UInt8), (103 : UInt8)] }] (2 : Nat) false true true) :: noH)
theorem awt11 : runT Tryz.prog ctxA 23 awk11 = some awr11 := by kernel_rfl
noncomputable def awk12 : Key := ([Value.agg #[Value.string { data := #[(110 : UInt8), (111 : UInt8), (114 : UInt8), (116 : UInt8), (104 : UInt8)] }, Value.slice (some { block := (0 : Nat), off := (0 : Nat) }) (6 : Nat) (6 : Nat), Value.slice (some { block := (1 : Nat), off := (0 : Nat) }) (1 : Nat) (1 : Nat)], Value.int IntKind.i64 (0 : Int), Value.int IntKind.i64 (160 : Int)], some (AObj.row [Value.int IntKind.i64 (0 : Int), Value.int IntKind.i64 (100 : Int), Value.int IntKind.i64 (10 : Int), Value.int IntKind.i64 (120 : Int), Value.int IntKind.i64 (20 : Int), Value.int IntKind.i64 (140 : Int), Value.int IntKind.i64 (30 : Int), Value.int IntKind.i64 (60 : Int), Value.int IntKind.i64 (40 : Int), Value.int IntKind.i64 (66 : Int), Value.int IntKind.i64 (50 : Int), Value.int IntKind.i64 (75 : Int)] (2 : Nat) false true true) :: some (AObj.row [Value.int IntKind.i64 (25 : Int), Value.string { data := #[(116 : UInt8), (97 : UInt8), (109 : UInt8), (112 : UInt8), (105 : UInt8), (110 : UInt8), (103 : UInt8)] }] (2 : Nat) false true true) :: noH)
noncomputable def awr12 : Ans := (Value.tuple #[Value.int IntKind.i64 (30 : Int), Value.int IntKind.i64 (0 : Int)], some (AObj.row [Value.int IntKind.i64 (0 : Int), Value.int IntKind.i64 (100 : Int), Value.int IntKind.i64 (10 : Int), Value.int IntKind.i64 (120 : Int), Value.int IntKind.i64 (20 : Int), Value.int IntKind.i64 (140 : Int), Value.int IntKind.i64 (30 : Int), Value.int IntKind.i64 (60 : Int), Value.int IntKind.i64 (40 : Int), Value.int IntKind.i64 (66 : Int), Value.int IntKind.i64 (50 : Int), Value.int IntKind.i64 (75 : Int)] (2 : Nat) false true true) :: some (AObj.row [Value.int IntKind.i64 (25 : Int), Value.string { data := #[(116 : UInt8), (97 : UInt8), (109 : UInt8), (112 : UInt8), (105 : UInt8), (110 : UInt8), (103 : UInt8)] }] (2 : Nat) false true true) :: noH)
theorem awt12 : runT Tryz.prog ctxA 24 awk12 = some awr12 := by kernel_rfl
noncomputable def awk13 : Key := ([Value.agg #[Value.string { data := #[(110 : UInt8), (111 : UInt8), (114 : UInt8), (116 : UInt8), (104 : UInt8)] }, Value.slice (some { block := (0 : Nat), off := (0 : Nat) }) (6 : Nat) (6 : Nat), Value.slice (some { block := (1 : Nat), off := (0 : Nat) }) (1 : Nat) (1 : Nat)], Value.int IntKind.i64 (1 : Int), Value.int IntKind.i64 (90 : Int)], some (AObj.row [Value.int IntKind.i64 (0 : Int), Value.int IntKind.i64 (100 : Int), Value.int IntKind.i64 (10 : Int), Value.int IntKind.i64 (120 : Int), Value.int IntKind.i64 (20 : Int), Value.int IntKind.i64 (140 : Int), Value.int IntKind.i64 (30 : Int), Value.int IntKind.i64 (60 : Int), Value.int IntKind.i64 (40 : Int), Value.int IntKind.i64 (66 : Int), Value.int IntKind.i64 (50 : Int), Value.int IntKind.i64 (75 : Int)] (2 : Nat) false true true) :: some (AObj.row [Value.int IntKind.i64 (25 : Int), Value.string { data := #[(116 : UInt8), (97 : UInt8), (109 : UInt8), (112 : UInt8), (105 : UInt8), (110 : UInt8), (103 : UInt8)] }] (2 : Nat) false true true) :: noH)
noncomputable def awr13 : Ans := (Value.tuple #[Value.int IntKind.i64 (71 : Int), Value.int IntKind.i64 (0 : Int)], some (AObj.row [Value.int IntKind.i64 (0 : Int), Value.int IntKind.i64 (100 : Int), Value.int IntKind.i64 (10 : Int), Value.int IntKind.i64 (120 : Int), Value.int IntKind.i64 (20 : Int), Value.int IntKind.i64 (140 : Int), Value.int IntKind.i64 (30 : Int), Value.int IntKind.i64 (60 : Int), Value.int IntKind.i64 (40 : Int), Value.int IntKind.i64 (66 : Int), Value.int IntKind.i64 (50 : Int), Value.int IntKind.i64 (75 : Int)] (2 : Nat) false true true) :: some (AObj.row [Value.int IntKind.i64 (25 : Int), Value.string { data := #[(116 : UInt8), (97 : UInt8), (109 : UInt8), (112 : UInt8), (105 : UInt8), (110 : UInt8), (103 : UInt8)] }] (2 : Nat) false true true) :: noH)
theorem awt13 : runT Tryz.prog ctxA 24 awk13 = some awr13 := by kernel_rfl
noncomputable def awk14 : Key := ([Value.int IntKind.i64 (320 : Int)], noH)
noncomputable def awr14 : Ans := (Value.agg #[Value.int IntKind.i64 (320 : Int), Value.int IntKind.i64 (1 : Int)], noH)
theorem awt14 : runT Tryz.prog ctxA 25 awk14 = some awr14 := by kernel_rfl
noncomputable def awk15 : Key := ([Value.slice (some { block := (0 : Nat), off := (0 : Nat) }) (2 : Nat) (0 : Nat), Value.slice (some { block := (1 : Nat), off := (0 : Nat) }) (2 : Nat) (2 : Nat)], some (AObj.row [Value.int IntKind.i64 (64 : Int), Value.int IntKind.i64 (64 : Int)] (1 : Nat) true true true) :: some (AObj.row [Value.int IntKind.i64 (64 : Int), Value.int IntKind.i64 (64 : Int)] (1 : Nat) false true true) :: noH)
noncomputable def awr15 : Ans := (Value.bool true, some (AObj.row [Value.int IntKind.i64 (64 : Int), Value.int IntKind.i64 (64 : Int)] (1 : Nat) true true true) :: some (AObj.row [Value.int IntKind.i64 (64 : Int), Value.int IntKind.i64 (64 : Int)] (1 : Nat) false true true) :: noH)
theorem awt15 : runT Tryz.prog ctxA 26 awk15 = some awr15 := by kernel_rfl
noncomputable def awk16 : Key := ([Value.slice (some { block := (0 : Nat), off := (0 : Nat) }) (1 : Nat) (0 : Nat), Value.slice (some { block := (1 : Nat), off := (0 : Nat) }) (1 : Nat) (1 : Nat)], some (AObj.row [Value.int IntKind.i64 (100 : Int), Value.int IntKind.i64 (104 : Int)] (2 : Nat) true true true) :: some (AObj.row [Value.int IntKind.i64 (100 : Int), Value.int IntKind.i64 (104 : Int)] (2 : Nat) false true true) :: noH)
noncomputable def awr16 : Ans := (Value.bool true, some (AObj.row [Value.int IntKind.i64 (100 : Int), Value.int IntKind.i64 (104 : Int)] (2 : Nat) true true true) :: some (AObj.row [Value.int IntKind.i64 (100 : Int), Value.int IntKind.i64 (104 : Int)] (2 : Nat) false true true) :: noH)
theorem awt16 : runT Tryz.prog ctxA 27 awk16 = some awr16 := by kernel_rfl
noncomputable def awk17 : Key := ([Value.slice (some { block := (0 : Nat), off := (0 : Nat) }) (2 : Nat) (0 : Nat), Value.slice (some { block := (1 : Nat), off := (0 : Nat) }) (2 : Nat) (2 : Nat)], some (AObj.row [Value.int IntKind.i64 (0 : Int), Value.int IntKind.i64 (3 : Int), Value.int IntKind.i64 (3 : Int), Value.int IntKind.i64 (6 : Int)] (2 : Nat) true true true) :: some (AObj.row [Value.int IntKind.i64 (0 : Int), Value.int IntKind.i64 (3 : Int), Value.int IntKind.i64 (3 : Int), Value.int IntKind.i64 (6 : Int)] (2 : Nat) false true true) :: noH)
noncomputable def awr17 : Ans := (Value.bool true, some (AObj.row [Value.int IntKind.i64 (0 : Int), Value.int IntKind.i64 (3 : Int), Value.int IntKind.i64 (3 : Int), Value.int IntKind.i64 (6 : Int)] (2 : Nat) true true true) :: some (AObj.row [Value.int IntKind.i64 (0 : Int), Value.int IntKind.i64 (3 : Int), Value.int IntKind.i64 (3 : Int), Value.int IntKind.i64 (6 : Int)] (2 : Nat) false true true) :: noH)
theorem awt17 : runT Tryz.prog ctxA 27 awk17 = some awr17 := by kernel_rfl
noncomputable def awk18 : Key := ([Value.int IntKind.i64 (100 : Int)], noH)
noncomputable def awr18 : Ans := (Value.agg #[Value.int IntKind.i64 (100 : Int), Value.int IntKind.i64 (1 : Int)], noH)
theorem awt18 : runT Tryz.prog ctxA 25 awk18 = some awr18 := by kernel_rfl
noncomputable def awk19 : Key := ([Value.int IntKind.i64 (2 : Int)], noH)
noncomputable def awr19 : Ans := (Value.agg #[Value.int IntKind.i64 (2 : Int), Value.int IntKind.i64 (1 : Int)], noH)
theorem awt19 : runT Tryz.prog ctxA 25 awk19 = some awr19 := by kernel_rfl
noncomputable def awk20 : Key := ([Value.int IntKind.i64 (119 : Int), Value.int IntKind.i64 (2 : Int)], noH)
noncomputable def awr20 : Ans := (Value.agg #[Value.int IntKind.i64 (119 : Int), Value.int IntKind.i64 (2 : Int)], noH)
theorem awt20 : runT Tryz.prog ctxA 28 awk20 = some awr20 := by kernel_rfl
noncomputable def awk21 : Key := ([Value.int IntKind.i64 (3 : Int), Value.int IntKind.i64 (4 : Int)], noH)
noncomputable def awr21 : Ans := (Value.agg #[Value.int IntKind.i64 (3 : Int), Value.int IntKind.i64 (4 : Int)], noH)
theorem awt21 : runT Tryz.prog ctxA 28 awk21 = some awr21 := by kernel_rfl
noncomputable def awk22 : Key := ([Value.int IntKind.i64 (150 : Int)], noH)
noncomputable def awr22 : Ans := (Value.agg #[Value.int IntKind.i64 (150 : Int), Value.int IntKind.i64 (1 : Int)], noH)
theorem awt22 : runT Tryz.prog ctxA 25 awk22 = some awr22 := by kernel_rfl
noncomputable def awk23 : Key := ([Value.int IntKind.i64 (223 : Int), Value.int IntKind.i64 (4 : Int)], noH)
noncomputable def awr23 : Ans := (Value.agg #[Value.int IntKind.i64 (223 : Int), Value.int IntKind.i64 (4 : Int)], noH)
theorem awt23 : runT Tryz.prog ctxA 28 awk23 = some awr23 := by kernel_rfl
end
end Qq
end
