/- The law about sections. -/
import Derived.Test.YtaigknknfaeajaaGreatDoorZG
import Derived.Test.YtaigknknfaeajaaGreatDoorQE
open Go Go.Vm Go.Proofs Sp
namespace Qq
noncomputable section

noncomputable def lpL5 (nm : ByteArray) (zs : List Int) (ks : List (Int × ByteArray)) (n c k d : Nat) : Lp where
  σ := Nat × List Int
  E s := slots 42 [(1, .pointer (some ⟨2, 0, none⟩)), (3, .slice (some ⟨3, 0, none⟩) s.1 0), (4, .int .i64 (secE nm zs n ks k)), (5, .int .i64 (secE nm zs n ks k)), (6, .slice (some ⟨4, 0, none⟩) s.1 0)]
  Hp s := hp2 zs ks false false false false [secR nm n c k d, lst2 s.2, lst2 s.2]
  I s := s.2.length = s.1 * 2 ∧ s.1 ≤ 100000
  m _ := 0
noncomputable def hsL5 (zs : List Int) (ks : List (Int × ByteArray)) (nm : ByteArray) (n c k d : Nat) : Hs Tryz.prog where
  cut x := if x = 8 then some (lpL5 nm zs ks n c k d) else none
  cl _ := keep 42 [1, 3, 4, 5, 6]
  nl _ := [.slot 6 2]
  au := auCalls [(35, hCa Tryz.prog 35 (orcShV zs ks) (short_okV zs ks)), (37, hCa Tryz.prog 37 (orcOwnV zs ks) (own_okV zs ks)), (36, hCa Tryz.prog 36 (orcPPV zs ks) (pp_okV zs ks)), (38, hCa Tryz.prog 38 (orcCkV zs ks) (ckR_okV zs ks)),
    (39, hCa Tryz.prog 39 (orcPerRV zs ks) (perR_okV zs ks)), (40, hCa Tryz.prog 40 (orcCkV zs ks) (ck_okV zs ks)), (34, hCa Tryz.prog 34 orcSameX same_okX)]
noncomputable def l5 : List (Nat × Orc) := [(18, orcTrue)]
noncomputable def cl5 : CallF := ctx Tryz.prog l5
theorem law5_t (nm : ByteArray) (zs : List Int) (ks : List (Int × ByteArray)) (n : Nat) (c : Nat) (k : Nat) (d : Nat) (K : Value → Heap → Prop) :
    (fnP Tryz.prog cl5 (hsL5 zs ks nm n c k d) (5 : FuncId) [Value.agg (List.toArray (secA nm (0 : Nat) n c (1 : Nat) k d))] (hp2 zs ks false false false false []) K) =
    (Is (ints zs = ints zs ∧ acs ks = acs ks ∧ List.length ks = k ∧ n ≤ (9223372036854775807 : Nat) ∧ k ≤ (9223372036854775807 : Nat)) ∧ br (!shortS nm n ks k) (K (Value.bool true) (some (AObj.row (ints zs) (2 : Nat) false false true) :: some (AObj.row (acs ks) (2 : Nat) false false true) :: noH)) (Is (isSec zs ks n k (ints zs) (acs ks)) ∧ Is (isSec zs ks n k (ints zs) (acs ks)) ∧ Is (isSec zs ks n k (ints zs) (acs ks)) ∧ br (secE nm zs n ks k == (0 : Int)) (Is (isSec zs ks n k (ints zs) (acs ks)) ∧ ∃ s, Is (List.length (Prod.snd s) = Prod.fst s * (2 : Nat) ∧ Prod.fst s ≤ (100000 : Nat)) ∧ [poi, Value.pointer (some { block := (2 : Nat), off := (0 : Nat) }), poi, Value.slice (some { block := (3 : Nat), off := (0 : Nat) }) (perN (secE nm zs n ks k) k) (0 : Nat), Value.int IntKind.i64 (secE nm zs n ks k), Value.int IntKind.i64 (secE nm zs n ks k), Value.slice (some { block := (4 : Nat), off := (0 : Nat) }) (k + (1 : Nat)) (0 : Nat), poi, poi, poi, poi, poi, poi, poi, poi, poi, poi, poi, poi, poi, poi, poi, poi, poi, poi, poi, poi, poi, poi, poi, poi, poi, poi, poi, poi, poi, poi, poi, poi, poi, poi, poi] = [poi, Value.pointer (some { block := (2 : Nat), off := (0 : Nat) }), poi, Value.slice (some { block := (3 : Nat), off := (0 : Nat) }) (Prod.fst s) (0 : Nat), Value.int IntKind.i64 (secE nm zs n ks k), Value.int IntKind.i64 (secE nm zs n ks k), Value.slice (some { block := (4 : Nat), off := (0 : Nat) }) (Prod.fst s) (0 : Nat), poi, poi, poi, poi, poi, poi, poi, poi, poi, poi, poi, poi, poi, poi, poi, poi, poi, poi, poi, poi, poi, poi, poi, poi, poi, poi, poi, poi, poi, poi, poi, poi, poi, poi, poi] ∧ some (AObj.row (ints zs) (2 : Nat) false false true) :: some (AObj.row (acs ks) (2 : Nat) false false true) :: some (AObj.row [Value.string nm, Value.slice (some { block := (0 : Nat), off := (0 : Nat) }) n c, Value.slice (some { block := (1 : Nat), off := (0 : Nat) }) k d] (0 : Nat) false true (List.all [Value.string nm, Value.slice (some { block := (0 : Nat), off := (0 : Nat) }) n c, Value.slice (some { block := (1 : Nat), off := (0 : Nat) }) k d] atom)) :: some (AObj.row (ints (perL (secE nm zs n ks k) (spans zs ks n k))) (2 : Nat) true true true) :: some (AObj.row (ints (spans zs ks n k)) (2 : Nat) true true true) :: noH = some (AObj.row (ints zs) (2 : Nat) false false true) :: some (AObj.row (acs ks) (2 : Nat) false false true) :: some (AObj.row [Value.string nm, Value.slice (some { block := (0 : Nat), off := (0 : Nat) }) n c, Value.slice (some { block := (1 : Nat), off := (0 : Nat) }) k d] (0 : Nat) false true false) :: some (AObj.row (ints (Prod.snd s)) (2 : Nat) true true true) :: some (AObj.row (ints (Prod.snd s)) (2 : Nat) true true true) :: noH) (∃ s, Is (List.length (Prod.snd s) = Prod.fst s * (2 : Nat) ∧ Prod.fst s ≤ (100000 : Nat)) ∧ [poi, Value.pointer (some { block := (2 : Nat), off := (0 : Nat) }), poi, Value.slice (some { block := (3 : Nat), off := (0 : Nat) }) (perN (secE nm zs n ks k) k) (0 : Nat), Value.int IntKind.i64 (secE nm zs n ks k), Value.int IntKind.i64 (secE nm zs n ks k), Value.slice (some { block := (4 : Nat), off := (0 : Nat) }) (0 : Nat) (0 : Nat), poi, poi, poi, poi, poi, poi, poi, poi, poi, poi, poi, poi, poi, poi, poi, poi, poi, poi, poi, poi, poi, poi, poi, poi, poi, poi, poi, poi, poi, poi, poi, poi, poi, poi, poi] = [poi, Value.pointer (some { block := (2 : Nat), off := (0 : Nat) }), poi, Value.slice (some { block := (3 : Nat), off := (0 : Nat) }) (Prod.fst s) (0 : Nat), Value.int IntKind.i64 (secE nm zs n ks k), Value.int IntKind.i64 (secE nm zs n ks k), Value.slice (some { block := (4 : Nat), off := (0 : Nat) }) (Prod.fst s) (0 : Nat), poi, poi, poi, poi, poi, poi, poi, poi, poi, poi, poi, poi, poi, poi, poi, poi, poi, poi, poi, poi, poi, poi, poi, poi, poi, poi, poi, poi, poi, poi, poi, poi, poi, poi, poi] ∧ some (AObj.row (ints zs) (2 : Nat) false false true) :: some (AObj.row (acs ks) (2 : Nat) false false true) :: some (AObj.row [Value.string nm, Value.slice (some { block := (0 : Nat), off := (0 : Nat) }) n c, Value.slice (some { block := (1 : Nat), off := (0 : Nat) }) k d] (0 : Nat) false true (List.all [Value.string nm, Value.slice (some { block := (0 : Nat), off := (0 : Nat) }) n c, Value.slice (some { block := (1 : Nat), off := (0 : Nat) }) k d] atom)) :: some (AObj.row (ints (perL (secE nm zs n ks k) (spans zs ks n k))) (2 : Nat) true true true) :: some (AObj.row [] (2 : Nat) true true true) :: noH = some (AObj.row (ints zs) (2 : Nat) false false true) :: some (AObj.row (acs ks) (2 : Nat) false false true) :: some (AObj.row [Value.string nm, Value.slice (some { block := (0 : Nat), off := (0 : Nat) }) n c, Value.slice (some { block := (1 : Nat), off := (0 : Nat) }) k d] (0 : Nat) false true false) :: some (AObj.row (ints (Prod.snd s)) (2 : Nat) true true true) :: some (AObj.row (ints (Prod.snd s)) (2 : Nat) true true true) :: noH) ∧ ∀ (s : Nat × List Int), Is (List.length (Prod.snd s) = Prod.fst s * (2 : Nat) ∧ Prod.fst s ≤ (100000 : Nat)) → Is (isSec zs ks n k (ints zs) (acs ks)) ∧ Is (isSec zs ks n k (ints zs) (acs ks)) ∧ br (secE nm zs n ks k == secE nm zs n ks k) (Is (Prod.fst s = Prod.fst s ∧ ints (Prod.snd s) = ints (Prod.snd s) ∧ Prod.fst s ≤ (100000 : Nat) ∧ isInts (ints (Prod.snd s)) (Prod.fst s)) ∧ K (Value.bool (secE nm zs n ks k == secE nm zs n ks k)) (some (AObj.row (ints zs) (2 : Nat) false false true) :: some (AObj.row (acs ks) (2 : Nat) false false true) :: noH)) (K (Value.bool false) (some (AObj.row (ints zs) (2 : Nat) false false true) :: some (AObj.row (acs ks) (2 : Nat) false false true) :: noH)))) := by kernel_rfl
theorem shortS_ok {nm : ByteArray} {n : Nat} {ks : List (Int × ByteArray)} {k : Nat} (h : shortS nm n ks k = true) : n ≤ 33 ∧ k ≤ 17 := by
  simp only [shortS, Bool.and_eq_true, Bool.or_eq_true, decide_eq_true_eq, beq_iff_eq] at h
  omega
set_option maxRecDepth 100000 in
theorem law5 (hl : ∀ p ∈ l5, Ok Tryz.prog p.1 p.2) {nm : ByteArray} {zs : List Int} {ks : List (Int × ByteArray)} {n c k d : Nat} (hz : zs.length = n * 2) (hk : ks.length = k) (hn : n ≤ 9223372036854775807) (hk2 : k ≤ 9223372036854775807) :
    SmallRes Tryz.prog 5 [.agg (secA nm 0 n c 1 k d).toArray] (hp2 zs ks false false false false []) (.bool true) (hp2 zs ks false false false false []) := by
  refine fnP_res hm (ctx_ok hm hl) (hs := hsL5 zs ks nm n c k d) ?_
  show fnP Tryz.prog cl5 (hsL5 zs ks nm n c k d) 5 _ _ _
  rw [law5_t]
  refine ⟨⟨rfl, rfl, hk, hn, hk2⟩, br_of (fun h => ⟨rfl, rfl⟩) (fun h => ?_)⟩
  obtain ⟨b1, b2⟩ := shortS_ok (by simpa using h)
  have hi : isSec zs ks n k (ints zs) (acs ks) := ⟨rfl, rfl, hz, hk, by omega, by omega⟩
  refine ⟨⟨hi⟩, ⟨hi⟩, ⟨hi⟩, br_of (fun he => ⟨⟨hi⟩, (k + 1, spans zs ks n k), ⟨spans_len .., by simp only; omega⟩, ?_, ?_⟩) (fun he => ⟨(0, []), ⟨rfl, by simp⟩, ?_, ?_⟩), fun s hs => ⟨⟨hi⟩, ⟨hi⟩, br_of (fun h2 => ⟨⟨rfl, rfl, hs.out.2, s.2, rfl, hs.out.1⟩, by rw [h2], rfl⟩) (fun h2 => ?_)⟩⟩
  · have he : secE nm zs n ks k = 0 := by simpa using he
    rw [perN, if_pos he]
  · have he : secE nm zs n ks k = 0 := by simpa using he
    rw [perL, if_pos he]; first | trivial | rfl
  · have he : secE nm zs n ks k ≠ 0 := by simpa using he
    rw [perN, if_neg he]
  · have he : secE nm zs n ks k ≠ 0 := by simpa using he
    rw [perL, if_neg he]; first | trivial | rfl
  · simp at h2
end
end Qq
