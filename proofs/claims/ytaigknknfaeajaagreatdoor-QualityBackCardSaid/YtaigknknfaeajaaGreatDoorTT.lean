/- Texts, back: the law. -/
import Derived.Test.YtaigknknfaeajaaGreatDoorTO
import Derived.Test.YtaigknknfaeajaaGreatDoorZL
import Derived.Test.YtaigknknfaeajaaGreatDoorZR
import Derived.Test.YtaigknknfaeajaaGreatDoorQJ
import Derived.Test.YtaigknknfaeajaaGreatDoorZS
import Derived.Test.YtaigknknfaeajaaGreatDoorTS
open Go Go.Vm Go.Proofs Sp
namespace Qq
noncomputable section
noncomputable def lpB6 (nm : ByteArray) (zs : List Int) (ks : List (Int × ByteArray)) (n c k d : Nat) (t p : ByteArray) : Lp where
  σ := Nat
  E _ := slotsF 120 [(1, .string t), (2, .pointer (some ⟨2, 0, none⟩)), (5, .string p), (6, .int .i64 0), (7, .pointer (some ⟨3, 0, none⟩)), (8, .int .i64 0), (9, .int .i64 0), (10, .int .i64 ((n + k + 1 : Nat) : Int))]
  Hp _ := hp2 zs ks false false false false [secR nm n c k d, secR5 nm 4 n 5 k, lst2 zs, some (.row (acs ks) 2 true true true)]
  I s := s = 0
  m _ := 0
noncomputable def lpB8 (zs : List Int) (ks : List (Int × ByteArray)) (n k : Nat) (t p : ByteArray) : Lp where
  σ := Nat
  E _ := slotsF 120 [(1, .string t), (5, .string p), (10, .int .i64 ((n + k + 1 : Nat) : Int))]
  Hp _ := hp2 zs ks false false false false []
  I s := s = 0
  m _ := 0
noncomputable def lpB13 (zs : List Int) (ks : List (Int × ByteArray)) (n k : Nat) (p : ByteArray) : Lp where
  σ := Nat
  E _ := slotsF 120 [(5, .string p), (10, .int .i64 ((n + k + 1 : Nat) : Int))]
  Hp _ := hp2 zs ks false false false false []
  I s := s = 0
  m _ := 0
noncomputable def hsB17 (nm : ByteArray) (zs : List Int) (ks : List (Int × ByteArray)) (n c k d : Nat) (t p : ByteArray) : Hs Tryz.prog where
  op z := if z = 612 then some (hCa Tryz.prog 90 (orcTol zs ks) (tol_okV _ _)) else if z = 614 then some (hCa Tryz.prog 89 (orcSmS zs ks) (smS_okV _ _)) else if z = 1001 then some (hCa Tryz.prog 97 (orcPpr (psZ t) (psK t)) (okPpr _ _)) else none
  cut z := if z = 6 then some (lpB6 nm zs ks n c k d t p) else if z = 8 then some (lpB8 zs ks n k t p) else if z = 13 then some (lpB13 zs ks n k p) else none
  cl z := if z = 6 then keepF 120 [1, 2, 5, 6, 7, 8, 9, 10] else if z = 8 then keepF 120 [1, 5, 10] else keepF 120 [5, 10]
  sm := true
  au := auS [(35, hCa Tryz.prog 35 (orcShV zs ks) (short_okV zs ks)), (37, hCa Tryz.prog 37 (orcOwnV zs ks) (own_okV zs ks)), (38, hCa Tryz.prog 38 (orcCkV zs ks) (ckR_okV zs ks)),
    (97, hCa Tryz.prog 97 (orcPpr zs ks) (okPpr zs ks)), (98, hCa Tryz.prog 98 orcPx okPx), (101, hCa Tryz.prog 101 orcRs okRs)]
noncomputable def l17 : List (Nat × Orc) := [(18, orcTrue)]
noncomputable def cl17 : CallF := ctx Tryz.prog l17
set_option maxHeartbeats 0 in
theorem law17_t (nm : ByteArray) (zs : List Int) (ks : List (Int × ByteArray)) (n : Nat) (c : Nat) (k : Nat) (d : Nat) (t : ByteArray) (p : ByteArray) (K : Value → Heap → Prop) :
    (fnP Tryz.prog cl17 (hsB17 nm zs ks n c k d t p) (17 : FuncId) [Value.agg (List.toArray (secA nm (0 : Nat) n c (1 : Nat) k d)), Value.string t] (hp2 zs ks false false false false []) K) =
    (Is (ints zs = ints zs ∧ acs ks = acs ks ∧ List.length ks = k ∧ n ≤ (9223372036854775807 : Nat) ∧ k ≤ (9223372036854775807 : Nat)) ∧ br (!shortS nm n ks k) (K (Value.bool true) (some (AObj.row (ints zs) (2 : Nat) false false true) :: some (AObj.row (acs ks) (2 : Nat) false false true) :: noH)) (Is (isSec zs ks n k (ints zs) (acs ks)) ∧ br (secE nm zs n ks k != (0 : Int)) (K (Value.bool true) (some (AObj.row (ints zs) (2 : Nat) false false true) :: some (AObj.row (acs ks) (2 : Nat) false false true) :: noH)) (br (decide ((400 : Int) < (↑(ByteArray.size t) : Int))) (K (Value.bool true) (some (AObj.row (ints zs) (2 : Nat) false false true) :: some (AObj.row (acs ks) (2 : Nat) false false true) :: noH)) (Is (isSec zs ks n k (ints zs) (acs ks)) ∧ Is (isSec zs ks n k (ints zs) (acs ks)) ∧ Is (ByteArray.size (ppS (secE nm zs n ks k) (txK nm zs n ks k)) ≤ (900 : Nat) ∨ (4096 : Nat) < ByteArray.size (ppS (secE nm zs n ks k) (txK nm zs n ks k))) ∧ (∃ (s : Nat), Is (s = (0 : Nat)) ∧ (Value.string t = Value.string t ∧ Value.pointer (some { block := (2 : Nat), off := (0 : Nat) }) = Value.pointer (some { block := (2 : Nat), off := (0 : Nat) }) ∧ Value.string (ppS (secE nm zs n ks k) (txK nm zs n ks k)) = Value.string p ∧ Value.int IntKind.i64 (secE nm zs n ks k) = Value.int IntKind.i64 (0 : Int) ∧ Value.pointer (some { block := (3 : Nat), off := (0 : Nat) }) = Value.pointer (some { block := (3 : Nat), off := (0 : Nat) }) ∧ Value.int IntKind.i64 (psA (ppS (secE nm zs n ks k) (txK nm zs n ks k))) = Value.int IntKind.i64 (0 : Int) ∧ Value.int IntKind.i64 (psE (ppS (secE nm zs n ks k) (txK nm zs n ks k))) = Value.int IntKind.i64 (0 : Int) ∧ Value.int IntKind.i64 (IntKind.wrap IntKind.i64 (IntKind.wrap IntKind.i64 ((1 : Int) + (↑n : Int)) + (↑k : Int))) = Value.int IntKind.i64 (↑(n + k + (1 : Nat)) : Int) ∧ True) ∧ some (AObj.row (ints zs) (2 : Nat) false false true) :: some (AObj.row (acs ks) (2 : Nat) false false true) :: some (AObj.row [Value.string nm, Value.slice (some { block := (0 : Nat), off := (0 : Nat) }) n c, Value.slice (some { block := (1 : Nat), off := (0 : Nat) }) k d] (0 : Nat) false true (List.all [Value.string nm, Value.slice (some { block := (0 : Nat), off := (0 : Nat) }) n c, Value.slice (some { block := (1 : Nat), off := (0 : Nat) }) k d] atom)) :: some (AObj.row [Value.string (psN (ppS (secE nm zs n ks k) (txK nm zs n ks k))), Value.slice (some { block := (4 : Nat), off := (0 : Nat) }) (psn (ppS (secE nm zs n ks k) (txK nm zs n ks k))) (0 : Nat), Value.slice (some { block := (5 : Nat), off := (0 : Nat) }) (psk (ppS (secE nm zs n ks k) (txK nm zs n ks k))) (0 : Nat)] (0 : Nat) false true (true && List.all [Value.string (psN (ppS (secE nm zs n ks k) (txK nm zs n ks k))), Value.slice (some { block := List.length (some (AObj.row (ints zs) (2 : Nat) false false true) :: some (AObj.row (acs ks) (2 : Nat) false false true) :: some (AObj.row [Value.string nm, Value.slice (some { block := (0 : Nat), off := (0 : Nat) }) n c, Value.slice (some { block := (1 : Nat), off := (0 : Nat) }) k d] (0 : Nat) false true (List.all [Value.string nm, Value.slice (some { block := (0 : Nat), off := (0 : Nat) }) n c, Value.slice (some { block := (1 : Nat), off := (0 : Nat) }) k d] atom)) :: some (AObj.row (ints zs) (2 : Nat) true true true) :: some (AObj.row (acs ks) (2 : Nat) true true true) :: noH) + (0 : Nat), off := (0 : Nat) }) (psn (ppS (secE nm zs n ks k) (txK nm zs n ks k))) (0 : Nat), Value.slice (some { block := List.length (some (AObj.row (ints zs) (2 : Nat) false false true) :: some (AObj.row (acs ks) (2 : Nat) false false true) :: some (AObj.row [Value.string nm, Value.slice (some { block := (0 : Nat), off := (0 : Nat) }) n c, Value.slice (some { block := (1 : Nat), off := (0 : Nat) }) k d] (0 : Nat) false true (List.all [Value.string nm, Value.slice (some { block := (0 : Nat), off := (0 : Nat) }) n c, Value.slice (some { block := (1 : Nat), off := (0 : Nat) }) k d] atom)) :: some (AObj.row (ints zs) (2 : Nat) true true true) :: some (AObj.row (acs ks) (2 : Nat) true true true) :: noH) + (1 : Nat), off := (0 : Nat) }) (psk (ppS (secE nm zs n ks k) (txK nm zs n ks k))) (0 : Nat)] atom)) :: some (AObj.row (ints (psZ (ppS (secE nm zs n ks k) (txK nm zs n ks k)))) (2 : Nat) true true true) :: some (AObj.row (acs (psK (ppS (secE nm zs n ks k) (txK nm zs n ks k)))) (2 : Nat) true true true) :: noH = some (AObj.row (ints zs) (2 : Nat) false false true) :: some (AObj.row (acs ks) (2 : Nat) false false true) :: some (AObj.row [Value.string nm, Value.slice (some { block := (0 : Nat), off := (0 : Nat) }) n c, Value.slice (some { block := (1 : Nat), off := (0 : Nat) }) k d] (0 : Nat) false true false) :: some (AObj.row [Value.string nm, Value.slice (some { block := (4 : Nat), off := (0 : Nat) }) n (0 : Nat), Value.slice (some { block := (5 : Nat), off := (0 : Nat) }) k (0 : Nat)] (0 : Nat) false true false) :: some (AObj.row (ints zs) (2 : Nat) true true true) :: some (AObj.row (acs ks) (2 : Nat) true true true) :: noH) ∧ ∀ (s : Nat), Is (s = (0 : Nat)) → (Is (isSec zs ks n k (ints zs) (acs ks)) ∧ Is (isSec zs ks n k (ints zs) (acs ks) ∧ nm = nm ∧ n = n ∧ k = k ∧ ints zs = ints zs ∧ acs ks = acs ks) ∧ Is (ByteArray.size p ≤ (100000 : Nat) ∧ (0 : Int) ≤ (10 : Int) ∧ (10 : Int) < (256 : Int)) ∧ br ((↑(List.length (spI p (10 : Int))) : Int) != IntKind.wrap IntKind.i64 ((↑(n + k + (1 : Nat)) : Int) + (1 : Int))) (K (Value.bool false) (some (AObj.row (ints zs) (2 : Nat) false false true) :: some (AObj.row (acs ks) (2 : Nat) false false true) :: noH)) (∃ (s : Nat), Is (s = (0 : Nat)) ∧ (Value.string t = Value.string t ∧ Value.string p = Value.string p ∧ Value.int IntKind.i64 (↑(n + k + (1 : Nat)) : Int) = Value.int IntKind.i64 (↑(n + k + (1 : Nat)) : Int) ∧ True) ∧ some (AObj.row (ints zs) (2 : Nat) false false true) :: some (AObj.row (acs ks) (2 : Nat) false false true) :: noH = some (AObj.row (ints zs) (2 : Nat) false false true) :: some (AObj.row (acs ks) (2 : Nat) false false true) :: noH)) ∧ ∀ (s : Nat), Is (s = (0 : Nat)) → (Is (ByteArray.size t ≤ (900 : Nat) ∨ (4096 : Nat) < ByteArray.size t) ∧ br (psE t == (0 : Int)) (Is (isSec (psZ t) (psK t) (psn t) (psk t) (ints (psZ t)) (acs (psK t))) ∧ br (secE (psN t) (psZ t) (psn t) (psK t) (psk t) != (0 : Int)) (K (Value.bool false) (some (AObj.row (ints zs) (2 : Nat) false false true) :: some (AObj.row (acs ks) (2 : Nat) false false true) :: noH)) (br (!ByteArray.toList (ppS (secE (psN t) (psZ t) (psn t) (psK t) (psk t)) (txK (psN t) (psZ t) (psn t) (psK t) (psk t))) == ByteArray.toList t) (K (Value.bool false) (some (AObj.row (ints zs) (2 : Nat) false false true) :: some (AObj.row (acs ks) (2 : Nat) false false true) :: noH)) (∃ (s : Nat), Is (s = (0 : Nat)) ∧ (Value.string p = Value.string p ∧ Value.int IntKind.i64 (↑(n + k + (1 : Nat)) : Int) = Value.int IntKind.i64 (↑(n + k + (1 : Nat)) : Int) ∧ True) ∧ some (AObj.row (ints zs) (2 : Nat) false false true) :: some (AObj.row (acs ks) (2 : Nat) false false true) :: noH = some (AObj.row (ints zs) (2 : Nat) false false true) :: some (AObj.row (acs ks) (2 : Nat) false false true) :: noH))) (∃ (s : Nat), Is (s = (0 : Nat)) ∧ (Value.string p = Value.string p ∧ Value.int IntKind.i64 (↑(n + k + (1 : Nat)) : Int) = Value.int IntKind.i64 (↑(n + k + (1 : Nat)) : Int) ∧ True) ∧ some (AObj.row (ints zs) (2 : Nat) false false true) :: some (AObj.row (acs ks) (2 : Nat) false false true) :: noH = some (AObj.row (ints zs) (2 : Nat) false false true) :: some (AObj.row (acs ks) (2 : Nat) false false true) :: noH)) ∧ ∀ (s : Nat), Is (s = (0 : Nat)) → Is ((0 : Int) ≤ (0 : Int) ∧ (0 : Int) ≤ IntKind.wrap IntKind.i64 ((↑(ByteArray.size p) : Int) - (1 : Int)) ∧ IntKind.wrap IntKind.i64 ((↑(ByteArray.size p) : Int) - (1 : Int)) ≤ (↑(ByteArray.size p) : Int)) ∧ Is (ByteArray.size (sub p (0 : Int) (IntKind.wrap IntKind.i64 ((↑(ByteArray.size p) : Int) - (1 : Int)))) ≤ (900 : Nat) ∨ (4096 : Nat) < ByteArray.size (sub p (0 : Int) (IntKind.wrap IntKind.i64 ((↑(ByteArray.size p) : Int) - (1 : Int))))) ∧ br (psE (sub p (0 : Int) (IntKind.wrap IntKind.i64 ((↑(ByteArray.size p) : Int) - (1 : Int)))) == (25 : Int)) (K (Value.bool (psA (sub p (0 : Int) (IntKind.wrap IntKind.i64 ((↑(ByteArray.size p) : Int) - (1 : Int)))) == IntKind.wrap IntKind.i64 ((↑(n + k + (1 : Nat)) : Int) - (1 : Int)))) (some (AObj.row (ints zs) (2 : Nat) false false true) :: some (AObj.row (acs ks) (2 : Nat) false false true) :: noH)) (K (Value.bool false) (some (AObj.row (ints zs) (2 : Nat) false false true) :: some (AObj.row (acs ks) (2 : Nat) false false true) :: noH)))))) := by kernel_rfl
/-- What is known of the printed text. -/
structure Fa (nm : ByteArray) (zs : List Int) (n : Nat) (ks : List (Int × ByteArray)) (k : Nat) (p : ByteArray) : Prop where
  pp : ppS (secE nm zs n ks k) (txK nm zs n ks k) = p
  e0 : psE p = 0
  a0 : psA p = 0
  nN : psN p = nm
  nZ : psZ p = zs
  nK : psK p = ks
  nn : psn p = n
  nk : psk p = k
  len : (spI p 10).length = n + k + 2
  size : 1 ≤ p.size ∧ p.size ≤ 900
  cut : ∀ q : ByteArray, q = sub p (0 : Nat) ((p.size - 1 : Nat) : Int) → q.size ≤ 900 ∧ psE q = 25 ∧ psA q = ((n + k : Nat) : Int)
theorem fa_of {nm : ByteArray} {zs : List Int} {n : Nat} {ks : List (Int × ByteArray)} {k : Nat} (hz : zs.length = n * 2) (hk : ks.length = k) (h1 : shortS nm n ks k = true) (he : secE nm zs n ks k = 0) : Fa nm zs n ks k (pt nm zs n ks k) := by
  have v := vd_of he hz hk
  obtain ⟨_, b2, b3, _, _⟩ := secE_all he
  have hb : n ≤ 12 ∧ k ≤ 6 := by
    simp only [shortS, Bool.and_eq_true, Bool.or_eq_true, decide_eq_true_eq, beq_iff_eq] at h1
    omega
  obtain ⟨q1, q2, q3, q4, q5, q6, q7, q8⟩ := ps_pt he v hb.1 hb.2
  refine ⟨by rw [ppS, if_pos he]; rfl, q1, q2, q3, q4, q5, q6, q7, q8, pt_size v hb.1 hb.2, fun q hq => ps_cut v hb.1 hb.2 ?_⟩
  rw [hq, sub_eq, drS, List.drop_zero, Nat.sub_zero]
  rfl
set_option maxRecDepth 100000 in
set_option maxHeartbeats 1000000 in
theorem law17p (hl : ∀ p ∈ l17, Ok Tryz.prog p.1 p.2) {nm : ByteArray} {zs : List Int} {ks : List (Int × ByteArray)} {n c k d : Nat} (t p : ByteArray) (hz : zs.length = n * 2) (hk : ks.length = k) (hn : n ≤ 9223372036854775807) (hk2 : k ≤ 9223372036854775807)
    (hF : shortS nm n ks k = true → secE nm zs n ks k = 0 → Fa nm zs n ks k p) :
    SmallRes Tryz.prog 17 [.agg (secA nm 0 n c 1 k d).toArray, .string t] (hp2 zs ks false false false false []) (.bool true) (hp2 zs ks false false false false []) := by
  refine fnP_res hm (ctx_ok hm hl) (hs := hsB17 nm zs ks n c k d t p) ?_
  show fnP Tryz.prog cl17 _ 17 _ _ _
  rw [law17_t]
  refine ⟨⟨by first | trivial | rfl, by first | trivial | rfl, hk, hn, hk2⟩, br_of (fun h => ⟨by first | trivial | rfl, by first | trivial | rfl⟩) (fun h => ?_)⟩
  have h : shortS nm n ks k = true := by simpa using h
  obtain ⟨b1, b2⟩ := shortS_ok h
  have hi : isSec zs ks n k (ints zs) (acs ks) := ⟨rfl, rfl, hz, hk, by omega, by omega⟩
  refine ⟨⟨hi⟩, br_of (fun _ => ⟨by first | trivial | rfl, by first | trivial | rfl⟩) (fun he => br_of (fun _ => ⟨by first | trivial | rfl, by first | trivial | rfl⟩) (fun h1 => ?_))⟩
  have he : secE nm zs n ks k = 0 := by simpa using he
  have ht : t.size ≤ 400 := by
    have := of_decide_eq_false h1
    omega
  have hq := ps_sec (t := t) (.inl (by omega))
  obtain ⟨pp, q1, q2, q3, q4, q5, q6, q7, q8, hs, hc⟩ := hF h he
  rw [pp, q1, q2, q3, q4, q5, q6, q7, q8, he]
  have w1 : IntKind.wrap .i64 (IntKind.wrap .i64 (1 + (n : Int)) + (k : Int)) = ((n + k + 1 : Nat) : Int) := by
    rw [wrap_eq (x := 1 + (n : Int)) (by omega) (by omega), wrap_eq (by omega) (by omega)]; omega
  have w2 : IntKind.wrap .i64 (((n + k + 1 : Nat) : Int) + 1) = ((n + k + 2 : Nat) : Int) := by
    rw [wrap_eq (by omega) (by omega)]; omega
  have w3 : IntKind.wrap .i64 (((n + k + 1 : Nat) : Int) - 1) = ((n + k : Nat) : Int) := by
    rw [wrap_eq (by omega) (by omega)]; omega
  have w4 : IntKind.wrap .i64 ((p.size : Int) - 1) = ((p.size - 1 : Nat) : Int) := by
    rw [wrap_eq (by omega) (by omega)]; omega
  rw [w1, w2, w3, w4]
  obtain ⟨c1, c2, c3⟩ := hc (sub p 0 ((p.size - 1 : Nat) : Int)) rfl
  rw [c2, c3]
  refine ⟨⟨hi⟩, ⟨hi⟩, ⟨.inl hs.2⟩, ⟨(0 : Nat), ⟨rfl⟩, by (repeat' refine And.intro ?_ ?_) <;> first | rfl | trivial, by first | rfl | trivial⟩, fun _ _ => ⟨?_, fun _ _ => ⟨?_, fun _ _ => ?_⟩⟩⟩
  · refine ⟨⟨hi⟩, ⟨hi, rfl, rfl, rfl, rfl, rfl⟩, ⟨by omega, by omega, by omega⟩, br_of (fun h => ?_) (fun _ => ⟨(0 : Nat), ⟨rfl⟩, by (repeat' refine And.intro ?_ ?_) <;> first | rfl | trivial, by first | rfl | trivial⟩)⟩
    simp at h
  · refine ⟨⟨.inl (by omega)⟩, br_of (fun h0 => ?_) (fun _ => ⟨(0 : Nat), ⟨rfl⟩, by (repeat' refine And.intro ?_ ?_) <;> first | rfl | trivial, by first | rfl | trivial⟩)⟩
    have h0 : psE t = 0 := by simpa using h0
    obtain ⟨f1, f2⟩ := pt_ps h0
    refine ⟨⟨hq⟩, br_of (fun h => ?_) (fun _ => br_of (fun h => ?_) (fun _ => ⟨(0 : Nat), ⟨rfl⟩, by (repeat' refine And.intro ?_ ?_) <;> first | rfl | trivial, by first | rfl | trivial⟩))⟩
    · rw [f1] at h; cases h
    · rw [ppS, if_pos f1] at h
      have f2 : ofL (txK (psN t) (psZ t) (psn t) (psK t) (psk t)) = t := f2
      rw [f2] at h
      simp at h
  · refine ⟨⟨by omega, by omega, by omega⟩, ⟨.inl c1⟩, br_of (fun _ => ⟨?_, by first | trivial | rfl⟩) (fun h => ?_)⟩
    · rw [beq_self_eq_true]
    · cases h
theorem law17 (hl : ∀ p ∈ l17, Ok Tryz.prog p.1 p.2) {nm : ByteArray} {zs : List Int} {ks : List (Int × ByteArray)} {n c k d : Nat} (t : ByteArray) (hz : zs.length = n * 2) (hk : ks.length = k) (hn : n ≤ 9223372036854775807) (hk2 : k ≤ 9223372036854775807) :
    SmallRes Tryz.prog 17 [.agg (secA nm 0 n c 1 k d).toArray, .string t] (hp2 zs ks false false false false []) (.bool true) (hp2 zs ks false false false false []) :=
  law17p hl t (pt nm zs n ks k) hz hk hn hk2 (fun h1 he => fa_of hz hk h1 he)
end
end Qq
