/- Sections, checked. -/
import Derived.Test.YtaigknknfaeajaaGreatDoorQG
open Go Go.Vm Go.Proofs Sp
namespace Sp
noncomputable section
noncomputable def chkM (d x : Int) : Int := fi [wi d 0 100000, wi x 0 100000]
noncomputable def chkA (d : Int) (k : ByteArray) : Int := fi [wi d 0 100000, wh (!nameB k) 13]
noncomputable def mchk : List Int → Int → Int
  | d :: x :: r, last => sel (fi [chkM d x, wh (decide (d ≤ last)) 11]) (mchk r d)
  | _, _ => 0
noncomputable def achk : List (Int × ByteArray) → Int → Int
  | [], _ => 0
  | a :: r, last => sel (fi [chkA a.1 a.2, wh (decide (a.1 ≤ last)) 11]) (achk r a.1)
noncomputable def secE (nm : ByteArray) (zs : List Int) (n : Nat) (ks : List (Int × ByteArray)) (k : Nat) : Int :=
  sel (fi [wh (!nameB nm) 8, wh (decide ((32 : Int) < n)) 5]) (sel (mchk zs (-1)) (sel (wh (decide ((16 : Int) < k)) 5) (achk ks (-1))))
end
end Sp
namespace Qq
noncomputable section
noncomputable def orcMc : Orc
  | [.agg ⟨[.int .i64 d, .int .i64 x]⟩], [] => some (.int .i64 (chkM d x), [])
  | _, _ => none
noncomputable def orcAc : Orc
  | [.agg ⟨[.int .i64 d, .string k]⟩], [] => some (.int .i64 (chkA d k), [])
  | _, _ => none
noncomputable def orcCn : Orc
  | [.string k], [] => some (.int .i64 (wh (!nameB k) 8), [])
  | _, _ => none
noncomputable def t10 : List (Nat × Orc) := (126, orcName) :: t2
theorem t10_all : ∀ p ∈ t10, Ok Tryz.prog p.1 p.2 := all_cons okName t2_all
noncomputable def c10 : CallF := ctx Tryz.prog t10
theorem c10_ok : CallOK Tryz.prog c10 := ctx_ok hm t10_all
noncomputable def r10 : List (Nat × Orc) := (197, orcName) :: r2
theorem r10_all : ∀ p ∈ r10, Ok Tryz.prog p.1 p.2 := all_cons okName8 r2_all
noncomputable def cr10 : CallF := ctx Tryz.prog r10
theorem cr10_ok : CallOK Tryz.prog cr10 := ctx_ok hm r10_all
theorem mc_t (d : Int) (x : Int) (K : Value → Heap → Prop) :
    (fnP Tryz.prog c10 h0 (127 : FuncId) [Value.agg #[Value.int IntKind.i64 d, Value.int IntKind.i64 x]] [] K) =
    (K (Value.int IntKind.i64 (fi [wi d (0 : Int) (100000 : Int), wi x (0 : Int) (100000 : Int)])) noH) := by kernel_rfl
theorem ac_t (d : Int) (k : ByteArray) (K : Value → Heap → Prop) :
    (fnP Tryz.prog c10 h0 (128 : FuncId) [Value.agg #[Value.int IntKind.i64 d, Value.string k]] [] K) =
    (K (Value.int IntKind.i64 (fi [wi d (0 : Int) (100000 : Int), wh (!nameB k) (13 : Int)])) noH) := by kernel_rfl
theorem mcR_t (d : Int) (x : Int) (K : Value → Heap → Prop) :
    (fnP Tryz.prog cr10 h0 (85 : FuncId) [Value.agg #[Value.int IntKind.i64 d, Value.int IntKind.i64 x]] [] K) =
    (K (Value.int IntKind.i64 (fi [wi d (0 : Int) (100000 : Int), wi x (0 : Int) (100000 : Int)])) noH) := by kernel_rfl
theorem cn_t (k : ByteArray) (K : Value → Heap → Prop) :
    (fnP Tryz.prog cr10 h0 (114 : FuncId) [Value.string k] [] K) =
    (K (Value.int IntKind.i64 (wh (!nameB k) (8 : Int))) noH) := by kernel_rfl
theorem okMc : Ok Tryz.prog 127 orcMc := by
  intro args H ret H' h
  unfold orcMc at h
  split at h
  · cases h
    refine fnP_res hm c10_ok (hs := h0) ?_
    rw [mc_t]
    exact ⟨rfl, rfl⟩
  · cases h
theorem okAc : Ok Tryz.prog 128 orcAc := by
  intro args H ret H' h
  unfold orcAc at h
  split at h
  · cases h
    refine fnP_res hm c10_ok (hs := h0) ?_
    rw [ac_t]
    exact ⟨rfl, rfl⟩
  · cases h
theorem okMcR : Ok Tryz.prog 85 orcMc := by
  intro args H ret H' h
  unfold orcMc at h
  split at h
  · cases h
    refine fnP_res hm cr10_ok (hs := h0) ?_
    rw [mcR_t]
    exact ⟨rfl, rfl⟩
  · cases h
theorem okCn : Ok Tryz.prog 114 orcCn := by
  intro args H ret H' h
  unfold orcCn at h
  split at h
  · cases h
    refine fnP_res hm cr10_ok (hs := h0) ?_
    rw [cn_t]
    exact ⟨rfl, rfl⟩
  · cases h
noncomputable def r11 : List (Nat × Orc) := (85, orcMc) :: (114, orcCn) :: r2
theorem r11_all : ∀ p ∈ r11, Ok Tryz.prog p.1 p.2 := all_cons okMcR (all_cons okCn r2_all)
noncomputable def cr11 : CallF := ctx Tryz.prog r11
theorem cr11_ok : CallOK Tryz.prog cr11 := ctx_ok hm r11_all
theorem acR_t (d : Int) (k : ByteArray) (K : Value → Heap → Prop) :
    (fnP Tryz.prog cr11 h0 (86 : FuncId) [Value.agg #[Value.int IntKind.i64 d, Value.string k]] [] K) =
    (K (Value.int IntKind.i64 (fi [wi d (0 : Int) (100000 : Int), wh (wh (!nameB k) (8 : Int) != (0 : Int)) (13 : Int)])) noH) := by kernel_rfl
theorem okAcR : Ok Tryz.prog 86 orcAc := by
  intro args H ret H' h
  unfold orcAc at h
  split at h
  · rename_i d k
    cases h
    refine fnP_res hm cr11_ok (hs := h0) ?_
    rw [acR_t]
    refine ⟨?_, rfl⟩
    cases h : nameB k <;> simp [chkA, wh, h]
  · cases h
noncomputable def t12 : List (Nat × Orc) := (127, orcMc) :: (128, orcAc) :: t10
theorem t12_all : ∀ p ∈ t12, Ok Tryz.prog p.1 p.2 := all_cons okMc (all_cons okAc t10_all)
noncomputable def c12 : CallF := ctx Tryz.prog t12
theorem c12_ok : CallOK Tryz.prog c12 := ctx_ok hm t12_all
noncomputable def r12 : List (Nat × Orc) := (86, orcAc) :: r11
theorem r12_all : ∀ p ∈ r12, Ok Tryz.prog p.1 p.2 := all_cons okAcR r11_all
noncomputable def cr12 : CallF := ctx Tryz.prog r12
theorem cr12_ok : CallOK Tryz.prog cr12 := ctx_ok hm r12_all

noncomputable def z2 (zs : List Int) (off : Nat) : Value := .agg #[.int .i64 (zs.getD off 0), .int .i64 (zs.getD (off + 1) 0)]
noncomputable def k2 (ks : List (Int × ByteArray)) (off : Nat) : Value := .agg #[.int .i64 (ks.getD (off / 2) (0, ⟨#[]⟩)).1, .string (ks.getD (off / 2) (0, ⟨#[]⟩)).2]
noncomputable def hp2 (zs : List Int) (ks : List (Int × ByteArray)) (m1 w1 m2 w2 : Bool) (l : List (Option AObj)) : Heap := some (.row (ints zs) 2 m1 w1 true) :: some (.row (acs ks) 2 m2 w2 true) :: l
noncomputable def lpCk1 (nm : ByteArray) (zs : List Int) (ks : List (Int × ByteArray)) (n c k d : Nat) (m1 w1 m2 w2 : Bool) : Lp where
  σ := Nat × Int
  E s := slots 74 [(1, .pointer (some ⟨2, 0, none⟩)), (4, .int .i64 s.2), (27, .slice (some ⟨0, 0, none⟩) n c), (28, .int .i64 (Int.ofNat n)), (29, .int .i64 (Int.ofNat s.1))]
  Hp _ := hp2 zs ks m1 w1 m2 w2 [some (.row (secA nm 0 n c 1 k d) 0 false true false)]
  I s := s.1 ≤ n ∧ mchk (zs.drop (s.1 * 2)) s.2 = mchk zs (-1)
  m s := n - s.1
noncomputable def lpCk2 (nm : ByteArray) (zs : List Int) (ks : List (Int × ByteArray)) (n c k d : Nat) (m1 w1 m2 w2 : Bool) : Lp where
  σ := Nat × Int
  E s := slots 74 [(4, .int .i64 s.2), (53, .slice (some ⟨1, 0, none⟩) k d), (54, .int .i64 (Int.ofNat k)), (55, .int .i64 (Int.ofNat s.1))]
  Hp _ := hp2 zs ks m1 w1 m2 w2 []
  I s := s.1 ≤ k ∧ achk (ks.drop s.1) s.2 = achk ks (-1)
  m s := k - s.1
noncomputable def hsCk (nm : ByteArray) (zs : List Int) (ks : List (Int × ByteArray)) (n c k d : Nat) (m1 w1 m2 w2 : Bool) : Hs Tryz.prog where
  op x := if x = 700 then some (hIa Tryz.prog) else if x = 701 then some (hLd Tryz.prog (z2 zs)) else if x = 1800 then some (hIa Tryz.prog) else if x = 1801 then some (hLd Tryz.prog (k2 ks)) else none
  lp x := if x = 6 then some (lpCk1 nm zs ks n c k d m1 w1 m2 w2) else some (lpCk2 nm zs ks n c k d m1 w1 m2 w2)
  cl x := if x = 6 then keep 74 [1, 4, 27, 28, 29] else keep 74 [4, 53, 54, 55]
  au := au0 Tryz.prog
theorem ck_t (nm : ByteArray) (zs : List Int) (ks : List (Int × ByteArray)) (n : Nat) (c : Nat) (k : Nat) (d : Nat) (m1 : Bool) (w1 : Bool) (m2 : Bool) (w2 : Bool) (K : Value → Heap → Prop) :
    (fnP Tryz.prog c12 (hsCk nm zs ks n c k d m1 w1 m2 w2) (40 : FuncId) [Value.agg (List.toArray (secA nm (0 : Nat) n c (1 : Nat) k d))] (hp2 zs ks m1 w1 m2 w2 []) K) =
    (br (fi [wh (!nameB nm) (8 : Int), wh (decide ((32 : Int) < (↑n : Int))) (5 : Int)] != (0 : Int)) (K (Value.int IntKind.i64 (fi [wh (!nameB nm) (8 : Int), wh (decide ((32 : Int) < (↑n : Int))) (5 : Int)])) (some (AObj.row (ints zs) (2 : Nat) m1 w1 true) :: some (AObj.row (acs ks) (2 : Nat) m2 w2 true) :: noH)) ((∃ s, Is (Prod.fst s ≤ n ∧ mchk (List.drop (Prod.fst s * (2 : Nat)) zs) (Prod.snd s) = mchk zs (-1 : Int)) ∧ [poi, Value.pointer (some { block := (2 : Nat), off := (0 : Nat) }), poi, poi, Value.int IntKind.i64 (-1 : Int), poi, poi, poi, poi, poi, poi, poi, poi, poi, poi, poi, poi, poi, poi, poi, poi, poi, poi, poi, poi, poi, poi, Value.slice (some { block := (0 : Nat), off := (0 : Nat) }) n c, Value.int IntKind.i64 (↑n : Int), Value.int IntKind.i64 (0 : Int), poi, poi, poi, poi, poi, poi, poi, poi, poi, poi, poi, poi, poi, poi, poi, poi, poi, poi, poi, poi, poi, poi, poi, poi, poi, poi, poi, poi, poi, poi, poi, poi, poi, poi, poi, poi, poi, poi, poi, poi, poi, poi, poi, poi] = [poi, Value.pointer (some { block := (2 : Nat), off := (0 : Nat) }), poi, poi, Value.int IntKind.i64 (Prod.snd s), poi, poi, poi, poi, poi, poi, poi, poi, poi, poi, poi, poi, poi, poi, poi, poi, poi, poi, poi, poi, poi, poi, Value.slice (some { block := (0 : Nat), off := (0 : Nat) }) n c, Value.int IntKind.i64 (↑n : Int), Value.int IntKind.i64 (↑(Prod.fst s) : Int), poi, poi, poi, poi, poi, poi, poi, poi, poi, poi, poi, poi, poi, poi, poi, poi, poi, poi, poi, poi, poi, poi, poi, poi, poi, poi, poi, poi, poi, poi, poi, poi, poi, poi, poi, poi, poi, poi, poi, poi, poi, poi, poi, poi] ∧ some (AObj.row (ints zs) (2 : Nat) m1 w1 true) :: some (AObj.row (acs ks) (2 : Nat) m2 w2 true) :: some (AObj.row [Value.string nm, Value.slice (some { block := (0 : Nat), off := (0 : Nat) }) n c, Value.slice (some { block := (1 : Nat), off := (0 : Nat) }) k d] (0 : Nat) false true (List.all [Value.string nm, Value.slice (some { block := (0 : Nat), off := (0 : Nat) }) n c, Value.slice (some { block := (1 : Nat), off := (0 : Nat) }) k d] atom)) :: noH = some (AObj.row (ints zs) (2 : Nat) m1 w1 true) :: some (AObj.row (acs ks) (2 : Nat) m2 w2 true) :: some (AObj.row [Value.string nm, Value.slice (some { block := (0 : Nat), off := (0 : Nat) }) n c, Value.slice (some { block := (1 : Nat), off := (0 : Nat) }) k d] (0 : Nat) false true false) :: noH) ∧ ∀ (s : Nat × Int), Is (Prod.fst s ≤ n ∧ mchk (List.drop (Prod.fst s * (2 : Nat)) zs) (Prod.snd s) = mchk zs (-1 : Int)) → br (decide ((↑(Prod.fst s) : Int) < (↑n : Int))) (Is ((0 : Int) ≤ (↑(Prod.fst s) : Int) ∧ (↑(Prod.fst s) : Int) < (↑n : Int)) ∧ Is ((if (0 : Nat) + Int.toNat (↑(Prod.fst s) : Int) * (2 : Nat) + (2 : Nat) ≤ List.length (ints zs) then some (Value.agg (List.toArray (List.take (2 : Nat) (List.drop ((0 : Nat) + Int.toNat (↑(Prod.fst s) : Int) * (2 : Nat)) (ints zs))))) else none) = some (Value.agg #[Value.int IntKind.i64 (List.getD zs ((0 : Nat) + Int.toNat (↑(Prod.fst s) : Int) * (2 : Nat)) (0 : Int)), Value.int IntKind.i64 (List.getD zs ((0 : Nat) + Int.toNat (↑(Prod.fst s) : Int) * (2 : Nat) + (1 : Nat)) (0 : Int))])) ∧ br (fi [chkM (List.getD zs ((0 : Nat) + Int.toNat (↑(Prod.fst s) : Int) * (2 : Nat)) (0 : Int)) (List.getD zs ((0 : Nat) + Int.toNat (↑(Prod.fst s) : Int) * (2 : Nat) + (1 : Nat)) (0 : Int)), wh (decide (List.getD zs ((0 : Nat) + Int.toNat (↑(Prod.fst s) : Int) * (2 : Nat)) (0 : Int) ≤ Prod.snd s)) (11 : Int)] != (0 : Int)) (K (Value.int IntKind.i64 (fi [chkM (List.getD zs ((0 : Nat) + Int.toNat (↑(Prod.fst s) : Int) * (2 : Nat)) (0 : Int)) (List.getD zs ((0 : Nat) + Int.toNat (↑(Prod.fst s) : Int) * (2 : Nat) + (1 : Nat)) (0 : Int)), wh (decide (List.getD zs ((0 : Nat) + Int.toNat (↑(Prod.fst s) : Int) * (2 : Nat)) (0 : Int) ≤ Prod.snd s)) (11 : Int)])) (some (AObj.row (ints zs) (2 : Nat) m1 w1 true) :: some (AObj.row (acs ks) (2 : Nat) m2 w2 true) :: noH)) (∃ s', Is (Prod.fst s' ≤ n ∧ mchk (List.drop (Prod.fst s' * (2 : Nat)) zs) (Prod.snd s') = mchk zs (-1 : Int)) ∧ Is (n - Prod.fst s' < n - Prod.fst s) ∧ [poi, Value.pointer (some { block := (2 : Nat), off := (0 : Nat) }), poi, poi, Value.int IntKind.i64 (List.getD zs ((0 : Nat) + Int.toNat (↑(Prod.fst s) : Int) * (2 : Nat)) (0 : Int)), poi, poi, poi, poi, poi, poi, poi, poi, poi, poi, poi, poi, poi, poi, poi, poi, poi, poi, poi, poi, poi, poi, Value.slice (some { block := (0 : Nat), off := (0 : Nat) }) n c, Value.int IntKind.i64 (↑n : Int), Value.int IntKind.i64 (IntKind.wrap IntKind.i64 ((↑(Prod.fst s) : Int) + (1 : Int))), poi, poi, poi, poi, poi, poi, poi, poi, poi, poi, poi, poi, poi, poi, poi, poi, poi, poi, poi, poi, poi, poi, poi, poi, poi, poi, poi, poi, poi, poi, poi, poi, poi, poi, poi, poi, poi, poi, poi, poi, poi, poi, poi, poi] = [poi, Value.pointer (some { block := (2 : Nat), off := (0 : Nat) }), poi, poi, Value.int IntKind.i64 (Prod.snd s'), poi, poi, poi, poi, poi, poi, poi, poi, poi, poi, poi, poi, poi, poi, poi, poi, poi, poi, poi, poi, poi, poi, Value.slice (some { block := (0 : Nat), off := (0 : Nat) }) n c, Value.int IntKind.i64 (↑n : Int), Value.int IntKind.i64 (↑(Prod.fst s') : Int), poi, poi, poi, poi, poi, poi, poi, poi, poi, poi, poi, poi, poi, poi, poi, poi, poi, poi, poi, poi, poi, poi, poi, poi, poi, poi, poi, poi, poi, poi, poi, poi, poi, poi, poi, poi, poi, poi, poi, poi, poi, poi, poi, poi] ∧ some (AObj.row (ints zs) (2 : Nat) m1 w1 true) :: some (AObj.row (acs ks) (2 : Nat) m2 w2 true) :: some (AObj.row [Value.string nm, Value.slice (some { block := (0 : Nat), off := (0 : Nat) }) n c, Value.slice (some { block := (1 : Nat), off := (0 : Nat) }) k d] (0 : Nat) false true false) :: noH = some (AObj.row (ints zs) (2 : Nat) m1 w1 true) :: some (AObj.row (acs ks) (2 : Nat) m2 w2 true) :: some (AObj.row [Value.string nm, Value.slice (some { block := (0 : Nat), off := (0 : Nat) }) n c, Value.slice (some { block := (1 : Nat), off := (0 : Nat) }) k d] (0 : Nat) false true false) :: noH)) (br (decide ((16 : Int) < (↑k : Int))) (K (Value.int IntKind.i64 (5 : Int)) (some (AObj.row (ints zs) (2 : Nat) m1 w1 true) :: some (AObj.row (acs ks) (2 : Nat) m2 w2 true) :: noH)) ((∃ s, Is (Prod.fst s ≤ k ∧ achk (List.drop (Prod.fst s) ks) (Prod.snd s) = achk ks (-1 : Int)) ∧ [poi, poi, poi, poi, Value.int IntKind.i64 (-1 : Int), poi, poi, poi, poi, poi, poi, poi, poi, poi, poi, poi, poi, poi, poi, poi, poi, poi, poi, poi, poi, poi, poi, poi, poi, poi, poi, poi, poi, poi, poi, poi, poi, poi, poi, poi, poi, poi, poi, poi, poi, poi, poi, poi, poi, poi, poi, poi, poi, Value.slice (some { block := (1 : Nat), off := (0 : Nat) }) k d, Value.int IntKind.i64 (↑k : Int), Value.int IntKind.i64 (0 : Int), poi, poi, poi, poi, poi, poi, poi, poi, poi, poi, poi, poi, poi, poi, poi, poi, poi, poi] = [poi, poi, poi, poi, Value.int IntKind.i64 (Prod.snd s), poi, poi, poi, poi, poi, poi, poi, poi, poi, poi, poi, poi, poi, poi, poi, poi, poi, poi, poi, poi, poi, poi, poi, poi, poi, poi, poi, poi, poi, poi, poi, poi, poi, poi, poi, poi, poi, poi, poi, poi, poi, poi, poi, poi, poi, poi, poi, poi, Value.slice (some { block := (1 : Nat), off := (0 : Nat) }) k d, Value.int IntKind.i64 (↑k : Int), Value.int IntKind.i64 (↑(Prod.fst s) : Int), poi, poi, poi, poi, poi, poi, poi, poi, poi, poi, poi, poi, poi, poi, poi, poi, poi, poi] ∧ some (AObj.row (ints zs) (2 : Nat) m1 w1 true) :: some (AObj.row (acs ks) (2 : Nat) m2 w2 true) :: noH = some (AObj.row (ints zs) (2 : Nat) m1 w1 true) :: some (AObj.row (acs ks) (2 : Nat) m2 w2 true) :: noH) ∧ ∀ (s : Nat × Int), Is (Prod.fst s ≤ k ∧ achk (List.drop (Prod.fst s) ks) (Prod.snd s) = achk ks (-1 : Int)) → br (decide ((↑(Prod.fst s) : Int) < (↑k : Int))) (Is ((0 : Int) ≤ (↑(Prod.fst s) : Int) ∧ (↑(Prod.fst s) : Int) < (↑k : Int)) ∧ Is ((if (0 : Nat) + Int.toNat (↑(Prod.fst s) : Int) * (2 : Nat) + (2 : Nat) ≤ List.length (acs ks) then some (Value.agg (List.toArray (List.take (2 : Nat) (List.drop ((0 : Nat) + Int.toNat (↑(Prod.fst s) : Int) * (2 : Nat)) (acs ks))))) else none) = some (Value.agg #[Value.int IntKind.i64 (Prod.fst (List.getD ks (((0 : Nat) + Int.toNat (↑(Prod.fst s) : Int) * (2 : Nat)) / (2 : Nat)) ((0 : Int), { data := #[] }))), Value.string (Prod.snd (List.getD ks (((0 : Nat) + Int.toNat (↑(Prod.fst s) : Int) * (2 : Nat)) / (2 : Nat)) ((0 : Int), { data := #[] })))])) ∧ br (fi [chkA (Prod.fst (List.getD ks (((0 : Nat) + Int.toNat (↑(Prod.fst s) : Int) * (2 : Nat)) / (2 : Nat)) ((0 : Int), { data := #[] }))) (Prod.snd (List.getD ks (((0 : Nat) + Int.toNat (↑(Prod.fst s) : Int) * (2 : Nat)) / (2 : Nat)) ((0 : Int), { data := #[] }))), wh (decide (Prod.fst (List.getD ks (((0 : Nat) + Int.toNat (↑(Prod.fst s) : Int) * (2 : Nat)) / (2 : Nat)) ((0 : Int), { data := #[] })) ≤ Prod.snd s)) (11 : Int)] != (0 : Int)) (K (Value.int IntKind.i64 (fi [chkA (Prod.fst (List.getD ks (((0 : Nat) + Int.toNat (↑(Prod.fst s) : Int) * (2 : Nat)) / (2 : Nat)) ((0 : Int), { data := #[] }))) (Prod.snd (List.getD ks (((0 : Nat) + Int.toNat (↑(Prod.fst s) : Int) * (2 : Nat)) / (2 : Nat)) ((0 : Int), { data := #[] }))), wh (decide (Prod.fst (List.getD ks (((0 : Nat) + Int.toNat (↑(Prod.fst s) : Int) * (2 : Nat)) / (2 : Nat)) ((0 : Int), { data := #[] })) ≤ Prod.snd s)) (11 : Int)])) (some (AObj.row (ints zs) (2 : Nat) m1 w1 true) :: some (AObj.row (acs ks) (2 : Nat) m2 w2 true) :: noH)) (∃ s', Is (Prod.fst s' ≤ k ∧ achk (List.drop (Prod.fst s') ks) (Prod.snd s') = achk ks (-1 : Int)) ∧ Is (k - Prod.fst s' < k - Prod.fst s) ∧ [poi, poi, poi, poi, Value.int IntKind.i64 (Prod.fst (List.getD ks (((0 : Nat) + Int.toNat (↑(Prod.fst s) : Int) * (2 : Nat)) / (2 : Nat)) ((0 : Int), { data := #[] }))), poi, poi, poi, poi, poi, poi, poi, poi, poi, poi, poi, poi, poi, poi, poi, poi, poi, poi, poi, poi, poi, poi, poi, poi, poi, poi, poi, poi, poi, poi, poi, poi, poi, poi, poi, poi, poi, poi, poi, poi, poi, poi, poi, poi, poi, poi, poi, poi, Value.slice (some { block := (1 : Nat), off := (0 : Nat) }) k d, Value.int IntKind.i64 (↑k : Int), Value.int IntKind.i64 (IntKind.wrap IntKind.i64 ((↑(Prod.fst s) : Int) + (1 : Int))), poi, poi, poi, poi, poi, poi, poi, poi, poi, poi, poi, poi, poi, poi, poi, poi, poi, poi] = [poi, poi, poi, poi, Value.int IntKind.i64 (Prod.snd s'), poi, poi, poi, poi, poi, poi, poi, poi, poi, poi, poi, poi, poi, poi, poi, poi, poi, poi, poi, poi, poi, poi, poi, poi, poi, poi, poi, poi, poi, poi, poi, poi, poi, poi, poi, poi, poi, poi, poi, poi, poi, poi, poi, poi, poi, poi, poi, poi, Value.slice (some { block := (1 : Nat), off := (0 : Nat) }) k d, Value.int IntKind.i64 (↑k : Int), Value.int IntKind.i64 (↑(Prod.fst s') : Int), poi, poi, poi, poi, poi, poi, poi, poi, poi, poi, poi, poi, poi, poi, poi, poi, poi, poi] ∧ some (AObj.row (ints zs) (2 : Nat) m1 w1 true) :: some (AObj.row (acs ks) (2 : Nat) m2 w2 true) :: noH = some (AObj.row (ints zs) (2 : Nat) m1 w1 true) :: some (AObj.row (acs ks) (2 : Nat) m2 w2 true) :: noH)) (K (Value.int IntKind.i64 (0 : Int)) (some (AObj.row (ints zs) (2 : Nat) m1 w1 true) :: some (AObj.row (acs ks) (2 : Nat) m2 w2 true) :: noH)))))) := by kernel_rfl
noncomputable def lpCkR1 (nm : ByteArray) (zs : List Int) (ks : List (Int × ByteArray)) (n c k d : Nat) (m1 w1 m2 w2 : Bool) : Lp where
  σ := Nat × Int
  E s := slots 101 [(1, .pointer (some ⟨2, 0, none⟩)), (4, .int .i64 (Int.ofNat s.1))]
  Hp _ := hp2 zs ks m1 w1 m2 w2 [some (.row (secA nm 0 n c 1 k d) 0 false true false)]
  I s := s.1 ≤ n ∧ mchk (zs.drop (s.1 * 2)) s.2 = mchk zs (-1) ∧ s.2 = if s.1 = 0 then -1 else zs.getD ((s.1 - 1) * 2) 0
  m s := n - s.1
noncomputable def lpCkR2 (nm : ByteArray) (zs : List Int) (ks : List (Int × ByteArray)) (n c k d : Nat) (m1 w1 m2 w2 : Bool) : Lp where
  σ := Nat × Int
  E s := slots 101 [(1, .pointer (some ⟨2, 0, none⟩)), (6, .int .i64 (Int.ofNat s.1))]
  Hp _ := hp2 zs ks m1 w1 m2 w2 [some (.row (secA nm 0 n c 1 k d) 0 false true false)]
  I s := s.1 ≤ k ∧ achk (ks.drop s.1) s.2 = achk ks (-1) ∧ s.2 = if s.1 = 0 then -1 else (ks.getD (s.1 - 1) (0, ⟨#[]⟩)).1
  m s := k - s.1
noncomputable def zI (zs : List Int) (off : Nat) : Value := .int .i64 (zs.getD off 0)
noncomputable def kI (ks : List (Int × ByteArray)) (off : Nat) : Value := .int .i64 (ks.getD (off / 2) (0, ⟨#[]⟩)).1
noncomputable def hsCkR (nm : ByteArray) (zs : List Int) (ks : List (Int × ByteArray)) (n c k d : Nat) (m1 w1 m2 w2 : Bool) : Hs Tryz.prog where
  op x := if [703, 712, 720, 1503, 1512, 1520].contains x then some (hIa Tryz.prog) else if x = 704 then some (hLd Tryz.prog (z2 zs)) else if [714, 722].contains x then some (hLd Tryz.prog (zI zs))
    else if x = 1504 then some (hLd Tryz.prog (k2 ks)) else if [1514, 1522].contains x then some (hLd Tryz.prog (kI ks)) else none
  lp x := if x = 5 then some (lpCkR1 nm zs ks n c k d m1 w1 m2 w2) else some (lpCkR2 nm zs ks n c k d m1 w1 m2 w2)
  cl x := if x = 5 then keep 101 [1, 4] else keep 101 [1, 6]
  au := au0 Tryz.prog
theorem ckR_t (nm : ByteArray) (zs : List Int) (ks : List (Int × ByteArray)) (n : Nat) (c : Nat) (k : Nat) (d : Nat) (m1 : Bool) (w1 : Bool) (m2 : Bool) (w2 : Bool) (K : Value → Heap → Prop) :
    (fnP Tryz.prog cr12 (hsCkR nm zs ks n c k d m1 w1 m2 w2) (38 : FuncId) [Value.agg (List.toArray (secA nm (0 : Nat) n c (1 : Nat) k d))] (hp2 zs ks m1 w1 m2 w2 []) K) =
    (br (fi [wh (!nameB nm) (8 : Int), wh (decide ((32 : Int) < (↑n : Int))) (5 : Int)] != (0 : Int)) (K (Value.int IntKind.i64 (fi [wh (!nameB nm) (8 : Int), wh (decide ((32 : Int) < (↑n : Int))) (5 : Int)])) (some (AObj.row (ints zs) (2 : Nat) m1 w1 true) :: some (AObj.row (acs ks) (2 : Nat) m2 w2 true) :: noH)) ((∃ s, Is (Prod.fst s ≤ n ∧ mchk (List.drop (Prod.fst s * (2 : Nat)) zs) (Prod.snd s) = mchk zs (-1 : Int) ∧ Prod.snd s = if Prod.fst s = (0 : Nat) then (-1 : Int) else List.getD zs ((Prod.fst s - (1 : Nat)) * (2 : Nat)) (0 : Int)) ∧ [poi, Value.pointer (some { block := (2 : Nat), off := (0 : Nat) }), poi, poi, Value.int IntKind.i64 (0 : Int), poi, poi, poi, poi, poi, poi, poi, poi, poi, poi, poi, poi, poi, poi, poi, poi, poi, poi, poi, poi, poi, poi, poi, poi, poi, poi, poi, poi, poi, poi, poi, poi, poi, poi, poi, poi, poi, poi, poi, poi, poi, poi, poi, poi, poi, poi, poi, poi, poi, poi, poi, poi, poi, poi, poi, poi, poi, poi, poi, poi, poi, poi, poi, poi, poi, poi, poi, poi, poi, poi, poi, poi, poi, poi, poi, poi, poi, poi, poi, poi, poi, poi, poi, poi, poi, poi, poi, poi, poi, poi, poi, poi, poi, poi, poi, poi] = [poi, Value.pointer (some { block := (2 : Nat), off := (0 : Nat) }), poi, poi, Value.int IntKind.i64 (↑(Prod.fst s) : Int), poi, poi, poi, poi, poi, poi, poi, poi, poi, poi, poi, poi, poi, poi, poi, poi, poi, poi, poi, poi, poi, poi, poi, poi, poi, poi, poi, poi, poi, poi, poi, poi, poi, poi, poi, poi, poi, poi, poi, poi, poi, poi, poi, poi, poi, poi, poi, poi, poi, poi, poi, poi, poi, poi, poi, poi, poi, poi, poi, poi, poi, poi, poi, poi, poi, poi, poi, poi, poi, poi, poi, poi, poi, poi, poi, poi, poi, poi, poi, poi, poi, poi, poi, poi, poi, poi, poi, poi, poi, poi, poi, poi, poi, poi, poi, poi] ∧ some (AObj.row (ints zs) (2 : Nat) m1 w1 true) :: some (AObj.row (acs ks) (2 : Nat) m2 w2 true) :: some (AObj.row [Value.string nm, Value.slice (some { block := (0 : Nat), off := (0 : Nat) }) n c, Value.slice (some { block := (1 : Nat), off := (0 : Nat) }) k d] (0 : Nat) false true (List.all [Value.string nm, Value.slice (some { block := (0 : Nat), off := (0 : Nat) }) n c, Value.slice (some { block := (1 : Nat), off := (0 : Nat) }) k d] atom)) :: noH = some (AObj.row (ints zs) (2 : Nat) m1 w1 true) :: some (AObj.row (acs ks) (2 : Nat) m2 w2 true) :: some (AObj.row [Value.string nm, Value.slice (some { block := (0 : Nat), off := (0 : Nat) }) n c, Value.slice (some { block := (1 : Nat), off := (0 : Nat) }) k d] (0 : Nat) false true false) :: noH) ∧ ∀ (s : Nat × Int), Is (Prod.fst s ≤ n ∧ mchk (List.drop (Prod.fst s * (2 : Nat)) zs) (Prod.snd s) = mchk zs (-1 : Int) ∧ Prod.snd s = if Prod.fst s = (0 : Nat) then (-1 : Int) else List.getD zs ((Prod.fst s - (1 : Nat)) * (2 : Nat)) (0 : Int)) → br (decide ((↑(Prod.fst s) : Int) < (↑n : Int))) (Is ((0 : Int) ≤ (↑(Prod.fst s) : Int) ∧ (↑(Prod.fst s) : Int) < (↑n : Int)) ∧ Is ((if (0 : Nat) + Int.toNat (↑(Prod.fst s) : Int) * (2 : Nat) + (2 : Nat) ≤ List.length (ints zs) then some (Value.agg (List.toArray (List.take (2 : Nat) (List.drop ((0 : Nat) + Int.toNat (↑(Prod.fst s) : Int) * (2 : Nat)) (ints zs))))) else none) = some (Value.agg #[Value.int IntKind.i64 (List.getD zs ((0 : Nat) + Int.toNat (↑(Prod.fst s) : Int) * (2 : Nat)) (0 : Int)), Value.int IntKind.i64 (List.getD zs ((0 : Nat) + Int.toNat (↑(Prod.fst s) : Int) * (2 : Nat) + (1 : Nat)) (0 : Int))])) ∧ br (decide ((0 : Int) < (↑(Prod.fst s) : Int))) (Is ((0 : Int) ≤ (↑(Prod.fst s) : Int) ∧ (↑(Prod.fst s) : Int) < (↑n : Int)) ∧ Is ((ints zs)[(0 : Nat) + Int.toNat (↑(Prod.fst s) : Int) * (2 : Nat) + (0 : Nat)]? = some (Value.int IntKind.i64 (List.getD zs ((0 : Nat) + Int.toNat (↑(Prod.fst s) : Int) * (2 : Nat) + (0 : Nat)) (0 : Int)))) ∧ Is (((0 : Int) ≤ if IntKind.wrap IntKind.i64 ((↑(Prod.fst s) : Int) - (1 : Int)) > (0 : Int) then IntKind.wrap IntKind.i64 ((↑(Prod.fst s) : Int) - (1 : Int)) else (0 : Int)) ∧ (if IntKind.wrap IntKind.i64 ((↑(Prod.fst s) : Int) - (1 : Int)) > (0 : Int) then IntKind.wrap IntKind.i64 ((↑(Prod.fst s) : Int) - (1 : Int)) else (0 : Int)) < (↑n : Int)) ∧ Is ((ints zs)[(0 : Nat) + Int.toNat (if IntKind.wrap IntKind.i64 ((↑(Prod.fst s) : Int) - (1 : Int)) > (0 : Int) then IntKind.wrap IntKind.i64 ((↑(Prod.fst s) : Int) - (1 : Int)) else (0 : Int)) * (2 : Nat) + (0 : Nat)]? = some (Value.int IntKind.i64 (List.getD zs ((0 : Nat) + Int.toNat (if IntKind.wrap IntKind.i64 ((↑(Prod.fst s) : Int) - (1 : Int)) > (0 : Int) then IntKind.wrap IntKind.i64 ((↑(Prod.fst s) : Int) - (1 : Int)) else (0 : Int)) * (2 : Nat) + (0 : Nat)) (0 : Int)))) ∧ br (fi [chkM (List.getD zs ((0 : Nat) + Int.toNat (↑(Prod.fst s) : Int) * (2 : Nat)) (0 : Int)) (List.getD zs ((0 : Nat) + Int.toNat (↑(Prod.fst s) : Int) * (2 : Nat) + (1 : Nat)) (0 : Int)), wh (decide (List.getD zs ((0 : Nat) + Int.toNat (↑(Prod.fst s) : Int) * (2 : Nat) + (0 : Nat)) (0 : Int) ≤ List.getD zs ((0 : Nat) + Int.toNat (if IntKind.wrap IntKind.i64 ((↑(Prod.fst s) : Int) - (1 : Int)) > (0 : Int) then IntKind.wrap IntKind.i64 ((↑(Prod.fst s) : Int) - (1 : Int)) else (0 : Int)) * (2 : Nat) + (0 : Nat)) (0 : Int))) (11 : Int)] != (0 : Int)) (K (Value.int IntKind.i64 (fi [chkM (List.getD zs ((0 : Nat) + Int.toNat (↑(Prod.fst s) : Int) * (2 : Nat)) (0 : Int)) (List.getD zs ((0 : Nat) + Int.toNat (↑(Prod.fst s) : Int) * (2 : Nat) + (1 : Nat)) (0 : Int)), wh (decide (List.getD zs ((0 : Nat) + Int.toNat (↑(Prod.fst s) : Int) * (2 : Nat) + (0 : Nat)) (0 : Int) ≤ List.getD zs ((0 : Nat) + Int.toNat (if IntKind.wrap IntKind.i64 ((↑(Prod.fst s) : Int) - (1 : Int)) > (0 : Int) then IntKind.wrap IntKind.i64 ((↑(Prod.fst s) : Int) - (1 : Int)) else (0 : Int)) * (2 : Nat) + (0 : Nat)) (0 : Int))) (11 : Int)])) (some (AObj.row (ints zs) (2 : Nat) m1 w1 true) :: some (AObj.row (acs ks) (2 : Nat) m2 w2 true) :: noH)) (∃ s', Is (Prod.fst s' ≤ n ∧ mchk (List.drop (Prod.fst s' * (2 : Nat)) zs) (Prod.snd s') = mchk zs (-1 : Int) ∧ Prod.snd s' = if Prod.fst s' = (0 : Nat) then (-1 : Int) else List.getD zs ((Prod.fst s' - (1 : Nat)) * (2 : Nat)) (0 : Int)) ∧ Is (n - Prod.fst s' < n - Prod.fst s) ∧ [poi, Value.pointer (some { block := (2 : Nat), off := (0 : Nat) }), poi, poi, Value.int IntKind.i64 (IntKind.wrap IntKind.i64 ((↑(Prod.fst s) : Int) + (1 : Int))), poi, poi, poi, poi, poi, poi, poi, poi, poi, poi, poi, poi, poi, poi, poi, poi, poi, poi, poi, poi, poi, poi, poi, poi, poi, poi, poi, poi, poi, poi, poi, poi, poi, poi, poi, poi, poi, poi, poi, poi, poi, poi, poi, poi, poi, poi, poi, poi, poi, poi, poi, poi, poi, poi, poi, poi, poi, poi, poi, poi, poi, poi, poi, poi, poi, poi, poi, poi, poi, poi, poi, poi, poi, poi, poi, poi, poi, poi, poi, poi, poi, poi, poi, poi, poi, poi, poi, poi, poi, poi, poi, poi, poi, poi, poi, poi] = [poi, Value.pointer (some { block := (2 : Nat), off := (0 : Nat) }), poi, poi, Value.int IntKind.i64 (↑(Prod.fst s') : Int), poi, poi, poi, poi, poi, poi, poi, poi, poi, poi, poi, poi, poi, poi, poi, poi, poi, poi, poi, poi, poi, poi, poi, poi, poi, poi, poi, poi, poi, poi, poi, poi, poi, poi, poi, poi, poi, poi, poi, poi, poi, poi, poi, poi, poi, poi, poi, poi, poi, poi, poi, poi, poi, poi, poi, poi, poi, poi, poi, poi, poi, poi, poi, poi, poi, poi, poi, poi, poi, poi, poi, poi, poi, poi, poi, poi, poi, poi, poi, poi, poi, poi, poi, poi, poi, poi, poi, poi, poi, poi, poi, poi, poi, poi, poi, poi] ∧ some (AObj.row (ints zs) (2 : Nat) m1 w1 true) :: some (AObj.row (acs ks) (2 : Nat) m2 w2 true) :: some (AObj.row [Value.string nm, Value.slice (some { block := (0 : Nat), off := (0 : Nat) }) n c, Value.slice (some { block := (1 : Nat), off := (0 : Nat) }) k d] (0 : Nat) false true false) :: noH = some (AObj.row (ints zs) (2 : Nat) m1 w1 true) :: some (AObj.row (acs ks) (2 : Nat) m2 w2 true) :: some (AObj.row [Value.string nm, Value.slice (some { block := (0 : Nat), off := (0 : Nat) }) n c, Value.slice (some { block := (1 : Nat), off := (0 : Nat) }) k d] (0 : Nat) false true false) :: noH)) (br (fi [chkM (List.getD zs ((0 : Nat) + Int.toNat (↑(Prod.fst s) : Int) * (2 : Nat)) (0 : Int)) (List.getD zs ((0 : Nat) + Int.toNat (↑(Prod.fst s) : Int) * (2 : Nat) + (1 : Nat)) (0 : Int)), (0 : Int)] != (0 : Int)) (K (Value.int IntKind.i64 (fi [chkM (List.getD zs ((0 : Nat) + Int.toNat (↑(Prod.fst s) : Int) * (2 : Nat)) (0 : Int)) (List.getD zs ((0 : Nat) + Int.toNat (↑(Prod.fst s) : Int) * (2 : Nat) + (1 : Nat)) (0 : Int)), (0 : Int)])) (some (AObj.row (ints zs) (2 : Nat) m1 w1 true) :: some (AObj.row (acs ks) (2 : Nat) m2 w2 true) :: noH)) (∃ s', Is (Prod.fst s' ≤ n ∧ mchk (List.drop (Prod.fst s' * (2 : Nat)) zs) (Prod.snd s') = mchk zs (-1 : Int) ∧ Prod.snd s' = if Prod.fst s' = (0 : Nat) then (-1 : Int) else List.getD zs ((Prod.fst s' - (1 : Nat)) * (2 : Nat)) (0 : Int)) ∧ Is (n - Prod.fst s' < n - Prod.fst s) ∧ [poi, Value.pointer (some { block := (2 : Nat), off := (0 : Nat) }), poi, poi, Value.int IntKind.i64 (IntKind.wrap IntKind.i64 ((↑(Prod.fst s) : Int) + (1 : Int))), poi, poi, poi, poi, poi, poi, poi, poi, poi, poi, poi, poi, poi, poi, poi, poi, poi, poi, poi, poi, poi, poi, poi, poi, poi, poi, poi, poi, poi, poi, poi, poi, poi, poi, poi, poi, poi, poi, poi, poi, poi, poi, poi, poi, poi, poi, poi, poi, poi, poi, poi, poi, poi, poi, poi, poi, poi, poi, poi, poi, poi, poi, poi, poi, poi, poi, poi, poi, poi, poi, poi, poi, poi, poi, poi, poi, poi, poi, poi, poi, poi, poi, poi, poi, poi, poi, poi, poi, poi, poi, poi, poi, poi, poi, poi, poi] = [poi, Value.pointer (some { block := (2 : Nat), off := (0 : Nat) }), poi, poi, Value.int IntKind.i64 (↑(Prod.fst s') : Int), poi, poi, poi, poi, poi, poi, poi, poi, poi, poi, poi, poi, poi, poi, poi, poi, poi, poi, poi, poi, poi, poi, poi, poi, poi, poi, poi, poi, poi, poi, poi, poi, poi, poi, poi, poi, poi, poi, poi, poi, poi, poi, poi, poi, poi, poi, poi, poi, poi, poi, poi, poi, poi, poi, poi, poi, poi, poi, poi, poi, poi, poi, poi, poi, poi, poi, poi, poi, poi, poi, poi, poi, poi, poi, poi, poi, poi, poi, poi, poi, poi, poi, poi, poi, poi, poi, poi, poi, poi, poi, poi, poi, poi, poi, poi, poi] ∧ some (AObj.row (ints zs) (2 : Nat) m1 w1 true) :: some (AObj.row (acs ks) (2 : Nat) m2 w2 true) :: some (AObj.row [Value.string nm, Value.slice (some { block := (0 : Nat), off := (0 : Nat) }) n c, Value.slice (some { block := (1 : Nat), off := (0 : Nat) }) k d] (0 : Nat) false true false) :: noH = some (AObj.row (ints zs) (2 : Nat) m1 w1 true) :: some (AObj.row (acs ks) (2 : Nat) m2 w2 true) :: some (AObj.row [Value.string nm, Value.slice (some { block := (0 : Nat), off := (0 : Nat) }) n c, Value.slice (some { block := (1 : Nat), off := (0 : Nat) }) k d] (0 : Nat) false true false) :: noH))) (br (decide ((16 : Int) < (↑k : Int))) (K (Value.int IntKind.i64 (5 : Int)) (some (AObj.row (ints zs) (2 : Nat) m1 w1 true) :: some (AObj.row (acs ks) (2 : Nat) m2 w2 true) :: noH)) ((∃ s, Is (Prod.fst s ≤ k ∧ achk (List.drop (Prod.fst s) ks) (Prod.snd s) = achk ks (-1 : Int) ∧ Prod.snd s = if Prod.fst s = (0 : Nat) then (-1 : Int) else Prod.fst (List.getD ks (Prod.fst s - (1 : Nat)) ((0 : Int), { data := #[] }))) ∧ [poi, Value.pointer (some { block := (2 : Nat), off := (0 : Nat) }), poi, poi, poi, poi, Value.int IntKind.i64 (0 : Int), poi, poi, poi, poi, poi, poi, poi, poi, poi, poi, poi, poi, poi, poi, poi, poi, poi, poi, poi, poi, poi, poi, poi, poi, poi, poi, poi, poi, poi, poi, poi, poi, poi, poi, poi, poi, poi, poi, poi, poi, poi, poi, poi, poi, poi, poi, poi, poi, poi, poi, poi, poi, poi, poi, poi, poi, poi, poi, poi, poi, poi, poi, poi, poi, poi, poi, poi, poi, poi, poi, poi, poi, poi, poi, poi, poi, poi, poi, poi, poi, poi, poi, poi, poi, poi, poi, poi, poi, poi, poi, poi, poi, poi, poi] = [poi, Value.pointer (some { block := (2 : Nat), off := (0 : Nat) }), poi, poi, poi, poi, Value.int IntKind.i64 (↑(Prod.fst s) : Int), poi, poi, poi, poi, poi, poi, poi, poi, poi, poi, poi, poi, poi, poi, poi, poi, poi, poi, poi, poi, poi, poi, poi, poi, poi, poi, poi, poi, poi, poi, poi, poi, poi, poi, poi, poi, poi, poi, poi, poi, poi, poi, poi, poi, poi, poi, poi, poi, poi, poi, poi, poi, poi, poi, poi, poi, poi, poi, poi, poi, poi, poi, poi, poi, poi, poi, poi, poi, poi, poi, poi, poi, poi, poi, poi, poi, poi, poi, poi, poi, poi, poi, poi, poi, poi, poi, poi, poi, poi, poi, poi, poi, poi, poi] ∧ some (AObj.row (ints zs) (2 : Nat) m1 w1 true) :: some (AObj.row (acs ks) (2 : Nat) m2 w2 true) :: some (AObj.row [Value.string nm, Value.slice (some { block := (0 : Nat), off := (0 : Nat) }) n c, Value.slice (some { block := (1 : Nat), off := (0 : Nat) }) k d] (0 : Nat) false true false) :: noH = some (AObj.row (ints zs) (2 : Nat) m1 w1 true) :: some (AObj.row (acs ks) (2 : Nat) m2 w2 true) :: some (AObj.row [Value.string nm, Value.slice (some { block := (0 : Nat), off := (0 : Nat) }) n c, Value.slice (some { block := (1 : Nat), off := (0 : Nat) }) k d] (0 : Nat) false true false) :: noH) ∧ ∀ (s : Nat × Int), Is (Prod.fst s ≤ k ∧ achk (List.drop (Prod.fst s) ks) (Prod.snd s) = achk ks (-1 : Int) ∧ Prod.snd s = if Prod.fst s = (0 : Nat) then (-1 : Int) else Prod.fst (List.getD ks (Prod.fst s - (1 : Nat)) ((0 : Int), { data := #[] }))) → br (decide ((↑(Prod.fst s) : Int) < (↑k : Int))) (Is ((0 : Int) ≤ (↑(Prod.fst s) : Int) ∧ (↑(Prod.fst s) : Int) < (↑k : Int)) ∧ Is ((if (0 : Nat) + Int.toNat (↑(Prod.fst s) : Int) * (2 : Nat) + (2 : Nat) ≤ List.length (acs ks) then some (Value.agg (List.toArray (List.take (2 : Nat) (List.drop ((0 : Nat) + Int.toNat (↑(Prod.fst s) : Int) * (2 : Nat)) (acs ks))))) else none) = some (Value.agg #[Value.int IntKind.i64 (Prod.fst (List.getD ks (((0 : Nat) + Int.toNat (↑(Prod.fst s) : Int) * (2 : Nat)) / (2 : Nat)) ((0 : Int), { data := #[] }))), Value.string (Prod.snd (List.getD ks (((0 : Nat) + Int.toNat (↑(Prod.fst s) : Int) * (2 : Nat)) / (2 : Nat)) ((0 : Int), { data := #[] })))])) ∧ br (decide ((0 : Int) < (↑(Prod.fst s) : Int))) (Is ((0 : Int) ≤ (↑(Prod.fst s) : Int) ∧ (↑(Prod.fst s) : Int) < (↑k : Int)) ∧ Is ((acs ks)[(0 : Nat) + Int.toNat (↑(Prod.fst s) : Int) * (2 : Nat) + (0 : Nat)]? = some (Value.int IntKind.i64 (Prod.fst (List.getD ks (((0 : Nat) + Int.toNat (↑(Prod.fst s) : Int) * (2 : Nat) + (0 : Nat)) / (2 : Nat)) ((0 : Int), { data := #[] }))))) ∧ Is (((0 : Int) ≤ if IntKind.wrap IntKind.i64 ((↑(Prod.fst s) : Int) - (1 : Int)) > (0 : Int) then IntKind.wrap IntKind.i64 ((↑(Prod.fst s) : Int) - (1 : Int)) else (0 : Int)) ∧ (if IntKind.wrap IntKind.i64 ((↑(Prod.fst s) : Int) - (1 : Int)) > (0 : Int) then IntKind.wrap IntKind.i64 ((↑(Prod.fst s) : Int) - (1 : Int)) else (0 : Int)) < (↑k : Int)) ∧ Is ((acs ks)[(0 : Nat) + Int.toNat (if IntKind.wrap IntKind.i64 ((↑(Prod.fst s) : Int) - (1 : Int)) > (0 : Int) then IntKind.wrap IntKind.i64 ((↑(Prod.fst s) : Int) - (1 : Int)) else (0 : Int)) * (2 : Nat) + (0 : Nat)]? = some (Value.int IntKind.i64 (Prod.fst (List.getD ks (((0 : Nat) + Int.toNat (if IntKind.wrap IntKind.i64 ((↑(Prod.fst s) : Int) - (1 : Int)) > (0 : Int) then IntKind.wrap IntKind.i64 ((↑(Prod.fst s) : Int) - (1 : Int)) else (0 : Int)) * (2 : Nat) + (0 : Nat)) / (2 : Nat)) ((0 : Int), { data := #[] }))))) ∧ br (fi [chkA (Prod.fst (List.getD ks (((0 : Nat) + Int.toNat (↑(Prod.fst s) : Int) * (2 : Nat)) / (2 : Nat)) ((0 : Int), { data := #[] }))) (Prod.snd (List.getD ks (((0 : Nat) + Int.toNat (↑(Prod.fst s) : Int) * (2 : Nat)) / (2 : Nat)) ((0 : Int), { data := #[] }))), wh (decide (Prod.fst (List.getD ks (((0 : Nat) + Int.toNat (↑(Prod.fst s) : Int) * (2 : Nat) + (0 : Nat)) / (2 : Nat)) ((0 : Int), { data := #[] })) ≤ Prod.fst (List.getD ks (((0 : Nat) + Int.toNat (if IntKind.wrap IntKind.i64 ((↑(Prod.fst s) : Int) - (1 : Int)) > (0 : Int) then IntKind.wrap IntKind.i64 ((↑(Prod.fst s) : Int) - (1 : Int)) else (0 : Int)) * (2 : Nat) + (0 : Nat)) / (2 : Nat)) ((0 : Int), { data := #[] })))) (11 : Int)] != (0 : Int)) (K (Value.int IntKind.i64 (fi [chkA (Prod.fst (List.getD ks (((0 : Nat) + Int.toNat (↑(Prod.fst s) : Int) * (2 : Nat)) / (2 : Nat)) ((0 : Int), { data := #[] }))) (Prod.snd (List.getD ks (((0 : Nat) + Int.toNat (↑(Prod.fst s) : Int) * (2 : Nat)) / (2 : Nat)) ((0 : Int), { data := #[] }))), wh (decide (Prod.fst (List.getD ks (((0 : Nat) + Int.toNat (↑(Prod.fst s) : Int) * (2 : Nat) + (0 : Nat)) / (2 : Nat)) ((0 : Int), { data := #[] })) ≤ Prod.fst (List.getD ks (((0 : Nat) + Int.toNat (if IntKind.wrap IntKind.i64 ((↑(Prod.fst s) : Int) - (1 : Int)) > (0 : Int) then IntKind.wrap IntKind.i64 ((↑(Prod.fst s) : Int) - (1 : Int)) else (0 : Int)) * (2 : Nat) + (0 : Nat)) / (2 : Nat)) ((0 : Int), { data := #[] })))) (11 : Int)])) (some (AObj.row (ints zs) (2 : Nat) m1 w1 true) :: some (AObj.row (acs ks) (2 : Nat) m2 w2 true) :: noH)) (∃ s', Is (Prod.fst s' ≤ k ∧ achk (List.drop (Prod.fst s') ks) (Prod.snd s') = achk ks (-1 : Int) ∧ Prod.snd s' = if Prod.fst s' = (0 : Nat) then (-1 : Int) else Prod.fst (List.getD ks (Prod.fst s' - (1 : Nat)) ((0 : Int), { data := #[] }))) ∧ Is (k - Prod.fst s' < k - Prod.fst s) ∧ [poi, Value.pointer (some { block := (2 : Nat), off := (0 : Nat) }), poi, poi, poi, poi, Value.int IntKind.i64 (IntKind.wrap IntKind.i64 ((↑(Prod.fst s) : Int) + (1 : Int))), poi, poi, poi, poi, poi, poi, poi, poi, poi, poi, poi, poi, poi, poi, poi, poi, poi, poi, poi, poi, poi, poi, poi, poi, poi, poi, poi, poi, poi, poi, poi, poi, poi, poi, poi, poi, poi, poi, poi, poi, poi, poi, poi, poi, poi, poi, poi, poi, poi, poi, poi, poi, poi, poi, poi, poi, poi, poi, poi, poi, poi, poi, poi, poi, poi, poi, poi, poi, poi, poi, poi, poi, poi, poi, poi, poi, poi, poi, poi, poi, poi, poi, poi, poi, poi, poi, poi, poi, poi, poi, poi, poi, poi, poi] = [poi, Value.pointer (some { block := (2 : Nat), off := (0 : Nat) }), poi, poi, poi, poi, Value.int IntKind.i64 (↑(Prod.fst s') : Int), poi, poi, poi, poi, poi, poi, poi, poi, poi, poi, poi, poi, poi, poi, poi, poi, poi, poi, poi, poi, poi, poi, poi, poi, poi, poi, poi, poi, poi, poi, poi, poi, poi, poi, poi, poi, poi, poi, poi, poi, poi, poi, poi, poi, poi, poi, poi, poi, poi, poi, poi, poi, poi, poi, poi, poi, poi, poi, poi, poi, poi, poi, poi, poi, poi, poi, poi, poi, poi, poi, poi, poi, poi, poi, poi, poi, poi, poi, poi, poi, poi, poi, poi, poi, poi, poi, poi, poi, poi, poi, poi, poi, poi, poi] ∧ some (AObj.row (ints zs) (2 : Nat) m1 w1 true) :: some (AObj.row (acs ks) (2 : Nat) m2 w2 true) :: some (AObj.row [Value.string nm, Value.slice (some { block := (0 : Nat), off := (0 : Nat) }) n c, Value.slice (some { block := (1 : Nat), off := (0 : Nat) }) k d] (0 : Nat) false true false) :: noH = some (AObj.row (ints zs) (2 : Nat) m1 w1 true) :: some (AObj.row (acs ks) (2 : Nat) m2 w2 true) :: some (AObj.row [Value.string nm, Value.slice (some { block := (0 : Nat), off := (0 : Nat) }) n c, Value.slice (some { block := (1 : Nat), off := (0 : Nat) }) k d] (0 : Nat) false true false) :: noH)) (br (fi [chkA (Prod.fst (List.getD ks (((0 : Nat) + Int.toNat (↑(Prod.fst s) : Int) * (2 : Nat)) / (2 : Nat)) ((0 : Int), { data := #[] }))) (Prod.snd (List.getD ks (((0 : Nat) + Int.toNat (↑(Prod.fst s) : Int) * (2 : Nat)) / (2 : Nat)) ((0 : Int), { data := #[] }))), (0 : Int)] != (0 : Int)) (K (Value.int IntKind.i64 (fi [chkA (Prod.fst (List.getD ks (((0 : Nat) + Int.toNat (↑(Prod.fst s) : Int) * (2 : Nat)) / (2 : Nat)) ((0 : Int), { data := #[] }))) (Prod.snd (List.getD ks (((0 : Nat) + Int.toNat (↑(Prod.fst s) : Int) * (2 : Nat)) / (2 : Nat)) ((0 : Int), { data := #[] }))), (0 : Int)])) (some (AObj.row (ints zs) (2 : Nat) m1 w1 true) :: some (AObj.row (acs ks) (2 : Nat) m2 w2 true) :: noH)) (∃ s', Is (Prod.fst s' ≤ k ∧ achk (List.drop (Prod.fst s') ks) (Prod.snd s') = achk ks (-1 : Int) ∧ Prod.snd s' = if Prod.fst s' = (0 : Nat) then (-1 : Int) else Prod.fst (List.getD ks (Prod.fst s' - (1 : Nat)) ((0 : Int), { data := #[] }))) ∧ Is (k - Prod.fst s' < k - Prod.fst s) ∧ [poi, Value.pointer (some { block := (2 : Nat), off := (0 : Nat) }), poi, poi, poi, poi, Value.int IntKind.i64 (IntKind.wrap IntKind.i64 ((↑(Prod.fst s) : Int) + (1 : Int))), poi, poi, poi, poi, poi, poi, poi, poi, poi, poi, poi, poi, poi, poi, poi, poi, poi, poi, poi, poi, poi, poi, poi, poi, poi, poi, poi, poi, poi, poi, poi, poi, poi, poi, poi, poi, poi, poi, poi, poi, poi, poi, poi, poi, poi, poi, poi, poi, poi, poi, poi, poi, poi, poi, poi, poi, poi, poi, poi, poi, poi, poi, poi, poi, poi, poi, poi, poi, poi, poi, poi, poi, poi, poi, poi, poi, poi, poi, poi, poi, poi, poi, poi, poi, poi, poi, poi, poi, poi, poi, poi, poi, poi, poi] = [poi, Value.pointer (some { block := (2 : Nat), off := (0 : Nat) }), poi, poi, poi, poi, Value.int IntKind.i64 (↑(Prod.fst s') : Int), poi, poi, poi, poi, poi, poi, poi, poi, poi, poi, poi, poi, poi, poi, poi, poi, poi, poi, poi, poi, poi, poi, poi, poi, poi, poi, poi, poi, poi, poi, poi, poi, poi, poi, poi, poi, poi, poi, poi, poi, poi, poi, poi, poi, poi, poi, poi, poi, poi, poi, poi, poi, poi, poi, poi, poi, poi, poi, poi, poi, poi, poi, poi, poi, poi, poi, poi, poi, poi, poi, poi, poi, poi, poi, poi, poi, poi, poi, poi, poi, poi, poi, poi, poi, poi, poi, poi, poi, poi, poi, poi, poi, poi, poi] ∧ some (AObj.row (ints zs) (2 : Nat) m1 w1 true) :: some (AObj.row (acs ks) (2 : Nat) m2 w2 true) :: some (AObj.row [Value.string nm, Value.slice (some { block := (0 : Nat), off := (0 : Nat) }) n c, Value.slice (some { block := (1 : Nat), off := (0 : Nat) }) k d] (0 : Nat) false true false) :: noH = some (AObj.row (ints zs) (2 : Nat) m1 w1 true) :: some (AObj.row (acs ks) (2 : Nat) m2 w2 true) :: some (AObj.row [Value.string nm, Value.slice (some { block := (0 : Nat), off := (0 : Nat) }) n c, Value.slice (some { block := (1 : Nat), off := (0 : Nat) }) k d] (0 : Nat) false true false) :: noH))) (K (Value.int IntKind.i64 (0 : Int)) (some (AObj.row (ints zs) (2 : Nat) m1 w1 true) :: some (AObj.row (acs ks) (2 : Nat) m2 w2 true) :: noH)))))) := by kernel_rfl
theorem zint_at {zs : List Int} {i : Nat} (h : i < zs.length) : (ints zs)[i]? = some (.int .i64 (zs.getD i 0)) := by
  simp [ints, List.getElem?_map, List.getElem?_eq_getElem h, List.getD_eq_getElem?_getD]
theorem acs_day : ∀ {ks : List (Int × ByteArray)} {i : Nat}, i < ks.length → (acs ks)[i * 2]? = some (.int .i64 (ks.getD i (0, ⟨#[]⟩)).1)
  | [], _, h => absurd h (by simp)
  | a :: r, 0, _ => rfl
  | a :: r, i + 1, h => by
    have := acs_day (ks := r) (i := i) (by simpa using h)
    have e : (i + 1) * 2 = i * 2 + 1 + 1 := by omega
    rw [e, acs, List.getElem?_cons_succ, List.getElem?_cons_succ, this]
    simp
theorem mchk_step {zs : List Int} {i : Nat} (last : Int) (h : i * 2 + 2 ≤ zs.length) :
    mchk (zs.drop (i * 2)) last = sel (fi [chkM (zs.getD (i * 2) 0) (zs.getD (i * 2 + 1) 0), wh (decide (zs.getD (i * 2) 0 ≤ last)) 11]) (mchk (zs.drop ((i + 1) * 2)) (zs.getD (i * 2) 0)) := by
  have h1 : i * 2 < zs.length := by omega
  have h2 : i * 2 + 1 < zs.length := by omega
  have e : (i + 1) * 2 = i * 2 + 1 + 1 := by omega
  rw [List.drop_eq_getElem_cons h1, List.drop_eq_getElem_cons h2, e]
  simp only [mchk, List.getD_eq_getElem?_getD, List.getElem?_eq_getElem h1, List.getElem?_eq_getElem h2, Option.getD_some]
theorem achk_step {ks : List (Int × ByteArray)} {i : Nat} (last : Int) (h : i < ks.length) :
    achk (ks.drop i) last = sel (fi [chkA (ks.getD i (0, ⟨#[]⟩)).1 (ks.getD i (0, ⟨#[]⟩)).2, wh (decide ((ks.getD i (0, ⟨#[]⟩)).1 ≤ last)) 11]) (achk (ks.drop (i + 1)) (ks.getD i (0, ⟨#[]⟩)).1) := by
  rw [List.drop_eq_getElem_cons h]
  simp only [achk, List.getD_eq_getElem?_getD, List.getElem?_eq_getElem h, Option.getD_some]
theorem mchk_nil {zs : List Int} {i : Nat} (last : Int) (h : zs.length ≤ i) : mchk (zs.drop i) last = 0 := by
  rw [List.drop_eq_nil_of_le h]; rfl
theorem achk_nil {ks : List (Int × ByteArray)} {i : Nat} (last : Int) (h : ks.length ≤ i) : achk (ks.drop i) last = 0 := by
  rw [List.drop_eq_nil_of_le h]; rfl
theorem sel_ne {e d : Int} (h : (e != 0) = true) : sel e d = e := by
  have : e ≠ 0 := by simpa using h
  simp [sel, this]
theorem sel_eq {e d : Int} (h : (e != 0) = false) : sel e d = d := by
  have : e = 0 := by simpa using h
  simp [sel, this]
theorem fi_late {a : Int} {b : Bool} (h : b = true → a ≠ 0) : fi [a, wh b 11] = fi [a, 0] := by
  cases hb : b with
  | false => rfl
  | true =>
    have := h hb
    simp [fi, this]
theorem chkM_neg {d x : Int} (h : d ≤ -1) : chkM d x ≠ 0 := fun h0 => by
  have := (fi_zero.1 h0) (wi d 0 100000) (by simp)
  have := wi_zero.1 this
  omega
theorem chkA_neg {d : Int} {k : ByteArray} (h : d ≤ -1) : chkA d k ≠ 0 := fun h0 => by
  have := (fi_zero.1 h0) (wi d 0 100000) (by simp)
  have := wi_zero.1 this
  omega
theorem pred1 {s n : Nat} (h : s < n) (hn : n ≤ 100000) : (if IntKind.wrap .i64 ((s : Int) - 1) > 0 then IntKind.wrap .i64 ((s : Int) - 1) else 0) = ((s - 1 : Nat) : Int) := by
  rw [wrap_eq (by omega) (by omega)]
  split <;> omega
set_option maxRecDepth 100000 in
theorem ck_ok {nm : ByteArray} {zs : List Int} {ks : List (Int × ByteArray)} {n c k d : Nat} {m1 w1 m2 w2 : Bool} (hz : zs.length = n * 2) (hk : ks.length = k) (hn : n ≤ 1000) (hk2 : k ≤ 1000) :
    SmallRes Tryz.prog 40 [.agg (secA nm 0 n c 1 k d).toArray] (hp2 zs ks m1 w1 m2 w2 []) (.int .i64 (secE nm zs n ks k)) (hp2 zs ks m1 w1 m2 w2 []) := by
  refine fnP_res hm c12_ok (hs := hsCk nm zs ks n c k d m1 w1 m2 w2) ?_
  rw [ck_t]
  refine br_of (fun h => ?_) (fun h0 => ⟨⟨((0 : Nat), (-1 : Int)), ⟨by omega, by rw [Nat.zero_mul, List.drop_zero]⟩, by first | trivial | rfl, by first | trivial | rfl⟩, fun s hs => br_of (fun h => ?_) (fun h => ?_)⟩)
  · rw [secE, sel_ne h]; exact ⟨rfl, rfl⟩
  · obtain ⟨a1, a2⟩ := hs.out
    have h := lt_of_dec h
    have hst := mchk_step s.2 (show s.1 * 2 + 2 ≤ zs.length by omega)
    simp only [Nat.zero_add, Int.toNat_natCast]
    refine ⟨⟨by omega, by omega⟩, ⟨?_⟩, br_of (fun he => ?_) (fun he => ⟨(s.1 + 1, zs.getD (s.1 * 2) 0), ⟨h, ?_⟩, ⟨by simp only; omega⟩, ?_, by first | trivial | rfl⟩)⟩
    · rw [ints_len, if_pos (by omega), ints_pair (by omega)]
    · rw [secE, sel_eq h0, ← a2, hst, sel_ne he, sel_ne he]; exact ⟨rfl, rfl⟩
    · rw [← a2, hst, sel_eq he]
    · rw [up1 h (by omega)]
  · obtain ⟨a1, a2⟩ := hs.out
    have h := ge_of_dec h
    have m0 : mchk zs (-1) = 0 := by rw [← a2, mchk_nil _ (by omega)]
    refine br_of (fun h6 => ?_) (fun h6 => ⟨⟨((0 : Nat), (-1 : Int)), ⟨by omega, by rw [List.drop_zero]⟩, by first | trivial | rfl, by first | trivial | rfl⟩, fun r hr => br_of (fun h2 => ?_) (fun h2 => ?_)⟩)
    · rw [secE, sel_eq h0, m0, h6]; exact ⟨rfl, rfl⟩
    · obtain ⟨b1, b2⟩ := hr.out
      have h2 := lt_of_dec h2
      have hst := achk_step r.2 (show r.1 < ks.length by omega)
      have e2 : r.1 * 2 / 2 = r.1 := by omega
      simp only [Nat.zero_add, Int.toNat_natCast, e2]
      refine ⟨⟨by omega, by omega⟩, ⟨?_⟩, br_of (fun he => ?_) (fun he => ⟨(r.1 + 1, (ks.getD r.1 (0, ⟨#[]⟩)).1), ⟨h2, ?_⟩, ⟨by simp only; omega⟩, ?_, by first | trivial | rfl⟩)⟩
      · rw [acs_len, if_pos (by omega), acs_pair (by omega)]
      · rw [secE, sel_eq h0, m0, h6, ← b2, hst, sel_ne he]
        exact ⟨rfl, rfl⟩
      · rw [← b2, hst, sel_eq he]
      · rw [up1 h2 (by omega)]
    · obtain ⟨b1, b2⟩ := hr.out
      have h2 := ge_of_dec h2
      have k0 : achk ks (-1) = 0 := by rw [← b2, achk_nil _ (by omega)]
      rw [secE, sel_eq h0, m0, h6, k0]
      exact ⟨rfl, rfl⟩
set_option maxRecDepth 100000 in
theorem ckR_ok {nm : ByteArray} {zs : List Int} {ks : List (Int × ByteArray)} {n c k d : Nat} {m1 w1 m2 w2 : Bool} (hz : zs.length = n * 2) (hk : ks.length = k) (hn : n ≤ 1000) (hk2 : k ≤ 1000) :
    SmallRes Tryz.prog 38 [.agg (secA nm 0 n c 1 k d).toArray] (hp2 zs ks m1 w1 m2 w2 []) (.int .i64 (secE nm zs n ks k)) (hp2 zs ks m1 w1 m2 w2 []) := by
  refine fnP_res hm cr12_ok (hs := hsCkR nm zs ks n c k d m1 w1 m2 w2) ?_
  rw [ckR_t]
  refine br_of (fun h => ?_) (fun h0 => ⟨⟨((0 : Nat), (-1 : Int)), ⟨by omega, by rw [Nat.zero_mul, List.drop_zero], by first | trivial | rfl⟩, by first | trivial | rfl, by first | trivial | rfl⟩, fun s hs => br_of (fun h => ?_) (fun h => ?_)⟩)
  · rw [secE, sel_ne h]; exact ⟨rfl, rfl⟩
  · obtain ⟨a1, a2, a3⟩ := hs.out
    have h := lt_of_dec h
    have hst := mchk_step s.2 (show s.1 * 2 + 2 ≤ zs.length by omega)
    have pair : (if s.1 * 2 + 2 ≤ (ints zs).length then some (Value.agg (List.take 2 (List.drop (s.1 * 2) (ints zs))).toArray) else none) = some (.agg #[.int .i64 (zs.getD (s.1 * 2) 0), .int .i64 (zs.getD (s.1 * 2 + 1) 0)]) := by
      rw [ints_len, if_pos (by omega), ints_pair (by omega)]
    simp only [Nat.zero_add, Nat.add_zero, Int.toNat_natCast, pred1 h (by omega)]
    refine ⟨⟨by omega, by omega⟩, ⟨pair⟩, br_of (fun hp => ?_) (fun hp => ?_)⟩
    · have hp : 0 < s.1 := by have := of_decide_eq_true hp; omega
      have a3 : s.2 = zs.getD ((s.1 - 1) * 2) 0 := by rw [a3, if_neg (by omega)]
      rw [a3] at hst a2
      refine ⟨⟨by omega, by omega⟩, ⟨?_⟩, ⟨by omega, by omega⟩, ⟨?_⟩, br_of (fun he => ?_) (fun he => ⟨(s.1 + 1, zs.getD (s.1 * 2) 0), ⟨h, ?_, ?_⟩, ⟨by simp only; omega⟩, ?_, by first | trivial | rfl⟩)⟩
      · exact zint_at (by omega)
      · exact zint_at (by omega)
      · rw [secE, sel_eq h0, ← a2, hst, sel_ne he, sel_ne he]; exact ⟨rfl, rfl⟩
      · rw [← a2, hst, sel_eq he]
      · simp
      · rw [up1 h (by omega)]
    · have hp : s.1 = 0 := by have := of_decide_eq_false hp; omega
      have a3 : s.2 = -1 := by rw [a3, if_pos hp]
      rw [a3] at hst a2
      rw [fi_late fun hd => chkM_neg (of_decide_eq_true hd)] at hst
      refine br_of (fun he => ?_) (fun he => ⟨(s.1 + 1, zs.getD (s.1 * 2) 0), ⟨h, ?_, ?_⟩, ⟨by simp only; omega⟩, ?_, by first | trivial | rfl⟩)
      · rw [secE, sel_eq h0, ← a2, hst, sel_ne he, sel_ne he]; exact ⟨rfl, rfl⟩
      · rw [← a2, hst, sel_eq he]
      · simp
      · rw [up1 h (by omega)]
  · obtain ⟨a1, a2, a3⟩ := hs.out
    have h := ge_of_dec h
    have m0 : mchk zs (-1) = 0 := by rw [← a2, mchk_nil _ (by omega)]
    refine br_of (fun h6 => ?_) (fun h6 => ⟨⟨((0 : Nat), (-1 : Int)), ⟨by omega, by rw [List.drop_zero], by first | trivial | rfl⟩, by first | trivial | rfl, by first | trivial | rfl⟩, fun r hr => br_of (fun h2 => ?_) (fun h2 => ?_)⟩)
    · rw [secE, sel_eq h0, m0, h6]; exact ⟨rfl, rfl⟩
    · obtain ⟨b1, b2, b3⟩ := hr.out
      have h2 := lt_of_dec h2
      have hst := achk_step r.2 (show r.1 < ks.length by omega)
      have e2 : r.1 * 2 / 2 = r.1 := by omega
      have e3 : (r.1 - 1) * 2 / 2 = r.1 - 1 := by omega
      have pair : (if r.1 * 2 + 2 ≤ (acs ks).length then some (Value.agg (List.take 2 (List.drop (r.1 * 2) (acs ks))).toArray) else none) = some (.agg #[.int .i64 (ks.getD r.1 (0, ⟨#[]⟩)).1, .string (ks.getD r.1 (0, ⟨#[]⟩)).2]) := by
        rw [acs_len, if_pos (by omega), acs_pair (by omega)]
      simp only [Nat.zero_add, Nat.add_zero, Int.toNat_natCast, pred1 h2 (by omega), e2, e3]
      refine ⟨⟨by omega, by omega⟩, ⟨pair⟩, br_of (fun hp => ?_) (fun hp => ?_)⟩
      · have hp : 0 < r.1 := by have := of_decide_eq_true hp; omega
        have b3 : r.2 = (ks.getD (r.1 - 1) (0, ⟨#[]⟩)).1 := by rw [b3, if_neg (by omega)]
        rw [b3] at hst b2
        refine ⟨⟨by omega, by omega⟩, ⟨?_⟩, ⟨by omega, by omega⟩, ⟨?_⟩, br_of (fun he => ?_) (fun he => ⟨(r.1 + 1, (ks.getD r.1 (0, ⟨#[]⟩)).1), ⟨h2, ?_, ?_⟩, ⟨by simp only; omega⟩, ?_, by first | trivial | rfl⟩)⟩
        · exact acs_day (by omega)
        · exact acs_day (by omega)
        · rw [secE, sel_eq h0, m0, h6, ← b2, hst, sel_ne he]; exact ⟨rfl, rfl⟩
        · rw [← b2, hst, sel_eq he]
        · simp
        · rw [up1 h2 (by omega)]
      · have hp : r.1 = 0 := by have := of_decide_eq_false hp; omega
        have b3 : r.2 = -1 := by rw [b3, if_pos hp]
        rw [b3] at hst b2
        rw [fi_late fun hd => chkA_neg (of_decide_eq_true hd)] at hst
        refine br_of (fun he => ?_) (fun he => ⟨(r.1 + 1, (ks.getD r.1 (0, ⟨#[]⟩)).1), ⟨h2, ?_, ?_⟩, ⟨by simp only; omega⟩, ?_, by first | trivial | rfl⟩)
        · rw [secE, sel_eq h0, m0, h6, ← b2, hst, sel_ne he]; exact ⟨rfl, rfl⟩
        · rw [← b2, hst, sel_eq he]
        · simp
        · rw [up1 h2 (by omega)]
    · obtain ⟨b1, b2, b3⟩ := hr.out
      have h2 := ge_of_dec h2
      have k0 : achk ks (-1) = 0 := by rw [← b2, achk_nil _ (by omega)]
      rw [secE, sel_eq h0, m0, h6, k0]
      exact ⟨rfl, rfl⟩
