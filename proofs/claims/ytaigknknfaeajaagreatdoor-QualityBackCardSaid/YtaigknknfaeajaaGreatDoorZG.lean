/- Periods of sections, and the law about them. -/
import Derived.Test.YtaigknknfaeajaaGreatDoorZF
open Go Go.Vm Go.Proofs Sp
namespace Sp
noncomputable section
noncomputable def shortS (nm : ByteArray) (n : Nat) (ks : List (Int × ByteArray)) (k : Nat) : Bool :=
  ks.all (fun a => !decide ((40 : Int) < a.2.size)) && (decide ((nm.size : Int) ≤ 40) && ((decide ((n : Int) ≤ 12) || (n : Int) == 33) && (decide ((k : Int) ≤ 6) || (k : Int) == 17)))
end
end Sp
namespace Qq
noncomputable section
noncomputable def isSec (zs : List Int) (ks : List (Int × ByteArray)) (n k : Nat) (e1 e2 : List Value) : Prop := e1 = ints zs ∧ e2 = acs ks ∧ zs.length = n * 2 ∧ ks.length = k ∧ n ≤ 1000 ∧ k ≤ 1000
noncomputable def kS (ks : List (Int × ByteArray)) (off : Nat) : Value := .string (ks.getD (off / 2) (0, ⟨#[]⟩)).2
noncomputable def secR (nm : ByteArray) (n c k d : Nat) : Option AObj := some (.row (secA nm 0 n c 1 k d) 0 false true false)
noncomputable def lst2 (l : List Int) : Option AObj := some (.row (ints l) 2 true true true)
/- The reference's first. -/
/- The program's periods. -/
/- The reference's periods. -/
noncomputable def orcCkV (zs : List Int) (ks : List (Int × ByteArray)) : OrcV
  | [.agg ⟨[.string nm, .slice (some ⟨0, 0, none⟩) n _c, .slice (some ⟨1, 0, none⟩) k _d]⟩], [some (.row e1 2 m1 w1 true), some (.row e2 2 m2 w2 true)] => some (.int .i64 (secE nm zs n ks k), [some (.row e1 2 m1 w1 true), some (.row e2 2 m2 w2 true)], isSec zs ks n k e1 e2)
  | _, _ => none
noncomputable def orcOwnV (zs : List Int) (ks : List (Int × ByteArray)) : OrcV
  | [.agg ⟨[.string nm, .slice (some ⟨0, 0, none⟩) n _c, .slice (some ⟨1, 0, none⟩) k _d]⟩], [some (.row e1 2 m1 w1 true), some (.row e2 2 m2 w2 true)] => some (.agg #[.string nm, .slice (some ⟨2, 0, none⟩) n 0, .slice (some ⟨3, 0, none⟩) k 0], [some (.row e1 2 m1 w1 true), some (.row e2 2 m2 w2 true), some (.row (ints zs) 2 true true true), some (.row (acs ks) 2 true true true)], isSec zs ks n k e1 e2)
  | _, _ => none
noncomputable def orcShV (zs : List Int) (ks : List (Int × ByteArray)) : OrcV
  | [.agg ⟨[.string nm, .slice (some ⟨0, 0, none⟩) n _c, .slice (some ⟨1, 0, none⟩) k _d]⟩], [some (.row e1 2 m1 w1 true), some (.row e2 2 m2 w2 true)] => some (.bool (shortS nm n ks k), [some (.row e1 2 m1 w1 true), some (.row e2 2 m2 w2 true)], e1 = ints zs ∧ e2 = acs ks ∧ ks.length = k ∧ n ≤ 9223372036854775807 ∧ k ≤ 9223372036854775807)
  | _, _ => none
/- Equal lists of spans. -/
/- Short. -/
noncomputable def lpSh (nm : ByteArray) (zs : List Int) (ks : List (Int × ByteArray)) (n c k d : Nat) (m1 w1 m2 w2 : Bool) : Lp where
  σ := Nat
  E i := slots 47 [(1, .pointer (some ⟨2, 0, none⟩)), (3, .int .i64 (Int.ofNat i))]
  Hp _ := hp2 zs ks m1 w1 m2 w2 [secR nm n c k d]
  I i := i ≤ k ∧ (ks.take i).all (fun a => !decide ((40 : Int) < a.2.size)) = true
  m i := k - i
noncomputable def hsSh (nm : ByteArray) (zs : List Int) (ks : List (Int × ByteArray)) (n c k d : Nat) (m1 w1 m2 w2 : Bool) : Hs Tryz.prog where
  op y := if y = 403 then some (hIa Tryz.prog) else if y = 405 then some (hLd Tryz.prog (kS ks)) else none
  lp _ := some (lpSh nm zs ks n c k d m1 w1 m2 w2)
  cl _ := keep 47 [1, 3]
  au := au0 Tryz.prog
theorem short_t (nm : ByteArray) (zs : List Int) (ks : List (Int × ByteArray)) (n : Nat) (c : Nat) (k : Nat) (d : Nat) (m1 : Bool) (w1 : Bool) (m2 : Bool) (w2 : Bool) (K : Value → Heap → Prop) :
    (fnP Tryz.prog c0 (hsSh nm zs ks n c k d m1 w1 m2 w2) (35 : FuncId) [Value.agg (List.toArray (secA nm (0 : Nat) n c (1 : Nat) k d))] (hp2 zs ks m1 w1 m2 w2 []) K) =
    ((∃ s, Is (s ≤ k ∧ (List.all (List.take s ks) fun a => !decide ((40 : Int) < (↑(ByteArray.size (Prod.snd a)) : Int))) = true) ∧ [poi, Value.pointer (some { block := (2 : Nat), off := (0 : Nat) }), poi, Value.int IntKind.i64 (0 : Int), poi, poi, poi, poi, poi, poi, poi, poi, poi, poi, poi, poi, poi, poi, poi, poi, poi, poi, poi, poi, poi, poi, poi, poi, poi, poi, poi, poi, poi, poi, poi, poi, poi, poi, poi, poi, poi, poi, poi, poi, poi, poi, poi] = [poi, Value.pointer (some { block := (2 : Nat), off := (0 : Nat) }), poi, Value.int IntKind.i64 (↑s : Int), poi, poi, poi, poi, poi, poi, poi, poi, poi, poi, poi, poi, poi, poi, poi, poi, poi, poi, poi, poi, poi, poi, poi, poi, poi, poi, poi, poi, poi, poi, poi, poi, poi, poi, poi, poi, poi, poi, poi, poi, poi, poi, poi] ∧ some (AObj.row (ints zs) (2 : Nat) m1 w1 true) :: some (AObj.row (acs ks) (2 : Nat) m2 w2 true) :: some (AObj.row [Value.string nm, Value.slice (some { block := (0 : Nat), off := (0 : Nat) }) n c, Value.slice (some { block := (1 : Nat), off := (0 : Nat) }) k d] (0 : Nat) false true (List.all [Value.string nm, Value.slice (some { block := (0 : Nat), off := (0 : Nat) }) n c, Value.slice (some { block := (1 : Nat), off := (0 : Nat) }) k d] atom)) :: noH = some (AObj.row (ints zs) (2 : Nat) m1 w1 true) :: some (AObj.row (acs ks) (2 : Nat) m2 w2 true) :: some (AObj.row [Value.string nm, Value.slice (some { block := (0 : Nat), off := (0 : Nat) }) n c, Value.slice (some { block := (1 : Nat), off := (0 : Nat) }) k d] (0 : Nat) false true false) :: noH) ∧ ∀ (s : Nat), Is (s ≤ k ∧ (List.all (List.take s ks) fun a => !decide ((40 : Int) < (↑(ByteArray.size (Prod.snd a)) : Int))) = true) → br (decide ((↑s : Int) < (↑k : Int))) (Is ((0 : Int) ≤ (↑s : Int) ∧ (↑s : Int) < (↑k : Int)) ∧ Is ((acs ks)[(0 : Nat) + Int.toNat (↑s : Int) * (2 : Nat) + (1 : Nat)]? = some (Value.string (Prod.snd (List.getD ks (((0 : Nat) + Int.toNat (↑s : Int) * (2 : Nat) + (1 : Nat)) / (2 : Nat)) ((0 : Int), { data := #[] }))))) ∧ br (decide ((40 : Int) < (↑(ByteArray.size (Prod.snd (List.getD ks (((0 : Nat) + Int.toNat (↑s : Int) * (2 : Nat) + (1 : Nat)) / (2 : Nat)) ((0 : Int), { data := #[] })))) : Int))) (K (Value.bool false) (some (AObj.row (ints zs) (2 : Nat) m1 w1 true) :: some (AObj.row (acs ks) (2 : Nat) m2 w2 true) :: noH)) (∃ s', Is (s' ≤ k ∧ (List.all (List.take s' ks) fun a => !decide ((40 : Int) < (↑(ByteArray.size (Prod.snd a)) : Int))) = true) ∧ Is (k - s' < k - s) ∧ [poi, Value.pointer (some { block := (2 : Nat), off := (0 : Nat) }), poi, Value.int IntKind.i64 (IntKind.wrap IntKind.i64 ((↑s : Int) + (1 : Int))), poi, poi, poi, poi, poi, poi, poi, poi, poi, poi, poi, poi, poi, poi, poi, poi, poi, poi, poi, poi, poi, poi, poi, poi, poi, poi, poi, poi, poi, poi, poi, poi, poi, poi, poi, poi, poi, poi, poi, poi, poi, poi, poi] = [poi, Value.pointer (some { block := (2 : Nat), off := (0 : Nat) }), poi, Value.int IntKind.i64 (↑s' : Int), poi, poi, poi, poi, poi, poi, poi, poi, poi, poi, poi, poi, poi, poi, poi, poi, poi, poi, poi, poi, poi, poi, poi, poi, poi, poi, poi, poi, poi, poi, poi, poi, poi, poi, poi, poi, poi, poi, poi, poi, poi, poi, poi] ∧ some (AObj.row (ints zs) (2 : Nat) m1 w1 true) :: some (AObj.row (acs ks) (2 : Nat) m2 w2 true) :: some (AObj.row [Value.string nm, Value.slice (some { block := (0 : Nat), off := (0 : Nat) }) n c, Value.slice (some { block := (1 : Nat), off := (0 : Nat) }) k d] (0 : Nat) false true false) :: noH = some (AObj.row (ints zs) (2 : Nat) m1 w1 true) :: some (AObj.row (acs ks) (2 : Nat) m2 w2 true) :: some (AObj.row [Value.string nm, Value.slice (some { block := (0 : Nat), off := (0 : Nat) }) n c, Value.slice (some { block := (1 : Nat), off := (0 : Nat) }) k d] (0 : Nat) false true false) :: noH)) (br (decide ((↑(ByteArray.size nm) : Int) ≤ (40 : Int))) (br (decide ((↑n : Int) ≤ (12 : Int))) (br (decide ((↑k : Int) ≤ (6 : Int))) (K (Value.bool true) (some (AObj.row (ints zs) (2 : Nat) m1 w1 true) :: some (AObj.row (acs ks) (2 : Nat) m2 w2 true) :: noH)) (K (Value.bool ((↑k : Int) == (17 : Int))) (some (AObj.row (ints zs) (2 : Nat) m1 w1 true) :: some (AObj.row (acs ks) (2 : Nat) m2 w2 true) :: noH))) (br ((↑n : Int) == (33 : Int)) (br (decide ((↑k : Int) ≤ (6 : Int))) (K (Value.bool true) (some (AObj.row (ints zs) (2 : Nat) m1 w1 true) :: some (AObj.row (acs ks) (2 : Nat) m2 w2 true) :: noH)) (K (Value.bool ((↑k : Int) == (17 : Int))) (some (AObj.row (ints zs) (2 : Nat) m1 w1 true) :: some (AObj.row (acs ks) (2 : Nat) m2 w2 true) :: noH))) (K (Value.bool false) (some (AObj.row (ints zs) (2 : Nat) m1 w1 true) :: some (AObj.row (acs ks) (2 : Nat) m2 w2 true) :: noH)))) (K (Value.bool false) (some (AObj.row (ints zs) (2 : Nat) m1 w1 true) :: some (AObj.row (acs ks) (2 : Nat) m2 w2 true) :: noH)))) := by kernel_rfl

theorem acs_kind : ∀ {ks : List (Int × ByteArray)} {i : Nat}, i < ks.length → (acs ks)[i * 2 + 1]? = some (.string (ks.getD i (0, ⟨#[]⟩)).2)
  | [], _, h => absurd h (by simp)
  | a :: r, 0, _ => rfl
  | a :: r, i + 1, h => by
    have := acs_kind (ks := r) (i := i) (by simpa using h)
    have e : (i + 1) * 2 + 1 = i * 2 + 1 + 1 + 1 := by omega
    rw [e, acs, List.getElem?_cons_succ, List.getElem?_cons_succ, this]
    simp

theorem ck_okV (zs : List Int) (ks : List (Int × ByteArray)) : OkV Tryz.prog 40 (orcCkV zs ks) := by
  intro args H ret H' vc h hv
  unfold orcCkV at h
  split at h
  · cases h
    obtain ⟨rfl, rfl, h1, h2, h3, h4⟩ := hv
    exact ck_ok h1 h2 h3 h4
  · cases h
theorem ckR_okV (zs : List Int) (ks : List (Int × ByteArray)) : OkV Tryz.prog 38 (orcCkV zs ks) := by
  intro args H ret H' vc h hv
  unfold orcCkV at h
  split at h
  · cases h
    obtain ⟨rfl, rfl, h1, h2, h3, h4⟩ := hv
    exact ckR_ok h1 h2 h3 h4
  · cases h
theorem own_okV (zs : List Int) (ks : List (Int × ByteArray)) : OkV Tryz.prog 37 (orcOwnV zs ks) := by
  intro args H ret H' vc h hv
  unfold orcOwnV at h
  split at h
  · cases h
    obtain ⟨rfl, rfl, h1, h2, h3, h4⟩ := hv
    exact own_ok h1 h2 h3 h4
  · cases h
set_option maxRecDepth 100000 in
theorem short_ok {nm : ByteArray} {zs : List Int} {ks : List (Int × ByteArray)} {n c k d : Nat} {m1 w1 m2 w2 : Bool} (hk : ks.length = k) (hk2 : k ≤ 9223372036854775807) :
    SmallRes Tryz.prog 35 [.agg (secA nm 0 n c 1 k d).toArray] (hp2 zs ks m1 w1 m2 w2 []) (.bool (shortS nm n ks k)) (hp2 zs ks m1 w1 m2 w2 []) := by
  refine fnP_res hm c0_ok (hs := hsSh nm zs ks n c k d m1 w1 m2 w2) ?_
  rw [short_t]
  refine ⟨⟨(0 : Nat), ⟨by omega, rfl⟩, by first | trivial | rfl, by first | trivial | rfl⟩, fun s hs => br_of (fun h => ?_) (fun h => ?_)⟩
  · obtain ⟨a1, a2⟩ := hs.out
    have h := lt_of_dec h
    have e2 : (s * 2 + 1) / 2 = s := by omega
    have hu : IntKind.wrap .i64 ((s : Int) + 1) = ((s + 1 : Nat) : Int) := by rw [wrap_eq (by omega) (by omega)]; rfl
    simp only [Nat.zero_add, Int.toNat_natCast, e2]
    refine ⟨⟨by omega, by omega⟩, ⟨acs_kind (by omega)⟩, br_of (fun he => ?_) (fun he => ⟨s + 1, ⟨h, ?_⟩, ⟨by omega⟩, by rw [hu], by first | trivial | rfl⟩)⟩
    · have : ks.all (fun a => !decide ((40 : Int) < a.2.size)) = false := by
        rw [List.all_eq_false]
        refine ⟨ks.getD s (0, ⟨#[]⟩), ?_, by rw [he]; simp⟩
        rw [List.getD_eq_getElem?_getD, List.getElem?_eq_getElem (by omega)]
        exact List.getElem_mem _
      rw [shortS, this]
      exact ⟨rfl, rfl⟩
    · rw [List.take_add_one, List.all_append, a2, List.getElem?_eq_getElem (by omega)]
      rw [List.getD_eq_getElem?_getD, List.getElem?_eq_getElem (by omega)] at he
      simpa using he
  · obtain ⟨a1, a2⟩ := hs.out
    have h := ge_of_dec h
    have e : s = k := by omega
    subst e
    rw [← hk, List.take_length] at a2
    rw [shortS, a2, Bool.true_and]
    refine br_of (fun b1 => br_of (fun b2 => br_of (fun b3 => ?_) (fun b3 => ?_)) (fun b2 => br_of (fun b4 => br_of (fun b3 => ?_) (fun b3 => ?_)) (fun b4 => ?_))) (fun b1 => ?_)
    all_goals simp only [b1, Bool.true_and, Bool.false_and]
    all_goals first | simp only [b2, Bool.true_and, Bool.true_or, Bool.false_or] | skip
    all_goals first | simp only [b4, Bool.true_and, Bool.false_and] | skip
    all_goals first | simp only [b3, Bool.true_or, Bool.false_or] | skip
    all_goals exact ⟨by first | trivial | rfl, rfl⟩
theorem short_okV (zs : List Int) (ks : List (Int × ByteArray)) : OkV Tryz.prog 35 (orcShV zs ks) := by
  intro args H ret H' vc h hv
  unfold orcShV at h
  split at h
  · cases h
    obtain ⟨rfl, rfl, h1, h2, h3⟩ := hv
    exact short_ok h1 h3
  · cases h
end
end Qq
