/- Parts of the proof: QF, QG, QH. -/
import Derived.Test.YtaigknknfaeajaaGreatDoorZE
import Derived.Test.YtaigknknfaeajaaGreatDoorZD
import Derived.Laws.RangeString
import Derived.Laws.RangeAny
section
/- Sections: copies of them. -/
open Go Go.Vm Go.Proofs Sp
namespace Qq
noncomputable section

/-- The cells of interventions. -/
noncomputable def acs : List (Int × ByteArray) → List Value
  | [] => []
  | a :: r => .int .i64 a.1 :: .string a.2 :: acs r
theorem ints_len (zs : List Int) : (ints zs).length = zs.length := by simp [ints]
theorem ints_take (zs : List Int) (i : Nat) : (ints zs).take i = ints (zs.take i) := by simp [ints, List.map_take]
theorem ints_drop (zs : List Int) (i : Nat) : (ints zs).drop i = ints (zs.drop i) := by simp [ints, List.map_drop]
theorem ints_app (zs ys : List Int) : ints zs ++ ints ys = ints (zs ++ ys) := by simp [ints]
theorem pair_at {zs : List Int} {i : Nat} (h : i + 2 ≤ zs.length) : (zs.drop i).take 2 = [zs.getD i 0, zs.getD (i + 1) 0] := by
  have h1 : i < zs.length := by omega
  have h2 : i + 1 < zs.length := by omega
  rw [List.drop_eq_getElem_cons h1, List.drop_eq_getElem_cons h2]
  simp only [List.take_succ_cons, List.take_zero, List.getD_eq_getElem?_getD, List.getElem?_eq_getElem h1, List.getElem?_eq_getElem h2, Option.getD_some]
theorem ints_pair {zs : List Int} {i : Nat} (h : i + 2 ≤ zs.length) : ((ints zs).drop i).take 2 = [.int .i64 (zs.getD i 0), .int .i64 (zs.getD (i + 1) 0)] := by
  rw [ints_drop, ints_take, pair_at h]; rfl
/-- The program's loops count in 64 bits. -/
theorem up1 {s n : Nat} (h : s < n) (hn : n ≤ 100000) : IntKind.wrap .i64 ((s : Int) + 1) = ((s + 1 : Nat) : Int) := by
  rw [wrap_eq (by omega) (by omega)]; rfl
theorem lt_of_dec {s n : Nat} (h : decide ((s : Int) < (n : Int)) = true) : s < n := by simpa using h
theorem ge_of_dec {s n : Nat} (h : decide ((s : Int) < (n : Int)) = false) : n ≤ s := by simpa using h
end
end Qq
end
section
/- Names. -/
open Go Go.Vm Go.Proofs Sp
namespace Sp
noncomputable section
noncomputable def letI' (c : Int) : Bool := (decide (97 ≤ c) && decide (c ≤ 122)) || (decide (65 ≤ c) && decide (c ≤ 90))
noncomputable def digI (c : Int) : Bool := decide (48 ≤ c) && decide (c ≤ 57)
noncomputable def in2 (c : Int) : Bool := letI' c || digI c || c == 95
noncomputable def nameL (l : List UInt8) : Bool :=
  match l with
  | [] => false
  | b :: r => decide (r.length < 24) && letI' b.toNat && r.all fun b => in2 b.toNat
noncomputable def nameB (s : ByteArray) : Bool := nameL s.data.toList
end
end Sp
namespace Qq
noncomputable section
noncomputable def orcLet : Orc
  | [.int .i32 c], [] => some (.bool (letI' c), [])
  | _, _ => none
noncomputable def orcDig : Orc
  | [.int .i32 c], [] => some (.bool (digI c), [])
  | _, _ => none
noncomputable def orcLet8 : Orc
  | [.int .u8 c], [] => some (.bool (letI' c), [])
  | _, _ => none
noncomputable def orcDig8 : Orc
  | [.int .u8 c], [] => some (.bool (digI c), [])
  | _, _ => none
theorem let_t (c : Int) (K : Value → Heap → Prop) :
    (fnP Tryz.prog c0 h0 (203 : FuncId) [Value.int IntKind.i32 c] [] K) =
    (br (decide ((97 : Int) ≤ c)) (br (decide (c ≤ (122 : Int))) (K (Value.bool true) noH) (br (decide ((65 : Int) ≤ c)) (K (Value.bool (decide (c ≤ (90 : Int)))) noH) (K (Value.bool false) noH))) (br (decide ((65 : Int) ≤ c)) (K (Value.bool (decide (c ≤ (90 : Int)))) noH) (K (Value.bool false) noH))) := by kernel_rfl
theorem dig_t (c : Int) (K : Value → Heap → Prop) :
    (fnP Tryz.prog c0 h0 (204 : FuncId) [Value.int IntKind.i32 c] [] K) =
    (br (decide ((48 : Int) ≤ c)) (K (Value.bool (decide (c ≤ (57 : Int)))) noH) (K (Value.bool false) noH)) := by kernel_rfl
theorem let8_t (c : Int) (K : Value → Heap → Prop) :
    (fnP Tryz.prog c0 h0 (234 : FuncId) [Value.int IntKind.u8 c] [] K) =
    (br (decide ((65 : Int) ≤ c)) (br (decide (c ≤ (90 : Int))) (K (Value.bool true) noH) (br (decide ((97 : Int) ≤ c)) (K (Value.bool (decide (c ≤ (122 : Int)))) noH) (K (Value.bool false) noH))) (br (decide ((97 : Int) ≤ c)) (K (Value.bool (decide (c ≤ (122 : Int)))) noH) (K (Value.bool false) noH))) := by kernel_rfl
theorem dig8_t (c : Int) (K : Value → Heap → Prop) :
    (fnP Tryz.prog c0 h0 (235 : FuncId) [Value.int IntKind.u8 c] [] K) =
    (br (decide ((48 : Int) ≤ c)) (K (Value.bool (decide (c ≤ (57 : Int)))) noH) (K (Value.bool false) noH)) := by kernel_rfl
noncomputable def tN : List (Nat × Orc) := [(203, orcLet), (204, orcDig)]
noncomputable def cN : CallF := ctx Tryz.prog tN
noncomputable def lpName (s : ByteArray) : Lp where
  σ := Nat
  E _ := slots 35 [(0, .string s), (6, .pointer (some ⟨0, 0, none⟩))]
  Hp p := [some (.iter s p)]
  I p := p ≤ s.size ∧ ∀ i, i < p → in2 (bt s i) = true ∧ (i = 0 → letI' (bt s i) = true)
  m p := s.size - p
noncomputable def hsName (s : ByteArray) : Hs Tryz.prog where
  lp _ := some (lpName s)
  cl _ := keep 35 [0, 6]
  au := au0 Tryz.prog
theorem name_t (s : ByteArray) (K : Value → Heap → Prop) :
    (fnP Tryz.prog cN (hsName s) (126 : FuncId) [Value.string s] [] K) =
    ((∃ s_1, Is (s_1 ≤ ByteArray.size s ∧ ∀ (i : Nat), i < s_1 → in2 (bt s i) = true ∧ (i = (0 : Nat) → letI' (bt s i) = true)) ∧ [Value.string s, poi, poi, poi, poi, poi, Value.pointer (some { block := (0 : Nat), off := (0 : Nat) }), poi, poi, poi, poi, poi, poi, poi, poi, poi, poi, poi, poi, poi, poi, poi, poi, poi, poi, poi, poi, poi, poi, poi, poi, poi, poi, poi, poi] = [Value.string s, poi, poi, poi, poi, poi, Value.pointer (some { block := (0 : Nat), off := (0 : Nat) }), poi, poi, poi, poi, poi, poi, poi, poi, poi, poi, poi, poi, poi, poi, poi, poi, poi, poi, poi, poi, poi, poi, poi, poi, poi, poi, poi, poi] ∧ some (AObj.iter s (0 : Nat)) :: noH = some (AObj.iter s s_1) :: noH) ∧ ∀ (s_1 : Nat), Is (s_1 ≤ ByteArray.size s ∧ ∀ (i : Nat), i < s_1 → in2 (bt s i) = true ∧ (i = (0 : Nat) → letI' (bt s i) = true)) → br (decide (s_1 < ByteArray.size s)) (br (!letI' (↑(Prod.fst (Utf8.decode s s_1)) : Int)) (br ((↑s_1 : Int) == (0 : Int)) (K (Value.bool false) noH) (br (!digI (↑(Prod.fst (Utf8.decode s s_1)) : Int)) (br ((↑(Prod.fst (Utf8.decode s s_1)) : Int) != (95 : Int)) (K (Value.bool false) noH) (∃ s', Is (s' ≤ ByteArray.size s ∧ ∀ (i : Nat), i < s' → in2 (bt s i) = true ∧ (i = (0 : Nat) → letI' (bt s i) = true)) ∧ Is (ByteArray.size s - s' < ByteArray.size s - s_1) ∧ [Value.string s, poi, poi, poi, poi, poi, Value.pointer (some { block := (0 : Nat), off := (0 : Nat) }), poi, poi, poi, poi, poi, poi, poi, poi, poi, poi, poi, poi, poi, poi, poi, poi, poi, poi, poi, poi, poi, poi, poi, poi, poi, poi, poi, poi] = [Value.string s, poi, poi, poi, poi, poi, Value.pointer (some { block := (0 : Nat), off := (0 : Nat) }), poi, poi, poi, poi, poi, poi, poi, poi, poi, poi, poi, poi, poi, poi, poi, poi, poi, poi, poi, poi, poi, poi, poi, poi, poi, poi, poi, poi] ∧ some (AObj.iter s (s_1 + Prod.snd (Utf8.decode s s_1))) :: noH = some (AObj.iter s s') :: noH)) (∃ s', Is (s' ≤ ByteArray.size s ∧ ∀ (i : Nat), i < s' → in2 (bt s i) = true ∧ (i = (0 : Nat) → letI' (bt s i) = true)) ∧ Is (ByteArray.size s - s' < ByteArray.size s - s_1) ∧ [Value.string s, poi, poi, poi, poi, poi, Value.pointer (some { block := (0 : Nat), off := (0 : Nat) }), poi, poi, poi, poi, poi, poi, poi, poi, poi, poi, poi, poi, poi, poi, poi, poi, poi, poi, poi, poi, poi, poi, poi, poi, poi, poi, poi, poi] = [Value.string s, poi, poi, poi, poi, poi, Value.pointer (some { block := (0 : Nat), off := (0 : Nat) }), poi, poi, poi, poi, poi, poi, poi, poi, poi, poi, poi, poi, poi, poi, poi, poi, poi, poi, poi, poi, poi, poi, poi, poi, poi, poi, poi, poi] ∧ some (AObj.iter s (s_1 + Prod.snd (Utf8.decode s s_1))) :: noH = some (AObj.iter s s') :: noH))) (∃ s', Is (s' ≤ ByteArray.size s ∧ ∀ (i : Nat), i < s' → in2 (bt s i) = true ∧ (i = (0 : Nat) → letI' (bt s i) = true)) ∧ Is (ByteArray.size s - s' < ByteArray.size s - s_1) ∧ [Value.string s, poi, poi, poi, poi, poi, Value.pointer (some { block := (0 : Nat), off := (0 : Nat) }), poi, poi, poi, poi, poi, poi, poi, poi, poi, poi, poi, poi, poi, poi, poi, poi, poi, poi, poi, poi, poi, poi, poi, poi, poi, poi, poi, poi] = [Value.string s, poi, poi, poi, poi, poi, Value.pointer (some { block := (0 : Nat), off := (0 : Nat) }), poi, poi, poi, poi, poi, poi, poi, poi, poi, poi, poi, poi, poi, poi, poi, poi, poi, poi, poi, poi, poi, poi, poi, poi, poi, poi, poi, poi] ∧ some (AObj.iter s (s_1 + Prod.snd (Utf8.decode s s_1))) :: noH = some (AObj.iter s s') :: noH)) (br (decide ((0 : Int) < (↑(ByteArray.size s) : Int))) (K (Value.bool (decide ((↑(ByteArray.size s) : Int) ≤ (24 : Int)))) noH) (K (Value.bool false) noH))) := by kernel_rfl
noncomputable def tN8 : List (Nat × Orc) := [(234, orcLet8), (235, orcDig8)]
noncomputable def cN8 : CallF := ctx Tryz.prog tN8
noncomputable def lpName8 (s : ByteArray) : Lp where
  σ := Nat
  E p := slots 42 [(0, .string s), (3, .int .i64 (Int.ofNat p))]
  Hp _ := []
  I p := 1 ≤ p ∧ p ≤ s.size ∧ letI' (bt s 0) = true ∧ s.size ≤ 24 ∧ ∀ i, i < p → in2 (bt s i) = true
  m p := s.size - p
noncomputable def hsName8 (s : ByteArray) : Hs Tryz.prog where
  op x := if x = 110 then some (hSi Tryz.prog) else if x = 602 then some (hSi Tryz.prog) else if x = 608 then some (hSi Tryz.prog) else if x = 615 then some (hSi Tryz.prog) else none
  lp _ := some (lpName8 s)
  cl _ := keep 42 [0, 3]
  au := au0 Tryz.prog
theorem name8_t (s : ByteArray) (K : Value → Heap → Prop) :
    (fnP Tryz.prog cN8 (hsName8 s) (197 : FuncId) [Value.string s] [] K) =
    (br ((↑(ByteArray.size s) : Int) == (0 : Int)) (K (Value.bool false) noH) (br (decide ((24 : Int) < (↑(ByteArray.size s) : Int))) (K (Value.bool false) noH) (Is ((0 : Int) ≤ (0 : Int) ∧ (0 : Int) < (↑(ByteArray.size s) : Int)) ∧ br (!letI' (bt s (0 : Nat))) (K (Value.bool false) noH) ((∃ s_1, Is ((1 : Nat) ≤ s_1 ∧ s_1 ≤ ByteArray.size s ∧ letI' (bt s (0 : Nat)) = true ∧ ByteArray.size s ≤ (24 : Nat) ∧ ∀ (i : Nat), i < s_1 → in2 (bt s i) = true) ∧ [Value.string s, poi, poi, Value.int IntKind.i64 (1 : Int), poi, poi, poi, poi, poi, poi, poi, poi, poi, poi, poi, poi, poi, poi, poi, poi, poi, poi, poi, poi, poi, poi, poi, poi, poi, poi, poi, poi, poi, poi, poi, poi, poi, poi, poi, poi, poi, poi] = [Value.string s, poi, poi, Value.int IntKind.i64 (↑s_1 : Int), poi, poi, poi, poi, poi, poi, poi, poi, poi, poi, poi, poi, poi, poi, poi, poi, poi, poi, poi, poi, poi, poi, poi, poi, poi, poi, poi, poi, poi, poi, poi, poi, poi, poi, poi, poi, poi, poi] ∧ noH = noH) ∧ ∀ (s_1 : Nat), Is ((1 : Nat) ≤ s_1 ∧ s_1 ≤ ByteArray.size s ∧ letI' (bt s (0 : Nat)) = true ∧ ByteArray.size s ≤ (24 : Nat) ∧ ∀ (i : Nat), i < s_1 → in2 (bt s i) = true) → br (decide ((↑s_1 : Int) < (↑(ByteArray.size s) : Int))) (Is ((0 : Int) ≤ (↑s_1 : Int) ∧ (↑s_1 : Int) < (↑(ByteArray.size s) : Int)) ∧ br (!letI' (bt s (Int.toNat (↑s_1 : Int)))) (Is ((0 : Int) ≤ (↑s_1 : Int) ∧ (↑s_1 : Int) < (↑(ByteArray.size s) : Int)) ∧ br (!digI (bt s (Int.toNat (↑s_1 : Int)))) (Is ((0 : Int) ≤ (↑s_1 : Int) ∧ (↑s_1 : Int) < (↑(ByteArray.size s) : Int)) ∧ br (bt s (Int.toNat (↑s_1 : Int)) != (95 : Int)) (K (Value.bool false) noH) (∃ s', Is ((1 : Nat) ≤ s' ∧ s' ≤ ByteArray.size s ∧ letI' (bt s (0 : Nat)) = true ∧ ByteArray.size s ≤ (24 : Nat) ∧ ∀ (i : Nat), i < s' → in2 (bt s i) = true) ∧ Is (ByteArray.size s - s' < ByteArray.size s - s_1) ∧ [Value.string s, poi, poi, Value.int IntKind.i64 (IntKind.wrap IntKind.i64 ((↑s_1 : Int) + (1 : Int))), poi, poi, poi, poi, poi, poi, poi, poi, poi, poi, poi, poi, poi, poi, poi, poi, poi, poi, poi, poi, poi, poi, poi, poi, poi, poi, poi, poi, poi, poi, poi, poi, poi, poi, poi, poi, poi, poi] = [Value.string s, poi, poi, Value.int IntKind.i64 (↑s' : Int), poi, poi, poi, poi, poi, poi, poi, poi, poi, poi, poi, poi, poi, poi, poi, poi, poi, poi, poi, poi, poi, poi, poi, poi, poi, poi, poi, poi, poi, poi, poi, poi, poi, poi, poi, poi, poi, poi] ∧ noH = noH)) (∃ s', Is ((1 : Nat) ≤ s' ∧ s' ≤ ByteArray.size s ∧ letI' (bt s (0 : Nat)) = true ∧ ByteArray.size s ≤ (24 : Nat) ∧ ∀ (i : Nat), i < s' → in2 (bt s i) = true) ∧ Is (ByteArray.size s - s' < ByteArray.size s - s_1) ∧ [Value.string s, poi, poi, Value.int IntKind.i64 (IntKind.wrap IntKind.i64 ((↑s_1 : Int) + (1 : Int))), poi, poi, poi, poi, poi, poi, poi, poi, poi, poi, poi, poi, poi, poi, poi, poi, poi, poi, poi, poi, poi, poi, poi, poi, poi, poi, poi, poi, poi, poi, poi, poi, poi, poi, poi, poi, poi, poi] = [Value.string s, poi, poi, Value.int IntKind.i64 (↑s' : Int), poi, poi, poi, poi, poi, poi, poi, poi, poi, poi, poi, poi, poi, poi, poi, poi, poi, poi, poi, poi, poi, poi, poi, poi, poi, poi, poi, poi, poi, poi, poi, poi, poi, poi, poi, poi, poi, poi] ∧ noH = noH)) (∃ s', Is ((1 : Nat) ≤ s' ∧ s' ≤ ByteArray.size s ∧ letI' (bt s (0 : Nat)) = true ∧ ByteArray.size s ≤ (24 : Nat) ∧ ∀ (i : Nat), i < s' → in2 (bt s i) = true) ∧ Is (ByteArray.size s - s' < ByteArray.size s - s_1) ∧ [Value.string s, poi, poi, Value.int IntKind.i64 (IntKind.wrap IntKind.i64 ((↑s_1 : Int) + (1 : Int))), poi, poi, poi, poi, poi, poi, poi, poi, poi, poi, poi, poi, poi, poi, poi, poi, poi, poi, poi, poi, poi, poi, poi, poi, poi, poi, poi, poi, poi, poi, poi, poi, poi, poi, poi, poi, poi, poi] = [Value.string s, poi, poi, Value.int IntKind.i64 (↑s' : Int), poi, poi, poi, poi, poi, poi, poi, poi, poi, poi, poi, poi, poi, poi, poi, poi, poi, poi, poi, poi, poi, poi, poi, poi, poi, poi, poi, poi, poi, poi, poi, poi, poi, poi, poi, poi, poi, poi] ∧ noH = noH)) (K (Value.bool true) noH))))) := by kernel_rfl
theorem letI_iff {c : Int} : letI' c = true ↔ (97 ≤ c ∧ c ≤ 122) ∨ (65 ≤ c ∧ c ≤ 90) := by simp [letI']
theorem letI_not {c : Int} : letI' c = false ↔ ¬ ((97 ≤ c ∧ c ≤ 122) ∨ (65 ≤ c ∧ c ≤ 90)) := by rw [← letI_iff]; simp
theorem digI_iff {c : Int} : digI c = true ↔ 48 ≤ c ∧ c ≤ 57 := by simp [digI]
theorem digI_not {c : Int} : digI c = false ↔ ¬ (48 ≤ c ∧ c ≤ 57) := by rw [← digI_iff]; simp
theorem in2_iff {c : Int} : in2 c = true ↔ letI' c = true ∨ digI c = true ∨ c = 95 := by simp [in2, or_assoc]
theorem okLet : Ok Tryz.prog 203 orcLet := by
  intro args H ret H' h
  unfold orcLet at h
  split at h
  · cases h
    refine fnP_res hm c0_ok (hs := h0) ?_
    rw [let_t]
    exact br_of (fun a => br_of (fun b => ⟨by simp [letI', a, b], rfl⟩) (fun b => br_of (fun d => ⟨by simp [letI', b, d], rfl⟩) (fun d => ⟨by simp [letI', b, d], rfl⟩)))
      (fun a => br_of (fun d => ⟨by simp [letI', a, d], rfl⟩) (fun d => ⟨by simp [letI', a, d], rfl⟩))
  · cases h
theorem okDig : Ok Tryz.prog 204 orcDig := by
  intro args H ret H' h
  unfold orcDig at h
  split at h
  · cases h
    refine fnP_res hm c0_ok (hs := h0) ?_
    rw [dig_t]
    exact br_of (fun a => ⟨by simp [digI, a], rfl⟩) (fun a => ⟨by simp [digI, a], rfl⟩)
  · cases h
theorem okLet8 : Ok Tryz.prog 234 orcLet8 := by
  intro args H ret H' h
  unfold orcLet8 at h
  split at h
  · cases h
    refine fnP_res hm c0_ok (hs := h0) ?_
    rw [let8_t]
    exact br_of (fun a => br_of (fun b => ⟨by simp [letI', a, b], rfl⟩) (fun b => br_of (fun d => ⟨by simp [letI', b, d], rfl⟩) (fun d => ⟨by simp [letI', b, d], rfl⟩)))
      (fun a => br_of (fun d => ⟨by simp [letI', a, d], rfl⟩) (fun d => ⟨by simp [letI', a, d], rfl⟩))
  · cases h
theorem okDig8 : Ok Tryz.prog 235 orcDig8 := by
  intro args H ret H' h
  unfold orcDig8 at h
  split at h
  · cases h
    refine fnP_res hm c0_ok (hs := h0) ?_
    rw [dig8_t]
    exact br_of (fun a => ⟨by simp [digI, a], rfl⟩) (fun a => ⟨by simp [digI, a], rfl⟩)
  · cases h
theorem name_iff (s : ByteArray) : nameB s = true ↔ 0 < s.size ∧ s.size ≤ 24 ∧ ∀ i, i < s.size → in2 (bt s i) = true ∧ (i = 0 → letI' (bt s i) = true) := by
  obtain ⟨⟨l⟩⟩ := s
  show nameL l = true ↔ 0 < l.length ∧ l.length ≤ 24 ∧ ∀ i, i < l.length → in2 (Int.ofNat (l.getD i 0).toNat) = true ∧ (i = 0 → letI' (Int.ofNat (l.getD i 0).toNat) = true)
  cases l with
  | nil => simp [nameL]
  | cons b r =>
    simp only [nameL, Bool.and_eq_true, decide_eq_true_eq, List.all_eq_true, List.length_cons]
    constructor
    · rintro ⟨⟨h1, h2⟩, h3⟩
      refine ⟨by omega, by omega, fun i hi => ?_⟩
      cases i with
      | zero => exact ⟨in2_iff.2 (.inl h2), fun _ => h2⟩
      | succ j =>
        refine ⟨?_, fun h => by omega⟩
        have hj : j < r.length := by omega
        have : (b :: r).getD (j + 1) 0 = r[j] := by simp [List.getD_eq_getElem?_getD, hj]
        rw [this]
        exact h3 _ (List.getElem_mem _)
    · rintro ⟨_, h1, h2⟩
      refine ⟨⟨by omega, (h2 0 (by omega)).2 rfl⟩, fun x hx => ?_⟩
      obtain ⟨j, hj, rfl⟩ := List.mem_iff_getElem.1 hx
      have := (h2 (j + 1) (by omega)).1
      have e : (b :: r).getD (j + 1) 0 = r[j] := by simp [List.getD_eq_getElem?_getD, hj]
      rw [e] at this
      exact this
theorem name_bad {s : ByteArray} {p : Nat} (hp : p < s.size) (h : in2 (bt s p) = true → p = 0 ∧ letI' (bt s p) = false) : nameB s = false := by
  cases hn : nameB s with
  | false => rfl
  | true =>
    obtain ⟨_, _, h3⟩ := (name_iff s).1 hn
    obtain ⟨a, b⟩ := h3 p hp
    obtain ⟨c, d⟩ := h a
    rw [b c] at d; cases d
theorem bt_at {s : ByteArray} {p : Nat} (hp : p < s.size) : (s[p]'hp).toNat = (s.data.toList.getD p 0).toNat := by
  have : p < s.data.size := hp
  simp only [List.getD_eq_getElem?_getD, Array.getElem?_toList, Array.getElem?_eq_getElem this, Option.getD_some]
  rfl
theorem bt_low {s : ByteArray} {p : Nat} (hp : p < s.size) (h : bt s p < 128) : ((Utf8.decode s p).1 : Int) = bt s p ∧ (Utf8.decode s p).2 = 1 := by
  have hb := bt_at hp
  have := decode_ascii s p hp (by rw [hb]; simp only [bt] at h; exact Int.ofNat_lt.1 h)
  rw [this, hb]
  exact ⟨rfl, rfl⟩
theorem bt_high {s : ByteArray} {p : Nat} (hp : p < s.size) (h : ¬ bt s p < 128) : (128 : Int) ≤ ((Utf8.decode s p).1 : Int) := by
  have hb := bt_at hp
  have := (decode_high s p hp (by rw [hb]; have e : bt s p = (((s.data.toList.getD p 0).toNat : Nat) : Int) := rfl; omega)).1
  omega
theorem in2_low {c : Int} (h : in2 c = true) : c < 128 := by
  rcases in2_iff.1 h with h | h | h
  · rw [letI_iff] at h; omega
  · rw [digI_iff] at h; omega
  · omega
theorem okN : CallOK Tryz.prog cN := ctx_ok hm (all_cons okLet (all_cons okDig all_nil))
theorem okN8 : CallOK Tryz.prog cN8 := ctx_ok hm (all_cons okLet8 (all_cons okDig8 all_nil))
set_option maxRecDepth 100000 in
theorem name_ok (s : ByteArray) : SmallRes Tryz.prog 126 [.string s] [] (.bool (nameB s)) [] := by
  refine fnP_res hm okN (hs := hsName s) ?_
  rw [name_t]
  refine ⟨⟨(0 : Nat), ⟨Nat.zero_le _, fun i hi => by omega⟩, rfl, rfl⟩, fun p hp => br_of (fun hlt => ?_) (fun hge => ?_)⟩
  · have hlt : p < s.size := of_decide_eq_true hlt
    obtain ⟨hp1, hp2⟩ := hp.out
    by_cases hb : bt s p < 128
    · obtain ⟨e1, e2⟩ := bt_low hlt hb
      simp only [e1, e2]
      have bad : (in2 (bt s p) = true → p = 0 ∧ letI' (bt s p) = false) → (Value.bool false = .bool (nameB s) ∧ True) := fun h => ⟨by rw [name_bad hlt h], trivial⟩
      have next : in2 (bt s p) = true → (p = 0 → letI' (bt s p) = true) → p + 1 ≤ s.size ∧ ∀ i, i < p + 1 → in2 (bt s i) = true ∧ (i = 0 → letI' (bt s i) = true) := fun h1 h2 => ⟨hlt, fun i hi => by
        rcases Nat.lt_succ_iff_lt_or_eq.1 hi with h | rfl
        · exact hp2 i h
        · exact ⟨h1, h2⟩⟩
      refine br_of (fun h1 => ?_) (fun h1 => ?_)
      · have h1 : letI' (bt s p) = false := by simpa using h1
        refine br_of (fun h2 => bad fun _ => ⟨by simpa using h2, h1⟩) (fun h2 => ?_)
        have h2 : p ≠ 0 := by simpa using h2
        refine br_of (fun h3 => br_of (fun h4 => bad fun h => ?_) (fun h4 => ?_)) (fun h3 => ?_)
        · have h3 : digI (bt s p) = false := by simpa using h3
          have h4 : bt s p ≠ 95 := by simpa using h4
          rcases in2_iff.1 h with h | h | h
          · rw [h1] at h; cases h
          · rw [h3] at h; cases h
          · exact absurd h h4
        · have h4 : bt s p = 95 := by simpa using h4
          exact ⟨p + 1, ⟨next (in2_iff.2 (.inr (.inr h4))) fun h => absurd h h2⟩, ⟨by omega⟩, by first | trivial | rfl, by first | trivial | rfl⟩
        · have h3 : digI (bt s p) = true := by simpa using h3
          exact ⟨p + 1, ⟨next (in2_iff.2 (.inr (.inl h3))) fun h => absurd h h2⟩, ⟨by omega⟩, by first | trivial | rfl, by first | trivial | rfl⟩
      · have h1 : letI' (bt s p) = true := by simpa using h1
        exact ⟨p + 1, ⟨next (in2_iff.2 (.inl h1)) fun _ => h1⟩, ⟨by omega⟩, by first | trivial | rfl, by first | trivial | rfl⟩
    · have hh := bt_high hlt hb
      have hf : nameB s = false := name_bad hlt fun h => absurd (in2_low h) hb
      have l1 : letI' (↑(Utf8.decode s p).1 : Int) = false := letI_not.2 (by omega)
      have l2 : digI (↑(Utf8.decode s p).1 : Int) = false := digI_not.2 (by omega)
      have l3 : ((↑(Utf8.decode s p).1 : Int) != 95) = true := by simp; omega
      simp only [l1, l2, l3, hf, Bool.not_false, br_t]
      exact br_of (fun _ => by first | trivial | exact ⟨rfl, rfl⟩) (fun _ => by first | trivial | exact ⟨rfl, rfl⟩)
  · have hge : ¬ p < s.size := of_decide_eq_false hge
    obtain ⟨hp1, hp2⟩ := hp.out
    have : p = s.size := by omega
    subst this
    have fin : nameB s = (decide ((0 : Int) < (s.size : Int)) && decide ((s.size : Int) ≤ 24)) := by
      rw [Bool.eq_iff_iff, name_iff]
      simp only [Bool.and_eq_true, decide_eq_true_eq]
      constructor
      · rintro ⟨a, b, _⟩; omega
      · rintro ⟨a, b⟩; exact ⟨by omega, by omega, hp2⟩
    rw [fin]
    exact br_of (fun h => ⟨by rw [h]; rfl, rfl⟩) (fun h => ⟨by rw [h]; rfl, rfl⟩)
set_option maxRecDepth 100000 in
theorem name8_ok (s : ByteArray) : SmallRes Tryz.prog 197 [.string s] [] (.bool (nameB s)) [] := by
  refine fnP_res hm okN8 (hs := hsName8 s) ?_
  rw [name8_t]
  have no : ∀ {p : Nat}, p < s.size → (in2 (bt s p) = true → p = 0 ∧ letI' (bt s p) = false) → Value.bool false = .bool (nameB s) := fun h1 h2 => by rw [name_bad h1 h2]
  have small : (s.size = 0 ∨ 24 < s.size) → Value.bool false = .bool (nameB s) := fun h => by
    cases hn : nameB s with
    | false => rfl
    | true => have := (name_iff s).1 hn; omega
  refine br_of (fun h => ⟨small (.inl (by simpa using h)), rfl⟩) (fun h1 => br_of (fun h => ⟨small (.inr (by have := of_decide_eq_true h; omega)), rfl⟩) (fun h2 => ?_))
  have h1 : s.size ≠ 0 := by simpa using h1
  have h2 : s.size ≤ 24 := by have := of_decide_eq_false h2; omega
  have z : Int.toNat 0 = 0 := rfl
  refine ⟨⟨by omega, by omega⟩, br_of (fun h => ⟨no (p := 0) (by omega) fun _ => ⟨rfl, by simpa using h⟩, by first | trivial | rfl⟩) (fun h3 => ?_)⟩
  have h3 : letI' (bt s 0) = true := by simpa using h3
  refine ⟨⟨(1 : Nat), ⟨⟨Nat.le_refl _, by omega, h3, h2, fun i hi => ?_⟩⟩, by first | trivial | rfl, by first | trivial | rfl⟩, fun p hp => br_of (fun hlt => ?_) (fun hge => ?_)⟩
  · obtain rfl : i = 0 := by omega
    exact in2_iff.2 (.inl h3)
  · have hlt := lt_of_dec hlt
    obtain ⟨p1, p2, p3, p4, p5⟩ := hp.out
    have bad : (in2 (bt s p) = false) → Value.bool false = .bool (nameB s) := fun h => no hlt fun h' => by rw [h] at h'; cases h'
    have next : in2 (bt s p) = true → 1 ≤ p + 1 ∧ p + 1 ≤ s.size ∧ letI' (bt s 0) = true ∧ s.size ≤ 24 ∧ ∀ i, i < p + 1 → in2 (bt s i) = true := fun h => ⟨by omega, hlt, p3, p4, fun i hi => by
      rcases Nat.lt_succ_iff_lt_or_eq.1 hi with h' | rfl
      · exact p5 i h'
      · exact h⟩
    have e1 : IntKind.wrap .i64 ((p : Int) + 1) = ((p + 1 : Nat) : Int) := up1 hlt (by omega)
    simp only [Int.toNat_natCast, e1]
    refine ⟨⟨by omega, by omega⟩, br_of (fun a1 => ⟨⟨by omega, by omega⟩, br_of (fun a2 => ⟨⟨by omega, by omega⟩, br_of (fun a3 => ⟨bad ?_, by first | trivial | rfl⟩) (fun a3 => ⟨p + 1, ⟨next (in2_iff.2 (.inr (.inr ?_)))⟩, ⟨by omega⟩, by first | trivial | rfl, by first | trivial | rfl⟩)⟩) (fun a2 => ⟨p + 1, ⟨next (in2_iff.2 (.inr (.inl ?_)))⟩, ⟨by omega⟩, by first | trivial | rfl, by first | trivial | rfl⟩)⟩) (fun a1 => ⟨p + 1, ⟨next (in2_iff.2 (.inl ?_))⟩, ⟨by omega⟩, by first | trivial | rfl, by first | trivial | rfl⟩)⟩
    · cases hi : in2 (bt s p) with
      | false => rfl
      | true =>
        rcases in2_iff.1 hi with h | h | h
        · simp [h] at a1
        · simp [h] at a2
        · simp [h] at a3
    · simpa using a3
    · simpa using a2
    · simpa using a1
  · have hge := ge_of_dec hge
    obtain ⟨p1, p2, p3, p4, p5⟩ := hp.out
    have : p = s.size := by omega
    subst this
    have : nameB s = true := (name_iff s).2 ⟨by omega, h2, fun i hi => ⟨p5 i hi, fun h => by subst h; exact h3⟩⟩
    rw [this]
    exact ⟨rfl, by first | trivial | rfl⟩
noncomputable def orcName : Orc
  | [.string s], [] => some (.bool (nameB s), [])
  | _, _ => none
theorem okName : Ok Tryz.prog 126 orcName := by
  intro args H ret H' h
  unfold orcName at h
  split at h
  · cases h; exact name_ok _
  · cases h
theorem okName8 : Ok Tryz.prog 197 orcName := by
  intro args H ret H' h
  unfold orcName at h
  split at h
  · cases h; exact name8_ok _
  · cases h
end
end Qq
end
section
/- Sections, checked. -/
open Go Go.Vm Go.Proofs Sp
namespace Sp
noncomputable section
noncomputable def chkM (d x : Int) : Int := fi [wi d 0 100000, wi x 0 100000]
noncomputable def chkA (d : Int) (k : ByteArray) : Int := fi [wi d 0 100000, wh (!nameB k) 13]
end
end Sp
namespace Qq
noncomputable section
noncomputable def orcMc : Orc
  | [.agg ⟨[.int .i64 d, .int .i64 x]⟩], [] => some (.int .i64 (chkM d x), [])
  | _, _ => none
noncomputable def orcAc : Orc
  | [.agg ⟨[.int .i64 d, .string k]⟩], [] => some (.int .i64 (chkA d k), [])
  | _, _ => none
noncomputable def orcCn : Orc
  | [.string k], [] => some (.int .i64 (wh (!nameB k) 8), [])
  | _, _ => none
noncomputable def r10 : List (Nat × Orc) := (197, orcName) :: r2
theorem r10_all : ∀ p ∈ r10, Ok Tryz.prog p.1 p.2 := all_cons okName8 r2_all
noncomputable def cr10 : CallF := ctx Tryz.prog r10
theorem cr10_ok : CallOK Tryz.prog cr10 := ctx_ok hm r10_all
theorem mcR_t (d : Int) (x : Int) (K : Value → Heap → Prop) :
    (fnP Tryz.prog cr10 h0 (85 : FuncId) [Value.agg #[Value.int IntKind.i64 d, Value.int IntKind.i64 x]] [] K) =
    (K (Value.int IntKind.i64 (fi [wi d (0 : Int) (100000 : Int), wi x (0 : Int) (100000 : Int)])) noH) := by kernel_rfl
theorem cn_t (k : ByteArray) (K : Value → Heap → Prop) :
    (fnP Tryz.prog cr10 h0 (114 : FuncId) [Value.string k] [] K) =
    (K (Value.int IntKind.i64 (wh (!nameB k) (8 : Int))) noH) := by kernel_rfl
theorem okMcR : Ok Tryz.prog 85 orcMc := by
  intro args H ret H' h
  unfold orcMc at h
  split at h
  · cases h
    refine fnP_res hm cr10_ok (hs := h0) ?_
    rw [mcR_t]
    exact ⟨rfl, rfl⟩
  · cases h
theorem okCn : Ok Tryz.prog 114 orcCn := by
  intro args H ret H' h
  unfold orcCn at h
  split at h
  · cases h
    refine fnP_res hm cr10_ok (hs := h0) ?_
    rw [cn_t]
    exact ⟨rfl, rfl⟩
  · cases h
noncomputable def r11 : List (Nat × Orc) := (85, orcMc) :: (114, orcCn) :: r2
theorem r11_all : ∀ p ∈ r11, Ok Tryz.prog p.1 p.2 := all_cons okMcR (all_cons okCn r2_all)
noncomputable def cr11 : CallF := ctx Tryz.prog r11
theorem cr11_ok : CallOK Tryz.prog cr11 := ctx_ok hm r11_all
noncomputable def r12 : List (Nat × Orc) := (86, orcAc) :: r11
noncomputable def z2 (zs : List Int) (off : Nat) : Value := .agg #[.int .i64 (zs.getD off 0), .int .i64 (zs.getD (off + 1) 0)]
noncomputable def k2 (ks : List (Int × ByteArray)) (off : Nat) : Value := .agg #[.int .i64 (ks.getD (off / 2) (0, ⟨#[]⟩)).1, .string (ks.getD (off / 2) (0, ⟨#[]⟩)).2]
noncomputable def hp2 (zs : List Int) (ks : List (Int × ByteArray)) (m1 w1 m2 w2 : Bool) (l : List (Option AObj)) : Heap := some (.row (ints zs) 2 m1 w1 true) :: some (.row (acs ks) 2 m2 w2 true) :: l
noncomputable def zI (zs : List Int) (off : Nat) : Value := .int .i64 (zs.getD off 0)
theorem zint_at {zs : List Int} {i : Nat} (h : i < zs.length) : (ints zs)[i]? = some (.int .i64 (zs.getD i 0)) := by
  simp [ints, List.getElem?_map, List.getElem?_eq_getElem h, List.getD_eq_getElem?_getD]
theorem sel_ne {e d : Int} (h : (e != 0) = true) : sel e d = e := by
  have : e ≠ 0 := by simpa using h
  simp [sel, this]
theorem sel_eq {e d : Int} (h : (e != 0) = false) : sel e d = d := by
  have : e = 0 := by simpa using h
  simp [sel, this]
theorem fi_late {a : Int} {b : Bool} (h : b = true → a ≠ 0) : fi [a, wh b 11] = fi [a, 0] := by
  cases hb : b with
  | false => rfl
  | true =>
    have := h hb
    simp [fi, this]
theorem pred1 {s n : Nat} (h : s < n) (hn : n ≤ 100000) : (if IntKind.wrap .i64 ((s : Int) - 1) > 0 then IntKind.wrap .i64 ((s : Int) - 1) else 0) = ((s - 1 : Nat) : Int) := by
  rw [wrap_eq (by omega) (by omega)]
  split <;> omega
end
end Qq
end
