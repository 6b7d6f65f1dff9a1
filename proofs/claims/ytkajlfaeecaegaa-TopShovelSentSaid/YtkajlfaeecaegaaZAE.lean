/- Parts of the proof: RS, RM, RT, RU, RX, FlE, GI, GJ, WB, WD, WL, WO, XA, XB, XC. -/
import Derived.Test.YtkajlfaeecaegaaZAD
import Derived.Test.YtkajlfaeecaegaaZAC
import Derived.Test.YtkajlfaeecaegaaZAA
section
/- Readings: a list of integers, each known or not. -/
open Go Go.Vm Go.Proofs Sp
namespace Sp
noncomputable section
noncomputable def rC (r : Int × Bool) : List Value := [.int .i64 r.1, .bool r.2]
noncomputable def rdc : Nat → (Nat → Int × Bool) → List Value
  | 0, _ => []
  | n + 1, R => rdc n R ++ rC (R n)
noncomputable def upR (R : Nat → Int × Bool) (i : Nat) (v : Int × Bool) (j : Nat) : Int × Bool := if j = i then v else R j
/-- Readings of samples, where P says that they are known. -/
noncomputable def rdF (xs : List Nat) (P : Int → Bool) (i : Nat) : Int × Bool := if P (i : Int) = true then (lev (xs.getD i 0), true) else (0, false)
noncomputable def tt1 (_ : Int) : Bool := true
noncomputable def rdV (R : Nat → Int × Bool) (off : Nat) : Int := (R (off / 2)).1
noncomputable def rdW (R : Nat → Int × Bool) (off : Nat) : Bool := (R (off / 2)).2
noncomputable def zR (R : Nat → Int × Bool) (off : Nat) : Value := .agg #[.int .i64 (rdV R off), .bool (rdW R off)]
theorem rdV_at (R : Nat → Int × Bool) (i : Nat) : rdV R (i * 2) = (R i).1 := by rw [rdV, Nat.mul_div_cancel _ (by decide)]
theorem rdW_at (R : Nat → Int × Bool) (i : Nat) : rdW R (i * 2) = (R i).2 := by rw [rdW, Nat.mul_div_cancel _ (by decide)]
/-- In none of the first s holes, nor in the first j of the next one. -/
noncomputable def knT (hs : List Int) (s j : Nat) (i : Int) : Bool := knB (hs.take (s * 2)) i && !(decide (hs.getD (s * 2) 0 ≤ i) && decide (i < hs.getD (s * 2) 0 + (j : Int)))
noncomputable def hsz (hs : List Int) (s : Nat) : Int := hs.getD (s * 2 + 1) 0 - hs.getD (s * 2) 0
end
end Sp
namespace Qq
noncomputable section
theorem rdc_len : ∀ (n : Nat) (R : Nat → Int × Bool), (rdc n R).length = n * 2
  | 0, _ => rfl
  | n + 1, R => by rw [rdc, List.length_append, rdc_len n R, rC]; simp only [List.length_cons, List.length_nil]; omega
theorem rdc_congr : ∀ {n : Nat} {R Q : Nat → Int × Bool}, (∀ i, i < n → R i = Q i) → rdc n R = rdc n Q
  | 0, _, _, _ => rfl
  | n + 1, R, Q, h => by rw [rdc, rdc, rdc_congr (fun i hi => h i (by omega)), h n (by omega)]
theorem rdc_cut : ∀ {n i : Nat} {R : Nat → Int × Bool}, i < n → ∃ t, rdc n R = rdc i R ++ (rC (R i) ++ t) ∧ ∀ Q : Nat → Int × Bool, (∀ j, i < j → Q j = R j) → rdc n Q = rdc i Q ++ (rC (Q i) ++ t)
  | n + 1, i, R, h => by
    by_cases e : i = n
    · subst e
      refine ⟨[], by rw [rdc, List.append_nil], fun Q _ => by rw [rdc, List.append_nil]⟩
    · obtain ⟨t, h1, h2⟩ := rdc_cut (n := n) (i := i) (R := R) (by omega)
      refine ⟨t ++ rC (R n), by rw [rdc, h1]; simp only [List.append_assoc], fun Q hQ => ?_⟩
      rw [rdc, h2 Q hQ, hQ n (by omega)]
      simp only [List.append_assoc]
theorem rdc_take {n i : Nat} {R : Nat → Int × Bool} (h : i < n) : (if i * 2 + 2 ≤ (rdc n R).length then some (Value.agg (List.toArray (List.take 2 (List.drop (i * 2) (rdc n R))))) else none) = some (.agg #[.int .i64 (R i).1, .bool (R i).2]) := by
  obtain ⟨t, h1, _⟩ := rdc_cut (R := R) h
  have hl := rdc_len i R
  rw [if_pos (by rw [rdc_len]; omega), h1, ← hl, List.drop_left]
  rfl
theorem rdc_int {n i : Nat} {R : Nat → Int × Bool} (h : i < n) : (rdc n R)[i * 2]? = some (.int .i64 (R i).1) := by
  obtain ⟨t, h1, _⟩ := rdc_cut (R := R) h
  have hl := rdc_len i R
  rw [h1, List.getElem?_append_right (by omega), hl, Nat.sub_self]
  rfl
theorem rdc_bool {n i : Nat} {R : Nat → Int × Bool} (h : i < n) : (rdc n R)[i * 2 + 1]? = some (.bool (R i).2) := by
  obtain ⟨t, h1, _⟩ := rdc_cut (R := R) h
  have hl := rdc_len i R
  rw [h1, List.getElem?_append_right (by omega), hl, show i * 2 + 1 - i * 2 = 1 by omega]
  rfl
theorem rdc_put {n i : Nat} {R : Nat → Int × Bool} {v : Int × Bool} (h : i < n) : putL (rdc n R) (i * 2) (rC v) = rdc n (upR R i v) := by
  obtain ⟨t, h1, h2⟩ := rdc_cut (R := R) h
  have hl := rdc_len i R
  have h3 : rdc i (upR R i v) = rdc i R := rdc_congr (fun j hj => by rw [upR, if_neg (by omega)])
  have h4 : upR R i v i = v := by rw [upR, if_pos rfl]
  rw [h2 (upR R i v) (fun j hj => by rw [upR, if_neg (by omega)]), h3, h4, putL, splice, h1]
  have e1 : List.take (i * 2) (rdc i R ++ (rC (R i) ++ t)) = rdc i R := by rw [← hl, List.take_left]
  have e2 : List.drop (i * 2 + (rC v).length) (rdc i R ++ (rC (R i) ++ t)) = t := by
    have : i * 2 + (rC v).length = (rdc i R ++ rC (R i)).length := by rw [List.length_append, hl]; rfl
    rw [this, ← List.append_assoc, List.drop_left]
  rw [e1, e2]
theorem knT_zero {hs : List Int} {s : Nat} (i : Int) : knT hs s 0 i = knB (hs.take (s * 2)) i := by
  rw [knT]
  have : (decide (hs.getD (s * 2) 0 ≤ i) && decide (i < hs.getD (s * 2) 0 + ((0 : Nat) : Int))) = false := by
    by_cases h : hs.getD (s * 2) 0 ≤ i
    · rw [decide_eq_false (p := i < _) (by omega), Bool.and_false]
    · rw [decide_eq_false h, Bool.false_and]
  rw [this]; simp
theorem knB_app : ∀ (s : Nat) {l r : List Int} (i : Int), l.length = s * 2 → knB (l ++ r) i = (knB l i && knB r i)
  | 0, [], r, i, _ => by simp [knB]
  | s + 1, a :: b :: l, r, i, h => by
    rw [List.cons_append, List.cons_append, knB, knB, knB_app s i (by simp only [List.length_cons] at h; omega), Bool.and_assoc]
  | s + 1, [a], r, i, h => by simp only [List.length_cons, List.length_nil] at h; omega
  | s + 1, [], r, i, h => by simp only [List.length_nil] at h; omega
  | 0, a :: l, r, i, h => by simp only [List.length_cons] at h; omega
theorem knT_full {hs : List Int} {s j : Nat} (h : s * 2 + 2 ≤ hs.length) (hj : (j : Int) = hsz hs s) (i : Int) : knT hs s j i = knB (hs.take ((s + 1) * 2)) i := by
  have e : hs.take ((s + 1) * 2) = hs.take (s * 2) ++ [hs.getD (s * 2) 0, hs.getD (s * 2 + 1) 0] := by
    rw [show (s + 1) * 2 = s * 2 + 2 by omega, List.take_add, spn_drop h]; rfl
  have e2 : hs.getD (s * 2) 0 + (j : Int) = hs.getD (s * 2 + 1) 0 := by rw [hj, hsz]; omega
  rw [e, knB_app s i (by rw [List.length_take]; omega), knT, e2]
  simp [knB]
theorem rdF_congr {xs : List Nat} {P Q : Int → Bool} {n : Nat} (h : ∀ i : Int, P i = Q i) : rdc n (rdF xs P) = rdc n (rdF xs Q) := rdc_congr fun i _ => by rw [rdF, rdF, h]
theorem rdF_put {xs : List Nat} {hs : List Int} {s j i : Nat} (ha : (i : Int) = hs.getD (s * 2) 0 + (j : Int)) : ∀ k, upR (rdF xs (knT hs s j)) i (0, false) k = rdF xs (knT hs s (j + 1)) k := fun k => by
  rw [upR]
  have e2 : ((j + 1 : Nat) : Int) = (j : Int) + 1 := rfl
  split
  · rename_i e
    subst e
    rw [rdF, knT]
    have : (decide (hs.getD (s * 2) 0 ≤ (k : Int)) && decide ((k : Int) < hs.getD (s * 2) 0 + ((j + 1 : Nat) : Int))) = true := by
      rw [decide_eq_true (by omega), decide_eq_true (by omega)]; rfl
    rw [this]; simp
  · rename_i e
    rw [rdF, rdF]
    have : knT hs s j (k : Int) = knT hs s (j + 1) (k : Int) := by
      rw [knT, knT]
      congr 2
      congr 1
      exact decide_eq_decide.2 ⟨fun h => by omega, fun h => by omega⟩
    rw [this]
/- The integer of a sample, once more; a reading of a sample. -/
theorem intS_t (x : Nat) (K : Value → Heap → Prop) :
    (fnP Try.prog cs2 hsFl0 (57 : FuncId) [Value.float FloatKind.f32 x] [] K) =
    (Is (fMulOk (1098907648 : Nat) x) ∧ Is (fIntOk (fMul (1098907648 : Nat) x)) ∧ K (Value.int IntKind.i64 (Sp.fInt (fMul (1098907648 : Nat) x))) noH) := by kernel_rfl
theorem okInS : OkV Try.prog 57 orcLev := by
  intro args H ret H' vc h hv
  unfold orcLev at h
  split at h
  · rename_i x
    cases h
    have hs := Fl.smp hv
    refine fnP_res hm cs2_ok (hs := hsFl0) ?_
    rw [intS_t, Fl.mul_comm16 1098907648 x]
    exact ⟨⟨hs.m2⟩, ⟨hs.i1⟩, by first | trivial | rfl, by first | trivial | rfl⟩
  · cases h
noncomputable def hsRd1 : Hs Try.prog where
  au := auCalls [(57, hCa Try.prog 57 orcLev okInS)]
theorem rd1_t (x : Nat) (K : Value → Heap → Prop) :
    (fnP Try.prog cs2 hsRd1 (56 : FuncId) [Value.float FloatKind.f32 x] [] K) =
    (Is (sE x = (0 : Int)) ∧ K (Value.agg #[Value.int IntKind.i64 (lev x), Value.bool true]) noH) := by kernel_rfl
noncomputable def orcRd1 : OrcV
  | [.float .f32 x], [] => some (.agg #[.int .i64 (lev x), .bool true], [], sE x = 0)
  | _, _ => none
theorem okRd1 : OkV Try.prog 56 orcRd1 := by
  intro args H ret H' vc h hv
  unfold orcRd1 at h
  split at h
  · rename_i x
    cases h
    refine fnP_res hm cs2_ok (hs := hsRd1) ?_
    rw [rd1_t]
    exact ⟨⟨hv⟩, by first | trivial | rfl, by first | trivial | rfl⟩
  · cases h
/- A reading for each sample. -/
noncomputable def fR1 : Value := .func (.func 56) #[] #[]
noncomputable def rdR (n : Nat) (R : Nat → Int × Bool) : Option AObj := some (.row (rdc n R) 2 true true true)
noncomputable def lpMr0 (xs : List Nat) (n c : Nat) : Lp where
  σ := Nat
  E _ := slots 22 [(0, .slice (some ⟨0, 0, none⟩) n c), (1, fR1), (5, .slice (some ⟨1, 0, none⟩) 0 0)]
  Hp _ := [fR xs, rdR 0 (rdF xs tt1)]
  I s := s = 0
  m _ := 0
noncomputable def lpMr (xs : List Nat) (n c : Nat) : Lp where
  σ := Nat
  E i := slots 22 [(1, fR1), (5, .slice (some ⟨1, 0, none⟩) i 0), (8, .slice (some ⟨0, 0, none⟩) n c), (9, .int .i64 (Int.ofNat n)), (10, .int .i64 (Int.ofNat i))]
  Hp i := [fR xs, rdR i (rdF xs tt1)]
  I i := i ≤ n
  m i := n - i
noncomputable def hsMr (xs : List Nat) (n c : Nat) : Hs Try.prog where
  op y := if y = 400 then some (hIa Try.prog) else if y = 401 then some (hLd Try.prog (xF xs)) else if y = 503 then some (hCa Try.prog 56 orcRd1 okRd1) else if y = 505 then some (hAp Try.prog) else none
  cut y := if y = 2 then some (lpMr0 xs n c) else none
  lp _ := some (lpMr xs n c)
  cl y := if y = 2 then keep 22 [0, 1, 5] else keep 22 [1, 5, 8, 9, 10]
  nl y := if y = 2 then [.slot 5 2] else []
  au := au0 Try.prog
theorem mr_t (xs : List Nat) (n : Nat) (c : Nat) (K : Value → Heap → Prop) :
    (fnP Try.prog c0 (hsMr xs n c) (55 : FuncId) [Value.slice (some { block := (0 : Nat), off := (0 : Nat) }) n c, fR1] [fR xs] K) =
    ((∃ (s : Nat), Is (s = (0 : Nat)) ∧ [Value.slice (some { block := (0 : Nat), off := (0 : Nat) }) n c, Value.func (Fn.func (56 : Nat)) #[] #[], poi, poi, poi, Value.slice (some { block := (1 : Nat), off := (0 : Nat) }) (0 : Nat) (0 : Nat), poi, poi, poi, poi, poi, poi, poi, poi, poi, poi, poi, poi, poi, poi, poi, poi] = [Value.slice (some { block := (0 : Nat), off := (0 : Nat) }) n c, Value.func (Fn.func (56 : Nat)) #[] #[], poi, poi, poi, Value.slice (some { block := (1 : Nat), off := (0 : Nat) }) (0 : Nat) (0 : Nat), poi, poi, poi, poi, poi, poi, poi, poi, poi, poi, poi, poi, poi, poi, poi, poi] ∧ some (AObj.row (flts xs) (1 : Nat) true true true) :: some (AObj.row [] (2 : Nat) true true true) :: noH = some (AObj.row (flts xs) (1 : Nat) true true true) :: some (AObj.row [] (2 : Nat) true true true) :: noH) ∧ ∀ (s : Nat), Is (s = (0 : Nat)) → (∃ (s : Nat), Is (s ≤ n) ∧ [poi, Value.func (Fn.func (56 : Nat)) #[] #[], poi, poi, poi, Value.slice (some { block := (1 : Nat), off := (0 : Nat) }) (0 : Nat) (0 : Nat), poi, poi, Value.slice (some { block := (0 : Nat), off := (0 : Nat) }) n c, Value.int IntKind.i64 (↑n : Int), Value.int IntKind.i64 (0 : Int), poi, poi, poi, poi, poi, poi, poi, poi, poi, poi, poi] = [poi, Value.func (Fn.func (56 : Nat)) #[] #[], poi, poi, poi, Value.slice (some { block := (1 : Nat), off := (0 : Nat) }) s (0 : Nat), poi, poi, Value.slice (some { block := (0 : Nat), off := (0 : Nat) }) n c, Value.int IntKind.i64 (↑n : Int), Value.int IntKind.i64 (↑s : Int), poi, poi, poi, poi, poi, poi, poi, poi, poi, poi, poi] ∧ some (AObj.row (flts xs) (1 : Nat) true true true) :: some (AObj.row [] (2 : Nat) true true true) :: noH = some (AObj.row (flts xs) (1 : Nat) true true true) :: some (AObj.row (rdc s (rdF xs tt1)) (2 : Nat) true true true) :: noH) ∧ ∀ (s : Nat), Is (s ≤ n) → br (decide ((↑s : Int) < (↑n : Int))) (Is ((0 : Int) ≤ (↑s : Int) ∧ (↑s : Int) < (↑n : Int)) ∧ Is ((flts xs)[(0 : Nat) + Int.toNat (↑s : Int) * (1 : Nat)]? = some (Value.float FloatKind.f32 (List.getD xs ((0 : Nat) + Int.toNat (↑s : Int) * (1 : Nat)) (0 : Nat)))) ∧ Is (sE (List.getD xs ((0 : Nat) + Int.toNat (↑s : Int) * (1 : Nat)) (0 : Nat)) = (0 : Int)) ∧ Is (List.length (rdc s (rdF xs tt1)) = s * (2 : Nat) ∧ (s + (1 : Nat)) * (16 : Nat) ≤ (140737488355328 : Nat) ∧ s + (1 : Nat) ≤ (9223372036854775807 : Nat)) ∧ ∃ (s' : Nat), Is (s' ≤ n) ∧ Is (n - s' < n - s) ∧ [poi, Value.func (Fn.func (56 : Nat)) #[] #[], poi, poi, poi, Value.slice (some { block := (1 : Nat), off := (0 : Nat) }) (s + (1 : Nat)) (0 : Nat), poi, poi, Value.slice (some { block := (0 : Nat), off := (0 : Nat) }) n c, Value.int IntKind.i64 (↑n : Int), Value.int IntKind.i64 (IntKind.wrap IntKind.i64 ((↑s : Int) + (1 : Int))), poi, poi, poi, poi, poi, poi, poi, poi, poi, poi, poi] = [poi, Value.func (Fn.func (56 : Nat)) #[] #[], poi, poi, poi, Value.slice (some { block := (1 : Nat), off := (0 : Nat) }) s' (0 : Nat), poi, poi, Value.slice (some { block := (0 : Nat), off := (0 : Nat) }) n c, Value.int IntKind.i64 (↑n : Int), Value.int IntKind.i64 (↑s' : Int), poi, poi, poi, poi, poi, poi, poi, poi, poi, poi, poi] ∧ some (AObj.row (flts xs) (1 : Nat) true true true) :: some (AObj.row (rdc s (rdF xs tt1) ++ [Value.int IntKind.i64 (lev (List.getD xs ((0 : Nat) + Int.toNat (↑s : Int) * (1 : Nat)) (0 : Nat))), Value.bool true]) (2 : Nat) true true (List.all [Value.int IntKind.i64 (lev (List.getD xs ((0 : Nat) + Int.toNat (↑s : Int) * (1 : Nat)) (0 : Nat))), Value.bool true] atom)) :: noH = some (AObj.row (flts xs) (1 : Nat) true true true) :: some (AObj.row (rdc s' (rdF xs tt1)) (2 : Nat) true true true) :: noH) (K (Value.slice (some { block := (1 : Nat), off := (0 : Nat) }) s (0 : Nat)) (some (AObj.row (flts xs) (1 : Nat) true true true) :: some (AObj.row (rdc s (rdF xs tt1)) (2 : Nat) true true true) :: noH))) := by kernel_rfl
set_option maxRecDepth 100000 in
theorem mr_ok {xs : List Nat} {n c : Nat} (hn : xs.length = n) (h9 : n ≤ 100000) (hx : fi (xs.map sE) = 0) :
    SmallRes Try.prog 55 [.slice (some ⟨0, 0, none⟩) n c, fR1] [fR xs] (.slice (some ⟨1, 0, none⟩) n 0) [fR xs, rdR n (rdF xs tt1)] := by
  refine fnP_res hm c0_ok (hs := hsMr xs n c) ?_
  rw [mr_t]
  refine ⟨⟨(0 : Nat), ⟨rfl⟩, by first | trivial | rfl, by first | trivial | rfl⟩, fun _ _ => ⟨⟨(0 : Nat), ⟨by omega⟩, by first | trivial | rfl, by first | trivial | rfl⟩, fun s hs' => br_of (fun hc => ?_) (fun hc => ?_)⟩⟩
  · have hc := lt_of_dec hc
    simp only [Nat.zero_add, Nat.mul_one, Int.toNat_natCast]
    refine ⟨⟨by omega, by omega⟩, ⟨flts_at (by omega)⟩, ⟨smps hx (by omega)⟩, ⟨by rw [rdc_len], by omega, by omega⟩, s + 1, ⟨hc⟩, ⟨by omega⟩, ?_, by first | trivial | rfl⟩
    rw [up1 hc (by omega)]
  · have hc := ge_of_dec hc
    have : s = n := by have := hs'.out; omega
    subst this
    exact ⟨by first | trivial | rfl, by first | trivial | rfl⟩
noncomputable def orcMr (xs : List Nat) : OrcV
  | [.slice (some ⟨0, 0, none⟩) n _, .func (.func 56) ⟨[]⟩ ⟨[]⟩], [some (.row e1 1 true true true)] => some (.slice (some ⟨1, 0, none⟩) n 0, [some (.row e1 1 true true true), rdR n (rdF xs tt1)], e1 = flts xs ∧ xs.length = n ∧ n ≤ 100000 ∧ fi (xs.map sE) = 0)
  | _, _ => none
theorem okMr (xs : List Nat) : OkV Try.prog 55 (orcMr xs) := by
  intro args H ret H' vc h hv
  unfold orcMr at h
  split at h
  · cases h
    obtain ⟨rfl, h1, h2, h3⟩ := hv
    exact mr_ok h1 h2 h3
  · cases h
/- Readings of a run. -/
noncomputable def lpRr (nm : ByteArray) (f : Int) (n c k d : Nat) (xs : List Nat) (hs : List Int) : Lp where
  σ := Nat
  E s := slots 35 [(1, .pointer (some ⟨2, 0, none⟩)), (3, .slice (some ⟨3, 0, none⟩) n 0), (11, .slice (some ⟨1, 0, none⟩) k d), (12, .int .i64 (Int.ofNat k)), (13, .int .i64 (Int.ofNat s))]
  Hp s := hp2r xs hs true true true true [runO nm f n c k d, rdR n (rdF xs (knB (hs.take (s * 2))))]
  I s := s ≤ k
  m s := k - s
noncomputable def lpRi (nm : ByteArray) (f : Int) (n c k d : Nat) (xs : List Nat) (hs : List Int) (s : Nat) : Lp where
  σ := Nat
  E j := slots 35 [(1, .pointer (some ⟨2, 0, none⟩)), (3, .slice (some ⟨3, 0, none⟩) n 0), (5, .pointer (some ⟨4, 0, none⟩)), (11, .slice (some ⟨1, 0, none⟩) k d), (12, .int .i64 (Int.ofNat k)), (13, .int .i64 (Int.ofNat s)), (21, .int .i64 (hsz hs s)), (22, .int .i64 (Int.ofNat j))]
  Hp j := hp2r xs hs true true true true [runO nm f n c k d, rdR n (rdF xs (knT hs s j)), some (.row [.int .i64 (hs.getD (s * 2) 0), .int .i64 (hs.getD (s * 2 + 1) 0)] 0 false true true)]
  I j := s < k ∧ (j : Int) ≤ hsz hs s
  m j := (hsz hs s).toNat - j
noncomputable def hsRr (nm : ByteArray) (f : Int) (n c k d : Nat) (xs : List Nat) (hs : List Int) : Hs Try.prog where
  op y := if [400, 806].contains y then some (hIa Try.prog) else if y = 401 then some (hLd Try.prog (z2 hs)) else if y = 807 then some (hSp Try.prog) else none
  lp y := if y = 3 then some (lpRr nm f n c k d xs hs) else none
  lq y := if y = 6 then some ⟨Nat, lpRi nm f n c k d xs hs⟩ else none
  cl y := if y = 3 then keep 35 [1, 3, 11, 12, 13] else keep 35 [1, 3, 5, 11, 12, 13, 21, 22]
  au := auCalls [(55, hCa Try.prog 55 (orcMr xs) (okMr xs))]
theorem rr_t (nm : ByteArray) (f : Int) (n : Nat) (c : Nat) (k : Nat) (d : Nat) (xs : List Nat) (hs : List Int) (K : Value → Heap → Prop) :
    (fnP Try.prog c0 (hsRr nm f n c k d xs hs) (34 : FuncId) [Value.agg (List.toArray (runA nm f (0 : Nat) n c (1 : Nat) k d))] (hp2r xs hs true true true true []) K) =
    (Is (flts xs = flts xs ∧ List.length xs = n ∧ n ≤ (100000 : Nat) ∧ fi (List.map sE xs) = (0 : Int)) ∧ (∃ (s : Nat), Is (s ≤ k) ∧ [poi, Value.pointer (some { block := (2 : Nat), off := (0 : Nat) }), poi, Value.slice (some { block := (3 : Nat), off := (0 : Nat) }) n (0 : Nat), poi, poi, poi, poi, poi, poi, poi, Value.slice (some { block := (1 : Nat), off := (0 : Nat) }) k d, Value.int IntKind.i64 (↑k : Int), Value.int IntKind.i64 (0 : Int), poi, poi, poi, poi, poi, poi, poi, poi, poi, poi, poi, poi, poi, poi, poi, poi, poi, poi, poi, poi, poi] = [poi, Value.pointer (some { block := (2 : Nat), off := (0 : Nat) }), poi, Value.slice (some { block := (3 : Nat), off := (0 : Nat) }) n (0 : Nat), poi, poi, poi, poi, poi, poi, poi, Value.slice (some { block := (1 : Nat), off := (0 : Nat) }) k d, Value.int IntKind.i64 (↑k : Int), Value.int IntKind.i64 (↑s : Int), poi, poi, poi, poi, poi, poi, poi, poi, poi, poi, poi, poi, poi, poi, poi, poi, poi, poi, poi, poi, poi] ∧ some (AObj.row (flts xs) (1 : Nat) true true true) :: some (AObj.row (ints hs) (2 : Nat) true true true) :: some (AObj.row [Value.string nm, Value.int IntKind.i64 f, Value.slice (some { block := (0 : Nat), off := (0 : Nat) }) n c, Value.slice (some { block := (1 : Nat), off := (0 : Nat) }) k d] (0 : Nat) false true (List.all [Value.string nm, Value.int IntKind.i64 f, Value.slice (some { block := (0 : Nat), off := (0 : Nat) }) n c, Value.slice (some { block := (1 : Nat), off := (0 : Nat) }) k d] atom)) :: some (AObj.row (rdc n (rdF xs tt1)) (2 : Nat) true true true) :: noH = some (AObj.row (flts xs) (1 : Nat) true true true) :: some (AObj.row (ints hs) (2 : Nat) true true true) :: some (AObj.row [Value.string nm, Value.int IntKind.i64 f, Value.slice (some { block := (0 : Nat), off := (0 : Nat) }) n c, Value.slice (some { block := (1 : Nat), off := (0 : Nat) }) k d] (0 : Nat) false true false) :: some (AObj.row (rdc n (rdF xs (knB (List.take (s * (2 : Nat)) hs)))) (2 : Nat) true true true) :: noH) ∧ ∀ (s : Nat), Is (s ≤ k) → br (decide ((↑s : Int) < (↑k : Int))) (Is ((0 : Int) ≤ (↑s : Int) ∧ (↑s : Int) < (↑k : Int)) ∧ Is ((if (0 : Nat) + Int.toNat (↑s : Int) * (2 : Nat) + (2 : Nat) ≤ List.length (ints hs) then some (Value.agg (List.toArray (List.take (2 : Nat) (List.drop ((0 : Nat) + Int.toNat (↑s : Int) * (2 : Nat)) (ints hs))))) else none) = some (Value.agg #[Value.int IntKind.i64 (List.getD hs ((0 : Nat) + Int.toNat (↑s : Int) * (2 : Nat)) (0 : Int)), Value.int IntKind.i64 (List.getD hs ((0 : Nat) + Int.toNat (↑s : Int) * (2 : Nat) + (1 : Nat)) (0 : Int))])) ∧ ∃ (p : Nat), (∃ (s_1 : Nat), Is (p < k ∧ (↑s_1 : Int) ≤ hsz hs p) ∧ [poi, Value.pointer (some { block := (2 : Nat), off := (0 : Nat) }), poi, Value.slice (some { block := (3 : Nat), off := (0 : Nat) }) n (0 : Nat), poi, Value.pointer (some { block := (4 : Nat), off := (0 : Nat) }), poi, poi, poi, poi, poi, Value.slice (some { block := (1 : Nat), off := (0 : Nat) }) k d, Value.int IntKind.i64 (↑k : Int), Value.int IntKind.i64 (↑s : Int), poi, poi, poi, poi, poi, poi, poi, Value.int IntKind.i64 (IntKind.wrap IntKind.i64 (List.getD hs ((0 : Nat) + Int.toNat (↑s : Int) * (2 : Nat) + (1 : Nat)) (0 : Int) - List.getD hs ((0 : Nat) + Int.toNat (↑s : Int) * (2 : Nat)) (0 : Int))), Value.int IntKind.i64 (0 : Int), poi, poi, poi, poi, poi, poi, poi, poi, poi, poi, poi, poi] = [poi, Value.pointer (some { block := (2 : Nat), off := (0 : Nat) }), poi, Value.slice (some { block := (3 : Nat), off := (0 : Nat) }) n (0 : Nat), poi, Value.pointer (some { block := (4 : Nat), off := (0 : Nat) }), poi, poi, poi, poi, poi, Value.slice (some { block := (1 : Nat), off := (0 : Nat) }) k d, Value.int IntKind.i64 (↑k : Int), Value.int IntKind.i64 (↑p : Int), poi, poi, poi, poi, poi, poi, poi, Value.int IntKind.i64 (hsz hs p), Value.int IntKind.i64 (↑s_1 : Int), poi, poi, poi, poi, poi, poi, poi, poi, poi, poi, poi, poi] ∧ some (AObj.row (flts xs) (1 : Nat) true true true) :: some (AObj.row (ints hs) (2 : Nat) true true true) :: some (AObj.row [Value.string nm, Value.int IntKind.i64 f, Value.slice (some { block := (0 : Nat), off := (0 : Nat) }) n c, Value.slice (some { block := (1 : Nat), off := (0 : Nat) }) k d] (0 : Nat) false true false) :: some (AObj.row (rdc n (rdF xs (knB (List.take (s * (2 : Nat)) hs)))) (2 : Nat) true true true) :: some (AObj.row [Value.int IntKind.i64 (List.getD hs ((0 : Nat) + Int.toNat (↑s : Int) * (2 : Nat)) (0 : Int)), Value.int IntKind.i64 (List.getD hs ((0 : Nat) + Int.toNat (↑s : Int) * (2 : Nat) + (1 : Nat)) (0 : Int))] (0 : Nat) false true (true && List.all [Value.int IntKind.i64 (List.getD hs ((0 : Nat) + Int.toNat (↑s : Int) * (2 : Nat)) (0 : Int)), Value.int IntKind.i64 (List.getD hs ((0 : Nat) + Int.toNat (↑s : Int) * (2 : Nat) + (1 : Nat)) (0 : Int))] atom)) :: noH = some (AObj.row (flts xs) (1 : Nat) true true true) :: some (AObj.row (ints hs) (2 : Nat) true true true) :: some (AObj.row [Value.string nm, Value.int IntKind.i64 f, Value.slice (some { block := (0 : Nat), off := (0 : Nat) }) n c, Value.slice (some { block := (1 : Nat), off := (0 : Nat) }) k d] (0 : Nat) false true false) :: some (AObj.row (rdc n (rdF xs (knT hs p s_1))) (2 : Nat) true true true) :: some (AObj.row [Value.int IntKind.i64 (List.getD hs (p * (2 : Nat)) (0 : Int)), Value.int IntKind.i64 (List.getD hs (p * (2 : Nat) + (1 : Nat)) (0 : Int))] (0 : Nat) false true true) :: noH) ∧ ∀ (s_1 : Nat), Is (p < k ∧ (↑s_1 : Int) ≤ hsz hs p) → br (decide ((↑s_1 : Int) < hsz hs p)) (Is ((0 : Int) ≤ IntKind.wrap IntKind.i64 (List.getD hs (p * (2 : Nat)) (0 : Int) + (↑s_1 : Int)) ∧ IntKind.wrap IntKind.i64 (List.getD hs (p * (2 : Nat)) (0 : Int) + (↑s_1 : Int)) < (↑n : Int)) ∧ Is ((0 : Nat) + Int.toNat (IntKind.wrap IntKind.i64 (List.getD hs (p * (2 : Nat)) (0 : Int) + (↑s_1 : Int))) * (2 : Nat) + List.length [Value.int IntKind.i64 (0 : Int), Value.bool false] ≤ List.length (rdc n (rdF xs (knT hs p s_1)))) ∧ ∃ (s' : Nat), Is (p < k ∧ (↑s' : Int) ≤ hsz hs p) ∧ Is (Int.toNat (hsz hs p) - s' < Int.toNat (hsz hs p) - s_1) ∧ [poi, Value.pointer (some { block := (2 : Nat), off := (0 : Nat) }), poi, Value.slice (some { block := (3 : Nat), off := (0 : Nat) }) n (0 : Nat), poi, Value.pointer (some { block := (4 : Nat), off := (0 : Nat) }), poi, poi, poi, poi, poi, Value.slice (some { block := (1 : Nat), off := (0 : Nat) }) k d, Value.int IntKind.i64 (↑k : Int), Value.int IntKind.i64 (↑p : Int), poi, poi, poi, poi, poi, poi, poi, Value.int IntKind.i64 (hsz hs p), Value.int IntKind.i64 (IntKind.wrap IntKind.i64 ((↑s_1 : Int) + (1 : Int))), poi, poi, poi, poi, poi, poi, poi, poi, poi, poi, poi, poi] = [poi, Value.pointer (some { block := (2 : Nat), off := (0 : Nat) }), poi, Value.slice (some { block := (3 : Nat), off := (0 : Nat) }) n (0 : Nat), poi, Value.pointer (some { block := (4 : Nat), off := (0 : Nat) }), poi, poi, poi, poi, poi, Value.slice (some { block := (1 : Nat), off := (0 : Nat) }) k d, Value.int IntKind.i64 (↑k : Int), Value.int IntKind.i64 (↑p : Int), poi, poi, poi, poi, poi, poi, poi, Value.int IntKind.i64 (hsz hs p), Value.int IntKind.i64 (↑s' : Int), poi, poi, poi, poi, poi, poi, poi, poi, poi, poi, poi, poi] ∧ some (AObj.row (flts xs) (1 : Nat) true true true) :: some (AObj.row (ints hs) (2 : Nat) true true true) :: some (AObj.row [Value.string nm, Value.int IntKind.i64 f, Value.slice (some { block := (0 : Nat), off := (0 : Nat) }) n c, Value.slice (some { block := (1 : Nat), off := (0 : Nat) }) k d] (0 : Nat) false true false) :: some (AObj.row (putL (rdc n (rdF xs (knT hs p s_1))) ((0 : Nat) + Int.toNat (IntKind.wrap IntKind.i64 (List.getD hs (p * (2 : Nat)) (0 : Int) + (↑s_1 : Int))) * (2 : Nat)) [Value.int IntKind.i64 (0 : Int), Value.bool false]) (2 : Nat) true true (true && List.all [Value.int IntKind.i64 (0 : Int), Value.bool false] atom)) :: some (AObj.row [Value.int IntKind.i64 (List.getD hs (p * (2 : Nat)) (0 : Int)), Value.int IntKind.i64 (List.getD hs (p * (2 : Nat) + (1 : Nat)) (0 : Int))] (0 : Nat) false true true) :: noH = some (AObj.row (flts xs) (1 : Nat) true true true) :: some (AObj.row (ints hs) (2 : Nat) true true true) :: some (AObj.row [Value.string nm, Value.int IntKind.i64 f, Value.slice (some { block := (0 : Nat), off := (0 : Nat) }) n c, Value.slice (some { block := (1 : Nat), off := (0 : Nat) }) k d] (0 : Nat) false true false) :: some (AObj.row (rdc n (rdF xs (knT hs p s'))) (2 : Nat) true true true) :: some (AObj.row [Value.int IntKind.i64 (List.getD hs (p * (2 : Nat)) (0 : Int)), Value.int IntKind.i64 (List.getD hs (p * (2 : Nat) + (1 : Nat)) (0 : Int))] (0 : Nat) false true true) :: noH) (∃ (s' : Nat), Is (s' ≤ k) ∧ Is (k - s' < k - s) ∧ [poi, Value.pointer (some { block := (2 : Nat), off := (0 : Nat) }), poi, Value.slice (some { block := (3 : Nat), off := (0 : Nat) }) n (0 : Nat), poi, poi, poi, poi, poi, poi, poi, Value.slice (some { block := (1 : Nat), off := (0 : Nat) }) k d, Value.int IntKind.i64 (↑k : Int), Value.int IntKind.i64 (IntKind.wrap IntKind.i64 ((↑p : Int) + (1 : Int))), poi, poi, poi, poi, poi, poi, poi, poi, poi, poi, poi, poi, poi, poi, poi, poi, poi, poi, poi, poi, poi] = [poi, Value.pointer (some { block := (2 : Nat), off := (0 : Nat) }), poi, Value.slice (some { block := (3 : Nat), off := (0 : Nat) }) n (0 : Nat), poi, poi, poi, poi, poi, poi, poi, Value.slice (some { block := (1 : Nat), off := (0 : Nat) }) k d, Value.int IntKind.i64 (↑k : Int), Value.int IntKind.i64 (↑s' : Int), poi, poi, poi, poi, poi, poi, poi, poi, poi, poi, poi, poi, poi, poi, poi, poi, poi, poi, poi, poi, poi] ∧ some (AObj.row (flts xs) (1 : Nat) true true true) :: some (AObj.row (ints hs) (2 : Nat) true true true) :: some (AObj.row [Value.string nm, Value.int IntKind.i64 f, Value.slice (some { block := (0 : Nat), off := (0 : Nat) }) n c, Value.slice (some { block := (1 : Nat), off := (0 : Nat) }) k d] (0 : Nat) false true false) :: some (AObj.row (rdc n (rdF xs (knT hs p s_1))) (2 : Nat) true true true) :: noH = some (AObj.row (flts xs) (1 : Nat) true true true) :: some (AObj.row (ints hs) (2 : Nat) true true true) :: some (AObj.row [Value.string nm, Value.int IntKind.i64 f, Value.slice (some { block := (0 : Nat), off := (0 : Nat) }) n c, Value.slice (some { block := (1 : Nat), off := (0 : Nat) }) k d] (0 : Nat) false true false) :: some (AObj.row (rdc n (rdF xs (knB (List.take (s' * (2 : Nat)) hs)))) (2 : Nat) true true true) :: noH)) (K (Value.slice (some { block := (2 : Nat), off := (0 : Nat) }) n (0 : Nat)) (some (AObj.row (flts xs) (1 : Nat) true true true) :: some (AObj.row (ints hs) (2 : Nat) true true true) :: some (AObj.row (rdc n (rdF xs (knB (List.take (s * (2 : Nat)) hs)))) (2 : Nat) true true true) :: noH))) := by kernel_rfl
set_option maxRecDepth 100000 in
theorem rr_ok {nm : ByteArray} {f : Int} {n c k d : Nat} {xs : List Nat} {hs : List Int} (hn : xs.length = n) (h9 : n ≤ 100000) (hk : hs.length = k * 2) (hk9 : k ≤ 100000) (hx : fi (xs.map sE) = 0) (hh : hchk n hs (-1) = 0) :
    SmallRes Try.prog 34 [.agg (runA nm f 0 n c 1 k d).toArray] (hp2r xs hs true true true true []) (.slice (some ⟨2, 0, none⟩) n 0) (hp2r xs hs true true true true [rdR n (rdF xs (knB hs))]) := by
  refine fnP_res hm c0_ok (hs := hsRr nm f n c k d xs hs) ?_
  rw [rr_t]
  have e0 : rdc n (rdF xs tt1) = rdc n (rdF xs (knB (hs.take (0 * 2)))) := rdF_congr fun i => by rw [Nat.zero_mul, List.take_zero]; rfl
  refine ⟨⟨rfl, hn, h9, hx⟩, ⟨(0 : Nat), ⟨Nat.zero_le _⟩, by first | trivial | rfl, by rw [e0]; first | done | trivial | rfl⟩, fun s hs' => br_of (fun hc => ?_) (fun hc => ?_)⟩
  · have hc := lt_of_dec hc
    obtain ⟨_, a0, ab, bn⟩ := hchk_all hs (-1) hh s (by omega)
    have hz : IntKind.wrap .i64 (hs.getD (s * 2 + 1) 0 - hs.getD (s * 2) 0) = hsz hs s := by rw [hsz]; exact wrap_eq (by omega) (by omega)
    simp only [Nat.zero_add, Int.toNat_natCast, hz]
    have ez : rdc n (rdF xs (knB (hs.take (s * 2)))) = rdc n (rdF xs (knT hs s 0)) := rdF_congr fun i => (knT_zero i).symm
    refine ⟨⟨by omega, by omega⟩, ⟨ldh (by omega)⟩, s, ⟨(0 : Nat), ⟨hc, by rw [hsz]; omega⟩, by first | trivial | rfl, by rw [ez]; first | done | trivial | rfl⟩, fun j hj => br_of (fun hd => ?_) (fun hd => ?_)⟩
    · obtain ⟨_, j1⟩ := hj.out
      have hd : (j : Int) < hsz hs s := of_decide_eq_true hd
      have hzs : hsz hs s = hs.getD (s * 2 + 1) 0 - hs.getD (s * 2) 0 := rfl
      obtain ⟨A, hA⟩ := Int.eq_ofNat_of_zero_le a0
      have ew : IntKind.wrap .i64 (hs.getD (s * 2) 0 + (j : Int)) = ((A + j : Nat) : Int) := by rw [wrap_eq (by omega) (by omega)]; omega
      rw [ew]
      simp only [Int.toNat_natCast]
      have hput : putL (rdc n (rdF xs (knT hs s j))) ((A + j) * 2) [.int .i64 0, .bool false] = rdc n (rdF xs (knT hs s (j + 1))) := by
        refine (rdc_put (v := (0, false)) (show A + j < n by omega)).trans (rdc_congr fun i _ => rdF_put (by omega) i)
      refine ⟨⟨by omega, by omega⟩, ⟨by rw [rdc_len]; simp only [List.length_cons, List.length_nil]; omega⟩, j + 1, ⟨hc, by omega⟩, ⟨by omega⟩, ?_, ?_⟩
      · rw [wrap_eq (by omega) (by omega)]; first | done | trivial | rfl
      · rw [hput]; first | done | trivial | rfl
    · obtain ⟨_, j1⟩ := hj.out
      have hd : ¬ (j : Int) < hsz hs s := of_decide_eq_false hd
      have ef : rdc n (rdF xs (knT hs s j)) = rdc n (rdF xs (knB (hs.take ((s + 1) * 2)))) := rdF_congr fun i => knT_full (by omega) (by omega) i
      refine ⟨s + 1, ⟨hc⟩, ⟨by omega⟩, by rw [up1 hc (by omega)], by rw [ef]⟩
  · have hc := ge_of_dec hc
    have : s = k := by have := hs'.out; omega
    subst this
    rw [List.take_of_length_le (by omega)]
    exact ⟨by first | trivial | rfl, by first | trivial | rfl⟩
noncomputable def orcRr (xs : List Nat) (hs : List Int) : OrcV
  | [.agg ⟨[.string _nm, .int .i64 _f, .slice (some ⟨0, 0, none⟩) n _, .slice (some ⟨1, 0, none⟩) k _]⟩], [some (.row e1 1 true true true), some (.row e2 2 true true true)] =>
    some (.slice (some ⟨2, 0, none⟩) n 0, [some (.row e1 1 true true true), some (.row e2 2 true true true), rdR n (rdF xs (knB hs))], isRun xs hs n k e1 e2 ∧ fi (xs.map sE) = 0 ∧ hchk n hs (-1) = 0)
  | _, _ => none
theorem okRr (xs : List Nat) (hs : List Int) : OkV Try.prog 34 (orcRr xs hs) := by
  intro args H ret H' vc h hv
  unfold orcRr at h
  split at h
  · cases h
    obtain ⟨⟨rfl, rfl, h1, h2, h3, h4⟩, h5, h6⟩ := hv
    exact rr_ok h1 h2 h3 h4 h5 h6
  · cases h
end
end Qq
end
section
/- Spans of windows above a limit: the program, and the reference. -/
open Go Go.Vm Go.Proofs Sp
namespace Sp
noncomputable section
end
end Sp
namespace Qq
noncomputable section
/- The reference. -/
theorem iAt_ints {l : List Int} {i : Nat} (h : i < l.length) : iAt (ints l) i = l.getD i 0 := by
  rw [iAt, zint_at h]
theorem putL_last {l : List Int} {m : Nat} {v : Int} (h : l.length = m * 2) (h0 : 0 < m) : putL (ints l) ((m - 1) * 2 + 1) [.int .i64 v] = ints (l.take (l.length - 1) ++ [v]) := by
  have e : (m - 1) * 2 + 1 = l.length - 1 := by omega
  rw [putL, splice, e, List.drop_eq_nil_of_le (by rw [ints_len]; simp only [List.length_cons, List.length_nil]; omega), List.append_nil, ints_take, ← ints_app]
  rfl
theorem join_len {l : List Int} {x : Int} (h : 0 < l.length) : (l.take (l.length - 1) ++ [x]).length = l.length := by
  rw [List.length_append, List.length_take]; simp only [List.length_cons, List.length_nil]; omega
theorem new_len (l : List Int) (x y : Int) : (l ++ [x, y]).length / 2 = l.length / 2 + 1 := by
  rw [List.length_append]; simp only [List.length_cons, List.length_nil]; omega
end
end Qq
end
section
/- Readings, written as a run. -/
open Go Go.Vm Go.Proofs Sp
namespace Sp
noncomputable section
def lastIs (l : List Int) (s : Int) : Bool := decide (0 < l.length) && decide (l.getD (l.length - 1) 0 = s)
/-- The holes of the first so many readings, of which B tells the known ones. -/
def mkS (B : Nat → Bool) : Nat → List Int
  | 0 => []
  | s + 1 => if B s = true then mkS B s else if lastIs (mkS B s) s = true then (mkS B s).take ((mkS B s).length - 1) ++ [(s : Int) + 1] else mkS B s ++ [(s : Int), (s : Int) + 1]
def mkK (B : Nat → Bool) (s : Nat) : Nat := (mkS B s).length / 2
noncomputable def mkX (R : Nat → Int × Bool) (n : Nat) : List Nat := (List.range n).map fun i => smO (R i).1
def mkB (R : Nat → Int × Bool) (i : Nat) : Bool := (R i).2
end
end Sp
namespace Qq
noncomputable section
noncomputable def orcSmO : OrcV
  | [.int .i64 n], [] => some (.float .f32 (smO n), [], n.natAbs < 2 ^ 24)
  | _, _ => none
theorem smO_t (n : Int) (K : Value → Heap → Prop) :
    (fnP Try.prog cs2 hsFl0 (35 : FuncId) [Value.int IntKind.i64 n] [] K) =
    (Is True ∧ Is (fDivOk (fOf n) (1098907648 : Nat)) ∧ K (Value.float FloatKind.f32 (fDiv (fOf n) (1098907648 : Nat))) noH) := by kernel_rfl
theorem okSmO : OkV Try.prog 35 orcSmO := by
  intro args H ret H' vc h hv
  unfold orcSmO at h
  split at h
  · rename_i n
    cases h
    refine fnP_res hm cs2_ok (hs := hsFl0) ?_
    rw [smO_t]
    exact ⟨⟨trivial⟩, ⟨(Fl.sm_ok hv).1⟩, by first | trivial | rfl, by first | trivial | rfl⟩
  · cases h
noncomputable def zrun : List Value := [.string ByteArray.empty, .int .i64 0, .slice none 0 0, .slice none 0 0]
noncomputable def lpW0 (nm : ByteArray) (f : Int) (n c k d m e : Nat) (xs : List Nat) (hs : List Int) (R : Nat → Int × Bool) : Lp where
  σ := Nat
  E _ := slots 70 [(1, .slice (some ⟨2, 0, none⟩) m e), (2, .pointer (some ⟨3, 0, none⟩)), (4, .pointer (some ⟨4, 0, none⟩)), (5, .pointer (some ⟨5, 0, none⟩))]
  Hp _ := hp2r xs hs true true true true [rdR m R, runO nm f n c k d, some (.row zrun 0 false true true), some (.row (runA nm f 6 0 0 7 0 0) 0 false true false), fR [], some (.row (ints []) 2 true true true)]
  I s := s = 0
  m _ := 0
noncomputable def lpW (nm : ByteArray) (f : Int) (n c k d m e : Nat) (xs : List Nat) (hs : List Int) (R : Nat → Int × Bool) : Lp where
  σ := Nat
  E s := slots 70 [(2, .pointer (some ⟨3, 0, none⟩)), (4, .pointer (some ⟨4, 0, none⟩)), (5, .pointer (some ⟨5, 0, none⟩)), (14, .slice (some ⟨2, 0, none⟩) m e), (15, .int .i64 (Int.ofNat m)), (16, .int .i64 (Int.ofNat s))]
  Hp s := hp2r xs hs true true true true [rdR m R, runO nm f n c k d, some (.row zrun 0 false true true), some (.row (runA nm f 6 s 0 7 (mkK (mkB R) s) 0) 0 false true false), fR (mkX R s), some (.row (ints (mkS (mkB R) s)) 2 true true true)]
  I s := s ≤ m
  m s := m - s
noncomputable def hsWi (nm : ByteArray) (f : Int) (n c k d m e : Nat) (xs : List Nat) (hs : List Int) (R : Nat → Int × Bool) : Hs Try.prog where
  op y := if [401, 907, 1004, 1008].contains y then some (hIa Try.prog) else if y = 402 then some (hLd Try.prog (zR R)) else if [909, 1006].contains y then some (hLc Try.prog gI) else if [506, 707].contains y then some (hAp Try.prog) else if y = 1010 then some (hSp Try.prog) else none
  cut y := if y = 2 then some (lpW0 nm f n c k d m e xs hs R) else none
  lp _ := some (lpW nm f n c k d m e xs hs R)
  cl y := if y = 2 then keep 70 [1, 2, 4, 5] else keep 70 [2, 4, 5, 14, 15, 16]
  nl y := if y = 2 then [.cell 5 2 1, .cell 5 3 2] else []
  au := auCalls [(35, hCa Try.prog 35 orcSmO okSmO)]
theorem wi_t (nm : ByteArray) (f : Int) (n : Nat) (c : Nat) (k : Nat) (d : Nat) (m : Nat) (e : Nat) (xs : List Nat) (hs : List Int) (R : Nat → Int × Bool) (K : Value → Heap → Prop) :
    (fnP Try.prog c0 (hsWi nm f n c k d m e xs hs R) (37 : FuncId) [Value.agg (List.toArray (runA nm f (0 : Nat) n c (1 : Nat) k d)), Value.slice (some { block := (2 : Nat), off := (0 : Nat) }) m e] (hp2r xs hs true true true true [rdR m R]) K) =
    ((∃ (s : Nat), Is (s = (0 : Nat)) ∧ [poi, Value.slice (some { block := (2 : Nat), off := (0 : Nat) }) m e, Value.pointer (some { block := (3 : Nat), off := (0 : Nat) }), poi, Value.pointer (some { block := (4 : Nat), off := (0 : Nat) }), Value.pointer (some { block := (5 : Nat), off := (0 : Nat) }), poi, poi, poi, poi, poi, poi, poi, poi, poi, poi, poi, poi, poi, poi, poi, poi, poi, poi, poi, poi, poi, poi, poi, poi, poi, poi, poi, poi, poi, poi, poi, poi, poi, poi, poi, poi, poi, poi, poi, poi, poi, poi, poi, poi, poi, poi, poi, poi, poi, poi, poi, poi, poi, poi, poi, poi, poi, poi, poi, poi, poi, poi, poi, poi] = [poi, Value.slice (some { block := (2 : Nat), off := (0 : Nat) }) m e, Value.pointer (some { block := (3 : Nat), off := (0 : Nat) }), poi, Value.pointer (some { block := (4 : Nat), off := (0 : Nat) }), Value.pointer (some { block := (5 : Nat), off := (0 : Nat) }), poi, poi, poi, poi, poi, poi, poi, poi, poi, poi, poi, poi, poi, poi, poi, poi, poi, poi, poi, poi, poi, poi, poi, poi, poi, poi, poi, poi, poi, poi, poi, poi, poi, poi, poi, poi, poi, poi, poi, poi, poi, poi, poi, poi, poi, poi, poi, poi, poi, poi, poi, poi, poi, poi, poi, poi, poi, poi, poi, poi, poi, poi, poi, poi] ∧ some (AObj.row (flts xs) (1 : Nat) true true true) :: some (AObj.row (ints hs) (2 : Nat) true true true) :: some (AObj.row (rdc m R) (2 : Nat) true true true) :: some (AObj.row [Value.string nm, Value.int IntKind.i64 f, Value.slice (some { block := (0 : Nat), off := (0 : Nat) }) n c, Value.slice (some { block := (1 : Nat), off := (0 : Nat) }) k d] (0 : Nat) false true (List.all [Value.string nm, Value.int IntKind.i64 f, Value.slice (some { block := (0 : Nat), off := (0 : Nat) }) n c, Value.slice (some { block := (1 : Nat), off := (0 : Nat) }) k d] atom)) :: some (AObj.row [Value.string { data := #[] }, Value.int IntKind.i64 (0 : Int), Value.slice none (0 : Nat) (0 : Nat), Value.slice none (0 : Nat) (0 : Nat)] (0 : Nat) false true true) :: some (AObj.row [Value.string nm, Value.int IntKind.i64 f, Value.slice (some { block := (6 : Nat), off := (0 : Nat) }) (0 : Nat) (0 : Nat), Value.slice (some { block := (7 : Nat), off := (0 : Nat) }) (0 : Nat) (0 : Nat)] (0 : Nat) false true false) :: some (AObj.row [] (1 : Nat) true true true) :: some (AObj.row [] (2 : Nat) true true true) :: noH = some (AObj.row (flts xs) (1 : Nat) true true true) :: some (AObj.row (ints hs) (2 : Nat) true true true) :: some (AObj.row (rdc m R) (2 : Nat) true true true) :: some (AObj.row [Value.string nm, Value.int IntKind.i64 f, Value.slice (some { block := (0 : Nat), off := (0 : Nat) }) n c, Value.slice (some { block := (1 : Nat), off := (0 : Nat) }) k d] (0 : Nat) false true false) :: some (AObj.row [Value.string { data := #[] }, Value.int IntKind.i64 (0 : Int), Value.slice none (0 : Nat) (0 : Nat), Value.slice none (0 : Nat) (0 : Nat)] (0 : Nat) false true true) :: some (AObj.row [Value.string nm, Value.int IntKind.i64 f, Value.slice (some { block := (6 : Nat), off := (0 : Nat) }) (0 : Nat) (0 : Nat), Value.slice (some { block := (7 : Nat), off := (0 : Nat) }) (0 : Nat) (0 : Nat)] (0 : Nat) false true false) :: some (AObj.row [] (1 : Nat) true true true) :: some (AObj.row [] (2 : Nat) true true true) :: noH) ∧ ∀ (s : Nat), Is (s = (0 : Nat)) → (∃ (s : Nat), Is (s ≤ m) ∧ [poi, poi, Value.pointer (some { block := (3 : Nat), off := (0 : Nat) }), poi, Value.pointer (some { block := (4 : Nat), off := (0 : Nat) }), Value.pointer (some { block := (5 : Nat), off := (0 : Nat) }), poi, poi, poi, poi, poi, poi, poi, poi, Value.slice (some { block := (2 : Nat), off := (0 : Nat) }) m e, Value.int IntKind.i64 (↑m : Int), Value.int IntKind.i64 (0 : Int), poi, poi, poi, poi, poi, poi, poi, poi, poi, poi, poi, poi, poi, poi, poi, poi, poi, poi, poi, poi, poi, poi, poi, poi, poi, poi, poi, poi, poi, poi, poi, poi, poi, poi, poi, poi, poi, poi, poi, poi, poi, poi, poi, poi, poi, poi, poi, poi, poi, poi, poi, poi, poi] = [poi, poi, Value.pointer (some { block := (3 : Nat), off := (0 : Nat) }), poi, Value.pointer (some { block := (4 : Nat), off := (0 : Nat) }), Value.pointer (some { block := (5 : Nat), off := (0 : Nat) }), poi, poi, poi, poi, poi, poi, poi, poi, Value.slice (some { block := (2 : Nat), off := (0 : Nat) }) m e, Value.int IntKind.i64 (↑m : Int), Value.int IntKind.i64 (↑s : Int), poi, poi, poi, poi, poi, poi, poi, poi, poi, poi, poi, poi, poi, poi, poi, poi, poi, poi, poi, poi, poi, poi, poi, poi, poi, poi, poi, poi, poi, poi, poi, poi, poi, poi, poi, poi, poi, poi, poi, poi, poi, poi, poi, poi, poi, poi, poi, poi, poi, poi, poi, poi, poi] ∧ some (AObj.row (flts xs) (1 : Nat) true true true) :: some (AObj.row (ints hs) (2 : Nat) true true true) :: some (AObj.row (rdc m R) (2 : Nat) true true true) :: some (AObj.row [Value.string nm, Value.int IntKind.i64 f, Value.slice (some { block := (0 : Nat), off := (0 : Nat) }) n c, Value.slice (some { block := (1 : Nat), off := (0 : Nat) }) k d] (0 : Nat) false true false) :: some (AObj.row [Value.string { data := #[] }, Value.int IntKind.i64 (0 : Int), Value.slice none (0 : Nat) (0 : Nat), Value.slice none (0 : Nat) (0 : Nat)] (0 : Nat) false true true) :: some (AObj.row [Value.string nm, Value.int IntKind.i64 f, Value.slice (some { block := (6 : Nat), off := (0 : Nat) }) (0 : Nat) (0 : Nat), Value.slice (some { block := (7 : Nat), off := (0 : Nat) }) (0 : Nat) (0 : Nat)] (0 : Nat) false true false) :: some (AObj.row [] (1 : Nat) true true true) :: some (AObj.row [] (2 : Nat) true true true) :: noH = some (AObj.row (flts xs) (1 : Nat) true true true) :: some (AObj.row (ints hs) (2 : Nat) true true true) :: some (AObj.row (rdc m R) (2 : Nat) true true true) :: some (AObj.row [Value.string nm, Value.int IntKind.i64 f, Value.slice (some { block := (0 : Nat), off := (0 : Nat) }) n c, Value.slice (some { block := (1 : Nat), off := (0 : Nat) }) k d] (0 : Nat) false true false) :: some (AObj.row [Value.string { data := #[] }, Value.int IntKind.i64 (0 : Int), Value.slice none (0 : Nat) (0 : Nat), Value.slice none (0 : Nat) (0 : Nat)] (0 : Nat) false true true) :: some (AObj.row [Value.string nm, Value.int IntKind.i64 f, Value.slice (some { block := (6 : Nat), off := (0 : Nat) }) s (0 : Nat), Value.slice (some { block := (7 : Nat), off := (0 : Nat) }) (mkK (mkB R) s) (0 : Nat)] (0 : Nat) false true false) :: some (AObj.row (flts (mkX R s)) (1 : Nat) true true true) :: some (AObj.row (ints (mkS (mkB R) s)) (2 : Nat) true true true) :: noH) ∧ ∀ (s : Nat), Is (s ≤ m) → br (decide ((↑s : Int) < (↑m : Int))) (Is ((0 : Int) ≤ (↑s : Int) ∧ (↑s : Int) < (↑m : Int)) ∧ Is ((if (0 : Nat) + Int.toNat (↑s : Int) * (2 : Nat) + (2 : Nat) ≤ List.length (rdc m R) then some (Value.agg (List.toArray (List.take (2 : Nat) (List.drop ((0 : Nat) + Int.toNat (↑s : Int) * (2 : Nat)) (rdc m R))))) else none) = some (Value.agg #[Value.int IntKind.i64 (rdV R ((0 : Nat) + Int.toNat (↑s : Int) * (2 : Nat))), Value.bool (rdW R ((0 : Nat) + Int.toNat (↑s : Int) * (2 : Nat)))])) ∧ Is (Int.natAbs (rdV R ((0 : Nat) + Int.toNat (↑s : Int) * (2 : Nat))) < (16777216 : Nat)) ∧ Is (List.length (flts (mkX R s)) = s * (1 : Nat) ∧ (s + (1 : Nat)) * (4 : Nat) ≤ (140737488355328 : Nat) ∧ s + (1 : Nat) ≤ (9223372036854775807 : Nat)) ∧ br (rdW R ((0 : Nat) + Int.toNat (↑s : Int) * (2 : Nat))) (∃ (s' : Nat), Is (s' ≤ m) ∧ Is (m - s' < m - s) ∧ [poi, poi, Value.pointer (some { block := (3 : Nat), off := (0 : Nat) }), poi, Value.pointer (some { block := (4 : Nat), off := (0 : Nat) }), Value.pointer (some { block := (5 : Nat), off := (0 : Nat) }), poi, poi, poi, poi, poi, poi, poi, poi, Value.slice (some { block := (2 : Nat), off := (0 : Nat) }) m e, Value.int IntKind.i64 (↑m : Int), Value.int IntKind.i64 (IntKind.wrap IntKind.i64 ((↑s : Int) + (1 : Int))), poi, poi, poi, poi, poi, poi, poi, poi, poi, poi, poi, poi, poi, poi, poi, poi, poi, poi, poi, poi, poi, poi, poi, poi, poi, poi, poi, poi, poi, poi, poi, poi, poi, poi, poi, poi, poi, poi, poi, poi, poi, poi, poi, poi, poi, poi, poi, poi, poi, poi, poi, poi, poi] = [poi, poi, Value.pointer (some { block := (3 : Nat), off := (0 : Nat) }), poi, Value.pointer (some { block := (4 : Nat), off := (0 : Nat) }), Value.pointer (some { block := (5 : Nat), off := (0 : Nat) }), poi, poi, poi, poi, poi, poi, poi, poi, Value.slice (some { block := (2 : Nat), off := (0 : Nat) }) m e, Value.int IntKind.i64 (↑m : Int), Value.int IntKind.i64 (↑s' : Int), poi, poi, poi, poi, poi, poi, poi, poi, poi, poi, poi, poi, poi, poi, poi, poi, poi, poi, poi, poi, poi, poi, poi, poi, poi, poi, poi, poi, poi, poi, poi, poi, poi, poi, poi, poi, poi, poi, poi, poi, poi, poi, poi, poi, poi, poi, poi, poi, poi, poi, poi, poi, poi] ∧ some (AObj.row (flts xs) (1 : Nat) true true true) :: some (AObj.row (ints hs) (2 : Nat) true true true) :: some (AObj.row (rdc m R) (2 : Nat) true true true) :: some (AObj.row [Value.string nm, Value.int IntKind.i64 f, Value.slice (some { block := (0 : Nat), off := (0 : Nat) }) n c, Value.slice (some { block := (1 : Nat), off := (0 : Nat) }) k d] (0 : Nat) false true false) :: some (AObj.row [Value.string { data := #[] }, Value.int IntKind.i64 (0 : Int), Value.slice none (0 : Nat) (0 : Nat), Value.slice none (0 : Nat) (0 : Nat)] (0 : Nat) false true true) :: some (AObj.row [Value.string nm, Value.int IntKind.i64 f, Value.slice (some { block := (6 : Nat), off := (0 : Nat) }) (s + (1 : Nat)) (0 : Nat), Value.slice (some { block := (7 : Nat), off := (0 : Nat) }) (mkK (mkB R) s) (0 : Nat)] (0 : Nat) false true (false && List.all [Value.slice (some { block := List.length (some (AObj.row (flts xs) (1 : Nat) true true true) :: some (AObj.row (ints hs) (2 : Nat) true true true) :: some (AObj.row (rdc m R) (2 : Nat) true true true) :: some (AObj.row [Value.string nm, Value.int IntKind.i64 f, Value.slice (some { block := (0 : Nat), off := (0 : Nat) }) n c, Value.slice (some { block := (1 : Nat), off := (0 : Nat) }) k d] (0 : Nat) false true false) :: some (AObj.row [Value.string { data := #[] }, Value.int IntKind.i64 (0 : Int), Value.slice none (0 : Nat) (0 : Nat), Value.slice none (0 : Nat) (0 : Nat)] (0 : Nat) false true true) :: some (AObj.row [Value.string nm, Value.int IntKind.i64 f, Value.slice (some { block := (6 : Nat), off := (0 : Nat) }) s (0 : Nat), Value.slice (some { block := (7 : Nat), off := (0 : Nat) }) (mkK (mkB R) s) (0 : Nat)] (0 : Nat) false true false) :: some (AObj.row (flts (mkX R s)) (1 : Nat) true true true) :: some (AObj.row (ints (mkS (mkB R) s)) (2 : Nat) true true true) :: some (AObj.row [Value.int IntKind.i64 (rdV R ((0 : Nat) + Int.toNat (↑s : Int) * (2 : Nat))), Value.bool (rdW R ((0 : Nat) + Int.toNat (↑s : Int) * (2 : Nat)))] (0 : Nat) false true (true && List.all [Value.int IntKind.i64 (rdV R ((0 : Nat) + Int.toNat (↑s : Int) * (2 : Nat))), Value.bool (rdW R ((0 : Nat) + Int.toNat (↑s : Int) * (2 : Nat)))] atom)) :: some (AObj.row [Value.float FloatKind.f32 (smO (rdV R ((0 : Nat) + Int.toNat (↑s : Int) * (2 : Nat))))] (1 : Nat) false true (List.all [Value.float FloatKind.f32 (smO (rdV R ((0 : Nat) + Int.toNat (↑s : Int) * (2 : Nat))))] atom)) :: noH), off := (0 : Nat) }) (s + (1 : Nat)) (0 : Nat)] atom)) :: some (AObj.row (flts (mkX R s) ++ [Value.float FloatKind.f32 (smO (rdV R ((0 : Nat) + Int.toNat (↑s : Int) * (2 : Nat))))]) (1 : Nat) true true (List.all [Value.float FloatKind.f32 (smO (rdV R ((0 : Nat) + Int.toNat (↑s : Int) * (2 : Nat))))] atom)) :: some (AObj.row (ints (mkS (mkB R) s)) (2 : Nat) true true true) :: noH = some (AObj.row (flts xs) (1 : Nat) true true true) :: some (AObj.row (ints hs) (2 : Nat) true true true) :: some (AObj.row (rdc m R) (2 : Nat) true true true) :: some (AObj.row [Value.string nm, Value.int IntKind.i64 f, Value.slice (some { block := (0 : Nat), off := (0 : Nat) }) n c, Value.slice (some { block := (1 : Nat), off := (0 : Nat) }) k d] (0 : Nat) false true false) :: some (AObj.row [Value.string { data := #[] }, Value.int IntKind.i64 (0 : Int), Value.slice none (0 : Nat) (0 : Nat), Value.slice none (0 : Nat) (0 : Nat)] (0 : Nat) false true true) :: some (AObj.row [Value.string nm, Value.int IntKind.i64 f, Value.slice (some { block := (6 : Nat), off := (0 : Nat) }) s' (0 : Nat), Value.slice (some { block := (7 : Nat), off := (0 : Nat) }) (mkK (mkB R) s') (0 : Nat)] (0 : Nat) false true false) :: some (AObj.row (flts (mkX R s')) (1 : Nat) true true true) :: some (AObj.row (ints (mkS (mkB R) s')) (2 : Nat) true true true) :: noH) (br (decide ((0 : Int) < (↑(mkK (mkB R) s) : Int))) (Is ((0 : Int) ≤ IntKind.wrap IntKind.i64 ((↑(mkK (mkB R) s) : Int) - (1 : Int)) ∧ IntKind.wrap IntKind.i64 ((↑(mkK (mkB R) s) : Int) - (1 : Int)) < (↑(mkK (mkB R) s) : Int)) ∧ Is ((ints (mkS (mkB R) s))[(0 : Nat) + Int.toNat (IntKind.wrap IntKind.i64 ((↑(mkK (mkB R) s) : Int) - (1 : Int))) * (2 : Nat) + (1 : Nat)]? = some (Value.int IntKind.i64 (iAt (ints (mkS (mkB R) s)) ((0 : Nat) + Int.toNat (IntKind.wrap IntKind.i64 ((↑(mkK (mkB R) s) : Int) - (1 : Int))) * (2 : Nat) + (1 : Nat))))) ∧ br (iAt (ints (mkS (mkB R) s)) ((0 : Nat) + Int.toNat (IntKind.wrap IntKind.i64 ((↑(mkK (mkB R) s) : Int) - (1 : Int))) * (2 : Nat) + (1 : Nat)) == (↑s : Int)) (Is ((0 : Int) ≤ IntKind.wrap IntKind.i64 ((↑(mkK (mkB R) s) : Int) - (1 : Int)) ∧ IntKind.wrap IntKind.i64 ((↑(mkK (mkB R) s) : Int) - (1 : Int)) < (↑(mkK (mkB R) s) : Int)) ∧ Is ((ints (mkS (mkB R) s))[(0 : Nat) + Int.toNat (IntKind.wrap IntKind.i64 ((↑(mkK (mkB R) s) : Int) - (1 : Int))) * (2 : Nat) + (1 : Nat)]? = some (Value.int IntKind.i64 (iAt (ints (mkS (mkB R) s)) ((0 : Nat) + Int.toNat (IntKind.wrap IntKind.i64 ((↑(mkK (mkB R) s) : Int) - (1 : Int))) * (2 : Nat) + (1 : Nat))))) ∧ Is ((0 : Int) ≤ IntKind.wrap IntKind.i64 ((↑(mkK (mkB R) s) : Int) - (1 : Int)) ∧ IntKind.wrap IntKind.i64 ((↑(mkK (mkB R) s) : Int) - (1 : Int)) < (↑(mkK (mkB R) s) : Int)) ∧ Is ((0 : Nat) + Int.toNat (IntKind.wrap IntKind.i64 ((↑(mkK (mkB R) s) : Int) - (1 : Int))) * (2 : Nat) + (1 : Nat) + List.length [Value.int IntKind.i64 (IntKind.wrap IntKind.i64 (iAt (ints (mkS (mkB R) s)) ((0 : Nat) + Int.toNat (IntKind.wrap IntKind.i64 ((↑(mkK (mkB R) s) : Int) - (1 : Int))) * (2 : Nat) + (1 : Nat)) + (1 : Int)))] ≤ List.length (ints (mkS (mkB R) s))) ∧ ∃ (s' : Nat), Is (s' ≤ m) ∧ Is (m - s' < m - s) ∧ [poi, poi, Value.pointer (some { block := (3 : Nat), off := (0 : Nat) }), poi, Value.pointer (some { block := (4 : Nat), off := (0 : Nat) }), Value.pointer (some { block := (5 : Nat), off := (0 : Nat) }), poi, poi, poi, poi, poi, poi, poi, poi, Value.slice (some { block := (2 : Nat), off := (0 : Nat) }) m e, Value.int IntKind.i64 (↑m : Int), Value.int IntKind.i64 (IntKind.wrap IntKind.i64 ((↑s : Int) + (1 : Int))), poi, poi, poi, poi, poi, poi, poi, poi, poi, poi, poi, poi, poi, poi, poi, poi, poi, poi, poi, poi, poi, poi, poi, poi, poi, poi, poi, poi, poi, poi, poi, poi, poi, poi, poi, poi, poi, poi, poi, poi, poi, poi, poi, poi, poi, poi, poi, poi, poi, poi, poi, poi, poi] = [poi, poi, Value.pointer (some { block := (3 : Nat), off := (0 : Nat) }), poi, Value.pointer (some { block := (4 : Nat), off := (0 : Nat) }), Value.pointer (some { block := (5 : Nat), off := (0 : Nat) }), poi, poi, poi, poi, poi, poi, poi, poi, Value.slice (some { block := (2 : Nat), off := (0 : Nat) }) m e, Value.int IntKind.i64 (↑m : Int), Value.int IntKind.i64 (↑s' : Int), poi, poi, poi, poi, poi, poi, poi, poi, poi, poi, poi, poi, poi, poi, poi, poi, poi, poi, poi, poi, poi, poi, poi, poi, poi, poi, poi, poi, poi, poi, poi, poi, poi, poi, poi, poi, poi, poi, poi, poi, poi, poi, poi, poi, poi, poi, poi, poi, poi, poi, poi, poi, poi] ∧ some (AObj.row (flts xs) (1 : Nat) true true true) :: some (AObj.row (ints hs) (2 : Nat) true true true) :: some (AObj.row (rdc m R) (2 : Nat) true true true) :: some (AObj.row [Value.string nm, Value.int IntKind.i64 f, Value.slice (some { block := (0 : Nat), off := (0 : Nat) }) n c, Value.slice (some { block := (1 : Nat), off := (0 : Nat) }) k d] (0 : Nat) false true false) :: some (AObj.row [Value.string { data := #[] }, Value.int IntKind.i64 (0 : Int), Value.slice none (0 : Nat) (0 : Nat), Value.slice none (0 : Nat) (0 : Nat)] (0 : Nat) false true true) :: some (AObj.row [Value.string nm, Value.int IntKind.i64 f, Value.slice (some { block := (6 : Nat), off := (0 : Nat) }) (s + (1 : Nat)) (0 : Nat), Value.slice (some { block := (7 : Nat), off := (0 : Nat) }) (mkK (mkB R) s) (0 : Nat)] (0 : Nat) false true (false && List.all [Value.slice (some { block := List.length (some (AObj.row (flts xs) (1 : Nat) true true true) :: some (AObj.row (ints hs) (2 : Nat) true true true) :: some (AObj.row (rdc m R) (2 : Nat) true true true) :: some (AObj.row [Value.string nm, Value.int IntKind.i64 f, Value.slice (some { block := (0 : Nat), off := (0 : Nat) }) n c, Value.slice (some { block := (1 : Nat), off := (0 : Nat) }) k d] (0 : Nat) false true false) :: some (AObj.row [Value.string { data := #[] }, Value.int IntKind.i64 (0 : Int), Value.slice none (0 : Nat) (0 : Nat), Value.slice none (0 : Nat) (0 : Nat)] (0 : Nat) false true true) :: some (AObj.row [Value.string nm, Value.int IntKind.i64 f, Value.slice (some { block := (6 : Nat), off := (0 : Nat) }) s (0 : Nat), Value.slice (some { block := (7 : Nat), off := (0 : Nat) }) (mkK (mkB R) s) (0 : Nat)] (0 : Nat) false true false) :: some (AObj.row (flts (mkX R s)) (1 : Nat) true true true) :: some (AObj.row (ints (mkS (mkB R) s)) (2 : Nat) true true true) :: some (AObj.row [Value.int IntKind.i64 (rdV R ((0 : Nat) + Int.toNat (↑s : Int) * (2 : Nat))), Value.bool (rdW R ((0 : Nat) + Int.toNat (↑s : Int) * (2 : Nat)))] (0 : Nat) false true (true && List.all [Value.int IntKind.i64 (rdV R ((0 : Nat) + Int.toNat (↑s : Int) * (2 : Nat))), Value.bool (rdW R ((0 : Nat) + Int.toNat (↑s : Int) * (2 : Nat)))] atom)) :: some (AObj.row [Value.float FloatKind.f32 (smO (rdV R ((0 : Nat) + Int.toNat (↑s : Int) * (2 : Nat))))] (1 : Nat) false true (List.all [Value.float FloatKind.f32 (smO (rdV R ((0 : Nat) + Int.toNat (↑s : Int) * (2 : Nat))))] atom)) :: noH), off := (0 : Nat) }) (s + (1 : Nat)) (0 : Nat)] atom)) :: some (AObj.row (flts (mkX R s) ++ [Value.float FloatKind.f32 (smO (rdV R ((0 : Nat) + Int.toNat (↑s : Int) * (2 : Nat))))]) (1 : Nat) true true (List.all [Value.float FloatKind.f32 (smO (rdV R ((0 : Nat) + Int.toNat (↑s : Int) * (2 : Nat))))] atom)) :: some (AObj.row (putL (ints (mkS (mkB R) s)) ((0 : Nat) + Int.toNat (IntKind.wrap IntKind.i64 ((↑(mkK (mkB R) s) : Int) - (1 : Int))) * (2 : Nat) + (1 : Nat)) [Value.int IntKind.i64 (IntKind.wrap IntKind.i64 (iAt (ints (mkS (mkB R) s)) ((0 : Nat) + Int.toNat (IntKind.wrap IntKind.i64 ((↑(mkK (mkB R) s) : Int) - (1 : Int))) * (2 : Nat) + (1 : Nat)) + (1 : Int)))]) (2 : Nat) true true (true && List.all [Value.int IntKind.i64 (IntKind.wrap IntKind.i64 (iAt (ints (mkS (mkB R) s)) ((0 : Nat) + Int.toNat (IntKind.wrap IntKind.i64 ((↑(mkK (mkB R) s) : Int) - (1 : Int))) * (2 : Nat) + (1 : Nat)) + (1 : Int)))] atom)) :: noH = some (AObj.row (flts xs) (1 : Nat) true true true) :: some (AObj.row (ints hs) (2 : Nat) true true true) :: some (AObj.row (rdc m R) (2 : Nat) true true true) :: some (AObj.row [Value.string nm, Value.int IntKind.i64 f, Value.slice (some { block := (0 : Nat), off := (0 : Nat) }) n c, Value.slice (some { block := (1 : Nat), off := (0 : Nat) }) k d] (0 : Nat) false true false) :: some (AObj.row [Value.string { data := #[] }, Value.int IntKind.i64 (0 : Int), Value.slice none (0 : Nat) (0 : Nat), Value.slice none (0 : Nat) (0 : Nat)] (0 : Nat) false true true) :: some (AObj.row [Value.string nm, Value.int IntKind.i64 f, Value.slice (some { block := (6 : Nat), off := (0 : Nat) }) s' (0 : Nat), Value.slice (some { block := (7 : Nat), off := (0 : Nat) }) (mkK (mkB R) s') (0 : Nat)] (0 : Nat) false true false) :: some (AObj.row (flts (mkX R s')) (1 : Nat) true true true) :: some (AObj.row (ints (mkS (mkB R) s')) (2 : Nat) true true true) :: noH) (Is (List.length (ints (mkS (mkB R) s)) = mkK (mkB R) s * (2 : Nat) ∧ (mkK (mkB R) s + (1 : Nat)) * (16 : Nat) ≤ (140737488355328 : Nat) ∧ mkK (mkB R) s + (1 : Nat) ≤ (9223372036854775807 : Nat)) ∧ ∃ (s' : Nat), Is (s' ≤ m) ∧ Is (m - s' < m - s) ∧ [poi, poi, Value.pointer (some { block := (3 : Nat), off := (0 : Nat) }), poi, Value.pointer (some { block := (4 : Nat), off := (0 : Nat) }), Value.pointer (some { block := (5 : Nat), off := (0 : Nat) }), poi, poi, poi, poi, poi, poi, poi, poi, Value.slice (some { block := (2 : Nat), off := (0 : Nat) }) m e, Value.int IntKind.i64 (↑m : Int), Value.int IntKind.i64 (IntKind.wrap IntKind.i64 ((↑s : Int) + (1 : Int))), poi, poi, poi, poi, poi, poi, poi, poi, poi, poi, poi, poi, poi, poi, poi, poi, poi, poi, poi, poi, poi, poi, poi, poi, poi, poi, poi, poi, poi, poi, poi, poi, poi, poi, poi, poi, poi, poi, poi, poi, poi, poi, poi, poi, poi, poi, poi, poi, poi, poi, poi, poi, poi] = [poi, poi, Value.pointer (some { block := (3 : Nat), off := (0 : Nat) }), poi, Value.pointer (some { block := (4 : Nat), off := (0 : Nat) }), Value.pointer (some { block := (5 : Nat), off := (0 : Nat) }), poi, poi, poi, poi, poi, poi, poi, poi, Value.slice (some { block := (2 : Nat), off := (0 : Nat) }) m e, Value.int IntKind.i64 (↑m : Int), Value.int IntKind.i64 (↑s' : Int), poi, poi, poi, poi, poi, poi, poi, poi, poi, poi, poi, poi, poi, poi, poi, poi, poi, poi, poi, poi, poi, poi, poi, poi, poi, poi, poi, poi, poi, poi, poi, poi, poi, poi, poi, poi, poi, poi, poi, poi, poi, poi, poi, poi, poi, poi, poi, poi, poi, poi, poi, poi, poi] ∧ some (AObj.row (flts xs) (1 : Nat) true true true) :: some (AObj.row (ints hs) (2 : Nat) true true true) :: some (AObj.row (rdc m R) (2 : Nat) true true true) :: some (AObj.row [Value.string nm, Value.int IntKind.i64 f, Value.slice (some { block := (0 : Nat), off := (0 : Nat) }) n c, Value.slice (some { block := (1 : Nat), off := (0 : Nat) }) k d] (0 : Nat) false true false) :: some (AObj.row [Value.string { data := #[] }, Value.int IntKind.i64 (0 : Int), Value.slice none (0 : Nat) (0 : Nat), Value.slice none (0 : Nat) (0 : Nat)] (0 : Nat) false true true) :: some (AObj.row [Value.string nm, Value.int IntKind.i64 f, Value.slice (some { block := (6 : Nat), off := (0 : Nat) }) (s + (1 : Nat)) (0 : Nat), Value.slice (some { block := (7 : Nat), off := (0 : Nat) }) (mkK (mkB R) s + (1 : Nat)) (0 : Nat)] (0 : Nat) false true (false && List.all [Value.slice (some { block := List.length (some (AObj.row (flts xs) (1 : Nat) true true true) :: some (AObj.row (ints hs) (2 : Nat) true true true) :: some (AObj.row (rdc m R) (2 : Nat) true true true) :: some (AObj.row [Value.string nm, Value.int IntKind.i64 f, Value.slice (some { block := (0 : Nat), off := (0 : Nat) }) n c, Value.slice (some { block := (1 : Nat), off := (0 : Nat) }) k d] (0 : Nat) false true false) :: some (AObj.row [Value.string { data := #[] }, Value.int IntKind.i64 (0 : Int), Value.slice none (0 : Nat) (0 : Nat), Value.slice none (0 : Nat) (0 : Nat)] (0 : Nat) false true true) :: some (AObj.row [Value.string nm, Value.int IntKind.i64 f, Value.slice (some { block := (6 : Nat), off := (0 : Nat) }) s (0 : Nat), Value.slice (some { block := (7 : Nat), off := (0 : Nat) }) (mkK (mkB R) s) (0 : Nat)] (0 : Nat) false true false) :: some (AObj.row (flts (mkX R s)) (1 : Nat) true true true) :: some (AObj.row (ints (mkS (mkB R) s)) (2 : Nat) true true true) :: some (AObj.row [Value.int IntKind.i64 (rdV R ((0 : Nat) + Int.toNat (↑s : Int) * (2 : Nat))), Value.bool (rdW R ((0 : Nat) + Int.toNat (↑s : Int) * (2 : Nat)))] (0 : Nat) false true (true && List.all [Value.int IntKind.i64 (rdV R ((0 : Nat) + Int.toNat (↑s : Int) * (2 : Nat))), Value.bool (rdW R ((0 : Nat) + Int.toNat (↑s : Int) * (2 : Nat)))] atom)) :: some (AObj.row [Value.float FloatKind.f32 (smO (rdV R ((0 : Nat) + Int.toNat (↑s : Int) * (2 : Nat))))] (1 : Nat) false true (List.all [Value.float FloatKind.f32 (smO (rdV R ((0 : Nat) + Int.toNat (↑s : Int) * (2 : Nat))))] atom)) :: noH), off := (0 : Nat) }) (s + (1 : Nat)) (0 : Nat)] atom && List.all [Value.slice (some { block := List.length (some (AObj.row (flts xs) (1 : Nat) true true true) :: some (AObj.row (ints hs) (2 : Nat) true true true) :: some (AObj.row (rdc m R) (2 : Nat) true true true) :: some (AObj.row [Value.string nm, Value.int IntKind.i64 f, Value.slice (some { block := (0 : Nat), off := (0 : Nat) }) n c, Value.slice (some { block := (1 : Nat), off := (0 : Nat) }) k d] (0 : Nat) false true false) :: some (AObj.row [Value.string { data := #[] }, Value.int IntKind.i64 (0 : Int), Value.slice none (0 : Nat) (0 : Nat), Value.slice none (0 : Nat) (0 : Nat)] (0 : Nat) false true true) :: some (AObj.row [Value.string nm, Value.int IntKind.i64 f, Value.slice (some { block := List.length (some (AObj.row (flts xs) (1 : Nat) true true true) :: some (AObj.row (ints hs) (2 : Nat) true true true) :: some (AObj.row (rdc m R) (2 : Nat) true true true) :: some (AObj.row [Value.string nm, Value.int IntKind.i64 f, Value.slice (some { block := (0 : Nat), off := (0 : Nat) }) n c, Value.slice (some { block := (1 : Nat), off := (0 : Nat) }) k d] (0 : Nat) false true false) :: some (AObj.row [Value.string { data := #[] }, Value.int IntKind.i64 (0 : Int), Value.slice none (0 : Nat) (0 : Nat), Value.slice none (0 : Nat) (0 : Nat)] (0 : Nat) false true true) :: some (AObj.row [Value.string nm, Value.int IntKind.i64 f, Value.slice (some { block := (6 : Nat), off := (0 : Nat) }) s (0 : Nat), Value.slice (some { block := (7 : Nat), off := (0 : Nat) }) (mkK (mkB R) s) (0 : Nat)] (0 : Nat) false true false) :: some (AObj.row (flts (mkX R s)) (1 : Nat) true true true) :: some (AObj.row (ints (mkS (mkB R) s)) (2 : Nat) true true true) :: some (AObj.row [Value.int IntKind.i64 (rdV R ((0 : Nat) + Int.toNat (↑s : Int) * (2 : Nat))), Value.bool (rdW R ((0 : Nat) + Int.toNat (↑s : Int) * (2 : Nat)))] (0 : Nat) false true (true && List.all [Value.int IntKind.i64 (rdV R ((0 : Nat) + Int.toNat (↑s : Int) * (2 : Nat))), Value.bool (rdW R ((0 : Nat) + Int.toNat (↑s : Int) * (2 : Nat)))] atom)) :: some (AObj.row [Value.float FloatKind.f32 (smO (rdV R ((0 : Nat) + Int.toNat (↑s : Int) * (2 : Nat))))] (1 : Nat) false true (List.all [Value.float FloatKind.f32 (smO (rdV R ((0 : Nat) + Int.toNat (↑s : Int) * (2 : Nat))))] atom)) :: noH), off := (0 : Nat) }) (s + (1 : Nat)) (0 : Nat), Value.slice (some { block := (7 : Nat), off := (0 : Nat) }) (mkK (mkB R) s) (0 : Nat)] (0 : Nat) false true (false && List.all [Value.slice (some { block := List.length (some (AObj.row (flts xs) (1 : Nat) true true true) :: some (AObj.row (ints hs) (2 : Nat) true true true) :: some (AObj.row (rdc m R) (2 : Nat) true true true) :: some (AObj.row [Value.string nm, Value.int IntKind.i64 f, Value.slice (some { block := (0 : Nat), off := (0 : Nat) }) n c, Value.slice (some { block := (1 : Nat), off := (0 : Nat) }) k d] (0 : Nat) false true false) :: some (AObj.row [Value.string { data := #[] }, Value.int IntKind.i64 (0 : Int), Value.slice none (0 : Nat) (0 : Nat), Value.slice none (0 : Nat) (0 : Nat)] (0 : Nat) false true true) :: some (AObj.row [Value.string nm, Value.int IntKind.i64 f, Value.slice (some { block := (6 : Nat), off := (0 : Nat) }) s (0 : Nat), Value.slice (some { block := (7 : Nat), off := (0 : Nat) }) (mkK (mkB R) s) (0 : Nat)] (0 : Nat) false true false) :: some (AObj.row (flts (mkX R s)) (1 : Nat) true true true) :: some (AObj.row (ints (mkS (mkB R) s)) (2 : Nat) true true true) :: some (AObj.row [Value.int IntKind.i64 (rdV R ((0 : Nat) + Int.toNat (↑s : Int) * (2 : Nat))), Value.bool (rdW R ((0 : Nat) + Int.toNat (↑s : Int) * (2 : Nat)))] (0 : Nat) false true (true && List.all [Value.int IntKind.i64 (rdV R ((0 : Nat) + Int.toNat (↑s : Int) * (2 : Nat))), Value.bool (rdW R ((0 : Nat) + Int.toNat (↑s : Int) * (2 : Nat)))] atom)) :: some (AObj.row [Value.float FloatKind.f32 (smO (rdV R ((0 : Nat) + Int.toNat (↑s : Int) * (2 : Nat))))] (1 : Nat) false true (List.all [Value.float FloatKind.f32 (smO (rdV R ((0 : Nat) + Int.toNat (↑s : Int) * (2 : Nat))))] atom)) :: noH), off := (0 : Nat) }) (s + (1 : Nat)) (0 : Nat)] atom)) :: none :: some (AObj.row (ints (mkS (mkB R) s)) (2 : Nat) true true true) :: some (AObj.row [Value.int IntKind.i64 (rdV R ((0 : Nat) + Int.toNat (↑s : Int) * (2 : Nat))), Value.bool (rdW R ((0 : Nat) + Int.toNat (↑s : Int) * (2 : Nat)))] (0 : Nat) false true (true && List.all [Value.int IntKind.i64 (rdV R ((0 : Nat) + Int.toNat (↑s : Int) * (2 : Nat))), Value.bool (rdW R ((0 : Nat) + Int.toNat (↑s : Int) * (2 : Nat)))] atom)) :: some (AObj.row [Value.float FloatKind.f32 (smO (rdV R ((0 : Nat) + Int.toNat (↑s : Int) * (2 : Nat))))] (1 : Nat) false true (List.all [Value.float FloatKind.f32 (smO (rdV R ((0 : Nat) + Int.toNat (↑s : Int) * (2 : Nat))))] atom)) :: some (AObj.row (flts (mkX R s) ++ [Value.float FloatKind.f32 (smO (rdV R ((0 : Nat) + Int.toNat (↑s : Int) * (2 : Nat))))]) (1 : Nat) true true (List.all [Value.float FloatKind.f32 (smO (rdV R ((0 : Nat) + Int.toNat (↑s : Int) * (2 : Nat))))] atom)) :: some (AObj.row [Value.int IntKind.i64 (↑s : Int), Value.int IntKind.i64 (IntKind.wrap IntKind.i64 ((↑s : Int) + (1 : Int)))] (2 : Nat) false true (List.all [Value.int IntKind.i64 (↑s : Int), Value.int IntKind.i64 (IntKind.wrap IntKind.i64 ((↑s : Int) + (1 : Int)))] atom)) :: noH), off := (0 : Nat) }) (mkK (mkB R) s + (1 : Nat)) (0 : Nat)] atom)) :: some (AObj.row (flts (mkX R s) ++ [Value.float FloatKind.f32 (smO (rdV R ((0 : Nat) + Int.toNat (↑s : Int) * (2 : Nat))))]) (1 : Nat) true true (List.all [Value.float FloatKind.f32 (smO (rdV R ((0 : Nat) + Int.toNat (↑s : Int) * (2 : Nat))))] atom)) :: some (AObj.row (ints (mkS (mkB R) s) ++ [Value.int IntKind.i64 (↑s : Int), Value.int IntKind.i64 (IntKind.wrap IntKind.i64 ((↑s : Int) + (1 : Int)))]) (2 : Nat) true true (List.all [Value.int IntKind.i64 (↑s : Int), Value.int IntKind.i64 (IntKind.wrap IntKind.i64 ((↑s : Int) + (1 : Int)))] atom)) :: noH = some (AObj.row (flts xs) (1 : Nat) true true true) :: some (AObj.row (ints hs) (2 : Nat) true true true) :: some (AObj.row (rdc m R) (2 : Nat) true true true) :: some (AObj.row [Value.string nm, Value.int IntKind.i64 f, Value.slice (some { block := (0 : Nat), off := (0 : Nat) }) n c, Value.slice (some { block := (1 : Nat), off := (0 : Nat) }) k d] (0 : Nat) false true false) :: some (AObj.row [Value.string { data := #[] }, Value.int IntKind.i64 (0 : Int), Value.slice none (0 : Nat) (0 : Nat), Value.slice none (0 : Nat) (0 : Nat)] (0 : Nat) false true true) :: some (AObj.row [Value.string nm, Value.int IntKind.i64 f, Value.slice (some { block := (6 : Nat), off := (0 : Nat) }) s' (0 : Nat), Value.slice (some { block := (7 : Nat), off := (0 : Nat) }) (mkK (mkB R) s') (0 : Nat)] (0 : Nat) false true false) :: some (AObj.row (flts (mkX R s')) (1 : Nat) true true true) :: some (AObj.row (ints (mkS (mkB R) s')) (2 : Nat) true true true) :: noH)) (Is (List.length (ints (mkS (mkB R) s)) = mkK (mkB R) s * (2 : Nat) ∧ (mkK (mkB R) s + (1 : Nat)) * (16 : Nat) ≤ (140737488355328 : Nat) ∧ mkK (mkB R) s + (1 : Nat) ≤ (9223372036854775807 : Nat)) ∧ ∃ (s' : Nat), Is (s' ≤ m) ∧ Is (m - s' < m - s) ∧ [poi, poi, Value.pointer (some { block := (3 : Nat), off := (0 : Nat) }), poi, Value.pointer (some { block := (4 : Nat), off := (0 : Nat) }), Value.pointer (some { block := (5 : Nat), off := (0 : Nat) }), poi, poi, poi, poi, poi, poi, poi, poi, Value.slice (some { block := (2 : Nat), off := (0 : Nat) }) m e, Value.int IntKind.i64 (↑m : Int), Value.int IntKind.i64 (IntKind.wrap IntKind.i64 ((↑s : Int) + (1 : Int))), poi, poi, poi, poi, poi, poi, poi, poi, poi, poi, poi, poi, poi, poi, poi, poi, poi, poi, poi, poi, poi, poi, poi, poi, poi, poi, poi, poi, poi, poi, poi, poi, poi, poi, poi, poi, poi, poi, poi, poi, poi, poi, poi, poi, poi, poi, poi, poi, poi, poi, poi, poi, poi] = [poi, poi, Value.pointer (some { block := (3 : Nat), off := (0 : Nat) }), poi, Value.pointer (some { block := (4 : Nat), off := (0 : Nat) }), Value.pointer (some { block := (5 : Nat), off := (0 : Nat) }), poi, poi, poi, poi, poi, poi, poi, poi, Value.slice (some { block := (2 : Nat), off := (0 : Nat) }) m e, Value.int IntKind.i64 (↑m : Int), Value.int IntKind.i64 (↑s' : Int), poi, poi, poi, poi, poi, poi, poi, poi, poi, poi, poi, poi, poi, poi, poi, poi, poi, poi, poi, poi, poi, poi, poi, poi, poi, poi, poi, poi, poi, poi, poi, poi, poi, poi, poi, poi, poi, poi, poi, poi, poi, poi, poi, poi, poi, poi, poi, poi, poi, poi, poi, poi, poi] ∧ some (AObj.row (flts xs) (1 : Nat) true true true) :: some (AObj.row (ints hs) (2 : Nat) true true true) :: some (AObj.row (rdc m R) (2 : Nat) true true true) :: some (AObj.row [Value.string nm, Value.int IntKind.i64 f, Value.slice (some { block := (0 : Nat), off := (0 : Nat) }) n c, Value.slice (some { block := (1 : Nat), off := (0 : Nat) }) k d] (0 : Nat) false true false) :: some (AObj.row [Value.string { data := #[] }, Value.int IntKind.i64 (0 : Int), Value.slice none (0 : Nat) (0 : Nat), Value.slice none (0 : Nat) (0 : Nat)] (0 : Nat) false true true) :: some (AObj.row [Value.string nm, Value.int IntKind.i64 f, Value.slice (some { block := (6 : Nat), off := (0 : Nat) }) (s + (1 : Nat)) (0 : Nat), Value.slice (some { block := (7 : Nat), off := (0 : Nat) }) (mkK (mkB R) s + (1 : Nat)) (0 : Nat)] (0 : Nat) false true (false && List.all [Value.slice (some { block := List.length (some (AObj.row (flts xs) (1 : Nat) true true true) :: some (AObj.row (ints hs) (2 : Nat) true true true) :: some (AObj.row (rdc m R) (2 : Nat) true true true) :: some (AObj.row [Value.string nm, Value.int IntKind.i64 f, Value.slice (some { block := (0 : Nat), off := (0 : Nat) }) n c, Value.slice (some { block := (1 : Nat), off := (0 : Nat) }) k d] (0 : Nat) false true false) :: some (AObj.row [Value.string { data := #[] }, Value.int IntKind.i64 (0 : Int), Value.slice none (0 : Nat) (0 : Nat), Value.slice none (0 : Nat) (0 : Nat)] (0 : Nat) false true true) :: some (AObj.row [Value.string nm, Value.int IntKind.i64 f, Value.slice (some { block := (6 : Nat), off := (0 : Nat) }) s (0 : Nat), Value.slice (some { block := (7 : Nat), off := (0 : Nat) }) (mkK (mkB R) s) (0 : Nat)] (0 : Nat) false true false) :: some (AObj.row (flts (mkX R s)) (1 : Nat) true true true) :: some (AObj.row (ints (mkS (mkB R) s)) (2 : Nat) true true true) :: some (AObj.row [Value.int IntKind.i64 (rdV R ((0 : Nat) + Int.toNat (↑s : Int) * (2 : Nat))), Value.bool (rdW R ((0 : Nat) + Int.toNat (↑s : Int) * (2 : Nat)))] (0 : Nat) false true (true && List.all [Value.int IntKind.i64 (rdV R ((0 : Nat) + Int.toNat (↑s : Int) * (2 : Nat))), Value.bool (rdW R ((0 : Nat) + Int.toNat (↑s : Int) * (2 : Nat)))] atom)) :: some (AObj.row [Value.float FloatKind.f32 (smO (rdV R ((0 : Nat) + Int.toNat (↑s : Int) * (2 : Nat))))] (1 : Nat) false true (List.all [Value.float FloatKind.f32 (smO (rdV R ((0 : Nat) + Int.toNat (↑s : Int) * (2 : Nat))))] atom)) :: noH), off := (0 : Nat) }) (s + (1 : Nat)) (0 : Nat)] atom && List.all [Value.slice (some { block := List.length (some (AObj.row (flts xs) (1 : Nat) true true true) :: some (AObj.row (ints hs) (2 : Nat) true true true) :: some (AObj.row (rdc m R) (2 : Nat) true true true) :: some (AObj.row [Value.string nm, Value.int IntKind.i64 f, Value.slice (some { block := (0 : Nat), off := (0 : Nat) }) n c, Value.slice (some { block := (1 : Nat), off := (0 : Nat) }) k d] (0 : Nat) false true false) :: some (AObj.row [Value.string { data := #[] }, Value.int IntKind.i64 (0 : Int), Value.slice none (0 : Nat) (0 : Nat), Value.slice none (0 : Nat) (0 : Nat)] (0 : Nat) false true true) :: some (AObj.row [Value.string nm, Value.int IntKind.i64 f, Value.slice (some { block := List.length (some (AObj.row (flts xs) (1 : Nat) true true true) :: some (AObj.row (ints hs) (2 : Nat) true true true) :: some (AObj.row (rdc m R) (2 : Nat) true true true) :: some (AObj.row [Value.string nm, Value.int IntKind.i64 f, Value.slice (some { block := (0 : Nat), off := (0 : Nat) }) n c, Value.slice (some { block := (1 : Nat), off := (0 : Nat) }) k d] (0 : Nat) false true false) :: some (AObj.row [Value.string { data := #[] }, Value.int IntKind.i64 (0 : Int), Value.slice none (0 : Nat) (0 : Nat), Value.slice none (0 : Nat) (0 : Nat)] (0 : Nat) false true true) :: some (AObj.row [Value.string nm, Value.int IntKind.i64 f, Value.slice (some { block := (6 : Nat), off := (0 : Nat) }) s (0 : Nat), Value.slice (some { block := (7 : Nat), off := (0 : Nat) }) (mkK (mkB R) s) (0 : Nat)] (0 : Nat) false true false) :: some (AObj.row (flts (mkX R s)) (1 : Nat) true true true) :: some (AObj.row (ints (mkS (mkB R) s)) (2 : Nat) true true true) :: some (AObj.row [Value.int IntKind.i64 (rdV R ((0 : Nat) + Int.toNat (↑s : Int) * (2 : Nat))), Value.bool (rdW R ((0 : Nat) + Int.toNat (↑s : Int) * (2 : Nat)))] (0 : Nat) false true (true && List.all [Value.int IntKind.i64 (rdV R ((0 : Nat) + Int.toNat (↑s : Int) * (2 : Nat))), Value.bool (rdW R ((0 : Nat) + Int.toNat (↑s : Int) * (2 : Nat)))] atom)) :: some (AObj.row [Value.float FloatKind.f32 (smO (rdV R ((0 : Nat) + Int.toNat (↑s : Int) * (2 : Nat))))] (1 : Nat) false true (List.all [Value.float FloatKind.f32 (smO (rdV R ((0 : Nat) + Int.toNat (↑s : Int) * (2 : Nat))))] atom)) :: noH), off := (0 : Nat) }) (s + (1 : Nat)) (0 : Nat), Value.slice (some { block := (7 : Nat), off := (0 : Nat) }) (mkK (mkB R) s) (0 : Nat)] (0 : Nat) false true (false && List.all [Value.slice (some { block := List.length (some (AObj.row (flts xs) (1 : Nat) true true true) :: some (AObj.row (ints hs) (2 : Nat) true true true) :: some (AObj.row (rdc m R) (2 : Nat) true true true) :: some (AObj.row [Value.string nm, Value.int IntKind.i64 f, Value.slice (some { block := (0 : Nat), off := (0 : Nat) }) n c, Value.slice (some { block := (1 : Nat), off := (0 : Nat) }) k d] (0 : Nat) false true false) :: some (AObj.row [Value.string { data := #[] }, Value.int IntKind.i64 (0 : Int), Value.slice none (0 : Nat) (0 : Nat), Value.slice none (0 : Nat) (0 : Nat)] (0 : Nat) false true true) :: some (AObj.row [Value.string nm, Value.int IntKind.i64 f, Value.slice (some { block := (6 : Nat), off := (0 : Nat) }) s (0 : Nat), Value.slice (some { block := (7 : Nat), off := (0 : Nat) }) (mkK (mkB R) s) (0 : Nat)] (0 : Nat) false true false) :: some (AObj.row (flts (mkX R s)) (1 : Nat) true true true) :: some (AObj.row (ints (mkS (mkB R) s)) (2 : Nat) true true true) :: some (AObj.row [Value.int IntKind.i64 (rdV R ((0 : Nat) + Int.toNat (↑s : Int) * (2 : Nat))), Value.bool (rdW R ((0 : Nat) + Int.toNat (↑s : Int) * (2 : Nat)))] (0 : Nat) false true (true && List.all [Value.int IntKind.i64 (rdV R ((0 : Nat) + Int.toNat (↑s : Int) * (2 : Nat))), Value.bool (rdW R ((0 : Nat) + Int.toNat (↑s : Int) * (2 : Nat)))] atom)) :: some (AObj.row [Value.float FloatKind.f32 (smO (rdV R ((0 : Nat) + Int.toNat (↑s : Int) * (2 : Nat))))] (1 : Nat) false true (List.all [Value.float FloatKind.f32 (smO (rdV R ((0 : Nat) + Int.toNat (↑s : Int) * (2 : Nat))))] atom)) :: noH), off := (0 : Nat) }) (s + (1 : Nat)) (0 : Nat)] atom)) :: none :: some (AObj.row (ints (mkS (mkB R) s)) (2 : Nat) true true true) :: some (AObj.row [Value.int IntKind.i64 (rdV R ((0 : Nat) + Int.toNat (↑s : Int) * (2 : Nat))), Value.bool (rdW R ((0 : Nat) + Int.toNat (↑s : Int) * (2 : Nat)))] (0 : Nat) false true (true && List.all [Value.int IntKind.i64 (rdV R ((0 : Nat) + Int.toNat (↑s : Int) * (2 : Nat))), Value.bool (rdW R ((0 : Nat) + Int.toNat (↑s : Int) * (2 : Nat)))] atom)) :: some (AObj.row [Value.float FloatKind.f32 (smO (rdV R ((0 : Nat) + Int.toNat (↑s : Int) * (2 : Nat))))] (1 : Nat) false true (List.all [Value.float FloatKind.f32 (smO (rdV R ((0 : Nat) + Int.toNat (↑s : Int) * (2 : Nat))))] atom)) :: some (AObj.row (flts (mkX R s) ++ [Value.float FloatKind.f32 (smO (rdV R ((0 : Nat) + Int.toNat (↑s : Int) * (2 : Nat))))]) (1 : Nat) true true (List.all [Value.float FloatKind.f32 (smO (rdV R ((0 : Nat) + Int.toNat (↑s : Int) * (2 : Nat))))] atom)) :: some (AObj.row [Value.int IntKind.i64 (↑s : Int), Value.int IntKind.i64 (IntKind.wrap IntKind.i64 ((↑s : Int) + (1 : Int)))] (2 : Nat) false true (List.all [Value.int IntKind.i64 (↑s : Int), Value.int IntKind.i64 (IntKind.wrap IntKind.i64 ((↑s : Int) + (1 : Int)))] atom)) :: noH), off := (0 : Nat) }) (mkK (mkB R) s + (1 : Nat)) (0 : Nat)] atom)) :: some (AObj.row (flts (mkX R s) ++ [Value.float FloatKind.f32 (smO (rdV R ((0 : Nat) + Int.toNat (↑s : Int) * (2 : Nat))))]) (1 : Nat) true true (List.all [Value.float FloatKind.f32 (smO (rdV R ((0 : Nat) + Int.toNat (↑s : Int) * (2 : Nat))))] atom)) :: some (AObj.row (ints (mkS (mkB R) s) ++ [Value.int IntKind.i64 (↑s : Int), Value.int IntKind.i64 (IntKind.wrap IntKind.i64 ((↑s : Int) + (1 : Int)))]) (2 : Nat) true true (List.all [Value.int IntKind.i64 (↑s : Int), Value.int IntKind.i64 (IntKind.wrap IntKind.i64 ((↑s : Int) + (1 : Int)))] atom)) :: noH = some (AObj.row (flts xs) (1 : Nat) true true true) :: some (AObj.row (ints hs) (2 : Nat) true true true) :: some (AObj.row (rdc m R) (2 : Nat) true true true) :: some (AObj.row [Value.string nm, Value.int IntKind.i64 f, Value.slice (some { block := (0 : Nat), off := (0 : Nat) }) n c, Value.slice (some { block := (1 : Nat), off := (0 : Nat) }) k d] (0 : Nat) false true false) :: some (AObj.row [Value.string { data := #[] }, Value.int IntKind.i64 (0 : Int), Value.slice none (0 : Nat) (0 : Nat), Value.slice none (0 : Nat) (0 : Nat)] (0 : Nat) false true true) :: some (AObj.row [Value.string nm, Value.int IntKind.i64 f, Value.slice (some { block := (6 : Nat), off := (0 : Nat) }) s' (0 : Nat), Value.slice (some { block := (7 : Nat), off := (0 : Nat) }) (mkK (mkB R) s') (0 : Nat)] (0 : Nat) false true false) :: some (AObj.row (flts (mkX R s')) (1 : Nat) true true true) :: some (AObj.row (ints (mkS (mkB R) s')) (2 : Nat) true true true) :: noH))) (K (Value.agg #[Value.string nm, Value.int IntKind.i64 f, Value.slice (some { block := (3 : Nat), off := (0 : Nat) }) s (0 : Nat), Value.slice (some { block := (4 : Nat), off := (0 : Nat) }) (mkK (mkB R) s) (0 : Nat)]) (some (AObj.row (flts xs) (1 : Nat) true true true) :: some (AObj.row (ints hs) (2 : Nat) true true true) :: some (AObj.row (rdc m R) (2 : Nat) true true true) :: some (AObj.row (flts (mkX R s)) (1 : Nat) true true true) :: some (AObj.row (ints (mkS (mkB R) s)) (2 : Nat) true true true) :: noH))) := by kernel_rfl
theorem mkS_len (B : Nat → Bool) : ∀ s, (mkS B s).length = mkK B s * 2 ∧ mkK B s ≤ s := by
  intro s
  have : (mkS B s).length % 2 = 0 ∧ (mkS B s).length ≤ 2 * s := by
    induction s with
    | zero => exact ⟨rfl, Nat.le_refl _⟩
    | succ s ih =>
      rw [mkS]
      split
      · exact ⟨ih.1, by omega⟩
      · split
        · rename_i h; simp only [lastIs, Bool.and_eq_true, decide_eq_true_eq] at h
          rw [join_len h.1]; exact ⟨ih.1, by omega⟩
        · rw [List.length_append]; simp only [List.length_cons, List.length_nil]; omega
  rw [mkK]; omega
theorem mkS_zero (B : Nat → Bool) : mkS B 0 = [] := by rw [mkS]
theorem mkK_zero (B : Nat → Bool) : mkK B 0 = 0 := by rw [mkK, mkS_zero]; rfl
theorem mkX_zero (R : Nat → Int × Bool) : mkX R 0 = [] := rfl
theorem mkX_succ (R : Nat → Int × Bool) (s : Nat) : mkX R (s + 1) = mkX R s ++ [smO (R s).1] := by
  rw [mkX, mkX, List.range_succ, List.map_append]; rfl
theorem mkX_len (R : Nat → Int × Bool) (s : Nat) : (mkX R s).length = s := by rw [mkX, List.length_map, List.length_range]
theorem flts_app (xs ys : List Nat) : flts xs ++ flts ys = flts (xs ++ ys) := by rw [flts, flts, flts, List.map_append]
set_option maxRecDepth 100000 in
theorem wi_ok {nm : ByteArray} {f : Int} {n c k d m e : Nat} {xs : List Nat} {hs : List Int} {R : Nat → Int × Bool} (h9 : m ≤ 100000) (hR : ∀ i, i < m → (R i).1.natAbs < 2 ^ 24) :
    SmallRes Try.prog 37 [.agg (runA nm f 0 n c 1 k d).toArray, .slice (some ⟨2, 0, none⟩) m e] (hp2r xs hs true true true true [rdR m R]) (.agg (runA nm f 3 m 0 4 (mkK (mkB R) m) 0).toArray) (hp2r xs hs true true true true [rdR m R, fR (mkX R m), some (.row (ints (mkS (mkB R) m)) 2 true true true)]) := by
  refine fnP_res hm c0_ok (hs := hsWi nm f n c k d m e xs hs R) ?_
  rw [wi_t]
  refine ⟨⟨(0 : Nat), ⟨rfl⟩, by first | trivial | rfl, by first | trivial | rfl⟩, fun _ _ => ⟨⟨(0 : Nat), ⟨Nat.zero_le _⟩, by first | trivial | rfl, by rw [mkK_zero, mkX_zero, mkS_zero]; first | done | trivial | rfl⟩, fun s hs' => br_of (fun hc => ?_) (fun hc => ?_)⟩⟩
  · have hc := lt_of_dec hc
    simp only [Nat.zero_add, Int.toNat_natCast, rdV_at, rdW_at]
    obtain ⟨l1, l2⟩ := mkS_len (mkB R) s
    have hx : flts (mkX R s) ++ [.float .f32 (smO (R s).1)] = flts (mkX R (s + 1)) := by rw [mkX_succ, ← flts_app]; rfl
    have es : mkS (mkB R) (s + 1) = if mkB R s = true then mkS (mkB R) s else if lastIs (mkS (mkB R) s) s = true then (mkS (mkB R) s).take ((mkS (mkB R) s).length - 1) ++ [(s : Int) + 1] else mkS (mkB R) s ++ [(s : Int), (s : Int) + 1] := rfl
    have ek : mkK (mkB R) (s + 1) = (mkS (mkB R) (s + 1)).length / 2 := rfl
    have ek0 : mkK (mkB R) s = (mkS (mkB R) s).length / 2 := rfl
    have w1 : IntKind.wrap .i64 ((s : Int) + 1) = (s : Int) + 1 := wrap_eq (by omega) (by omega)
    rw [hx, up1 hc (by omega)]
    refine ⟨⟨by omega, by omega⟩, ⟨by rw [rdc_len, if_pos (by omega), ← (rdc_take hc), rdc_len, if_pos (by omega)]⟩, ⟨hR s hc⟩, ⟨by rw [flts_len, mkX_len]; omega, by omega, by omega⟩, br_of (fun hk => ?_) (fun hk => ?_)⟩
    · have e1 : mkS (mkB R) (s + 1) = mkS (mkB R) s := by rw [es]; exact if_pos hk
      have e2 : mkK (mkB R) (s + 1) = mkK (mkB R) s := by rw [ek, e1, ek0]
      refine ⟨s + 1, ⟨hc⟩, ⟨by omega⟩, by first | trivial | rfl, by rw [e1, e2]; first | done | trivial | rfl⟩
    · have hk' : ¬ mkB R s = true := fun h => by rw [mkB, hk] at h; cases h
      rw [if_neg hk'] at es
      generalize mkS (mkB R) s = l at *
      have hnew : lastIs l s = false → mkS (mkB R) (s + 1) = l ++ [(s : Int), (s : Int) + 1] ∧ mkK (mkB R) (s + 1) = mkK (mkB R) s + 1 := fun h => by
        have : mkS (mkB R) (s + 1) = l ++ [(s : Int), (s : Int) + 1] := by rw [es, h]; rfl
        refine ⟨this, ?_⟩
        rw [ek, ek0, this, new_len]
      have happ : ints l ++ [.int .i64 (s : Int), .int .i64 ((s : Int) + 1)] = ints (l ++ [(s : Int), (s : Int) + 1]) := by rw [← ints_app]; rfl
      have hvc : (ints l).length = mkK (mkB R) s * 2 ∧ (mkK (mkB R) s + 1) * 16 ≤ 140737488355328 ∧ mkK (mkB R) s + 1 ≤ 9223372036854775807 := ⟨by rw [ints_len]; exact l1, by omega, by omega⟩
      have u1 : ((s + 1 : Nat) : Int) = (s : Int) + 1 := rfl
      refine br_of (fun h0 => ?_) (fun h0 => ?_)
      · have h0 : 0 < mkK (mkB R) s := by have := of_decide_eq_true h0; omega
        have wk : IntKind.wrap .i64 ((mkK (mkB R) s : Int) - 1) = ((mkK (mkB R) s - 1 : Nat) : Int) := by rw [wrap_eq (by omega) (by omega)]; omega
        have ei : (mkK (mkB R) s - 1) * 2 + 1 = l.length - 1 := by omega
        rw [wk]
        simp only [Int.toNat_natCast]
        have hl : l.length - 1 < l.length := by omega
        have hat : (ints l)[(mkK (mkB R) s - 1) * 2 + 1]? = some (.int .i64 (iAt (ints l) ((mkK (mkB R) s - 1) * 2 + 1))) := by rw [ei, iAt_ints hl, zint_at hl]
        have b1 : 0 ≤ ((mkK (mkB R) s - 1 : Nat) : Int) ∧ ((mkK (mkB R) s - 1 : Nat) : Int) < (mkK (mkB R) s : Int) := by omega
        refine ⟨⟨b1⟩, ⟨hat⟩, br_of (fun he => ?_) (fun he => ?_)⟩
        · have he : iAt (ints l) ((mkK (mkB R) s - 1) * 2 + 1) = (s : Int) := by simpa using he
          have hj : lastIs l s = true := by rw [lastIs, decide_eq_true (show 0 < l.length by omega), ← iAt_ints hl, ← ei, he]; simp
          have e1 : mkS (mkB R) (s + 1) = l.take (l.length - 1) ++ [(s : Int) + 1] := by rw [es, if_pos hj]
          have e2 : mkK (mkB R) (s + 1) = mkK (mkB R) s := by rw [ek, e1, join_len (by omega)]; omega
          rw [he, w1, putL_last l1 h0, ← e1]
          refine ⟨⟨b1⟩, ⟨by rw [he] at hat; exact hat⟩, ⟨b1⟩, ⟨by rw [ints_len]; simp only [List.length_cons, List.length_nil]; omega⟩, s + 1, ⟨hc⟩, ⟨by omega⟩, by first | trivial | rfl, by rw [e2]; first | done | trivial | rfl⟩
        · have he : ¬ iAt (ints l) ((mkK (mkB R) s - 1) * 2 + 1) = (s : Int) := by simpa using he
          have hj : lastIs l s = false := by
            rw [lastIs, ← iAt_ints hl, ← ei, decide_eq_false he, Bool.and_false]
          obtain ⟨e1, e2⟩ := hnew hj
          rw [u1, happ, ← e1]
          refine ⟨⟨hvc⟩, s + 1, ⟨hc⟩, ⟨by omega⟩, by first | trivial | rfl, by rw [e2]; first | done | trivial | rfl⟩
      · have h0 : ¬ 0 < mkK (mkB R) s := by have := of_decide_eq_false h0; omega
        have hj : lastIs l s = false := by rw [lastIs, decide_eq_false (show ¬ 0 < l.length by omega)]; rfl
        obtain ⟨e1, e2⟩ := hnew hj
        rw [u1, happ, ← e1]
        refine ⟨⟨hvc⟩, s + 1, ⟨hc⟩, ⟨by omega⟩, by first | trivial | rfl, by rw [e2]; first | done | trivial | rfl⟩
  · have hc := ge_of_dec hc
    have : s = m := by have := hs'.out; omega
    subst this
    exact ⟨by first | trivial | rfl, by first | trivial | rfl⟩
noncomputable def orcWi (xs : List Nat) (hs : List Int) (R : Nat → Int × Bool) : OrcV
  | [.agg ⟨[.string nm, .int .i64 f, .slice (some ⟨0, 0, none⟩) n _, .slice (some ⟨1, 0, none⟩) k _]⟩, .slice (some ⟨2, 0, none⟩) m _], [some (.row e1 1 true true true), some (.row e2 2 true true true), some (.row e3 2 true true true)] =>
    some (.agg (runA nm f 3 m 0 4 (mkK (mkB R) m) 0).toArray, [some (.row e1 1 true true true), some (.row e2 2 true true true), some (.row e3 2 true true true), fR (mkX R m), some (.row (ints (mkS (mkB R) m)) 2 true true true)], isRun xs hs n k e1 e2 ∧ e3 = rdc m R ∧ m ≤ 100000 ∧ ∀ i, i < m → (R i).1.natAbs < 2 ^ 24)
  | _, _ => none
theorem okWi (xs : List Nat) (hs : List Int) (R : Nat → Int × Bool) : OkV Try.prog 37 (orcWi xs hs R) := by
  intro args H ret H' vc h hv
  unfold orcWi at h
  split at h
  · cases h
    obtain ⟨⟨rfl, rfl, h1, h2, h3, h4⟩, rfl, h5, h6⟩ := hv
    exact wi_ok h5 h6
  · cases h
end
end Qq
end
section
/- A run in the other direction. -/
open Go Go.Vm Go.Proofs Sp
namespace Sp
noncomputable section
/-- Readings, of which the first s and the last s are exchanged. -/
noncomputable def rvR (n : Nat) (R : Nat → Int × Bool) (s : Nat) (k : Nat) : Int × Bool := if k < s ∨ n ≤ k + s then R (n - 1 - k) else R k
noncomputable def rvA (n : Nat) (R : Nat → Int × Bool) (k : Nat) : Int × Bool := R (n - 1 - k)
end
end Sp
namespace Qq
noncomputable section
noncomputable def lpRv (n c : Nat) (R : Nat → Int × Bool) : Lp where
  σ := Nat
  E s := slots 28 [(0, .slice (some ⟨0, 0, none⟩) n c), (2, .int .i64 (Int.ofNat s)), (3, .int .i64 ((n : Int) - 1 - s))]
  Hp s := [rdR n (rvR n R s)]
  I s := 2 * s ≤ n
  m s := n - s
noncomputable def hsRv (n c : Nat) (R : Nat → Int × Bool) : Hs Try.prog where
  op y := if [306, 310, 312, 314].contains y then some (hIa Try.prog) else if [307, 311].contains y then some (hLd Try.prog (zR R)) else if [313, 315].contains y then some (hSp Try.prog) else none
  lp _ := some (lpRv n c R)
  cl _ := keep 28 [0, 2, 3]
  au := au0 Try.prog
theorem rvs_t (n : Nat) (c : Nat) (R : Nat → Int × Bool) (K : Value → Heap → Prop) :
    (fnP Try.prog c0 (hsRv n c R) (36 : FuncId) [Value.slice (some { block := (0 : Nat), off := (0 : Nat) }) n c] [rdR n R] K) =
    ((∃ (s : Nat), Is ((2 : Nat) * s ≤ n) ∧ [Value.slice (some { block := (0 : Nat), off := (0 : Nat) }) n c, poi, Value.int IntKind.i64 (0 : Int), Value.int IntKind.i64 (IntKind.wrap IntKind.i64 ((↑n : Int) - (1 : Int))), poi, poi, poi, poi, poi, poi, poi, poi, poi, poi, poi, poi, poi, poi, poi, poi, poi, poi, poi, poi, poi, poi, poi, poi] = [Value.slice (some { block := (0 : Nat), off := (0 : Nat) }) n c, poi, Value.int IntKind.i64 (↑s : Int), Value.int IntKind.i64 ((↑n : Int) - (1 : Int) - (↑s : Int)), poi, poi, poi, poi, poi, poi, poi, poi, poi, poi, poi, poi, poi, poi, poi, poi, poi, poi, poi, poi, poi, poi, poi, poi] ∧ some (AObj.row (rdc n R) (2 : Nat) true true true) :: noH = some (AObj.row (rdc n (rvR n R s)) (2 : Nat) true true true) :: noH) ∧ ∀ (s : Nat), Is ((2 : Nat) * s ≤ n) → br (decide ((↑s : Int) < (↑n : Int) - (1 : Int) - (↑s : Int))) (Is ((0 : Int) ≤ (↑n : Int) - (1 : Int) - (↑s : Int) ∧ (↑n : Int) - (1 : Int) - (↑s : Int) < (↑n : Int)) ∧ Is ((if (0 : Nat) + Int.toNat ((↑n : Int) - (1 : Int) - (↑s : Int)) * (2 : Nat) + (2 : Nat) ≤ List.length (rdc n (rvR n R s)) then some (Value.agg (List.toArray (List.take (2 : Nat) (List.drop ((0 : Nat) + Int.toNat ((↑n : Int) - (1 : Int) - (↑s : Int)) * (2 : Nat)) (rdc n (rvR n R s)))))) else none) = some (Value.agg #[Value.int IntKind.i64 (rdV R ((0 : Nat) + Int.toNat ((↑n : Int) - (1 : Int) - (↑s : Int)) * (2 : Nat))), Value.bool (rdW R ((0 : Nat) + Int.toNat ((↑n : Int) - (1 : Int) - (↑s : Int)) * (2 : Nat)))])) ∧ Is ((0 : Int) ≤ (↑s : Int) ∧ (↑s : Int) < (↑n : Int)) ∧ Is ((if (0 : Nat) + Int.toNat (↑s : Int) * (2 : Nat) + (2 : Nat) ≤ List.length (rdc n (rvR n R s)) then some (Value.agg (List.toArray (List.take (2 : Nat) (List.drop ((0 : Nat) + Int.toNat (↑s : Int) * (2 : Nat)) (rdc n (rvR n R s)))))) else none) = some (Value.agg #[Value.int IntKind.i64 (rdV R ((0 : Nat) + Int.toNat (↑s : Int) * (2 : Nat))), Value.bool (rdW R ((0 : Nat) + Int.toNat (↑s : Int) * (2 : Nat)))])) ∧ Is ((0 : Int) ≤ (↑s : Int) ∧ (↑s : Int) < (↑n : Int)) ∧ Is ((0 : Nat) + Int.toNat (↑s : Int) * (2 : Nat) + List.length [Value.int IntKind.i64 (rdV R ((0 : Nat) + Int.toNat ((↑n : Int) - (1 : Int) - (↑s : Int)) * (2 : Nat))), Value.bool (rdW R ((0 : Nat) + Int.toNat ((↑n : Int) - (1 : Int) - (↑s : Int)) * (2 : Nat)))] ≤ List.length (rdc n (rvR n R s))) ∧ Is ((0 : Int) ≤ (↑n : Int) - (1 : Int) - (↑s : Int) ∧ (↑n : Int) - (1 : Int) - (↑s : Int) < (↑n : Int)) ∧ Is ((0 : Nat) + Int.toNat ((↑n : Int) - (1 : Int) - (↑s : Int)) * (2 : Nat) + List.length [Value.int IntKind.i64 (rdV R ((0 : Nat) + Int.toNat (↑s : Int) * (2 : Nat))), Value.bool (rdW R ((0 : Nat) + Int.toNat (↑s : Int) * (2 : Nat)))] ≤ List.length (putL (rdc n (rvR n R s)) ((0 : Nat) + Int.toNat (↑s : Int) * (2 : Nat)) [Value.int IntKind.i64 (rdV R ((0 : Nat) + Int.toNat ((↑n : Int) - (1 : Int) - (↑s : Int)) * (2 : Nat))), Value.bool (rdW R ((0 : Nat) + Int.toNat ((↑n : Int) - (1 : Int) - (↑s : Int)) * (2 : Nat)))])) ∧ ∃ (s' : Nat), Is ((2 : Nat) * s' ≤ n) ∧ Is (n - s' < n - s) ∧ [Value.slice (some { block := (0 : Nat), off := (0 : Nat) }) n c, poi, Value.int IntKind.i64 (IntKind.wrap IntKind.i64 ((↑s : Int) + (1 : Int))), Value.int IntKind.i64 (IntKind.wrap IntKind.i64 ((↑n : Int) - (1 : Int) - (↑s : Int) - (1 : Int))), poi, poi, poi, poi, poi, poi, poi, poi, poi, poi, poi, poi, poi, poi, poi, poi, poi, poi, poi, poi, poi, poi, poi, poi] = [Value.slice (some { block := (0 : Nat), off := (0 : Nat) }) n c, poi, Value.int IntKind.i64 (↑s' : Int), Value.int IntKind.i64 ((↑n : Int) - (1 : Int) - (↑s' : Int)), poi, poi, poi, poi, poi, poi, poi, poi, poi, poi, poi, poi, poi, poi, poi, poi, poi, poi, poi, poi, poi, poi, poi, poi] ∧ some (AObj.row (putL (putL (rdc n (rvR n R s)) ((0 : Nat) + Int.toNat (↑s : Int) * (2 : Nat)) [Value.int IntKind.i64 (rdV R ((0 : Nat) + Int.toNat ((↑n : Int) - (1 : Int) - (↑s : Int)) * (2 : Nat))), Value.bool (rdW R ((0 : Nat) + Int.toNat ((↑n : Int) - (1 : Int) - (↑s : Int)) * (2 : Nat)))]) ((0 : Nat) + Int.toNat ((↑n : Int) - (1 : Int) - (↑s : Int)) * (2 : Nat)) [Value.int IntKind.i64 (rdV R ((0 : Nat) + Int.toNat (↑s : Int) * (2 : Nat))), Value.bool (rdW R ((0 : Nat) + Int.toNat (↑s : Int) * (2 : Nat)))]) (2 : Nat) true true (true && List.all [Value.int IntKind.i64 (rdV R ((0 : Nat) + Int.toNat ((↑n : Int) - (1 : Int) - (↑s : Int)) * (2 : Nat))), Value.bool (rdW R ((0 : Nat) + Int.toNat ((↑n : Int) - (1 : Int) - (↑s : Int)) * (2 : Nat)))] atom && List.all [Value.int IntKind.i64 (rdV R ((0 : Nat) + Int.toNat (↑s : Int) * (2 : Nat))), Value.bool (rdW R ((0 : Nat) + Int.toNat (↑s : Int) * (2 : Nat)))] atom)) :: noH = some (AObj.row (rdc n (rvR n R s')) (2 : Nat) true true true) :: noH) (K undef (some (AObj.row (rdc n (rvR n R s)) (2 : Nat) true true true) :: noH))) := by kernel_rfl
theorem rvR_put {n s : Nat} {R : Nat → Int × Bool} (h : (s : Int) < (n : Int) - 1 - s) : rdc n (upR (upR (rvR n R s) s (R (n - 1 - s))) (n - 1 - s) (R s)) = rdc n (rvR n R (s + 1)) := by
  refine rdc_congr fun i hi => ?_
  simp only [upR, rvR]
  by_cases h1 : i = n - 1 - s
  · rw [if_pos h1, if_pos (by omega), h1, show n - 1 - (n - 1 - s) = s by omega]
  · rw [if_neg h1]
    by_cases h2 : i = s
    · rw [if_pos h2, if_pos (by omega), h2]
    · rw [if_neg h2]
      by_cases h3 : i < s ∨ n ≤ i + s
      · rw [if_pos h3, if_pos (by omega)]
      · rw [if_neg h3, if_neg (by omega)]
set_option maxRecDepth 100000 in
theorem rvs_ok {n c : Nat} {R : Nat → Int × Bool} (h9 : n ≤ 100000) : SmallRes Try.prog 36 [.slice (some ⟨0, 0, none⟩) n c] [rdR n R] undef [rdR n (rvA n R)] := by
  refine fnP_res hm c0_ok (hs := hsRv n c R) ?_
  rw [rvs_t]
  have e0 : rdc n (rvR n R 0) = rdc n R := rdc_congr fun i hi => by rw [rvR, if_neg (by omega)]
  refine ⟨⟨(0 : Nat), ⟨by omega⟩, ?_, by rw [e0]; first | done | trivial | rfl⟩, fun s hs' => br_of (fun hc => ?_) (fun hc => ?_)⟩
  · rw [wrap_eq (by omega) (by omega), show ((n : Int) - 1 - ((0 : Nat) : Int)) = (n : Int) - 1 by omega]; first | done | trivial | rfl
  · have hc : (s : Int) < (n : Int) - 1 - s := of_decide_eq_true hc
    have ej : (n : Int) - 1 - (s : Int) = ((n - 1 - s : Nat) : Int) := by omega
    have ej2 : IntKind.wrap .i64 ((n : Int) - 1 - (s : Int) - 1) = (n : Int) - 1 - ((s + 1 : Nat) : Int) := by rw [wrap_eq (by omega) (by omega)]; omega
    rw [ej2, up1 (show s < n by omega) (by omega)]
    rw [ej]
    simp only [Nat.zero_add, Int.toNat_natCast, rdV_at, rdW_at]
    have g1 : rvR n R s s = R s := by rw [rvR, if_neg (by omega)]
    have g2 : rvR n R s (n - 1 - s) = R (n - 1 - s) := by rw [rvR, if_neg (by omega)]
    have t1 := rdc_take (R := rvR n R s) (show s < n by omega)
    have t2 := rdc_take (R := rvR n R s) (show n - 1 - s < n by omega)
    rw [g1] at t1
    rw [g2] at t2
    have p1 : putL (rdc n (rvR n R s)) (s * 2) [.int .i64 (R (n - 1 - s)).1, .bool (R (n - 1 - s)).2] = rdc n (upR (rvR n R s) s (R (n - 1 - s))) := rdc_put (by omega)
    have p2 : putL (rdc n (upR (rvR n R s) s (R (n - 1 - s)))) ((n - 1 - s) * 2) [.int .i64 (R s).1, .bool (R s).2] = rdc n (upR (upR (rvR n R s) s (R (n - 1 - s))) (n - 1 - s) (R s)) := rdc_put (by omega)
    rw [p1, p2, rvR_put hc]
    refine ⟨⟨by omega, by omega⟩, ⟨t2⟩, ⟨by omega, by omega⟩, ⟨t1⟩, ⟨by omega, by omega⟩, ⟨by rw [rdc_len]; simp only [List.length_cons, List.length_nil]; omega⟩, ⟨by omega, by omega⟩, ⟨by rw [rdc_len]; simp only [List.length_cons, List.length_nil]; omega⟩, s + 1, ⟨by omega⟩, ⟨by omega⟩, by first | trivial | rfl, by first | trivial | rfl⟩
  · have hc : ¬ (s : Int) < (n : Int) - 1 - s := of_decide_eq_false hc
    have h1 := hs'.out
    have e : rdc n (rvR n R s) = rdc n (rvA n R) := rdc_congr fun i hi => by
      rw [rvR, rvA]
      split
      · rfl
      · rw [show n - 1 - i = i by omega]
    rw [e]
    exact ⟨by first | trivial | rfl, by first | trivial | rfl⟩
noncomputable def orcRv (R : Nat → Int × Bool) : OrcV
  | [.slice (some ⟨0, 0, none⟩) n _], [some (.row e1 2 true true true)] => some (undef, [rdR n (rvA n R)], e1 = rdc n R ∧ n ≤ 100000)
  | _, _ => none
theorem okRv (R : Nat → Int × Bool) : OkV Try.prog 36 (orcRv R) := by
  intro args H ret H' vc h hv
  unfold orcRv at h
  split at h
  · cases h
    obtain ⟨rfl, h1⟩ := hv
    exact rvs_ok h1
  · cases h
/- Reversed. -/
noncomputable def hsTu (xs : List Nat) (hs : List Int) (n : Nat) : Hs Try.prog where
  au := auCalls [(31, hCa Try.prog 31 (orcCrP xs hs) (okCrP xs hs)), (34, hCa Try.prog 34 (orcRr xs hs) (okRr xs hs)), (36, hCa Try.prog 36 (orcRv (rdF xs (knB hs))) (okRv (rdF xs (knB hs)))), (37, hCa Try.prog 37 (orcWi xs hs (rvA n (rdF xs (knB hs)))) (okWi xs hs (rvA n (rdF xs (knB hs)))))]
theorem tu_t (nm : ByteArray) (f : Int) (n : Nat) (c : Nat) (k : Nat) (d : Nat) (xs : List Nat) (hs : List Int) (K : Value → Heap → Prop) :
    (fnP Try.prog c0 (hsTu xs hs n) (11 : FuncId) [Value.agg (List.toArray (runA nm f (0 : Nat) n c (1 : Nat) k d))] (hp2r xs hs true true true true []) K) =
    (Is (isRun xs hs n k (flts xs) (ints hs)) ∧ br (runE nm f xs n hs != (0 : Int)) (K (Value.tuple #[Value.agg #[Value.string { data := #[] }, Value.int IntKind.i64 (0 : Int), Value.slice none (0 : Nat) (0 : Nat), Value.slice none (0 : Nat) (0 : Nat)], Value.int IntKind.i64 (runE nm f xs n hs)]) (some (AObj.row (flts xs) (1 : Nat) true true true) :: some (AObj.row (ints hs) (2 : Nat) true true true) :: noH)) (Is (isRun xs hs n k (flts xs) (ints hs) ∧ fi (List.map sE xs) = (0 : Int) ∧ hchk (↑n : Int) hs (-1 : Int) = (0 : Int)) ∧ Is (rdc n (rdF xs (knB hs)) = rdc n (rdF xs (knB hs)) ∧ n ≤ (100000 : Nat)) ∧ Is (isRun xs hs n k (flts xs) (ints hs) ∧ rdc n (rvA n (rdF xs (knB hs))) = rdc n (rvA n (rdF xs (knB hs))) ∧ n ≤ (100000 : Nat) ∧ ∀ (i : Nat), i < n → Int.natAbs (Prod.fst (rvA n (rdF xs (knB hs)) i)) < (2 : Nat) ^ (24 : Nat)) ∧ K (Value.tuple #[Value.agg #[Value.string nm, Value.int IntKind.i64 f, Value.slice (some { block := (2 : Nat), off := (0 : Nat) }) n (0 : Nat), Value.slice (some { block := (3 : Nat), off := (0 : Nat) }) (mkK (mkB (rvA n (rdF xs (knB hs)))) n) (0 : Nat)], Value.int IntKind.i64 (0 : Int)]) (some (AObj.row (flts xs) (1 : Nat) true true true) :: some (AObj.row (ints hs) (2 : Nat) true true true) :: some (AObj.row (flts (mkX (rvA n (rdF xs (knB hs))) n)) (1 : Nat) true true true) :: some (AObj.row (ints (mkS (mkB (rvA n (rdF xs (knB hs)))) n)) (2 : Nat) true true true) :: noH))) := by kernel_rfl
theorem rdF_few {xs : List Nat} {P : Int → Bool} {i : Nat} (hx : fi (xs.map sE) = 0) (hi : i < xs.length) : (rdF xs P i).1.natAbs ≤ 16384 := by
  rw [rdF]
  split
  · exact (Fl.smp (smps hx hi)).few
  · exact Nat.zero_le _
noncomputable def wiR (R : Nat → Int × Bool) (n : Nat) : Heap := [fR (mkX R n), some (.row (ints (mkS (mkB R) n)) 2 true true true)]
noncomputable def orcTu (xs : List Nat) (hs : List Int) : OrcV
  | [.agg ⟨[.string nm, .int .i64 f, .slice (some ⟨0, 0, none⟩) n _, .slice (some ⟨1, 0, none⟩) k _]⟩], [some (.row e1 1 true true true), some (.row e2 2 true true true)] =>
    some (.tuple #[.agg (runA nm f 2 n 0 3 (mkK (mkB (rvA n (rdF xs (knB hs)))) n) 0).toArray, .int .i64 0], some (.row e1 1 true true true) :: some (.row e2 2 true true true) :: wiR (rvA n (rdF xs (knB hs))) n, isRun xs hs n k e1 e2 ∧ runE nm f xs n hs = 0)
  | _, _ => none
theorem okTu (xs : List Nat) (hs : List Int) : OkV Try.prog 11 (orcTu xs hs) := by
  intro args H ret H' vc h hv
  unfold orcTu at h
  split at h
  · rename_i nm f n c k d e1 e2
    cases h
    obtain ⟨hi, hr⟩ := hv
    obtain ⟨rfl, rfl, h1, h2, h3, h4⟩ := hi
    refine fnP_res hm c0_ok (hs := hsTu xs hs n) ?_
    show fnP Try.prog c0 (hsTu xs hs n) 11 [.agg (runA nm f 0 n c 1 k d).toArray] (hp2r xs hs true true true true []) _
    rw [tu_t, hr]
    obtain ⟨_, _, _, _, hx, hh, _⟩ := run_zero hr
    have hi : isRun xs hs n k (flts xs) (ints hs) := ⟨rfl, rfl, h1, h2, h3, h4⟩
    exact ⟨⟨hi⟩, br_of (fun h => by cases h) (fun _ => ⟨⟨hi, hx, hh⟩, ⟨rfl, h2⟩, ⟨hi, rfl, h2, fun i hlt => Nat.lt_of_le_of_lt (rdF_few hx (by omega)) (by decide)⟩, by first | trivial | rfl, by first | trivial | rfl⟩)⟩
  · cases h
end
end Qq
end
section
/- A run that is made of readings: plain. -/
open Go Go.Vm Go.Proofs Sp
namespace Sp
def hlast : List Int → Int → Int
  | _ :: b :: r, _ => hlast r b
  | _, x => x
end Sp
namespace Qq
noncomputable section
theorem hchk_cons {n a b last : Int} {r : List Int} : hchk n (a :: b :: r) last = 0 ↔ (0 ≤ a ∧ a < b ∧ b ≤ n) ∧ last < a ∧ hchk n r b = 0 := by
  rw [hchk, sel_zero, fi_zero]
  refine ⟨fun h => ?_, fun h => ?_⟩
  · have h1 := (wh_zero (by decide)).1 (h.1 (wh (decide (a < 0) || (decide (b ≤ a) || decide (n < b))) 14) (by simp))
    have h2 := (wh_zero (by decide)).1 (h.1 (wh (decide (a ≤ last)) 11) (by simp))
    simp only [Bool.or_eq_false_iff, decide_eq_false_iff_not] at h1 h2
    exact ⟨by omega, by omega, h.2⟩
  · obtain ⟨⟨h1, h2, h3⟩, h4, h5⟩ := h
    refine ⟨fun x hx => ?_, h5⟩
    simp only [List.mem_cons, List.not_mem_nil, or_false] at hx
    rcases hx with rfl | rfl
    · exact (wh_zero (by decide)).2 (by simp only [Bool.or_eq_false_iff, decide_eq_false_iff_not]; omega)
    · exact (wh_zero (by decide)).2 (by simp only [decide_eq_false_iff_not]; omega)
theorem hchk_snoc {n a b : Int} : ∀ (s : Nat) {l : List Int} {last : Int}, l.length = s * 2 → (hchk n (l ++ [a, b]) last = 0 ↔ hchk n l last = 0 ∧ (0 ≤ a ∧ a < b ∧ b ≤ n) ∧ hlast l last < a)
  | 0, [], last, _ => by
    rw [List.nil_append, hchk_cons, hlast]
    · have h0 : hchk n [] b = 0 := rfl
      have h1 : hchk n [] last = 0 := rfl
      rw [h0, h1]
      simp
    · intro a b r h; cases h
  | s + 1, u :: v :: l, last, h => by
    rw [List.cons_append, List.cons_append, hchk_cons, hchk_cons, hlast, hchk_snoc s (l := l) (last := v) (by simp only [List.length_cons] at h; omega)]
    simp only [and_assoc]
  | s + 1, [x], _, h => by simp only [List.length_cons, List.length_nil] at h; omega
  | s + 1, [], _, h => by simp only [List.length_nil] at h; omega
  | 0, x :: l, _, h => by simp only [List.length_cons] at h; omega
theorem hlast_snoc {a b : Int} : ∀ (s : Nat) {l : List Int} {last : Int}, l.length = s * 2 → hlast (l ++ [a, b]) last = b
  | 0, [], last, _ => rfl
  | s + 1, u :: v :: l, last, h => by
    rw [List.cons_append, List.cons_append, hlast]
    exact hlast_snoc s (by simp only [List.length_cons] at h; omega)
  | s + 1, [x], _, h => by simp only [List.length_cons, List.length_nil] at h; omega
  | s + 1, [], _, h => by simp only [List.length_nil] at h; omega
  | 0, x :: l, _, h => by simp only [List.length_cons] at h; omega
theorem hchk_mono {n m : Int} (h : n ≤ m) : ∀ (s : Nat) {l : List Int} {last : Int}, l.length = s * 2 → hchk n l last = 0 → hchk m l last = 0
  | 0, [], _, _, _ => rfl
  | s + 1, u :: v :: l, last, hl, hc => by
    rw [hchk_cons] at hc ⊢
    exact ⟨by omega, hc.2.1, hchk_mono h s (by simp only [List.length_cons] at hl; omega) hc.2.2⟩
  | s + 1, [x], _, h, _ => by simp only [List.length_cons, List.length_nil] at h; omega
  | s + 1, [], _, h, _ => by simp only [List.length_nil] at h; omega
  | 0, x :: l, _, h, _ => by simp only [List.length_cons] at h; omega
/-- The last two of a list. -/
theorem last_two {k : Nat} {l : List Int} (h : l.length = k * 2) (h0 : 0 < l.length) : ∃ (l' : List Int) (a b : Int), l = l' ++ [a, b] ∧ l'.length = (k - 1) * 2 ∧ l.getD (l.length - 1) 0 = b ∧ ∀ x : Int, l.take (l.length - 1) ++ [x] = l' ++ [a, x] := by
  have e := (List.take_append_drop (l.length - 2) l).symm
  generalize hA : l.take (l.length - 2) = A at e
  generalize hB : l.drop (l.length - 2) = B at e
  have lA : A.length = l.length - 2 := by rw [← hA, List.length_take]; omega
  have lB : B.length = 2 := by rw [← hB, List.length_drop]; omega
  match B, lB with
  | [a, b], _ =>
    refine ⟨A, a, b, e, by omega, ?_, fun x => ?_⟩
    · rw [List.getD_eq_getElem?_getD, e, List.getElem?_append_right (by rw [List.length_append]; simp only [List.length_cons, List.length_nil]; omega)]
      have : (A ++ [a, b]).length - 1 - A.length = 1 := by rw [List.length_append]; simp only [List.length_cons, List.length_nil]; omega
      rw [this]; rfl
    · have e2 : l.length - 1 = (A ++ [a]).length := by rw [List.length_append]; simp only [List.length_cons, List.length_nil]; omega
      have e3 : l = (A ++ [a]) ++ [b] := by rw [e, List.append_assoc]; rfl
      rw [e2, e3, List.take_left, List.append_assoc]; rfl
theorem mkS_ok (B : Nat → Bool) : ∀ s : Nat, hchk s (mkS B s) (-1) = 0 ∧ hlast (mkS B s) (-1) ≤ s ∧ ∀ i : Nat, knB (mkS B s) i = (decide (s ≤ i) || B i)
  | 0 => by
    rw [mkS_zero]
    have e : hlast [] (-1) = -1 := rfl
    refine ⟨rfl, by rw [e]; omega, fun i => ?_⟩
    rw [decide_eq_true (Nat.zero_le i)]; rfl
  | s + 1 => by
    obtain ⟨h1, h2, h3⟩ := mkS_ok B s
    obtain ⟨l1, _⟩ := mkS_len B s
    have u : ((s + 1 : Nat) : Int) = (s : Int) + 1 := rfl
    have es : mkS B (s + 1) = if B s = true then mkS B s else if lastIs (mkS B s) s = true then (mkS B s).take ((mkS B s).length - 1) ++ [(s : Int) + 1] else mkS B s ++ [(s : Int), (s : Int) + 1] := rfl
    have hm := hchk_mono (show (s : Int) ≤ ((s + 1 : Nat) : Int) by omega) _ l1 h1
    rw [es]
    by_cases hb : B s = true
    · rw [if_pos hb]
      refine ⟨hm, by omega, fun i => ?_⟩
      rw [h3]
      by_cases e : i = s
      · subst e; rw [hb, Bool.or_true, Bool.or_true]
      · rw [show decide (s ≤ i) = decide (s + 1 ≤ i) from decide_eq_decide.2 (by omega)]
    · rw [if_neg hb]
      have hb : B s = false := by simpa using hb
      generalize mkS B s = l at *
      by_cases hj : lastIs l s = true
      · rw [if_pos hj]
        simp only [lastIs, Bool.and_eq_true, decide_eq_true_eq] at hj
        obtain ⟨l', a, b, e, el, eb, et⟩ := last_two l1 hj.1
        rw [hj.2] at eb
        subst eb
        rw [et]
        subst e
        obtain ⟨c1, c2, c3⟩ := (hchk_snoc _ el).1 hm
        refine ⟨(hchk_snoc _ el).2 ⟨c1, by omega, c3⟩, by rw [hlast_snoc _ el]; omega, fun i => ?_⟩
        have h3 := h3 i
        rw [knB_app _ _ el] at h3 ⊢
        simp only [knB, Bool.and_true] at h3 ⊢
        by_cases e : i = s
        · subst e
          rw [decide_eq_true (show a ≤ (i : Int) by omega), decide_eq_true (show (i : Int) < (i : Int) + 1 by omega), decide_eq_false (show ¬ i + 1 ≤ i by omega), hb]; simp
        · rw [show decide ((i : Int) < (s : Int) + 1) = decide ((i : Int) < (s : Int)) from decide_eq_decide.2 (by omega), h3, show decide (s ≤ i) = decide (s + 1 ≤ i) from decide_eq_decide.2 (by omega)]
      · rw [if_neg hj]
        have hlt : hlast l (-1) < s := by
          by_cases h0 : 0 < l.length
          · obtain ⟨l', a, b, e, el, eb, _⟩ := last_two l1 h0
            have : ¬ l.getD (l.length - 1) 0 = (s : Int) := fun h => hj (by rw [lastIs, decide_eq_true h0, decide_eq_true h]; rfl)
            rw [eb] at this
            rw [e, hlast_snoc _ el] at h2 ⊢
            omega
          · have : l = [] := List.eq_nil_of_length_eq_zero (by omega)
            subst this
            have e : hlast [] (-1) = -1 := rfl
            rw [e]; omega
        refine ⟨(hchk_snoc _ l1).2 ⟨hm, by omega, hlt⟩, by rw [hlast_snoc _ l1]; omega, fun i => ?_⟩
        have h3 := h3 i
        rw [knB_app _ _ l1, h3]
        simp only [knB, Bool.and_true]
        by_cases e : i = s
        · subst e
          rw [decide_eq_true (show (i : Int) ≤ (i : Int) by omega), decide_eq_true (show (i : Int) < (i : Int) + 1 by omega), decide_eq_false (show ¬ i + 1 ≤ i by omega), hb]; simp
        · have : (decide ((s : Int) ≤ (i : Int)) && decide ((i : Int) < (s : Int) + 1)) = false := by
            by_cases g : (s : Int) ≤ (i : Int)
            · rw [decide_eq_false (show ¬ (i : Int) < (s : Int) + 1 by omega), Bool.and_false]
            · rw [decide_eq_false g, Bool.false_and]
          rw [this, show decide (s ≤ i) = decide (s + 1 ≤ i) from decide_eq_decide.2 (by omega)]; simp
/-- Readings that a run of samples can keep. -/
structure RdOk (R : Nat → Int × Bool) (n : Nat) : Prop where
  few : ∀ i, i < n → (R i).1.natAbs ≤ 16384
  zero : ∀ i, i < n → (R i).2 = false → (R i).1 = 0
theorem mkX_at {R : Nat → Int × Bool} {n i : Nat} (h : i < n) : (mkX R n).getD i 0 = smO (R i).1 := by
  rw [mkX, List.getD_eq_getElem?_getD, List.getElem?_map, List.getElem?_range h]; rfl
theorem mkX_fi {R : Nat → Int × Bool} {n : Nat} (h : ∀ i, i < n → (R i).1.natAbs ≤ 16384) : fi ((mkX R n).map sE) = 0 := by
  refine fi_zero.2 fun x hx => ?_
  obtain ⟨y, hy, rfl⟩ := List.mem_map.1 hx
  obtain ⟨i, hi, rfl⟩ := List.mem_map.1 hy
  exact (Fl.lev_sm (h i (List.mem_range.1 hi))).2
theorem mkS_hchk (B : Nat → Bool) (n : Nat) : hchk n (mkS B n) (-1) = 0 := (mkS_ok B n).1
theorem mkS_kn {B : Nat → Bool} {n i : Nat} (h : i < n) : knB (mkS B n) i = B i := by
  rw [(mkS_ok B n).2.2, decide_eq_false (by omega), Bool.false_or]
theorem mk_back {R : Nat → Int × Bool} {n i : Nat} (h : RdOk R n) (hi : i < n) : rdF (mkX R n) (knB (mkS (mkB R) n)) i = R i := by
  rw [rdF, mkS_kn hi, mkX_at hi, (Fl.lev_sm (h.few i hi)).1]
  cases hb : mkB R i with
  | true => rw [if_pos rfl, ← hb]; rfl
  | false =>
    have hb : (R i).2 = false := hb
    rw [if_neg (by decide), ← hb]
    exact Prod.ext (h.zero i hi hb).symm rfl
theorem mk_isRun {R : Nat → Int × Bool} {n : Nat} (h9 : n ≤ 100000) : isRun (mkX R n) (mkS (mkB R) n) n (mkK (mkB R) n) (flts (mkX R n)) (ints (mkS (mkB R) n)) := by
  obtain ⟨l1, l2⟩ := mkS_len (mkB R) n
  exact ⟨rfl, rfl, mkX_len R n, h9, l1, by omega⟩
theorem nz_zero : nzB (smO 0) = false := by
  obtain ⟨h1, h2⟩ := Fl.lev_sm (n := 0) (by decide)
  rw [nzB, Fl.nz_lev (Fl.smp h2), h1]; rfl
theorem mk_runE {nm : ByteArray} {f : Int} {n : Nat} {R : Nat → Int × Bool} (h : RdOk R n) (h1 : nameB nm = true) (h2 : 0 ≤ f ∧ f ≤ 100000000) (h3 : n ≤ 4096) (h4 : f + n ≤ 100000000) : runE nm f (mkX R n) n (mkS (mkB R) n) = 0 := by
  have c1 : fi [wh (!nameB nm) 8, wi f 0 100000000, wh (decide ((4096 : Int) < n)) 5] = 0 := by
    rw [h1, wi_zero.2 h2, decide_eq_false (by omega)]; rfl
  have c2 : fi [fi ((mkX R n).map sE), wh (decide ((100000000 : Int) < f + n)) 4] = 0 := by
    rw [mkX_fi h.few, decide_eq_false (by omega)]; rfl
  have c3 : hzH (mkX R n) (mkS (mkB R) n) = true := by
    have hh := mkS_hchk (mkB R) n
    rw [← mkX_len R n] at hh
    refine (hz_iff _ _ (by rw [mkX_len] at hh ⊢; exact hh)).2 fun j hj hn => ?_
    rw [mkX_len] at hj
    rw [mkS_kn hj]
    rw [mkX_at hj] at hn
    cases hb : mkB R j with
    | true => rfl
    | false => rw [h.zero j hj hb, nz_zero] at hn; cases hn
  rw [runE, c1, c2, mkS_hchk, c3]; rfl
theorem mkX_congr {R Q : Nat → Int × Bool} {n : Nat} (h : ∀ i, i < n → R i = Q i) : mkX R n = mkX Q n := by
  rw [mkX, mkX]
  exact List.map_congr_left fun i hi => by rw [h i (List.mem_range.1 hi)]
theorem mkS_congr {B C : Nat → Bool} : ∀ {n : Nat}, (∀ i, i < n → B i = C i) → mkS B n = mkS C n
  | 0, _ => by rw [mkS_zero, mkS_zero]
  | n + 1, h => by rw [mkS, mkS, mkS_congr (fun i hi => h i (by omega)), h n (by omega)]
end
end Qq
end
section
/- The sum of two samples. -/
open Go
namespace Fl
open Ieee Sp
/-- Two samples differ if their integers do. -/
theorem ne_lev {x y : Nat} (hx : Smp x) (hy : Smp y) : fNe x y = decide (lev x ≠ lev y) := by
  rw [ne_val hx.fin hy.fin]
  have hp := one_pos
  have h1 := hx.v
  have h2 := hy.v
  refine decide_eq_decide.2 (not_congr ⟨fun e => ?_, fun e => ?_⟩)
  · rw [e, h2] at h1
    exact (Int.eq_of_mul_eq_mul_right (by omega) h1).symm
  · rw [e, ← h2] at h1
    omega
end Fl
end
section
/- The reference's check of a run, at rows of one's own. -/
open Go Go.Vm Go.Proofs Sp
namespace Qq
noncomputable section
noncomputable def lpChT (hs : List Int) (k d : Nat) (n : Int) : Lp where
  σ := Nat × Int
  E s := slots 42 [(0, .slice (some ⟨0, 0, none⟩) k d), (1, .int .i64 n), (5, .int .i64 (Int.ofNat s.1))]
  Hp _ := [some (.row (ints hs) 2 true true true)]
  I s := s.1 ≤ k ∧ hchk n (hs.drop (s.1 * 2)) s.2 = hchk n hs (-1) ∧ s.2 = if s.1 = 0 then -1 else hs.getD ((s.1 - 1) * 2 + 1) 0
  m s := k - s.1
noncomputable def hsChT (hs : List Int) (k d : Nat) (n : Int) : Hs Try.prog where
  op y := if [402, 411, 418].contains y then some (hIa Try.prog) else if y = 403 then some (hLd Try.prog (z2 hs)) else if [413, 420].contains y then some (hLd Try.prog (zI hs)) else none
  lp _ := some (lpChT hs k d n)
  cl _ := keep 42 [0, 1, 5]
  au := au0 Try.prog
theorem chT_t (hs : List Int) (k : Nat) (d : Nat) (n : Int) (K : Value → Heap → Prop) :
    (fnP Try.prog cr14 (hsChT hs k d n) (43 : FuncId) [Value.slice (some { block := (0 : Nat), off := (0 : Nat) }) k d, Value.int IntKind.i64 n] [some (AObj.row (ints hs) (2 : Nat) true true true)] K) =
    ((∃ (s : Nat × Int), Is (Prod.fst s ≤ k ∧ hchk n (List.drop (Prod.fst s * (2 : Nat)) hs) (Prod.snd s) = hchk n hs (-1 : Int) ∧ Prod.snd s = if Prod.fst s = (0 : Nat) then (-1 : Int) else List.getD hs ((Prod.fst s - (1 : Nat)) * (2 : Nat) + (1 : Nat)) (0 : Int)) ∧ [Value.slice (some { block := (0 : Nat), off := (0 : Nat) }) k d, Value.int IntKind.i64 n, poi, poi, poi, Value.int IntKind.i64 (0 : Int), poi, poi, poi, poi, poi, poi, poi, poi, poi, poi, poi, poi, poi, poi, poi, poi, poi, poi, poi, poi, poi, poi, poi, poi, poi, poi, poi, poi, poi, poi, poi, poi, poi, poi, poi, poi] = [Value.slice (some { block := (0 : Nat), off := (0 : Nat) }) k d, Value.int IntKind.i64 n, poi, poi, poi, Value.int IntKind.i64 (↑(Prod.fst s) : Int), poi, poi, poi, poi, poi, poi, poi, poi, poi, poi, poi, poi, poi, poi, poi, poi, poi, poi, poi, poi, poi, poi, poi, poi, poi, poi, poi, poi, poi, poi, poi, poi, poi, poi, poi, poi] ∧ some (AObj.row (ints hs) (2 : Nat) true true true) :: noH = some (AObj.row (ints hs) (2 : Nat) true true true) :: noH) ∧ ∀ (s : Nat × Int), Is (Prod.fst s ≤ k ∧ hchk n (List.drop (Prod.fst s * (2 : Nat)) hs) (Prod.snd s) = hchk n hs (-1 : Int) ∧ Prod.snd s = if Prod.fst s = (0 : Nat) then (-1 : Int) else List.getD hs ((Prod.fst s - (1 : Nat)) * (2 : Nat) + (1 : Nat)) (0 : Int)) → br (decide ((↑(Prod.fst s) : Int) < (↑k : Int))) (Is ((0 : Int) ≤ (↑(Prod.fst s) : Int) ∧ (↑(Prod.fst s) : Int) < (↑k : Int)) ∧ Is ((if (0 : Nat) + Int.toNat (↑(Prod.fst s) : Int) * (2 : Nat) + (2 : Nat) ≤ List.length (ints hs) then some (Value.agg (List.toArray (List.take (2 : Nat) (List.drop ((0 : Nat) + Int.toNat (↑(Prod.fst s) : Int) * (2 : Nat)) (ints hs))))) else none) = some (Value.agg #[Value.int IntKind.i64 (List.getD hs ((0 : Nat) + Int.toNat (↑(Prod.fst s) : Int) * (2 : Nat)) (0 : Int)), Value.int IntKind.i64 (List.getD hs ((0 : Nat) + Int.toNat (↑(Prod.fst s) : Int) * (2 : Nat) + (1 : Nat)) (0 : Int))])) ∧ br (decide ((0 : Int) < (↑(Prod.fst s) : Int))) (Is ((0 : Int) ≤ (↑(Prod.fst s) : Int) ∧ (↑(Prod.fst s) : Int) < (↑k : Int)) ∧ Is ((ints hs)[(0 : Nat) + Int.toNat (↑(Prod.fst s) : Int) * (2 : Nat) + (0 : Nat)]? = some (Value.int IntKind.i64 (List.getD hs ((0 : Nat) + Int.toNat (↑(Prod.fst s) : Int) * (2 : Nat) + (0 : Nat)) (0 : Int)))) ∧ Is (((0 : Int) ≤ if IntKind.wrap IntKind.i64 ((↑(Prod.fst s) : Int) - (1 : Int)) > (0 : Int) then IntKind.wrap IntKind.i64 ((↑(Prod.fst s) : Int) - (1 : Int)) else (0 : Int)) ∧ (if IntKind.wrap IntKind.i64 ((↑(Prod.fst s) : Int) - (1 : Int)) > (0 : Int) then IntKind.wrap IntKind.i64 ((↑(Prod.fst s) : Int) - (1 : Int)) else (0 : Int)) < (↑k : Int)) ∧ Is ((ints hs)[(0 : Nat) + Int.toNat (if IntKind.wrap IntKind.i64 ((↑(Prod.fst s) : Int) - (1 : Int)) > (0 : Int) then IntKind.wrap IntKind.i64 ((↑(Prod.fst s) : Int) - (1 : Int)) else (0 : Int)) * (2 : Nat) + (1 : Nat)]? = some (Value.int IntKind.i64 (List.getD hs ((0 : Nat) + Int.toNat (if IntKind.wrap IntKind.i64 ((↑(Prod.fst s) : Int) - (1 : Int)) > (0 : Int) then IntKind.wrap IntKind.i64 ((↑(Prod.fst s) : Int) - (1 : Int)) else (0 : Int)) * (2 : Nat) + (1 : Nat)) (0 : Int)))) ∧ br (fi [wh (decide (List.getD hs ((0 : Nat) + Int.toNat (↑(Prod.fst s) : Int) * (2 : Nat)) (0 : Int) < (0 : Int)) || (decide (List.getD hs ((0 : Nat) + Int.toNat (↑(Prod.fst s) : Int) * (2 : Nat) + (1 : Nat)) (0 : Int) ≤ List.getD hs ((0 : Nat) + Int.toNat (↑(Prod.fst s) : Int) * (2 : Nat)) (0 : Int)) || decide (n < List.getD hs ((0 : Nat) + Int.toNat (↑(Prod.fst s) : Int) * (2 : Nat) + (1 : Nat)) (0 : Int)))) (14 : Int), wh (decide (List.getD hs ((0 : Nat) + Int.toNat (↑(Prod.fst s) : Int) * (2 : Nat) + (0 : Nat)) (0 : Int) ≤ List.getD hs ((0 : Nat) + Int.toNat (if IntKind.wrap IntKind.i64 ((↑(Prod.fst s) : Int) - (1 : Int)) > (0 : Int) then IntKind.wrap IntKind.i64 ((↑(Prod.fst s) : Int) - (1 : Int)) else (0 : Int)) * (2 : Nat) + (1 : Nat)) (0 : Int))) (11 : Int)] != (0 : Int)) (K (Value.int IntKind.i64 (fi [wh (decide (List.getD hs ((0 : Nat) + Int.toNat (↑(Prod.fst s) : Int) * (2 : Nat)) (0 : Int) < (0 : Int)) || (decide (List.getD hs ((0 : Nat) + Int.toNat (↑(Prod.fst s) : Int) * (2 : Nat) + (1 : Nat)) (0 : Int) ≤ List.getD hs ((0 : Nat) + Int.toNat (↑(Prod.fst s) : Int) * (2 : Nat)) (0 : Int)) || decide (n < List.getD hs ((0 : Nat) + Int.toNat (↑(Prod.fst s) : Int) * (2 : Nat) + (1 : Nat)) (0 : Int)))) (14 : Int), wh (decide (List.getD hs ((0 : Nat) + Int.toNat (↑(Prod.fst s) : Int) * (2 : Nat) + (0 : Nat)) (0 : Int) ≤ List.getD hs ((0 : Nat) + Int.toNat (if IntKind.wrap IntKind.i64 ((↑(Prod.fst s) : Int) - (1 : Int)) > (0 : Int) then IntKind.wrap IntKind.i64 ((↑(Prod.fst s) : Int) - (1 : Int)) else (0 : Int)) * (2 : Nat) + (1 : Nat)) (0 : Int))) (11 : Int)])) (some (AObj.row (ints hs) (2 : Nat) true true true) :: noH)) (∃ (s' : Nat × Int), Is (Prod.fst s' ≤ k ∧ hchk n (List.drop (Prod.fst s' * (2 : Nat)) hs) (Prod.snd s') = hchk n hs (-1 : Int) ∧ Prod.snd s' = if Prod.fst s' = (0 : Nat) then (-1 : Int) else List.getD hs ((Prod.fst s' - (1 : Nat)) * (2 : Nat) + (1 : Nat)) (0 : Int)) ∧ Is (k - Prod.fst s' < k - Prod.fst s) ∧ [Value.slice (some { block := (0 : Nat), off := (0 : Nat) }) k d, Value.int IntKind.i64 n, poi, poi, poi, Value.int IntKind.i64 (IntKind.wrap IntKind.i64 ((↑(Prod.fst s) : Int) + (1 : Int))), poi, poi, poi, poi, poi, poi, poi, poi, poi, poi, poi, poi, poi, poi, poi, poi, poi, poi, poi, poi, poi, poi, poi, poi, poi, poi, poi, poi, poi, poi, poi, poi, poi, poi, poi, poi] = [Value.slice (some { block := (0 : Nat), off := (0 : Nat) }) k d, Value.int IntKind.i64 n, poi, poi, poi, Value.int IntKind.i64 (↑(Prod.fst s') : Int), poi, poi, poi, poi, poi, poi, poi, poi, poi, poi, poi, poi, poi, poi, poi, poi, poi, poi, poi, poi, poi, poi, poi, poi, poi, poi, poi, poi, poi, poi, poi, poi, poi, poi, poi, poi] ∧ some (AObj.row (ints hs) (2 : Nat) true true true) :: noH = some (AObj.row (ints hs) (2 : Nat) true true true) :: noH)) (br (fi [wh (decide (List.getD hs ((0 : Nat) + Int.toNat (↑(Prod.fst s) : Int) * (2 : Nat)) (0 : Int) < (0 : Int)) || (decide (List.getD hs ((0 : Nat) + Int.toNat (↑(Prod.fst s) : Int) * (2 : Nat) + (1 : Nat)) (0 : Int) ≤ List.getD hs ((0 : Nat) + Int.toNat (↑(Prod.fst s) : Int) * (2 : Nat)) (0 : Int)) || decide (n < List.getD hs ((0 : Nat) + Int.toNat (↑(Prod.fst s) : Int) * (2 : Nat) + (1 : Nat)) (0 : Int)))) (14 : Int), (0 : Int)] != (0 : Int)) (K (Value.int IntKind.i64 (fi [wh (decide (List.getD hs ((0 : Nat) + Int.toNat (↑(Prod.fst s) : Int) * (2 : Nat)) (0 : Int) < (0 : Int)) || (decide (List.getD hs ((0 : Nat) + Int.toNat (↑(Prod.fst s) : Int) * (2 : Nat) + (1 : Nat)) (0 : Int) ≤ List.getD hs ((0 : Nat) + Int.toNat (↑(Prod.fst s) : Int) * (2 : Nat)) (0 : Int)) || decide (n < List.getD hs ((0 : Nat) + Int.toNat (↑(Prod.fst s) : Int) * (2 : Nat) + (1 : Nat)) (0 : Int)))) (14 : Int), (0 : Int)])) (some (AObj.row (ints hs) (2 : Nat) true true true) :: noH)) (∃ (s' : Nat × Int), Is (Prod.fst s' ≤ k ∧ hchk n (List.drop (Prod.fst s' * (2 : Nat)) hs) (Prod.snd s') = hchk n hs (-1 : Int) ∧ Prod.snd s' = if Prod.fst s' = (0 : Nat) then (-1 : Int) else List.getD hs ((Prod.fst s' - (1 : Nat)) * (2 : Nat) + (1 : Nat)) (0 : Int)) ∧ Is (k - Prod.fst s' < k - Prod.fst s) ∧ [Value.slice (some { block := (0 : Nat), off := (0 : Nat) }) k d, Value.int IntKind.i64 n, poi, poi, poi, Value.int IntKind.i64 (IntKind.wrap IntKind.i64 ((↑(Prod.fst s) : Int) + (1 : Int))), poi, poi, poi, poi, poi, poi, poi, poi, poi, poi, poi, poi, poi, poi, poi, poi, poi, poi, poi, poi, poi, poi, poi, poi, poi, poi, poi, poi, poi, poi, poi, poi, poi, poi, poi, poi] = [Value.slice (some { block := (0 : Nat), off := (0 : Nat) }) k d, Value.int IntKind.i64 n, poi, poi, poi, Value.int IntKind.i64 (↑(Prod.fst s') : Int), poi, poi, poi, poi, poi, poi, poi, poi, poi, poi, poi, poi, poi, poi, poi, poi, poi, poi, poi, poi, poi, poi, poi, poi, poi, poi, poi, poi, poi, poi, poi, poi, poi, poi, poi, poi] ∧ some (AObj.row (ints hs) (2 : Nat) true true true) :: noH = some (AObj.row (ints hs) (2 : Nat) true true true) :: noH))) (K (Value.int IntKind.i64 (0 : Int)) (some (AObj.row (ints hs) (2 : Nat) true true true) :: noH))) := by kernel_rfl
noncomputable def lpSmT (xs : List Nat) (n c : Nat) : Lp where
  σ := Nat
  E s := slots 19 [(0, .slice (some ⟨0, 0, none⟩) n c), (3, .int .i64 (Int.ofNat s))]
  Hp _ := [fR xs]
  I s := s ≤ n ∧ fi ((xs.drop s).map sE) = fi (xs.map sE)
  m s := n - s
noncomputable def hsSmT (xs : List Nat) (n c : Nat) : Hs Try.prog where
  op y := if y = 402 then some (hIa Try.prog) else if y = 403 then some (hLd Try.prog (xF xs)) else none
  lp _ := some (lpSmT xs n c)
  cl _ := keep 19 [0, 3]
  au := au0 Try.prog
theorem smT_t (xs : List Nat) (n : Nat) (c : Nat) (K : Value → Heap → Prop) :
    (fnP Try.prog csr4 (hsSmT xs n c) (59 : FuncId) [Value.slice (some { block := (0 : Nat), off := (0 : Nat) }) n c] [fR xs] K) =
    ((∃ (s : Nat), Is (s ≤ n ∧ fi (List.map sE (List.drop s xs)) = fi (List.map sE xs)) ∧ [Value.slice (some { block := (0 : Nat), off := (0 : Nat) }) n c, poi, poi, Value.int IntKind.i64 (0 : Int), poi, poi, poi, poi, poi, poi, poi, poi, poi, poi, poi, poi, poi, poi, poi] = [Value.slice (some { block := (0 : Nat), off := (0 : Nat) }) n c, poi, poi, Value.int IntKind.i64 (↑s : Int), poi, poi, poi, poi, poi, poi, poi, poi, poi, poi, poi, poi, poi, poi, poi] ∧ some (AObj.row (flts xs) (1 : Nat) true true true) :: noH = some (AObj.row (flts xs) (1 : Nat) true true true) :: noH) ∧ ∀ (s : Nat), Is (s ≤ n ∧ fi (List.map sE (List.drop s xs)) = fi (List.map sE xs)) → br (decide ((↑s : Int) < (↑n : Int))) (Is ((0 : Int) ≤ (↑s : Int) ∧ (↑s : Int) < (↑n : Int)) ∧ Is ((flts xs)[(0 : Nat) + Int.toNat (↑s : Int) * (1 : Nat)]? = some (Value.float FloatKind.f32 (List.getD xs ((0 : Nat) + Int.toNat (↑s : Int) * (1 : Nat)) (0 : Nat)))) ∧ br (sE (List.getD xs ((0 : Nat) + Int.toNat (↑s : Int) * (1 : Nat)) (0 : Nat)) != (0 : Int)) (K (Value.int IntKind.i64 (sE (List.getD xs ((0 : Nat) + Int.toNat (↑s : Int) * (1 : Nat)) (0 : Nat)))) (some (AObj.row (flts xs) (1 : Nat) true true true) :: noH)) (∃ (s' : Nat), Is (s' ≤ n ∧ fi (List.map sE (List.drop s' xs)) = fi (List.map sE xs)) ∧ Is (n - s' < n - s) ∧ [Value.slice (some { block := (0 : Nat), off := (0 : Nat) }) n c, poi, poi, Value.int IntKind.i64 (IntKind.wrap IntKind.i64 ((↑s : Int) + (1 : Int))), poi, poi, poi, poi, poi, poi, poi, poi, poi, poi, poi, poi, poi, poi, poi] = [Value.slice (some { block := (0 : Nat), off := (0 : Nat) }) n c, poi, poi, Value.int IntKind.i64 (↑s' : Int), poi, poi, poi, poi, poi, poi, poi, poi, poi, poi, poi, poi, poi, poi, poi] ∧ some (AObj.row (flts xs) (1 : Nat) true true true) :: noH = some (AObj.row (flts xs) (1 : Nat) true true true) :: noH)) (K (Value.int IntKind.i64 (0 : Int)) (some (AObj.row (flts xs) (1 : Nat) true true true) :: noH))) := by kernel_rfl
set_option maxRecDepth 100000 in
theorem chT_ok {hs : List Int} {k d : Nat} {n : Int} (hk : hs.length = k * 2) (hk9 : k ≤ 100000) :
    SmallRes Try.prog 43 [.slice (some ⟨0, 0, none⟩) k d, .int .i64 n] [some (.row (ints hs) 2 true true true)] (.int .i64 (hchk n hs (-1))) [some (.row (ints hs) 2 true true true)] := by
  refine fnP_res hm cr14_ok (hs := hsChT hs k d n) ?_
  rw [chT_t]
  refine ⟨⟨((0 : Nat), (-1 : Int)), ⟨by omega, by rw [Nat.zero_mul, List.drop_zero], by first | trivial | rfl⟩, by first | trivial | rfl, by first | trivial | rfl⟩, fun s hs' => br_of (fun hc => ?_) (fun hc => ?_)⟩
  · have hc := lt_of_dec hc
    obtain ⟨i1, i2, i3⟩ := hs'.out
    rw [spn_drop (show s.1 * 2 + 2 ≤ hs.length by omega), hchk] at i2
    simp only [pred1 hc (by omega), Nat.zero_add, Nat.add_zero, Int.toNat_natCast]
    have b1 : 0 ≤ (s.1 : Int) ∧ (s.1 : Int) < (k : Int) := by omega
    refine ⟨⟨b1⟩, ⟨ldh (by omega)⟩, br_of (fun h1 => ⟨⟨b1⟩, ⟨zint_at (by omega)⟩, ⟨by omega, by omega⟩, ⟨zint_at (by omega)⟩, ?_⟩) (fun h1 => ?_)⟩
    · have h1 : 0 < s.1 := by have := of_decide_eq_true h1; omega
      rw [if_neg (show ¬ s.1 = 0 by omega)] at i3
      rw [← i3]
      refine br_of (fun h => ?_) (fun h => ⟨(s.1 + 1, hs.getD (s.1 * 2 + 1) 0), ⟨hc, ?_, ?_⟩, ⟨by simp only; omega⟩, ?_, by first | trivial | rfl⟩)
      · rw [sel_ne h] at i2
        rw [← i2]
        exact ⟨by first | trivial | rfl, by first | trivial | rfl⟩
      · rw [sel_eq h] at i2
        exact i2
      · rw [if_neg (by simp only; omega)]; rfl
      · rw [up1 hc (by omega)]
    · have h1 : s.1 = 0 := by have := of_decide_eq_false h1; omega
      rw [if_pos h1] at i3
      have e : ∀ {b : Bool}, (b = true → wh (decide (hs.getD (s.1 * 2) 0 < 0) || (decide (hs.getD (s.1 * 2 + 1) 0 ≤ hs.getD (s.1 * 2) 0) || decide (n < hs.getD (s.1 * 2 + 1) 0))) 14 ≠ 0) →
          fi [wh (decide (hs.getD (s.1 * 2) 0 < 0) || (decide (hs.getD (s.1 * 2 + 1) 0 ≤ hs.getD (s.1 * 2) 0) || decide (n < hs.getD (s.1 * 2 + 1) 0))) 14, wh b 11] = fi [wh (decide (hs.getD (s.1 * 2) 0 < 0) || (decide (hs.getD (s.1 * 2 + 1) 0 ≤ hs.getD (s.1 * 2) 0) || decide (n < hs.getD (s.1 * 2 + 1) 0))) 14, 0] := fun h => fi_late h
      rw [e (fun h => ?_)] at i2
      · refine br_of (fun h => ?_) (fun h => ⟨(s.1 + 1, hs.getD (s.1 * 2 + 1) 0), ⟨hc, ?_, ?_⟩, ⟨by simp only; omega⟩, ?_, by first | trivial | rfl⟩)
        · rw [sel_ne h] at i2
          rw [← i2]
          exact ⟨by first | trivial | rfl, by first | trivial | rfl⟩
        · rw [sel_eq h] at i2
          exact i2
        · rw [if_neg (by simp only; omega)]; rfl
        · rw [up1 hc (by omega)]
      · have h := of_decide_eq_true h
        have : decide (hs.getD (s.1 * 2) 0 < 0) = true := decide_eq_true (by omega)
        rw [this]; simp [wh]
  · have hc := ge_of_dec hc
    obtain ⟨i1, i2, _⟩ := hs'.out
    rw [List.drop_eq_nil_of_le (by omega)] at i2
    rw [← i2]
    exact ⟨by first | trivial | rfl, by first | trivial | rfl⟩
noncomputable def orcChT (hs : List Int) : OrcV
  | [.slice (some ⟨0, 0, none⟩) k _, .int .i64 n], [some (.row e1 2 true true true)] => some (.int .i64 (hchk n hs (-1)), [some (.row e1 2 true true true)], e1 = ints hs ∧ hs.length = k * 2 ∧ k ≤ 100000)
  | _, _ => none
theorem okChT (hs : List Int) : OkV Try.prog 43 (orcChT hs) := by
  intro args H ret H' vc h hv
  unfold orcChT at h
  split at h
  · cases h
    obtain ⟨rfl, h1, h2⟩ := hv
    exact chT_ok h1 h2
  · cases h
set_option maxRecDepth 100000 in
theorem smT_ok {xs : List Nat} {n c : Nat} (hn : xs.length = n) (h9 : n ≤ 100000) :
    SmallRes Try.prog 59 [.slice (some ⟨0, 0, none⟩) n c] [fR xs] (.int .i64 (fi (xs.map sE))) [fR xs] := by
  refine fnP_res hm csr4_ok (hs := hsSmT xs n c) ?_
  rw [smT_t]
  refine ⟨⟨(0 : Nat), ⟨by omega, by rw [List.drop_zero]⟩, by first | trivial | rfl, by first | trivial | rfl⟩, fun s hs' => br_of (fun hc => ?_) (fun hc => ?_)⟩
  · have hc := lt_of_dec hc
    obtain ⟨i1, i2⟩ := hs'.out
    have e := fi_one (l := xs.map sE) (i := s) (by rw [List.length_map]; omega)
    rw [map_getD (by omega)] at e
    rw [List.map_drop, e] at i2
    simp only [Nat.zero_add, Nat.mul_one, Int.toNat_natCast]
    refine ⟨⟨by omega, by omega⟩, ⟨flts_at (by omega)⟩, br_of (fun h => ?_) (fun h => ⟨s + 1, ⟨hc, ?_⟩, ⟨by omega⟩, by rw [up1 hc (by omega)], by first | trivial | rfl⟩)⟩
    · rw [if_pos (by simpa using h)] at i2
      rw [← i2]
      exact ⟨by first | trivial | rfl, by first | trivial | rfl⟩
    · rw [if_neg (by simpa using h)] at i2
      rw [List.map_drop]
      exact i2
  · have hc := ge_of_dec hc
    obtain ⟨i1, i2⟩ := hs'.out
    rw [List.drop_eq_nil_of_le (by omega)] at i2
    rw [← i2]
    exact ⟨by first | trivial | rfl, by first | trivial | rfl⟩
noncomputable def orcSmT (xs : List Nat) : OrcV
  | [.slice (some ⟨0, 0, none⟩) n _], [some (.row e1 1 true true true)] => some (.int .i64 (fi (xs.map sE)), [some (.row e1 1 true true true)], e1 = flts xs ∧ xs.length = n ∧ n ≤ 100000)
  | _, _ => none
theorem okSmT (xs : List Nat) : OkV Try.prog 59 (orcSmT xs) := by
  intro args H ret H' vc h hv
  unfold orcSmT at h
  split at h
  · cases h
    obtain ⟨rfl, h1, h2⟩ := hv
    exact smT_ok h1 h2
  · cases h
noncomputable def hsLiT (xs : List Nat) : Hs Try.prog where
  au := auCalls [(59, hCa Try.prog 59 (orcSmT xs) (okSmT xs))]
theorem lsT_t (xs : List Nat) (n : Nat) (c : Nat) (K : Value → Heap → Prop) :
    (fnP Try.prog cr14 (hsLiT xs) (41 : FuncId) [Value.slice (some { block := (0 : Nat), off := (0 : Nat) }) n c] [fR xs] K) =
    (Is (flts xs = flts xs ∧ List.length xs = n ∧ n ≤ (100000 : Nat)) ∧ K (Value.int IntKind.i64 (fi [wh (decide ((4096 : Int) < (↑n : Int))) (5 : Int), fi (List.map sE xs)])) (some (AObj.row (flts xs) (1 : Nat) true true true) :: noH)) := by kernel_rfl
noncomputable def orcLiT (xs : List Nat) : OrcV
  | [.slice (some ⟨0, 0, none⟩) n _], [some (.row e1 1 true true true)] => some (.int .i64 (fi [wh (decide ((4096 : Int) < n)) 5, fi (xs.map sE)]), [some (.row e1 1 true true true)], e1 = flts xs ∧ xs.length = n ∧ n ≤ 100000)
  | _, _ => none
theorem okLiT (xs : List Nat) : OkV Try.prog 41 (orcLiT xs) := by
  intro args H ret H' vc h hv
  unfold orcLiT at h
  split at h
  · cases h
    obtain ⟨rfl, h1, h2⟩ := hv
    refine fnP_res hm cr14_ok (hs := hsLiT xs) ?_
    show fnP Try.prog cr14 (hsLiT xs) 41 _ [fR xs] _
    rw [lsT_t]
    exact ⟨⟨rfl, h1, h2⟩, by first | trivial | rfl, by first | trivial | rfl⟩
  · cases h
noncomputable def lpCrT (nm : ByteArray) (f : Int) (n c k d : Nat) (xs : List Nat) (hs : List Int) : Lp where
  σ := Nat
  E s := slots 62 [(1, .pointer (some ⟨2, 0, none⟩)), (5, .int .i64 (Int.ofNat s))]
  Hp _ := hp2r xs hs true true true true [runOs nm f n c k d]
  I s := s ≤ n ∧ ∀ j, j < s → nzB (xs.getD j 0) = true → knB hs (j : Int) = true
  m s := n - s
noncomputable def hsCrT (nm : ByteArray) (f : Int) (n c k d : Nat) (xs : List Nat) (hs : List Int) : Hs Try.prog where
  op y := if y = 1003 then some (hIa Try.prog) else if y = 1004 then some (hLd Try.prog (xF xs)) else none
  lp _ := some (lpCrT nm f n c k d xs hs)
  cl _ := keep 62 [1, 5]
  au := auF [(41, hCa Try.prog 41 (orcLiT xs) (okLiT xs)), (43, hCa Try.prog 43 (orcChT hs) (okChT hs)), (44, hCa Try.prog 44 (orcKn xs hs) (okKn xs hs))]
theorem crT_t (nm : ByteArray) (f : Int) (n : Nat) (c : Nat) (k : Nat) (d : Nat) (xs : List Nat) (hs : List Int) (K : Value → Heap → Prop) :
    (fnP Try.prog cr14 (hsCrT nm f n c k d xs hs) (16 : FuncId) [Value.agg (List.toArray (runA nm f (0 : Nat) n c (1 : Nat) k d))] (hp2r xs hs true true true true []) K) =
    (Is (flts xs = flts xs ∧ List.length xs = n ∧ n ≤ (100000 : Nat)) ∧ br (decide (IntKind.wrap IntKind.i64 ((100000000 : Int) - (↑n : Int)) < f)) (br (fi [wh (!nameB nm) (8 : Int), wi f (0 : Int) (100000000 : Int), fi [wh (decide ((4096 : Int) < (↑n : Int))) (5 : Int), fi (List.map sE xs)], wh (decide ((↑n : Int) ≤ (4096 : Int))) (4 : Int)] != (0 : Int)) (K (Value.int IntKind.i64 (fi [wh (!nameB nm) (8 : Int), wi f (0 : Int) (100000000 : Int), fi [wh (decide ((4096 : Int) < (↑n : Int))) (5 : Int), fi (List.map sE xs)], wh (decide ((↑n : Int) ≤ (4096 : Int))) (4 : Int)])) (some (AObj.row (flts xs) (1 : Nat) true true true) :: some (AObj.row (ints hs) (2 : Nat) true true true) :: noH)) (Is (ints hs = ints hs ∧ List.length hs = k * (2 : Nat) ∧ k ≤ (100000 : Nat)) ∧ br (hchk (↑n : Int) hs (-1 : Int) != (0 : Int)) (K (Value.int IntKind.i64 (hchk (↑n : Int) hs (-1 : Int))) (some (AObj.row (flts xs) (1 : Nat) true true true) :: some (AObj.row (ints hs) (2 : Nat) true true true) :: noH)) ((∃ (s : Nat), Is (s ≤ n ∧ ∀ (j : Nat), j < s → nzB (List.getD xs j (0 : Nat)) = true → knB hs (↑j : Int) = true) ∧ [poi, Value.pointer (some { block := (2 : Nat), off := (0 : Nat) }), poi, poi, poi, Value.int IntKind.i64 (0 : Int), poi, poi, poi, poi, poi, poi, poi, poi, poi, poi, poi, poi, poi, poi, poi, poi, poi, poi, poi, poi, poi, poi, poi, poi, poi, poi, poi, poi, poi, poi, poi, poi, poi, poi, poi, poi, poi, poi, poi, poi, poi, poi, poi, poi, poi, poi, poi, poi, poi, poi, poi, poi, poi, poi, poi, poi] = [poi, Value.pointer (some { block := (2 : Nat), off := (0 : Nat) }), poi, poi, poi, Value.int IntKind.i64 (↑s : Int), poi, poi, poi, poi, poi, poi, poi, poi, poi, poi, poi, poi, poi, poi, poi, poi, poi, poi, poi, poi, poi, poi, poi, poi, poi, poi, poi, poi, poi, poi, poi, poi, poi, poi, poi, poi, poi, poi, poi, poi, poi, poi, poi, poi, poi, poi, poi, poi, poi, poi, poi, poi, poi, poi, poi, poi] ∧ some (AObj.row (flts xs) (1 : Nat) true true true) :: some (AObj.row (ints hs) (2 : Nat) true true true) :: some (AObj.row [Value.string nm, Value.int IntKind.i64 f, Value.slice (some { block := (0 : Nat), off := (0 : Nat) }) n c, Value.slice (some { block := (1 : Nat), off := (0 : Nat) }) k d] (0 : Nat) false true (List.all [Value.string nm, Value.int IntKind.i64 f, Value.slice (some { block := (0 : Nat), off := (0 : Nat) }) n c, Value.slice (some { block := (1 : Nat), off := (0 : Nat) }) k d] atom)) :: noH = some (AObj.row (flts xs) (1 : Nat) true true true) :: some (AObj.row (ints hs) (2 : Nat) true true true) :: some (AObj.row [Value.string nm, Value.int IntKind.i64 f, Value.slice (some { block := (0 : Nat), off := (0 : Nat) }) n c, Value.slice (some { block := (1 : Nat), off := (0 : Nat) }) k d] (0 : Nat) false true false) :: noH) ∧ ∀ (s : Nat), Is (s ≤ n ∧ ∀ (j : Nat), j < s → nzB (List.getD xs j (0 : Nat)) = true → knB hs (↑j : Int) = true) → br (decide ((↑s : Int) < (↑n : Int))) (Is ((0 : Int) ≤ (↑s : Int) ∧ (↑s : Int) < (↑n : Int)) ∧ Is ((flts xs)[(0 : Nat) + Int.toNat (↑s : Int) * (1 : Nat)]? = some (Value.float FloatKind.f32 (List.getD xs ((0 : Nat) + Int.toNat (↑s : Int) * (1 : Nat)) (0 : Nat)))) ∧ Is True ∧ br (fNe (List.getD xs ((0 : Nat) + Int.toNat (↑s : Int) * (1 : Nat)) (0 : Nat)) (0 : Nat)) (Is (isRn0 xs hs k (flts xs) (ints hs)) ∧ br (!knB hs (↑s : Int)) (K (Value.int IntKind.i64 (1 : Int)) (some (AObj.row (flts xs) (1 : Nat) true true true) :: some (AObj.row (ints hs) (2 : Nat) true true true) :: noH)) (∃ (s' : Nat), Is (s' ≤ n ∧ ∀ (j : Nat), j < s' → nzB (List.getD xs j (0 : Nat)) = true → knB hs (↑j : Int) = true) ∧ Is (n - s' < n - s) ∧ [poi, Value.pointer (some { block := (2 : Nat), off := (0 : Nat) }), poi, poi, poi, Value.int IntKind.i64 (IntKind.wrap IntKind.i64 ((↑s : Int) + (1 : Int))), poi, poi, poi, poi, poi, poi, poi, poi, poi, poi, poi, poi, poi, poi, poi, poi, poi, poi, poi, poi, poi, poi, poi, poi, poi, poi, poi, poi, poi, poi, poi, poi, poi, poi, poi, poi, poi, poi, poi, poi, poi, poi, poi, poi, poi, poi, poi, poi, poi, poi, poi, poi, poi, poi, poi, poi] = [poi, Value.pointer (some { block := (2 : Nat), off := (0 : Nat) }), poi, poi, poi, Value.int IntKind.i64 (↑s' : Int), poi, poi, poi, poi, poi, poi, poi, poi, poi, poi, poi, poi, poi, poi, poi, poi, poi, poi, poi, poi, poi, poi, poi, poi, poi, poi, poi, poi, poi, poi, poi, poi, poi, poi, poi, poi, poi, poi, poi, poi, poi, poi, poi, poi, poi, poi, poi, poi, poi, poi, poi, poi, poi, poi, poi, poi] ∧ some (AObj.row (flts xs) (1 : Nat) true true true) :: some (AObj.row (ints hs) (2 : Nat) true true true) :: some (AObj.row [Value.string nm, Value.int IntKind.i64 f, Value.slice (some { block := (0 : Nat), off := (0 : Nat) }) n c, Value.slice (some { block := (1 : Nat), off := (0 : Nat) }) k d] (0 : Nat) false true false) :: noH = some (AObj.row (flts xs) (1 : Nat) true true true) :: some (AObj.row (ints hs) (2 : Nat) true true true) :: some (AObj.row [Value.string nm, Value.int IntKind.i64 f, Value.slice (some { block := (0 : Nat), off := (0 : Nat) }) n c, Value.slice (some { block := (1 : Nat), off := (0 : Nat) }) k d] (0 : Nat) false true false) :: noH)) (∃ (s' : Nat), Is (s' ≤ n ∧ ∀ (j : Nat), j < s' → nzB (List.getD xs j (0 : Nat)) = true → knB hs (↑j : Int) = true) ∧ Is (n - s' < n - s) ∧ [poi, Value.pointer (some { block := (2 : Nat), off := (0 : Nat) }), poi, poi, poi, Value.int IntKind.i64 (IntKind.wrap IntKind.i64 ((↑s : Int) + (1 : Int))), poi, poi, poi, poi, poi, poi, poi, poi, poi, poi, poi, poi, poi, poi, poi, poi, poi, poi, poi, poi, poi, poi, poi, poi, poi, poi, poi, poi, poi, poi, poi, poi, poi, poi, poi, poi, poi, poi, poi, poi, poi, poi, poi, poi, poi, poi, poi, poi, poi, poi, poi, poi, poi, poi, poi, poi] = [poi, Value.pointer (some { block := (2 : Nat), off := (0 : Nat) }), poi, poi, poi, Value.int IntKind.i64 (↑s' : Int), poi, poi, poi, poi, poi, poi, poi, poi, poi, poi, poi, poi, poi, poi, poi, poi, poi, poi, poi, poi, poi, poi, poi, poi, poi, poi, poi, poi, poi, poi, poi, poi, poi, poi, poi, poi, poi, poi, poi, poi, poi, poi, poi, poi, poi, poi, poi, poi, poi, poi, poi, poi, poi, poi, poi, poi] ∧ some (AObj.row (flts xs) (1 : Nat) true true true) :: some (AObj.row (ints hs) (2 : Nat) true true true) :: some (AObj.row [Value.string nm, Value.int IntKind.i64 f, Value.slice (some { block := (0 : Nat), off := (0 : Nat) }) n c, Value.slice (some { block := (1 : Nat), off := (0 : Nat) }) k d] (0 : Nat) false true false) :: noH = some (AObj.row (flts xs) (1 : Nat) true true true) :: some (AObj.row (ints hs) (2 : Nat) true true true) :: some (AObj.row [Value.string nm, Value.int IntKind.i64 f, Value.slice (some { block := (0 : Nat), off := (0 : Nat) }) n c, Value.slice (some { block := (1 : Nat), off := (0 : Nat) }) k d] (0 : Nat) false true false) :: noH)) (K (Value.int IntKind.i64 (0 : Int)) (some (AObj.row (flts xs) (1 : Nat) true true true) :: some (AObj.row (ints hs) (2 : Nat) true true true) :: noH))))) (br (fi [wh (!nameB nm) (8 : Int), wi f (0 : Int) (100000000 : Int), fi [wh (decide ((4096 : Int) < (↑n : Int))) (5 : Int), fi (List.map sE xs)], (0 : Int)] != (0 : Int)) (K (Value.int IntKind.i64 (fi [wh (!nameB nm) (8 : Int), wi f (0 : Int) (100000000 : Int), fi [wh (decide ((4096 : Int) < (↑n : Int))) (5 : Int), fi (List.map sE xs)], (0 : Int)])) (some (AObj.row (flts xs) (1 : Nat) true true true) :: some (AObj.row (ints hs) (2 : Nat) true true true) :: noH)) (Is (ints hs = ints hs ∧ List.length hs = k * (2 : Nat) ∧ k ≤ (100000 : Nat)) ∧ br (hchk (↑n : Int) hs (-1 : Int) != (0 : Int)) (K (Value.int IntKind.i64 (hchk (↑n : Int) hs (-1 : Int))) (some (AObj.row (flts xs) (1 : Nat) true true true) :: some (AObj.row (ints hs) (2 : Nat) true true true) :: noH)) ((∃ (s : Nat), Is (s ≤ n ∧ ∀ (j : Nat), j < s → nzB (List.getD xs j (0 : Nat)) = true → knB hs (↑j : Int) = true) ∧ [poi, Value.pointer (some { block := (2 : Nat), off := (0 : Nat) }), poi, poi, poi, Value.int IntKind.i64 (0 : Int), poi, poi, poi, poi, poi, poi, poi, poi, poi, poi, poi, poi, poi, poi, poi, poi, poi, poi, poi, poi, poi, poi, poi, poi, poi, poi, poi, poi, poi, poi, poi, poi, poi, poi, poi, poi, poi, poi, poi, poi, poi, poi, poi, poi, poi, poi, poi, poi, poi, poi, poi, poi, poi, poi, poi, poi] = [poi, Value.pointer (some { block := (2 : Nat), off := (0 : Nat) }), poi, poi, poi, Value.int IntKind.i64 (↑s : Int), poi, poi, poi, poi, poi, poi, poi, poi, poi, poi, poi, poi, poi, poi, poi, poi, poi, poi, poi, poi, poi, poi, poi, poi, poi, poi, poi, poi, poi, poi, poi, poi, poi, poi, poi, poi, poi, poi, poi, poi, poi, poi, poi, poi, poi, poi, poi, poi, poi, poi, poi, poi, poi, poi, poi, poi] ∧ some (AObj.row (flts xs) (1 : Nat) true true true) :: some (AObj.row (ints hs) (2 : Nat) true true true) :: some (AObj.row [Value.string nm, Value.int IntKind.i64 f, Value.slice (some { block := (0 : Nat), off := (0 : Nat) }) n c, Value.slice (some { block := (1 : Nat), off := (0 : Nat) }) k d] (0 : Nat) false true (List.all [Value.string nm, Value.int IntKind.i64 f, Value.slice (some { block := (0 : Nat), off := (0 : Nat) }) n c, Value.slice (some { block := (1 : Nat), off := (0 : Nat) }) k d] atom)) :: noH = some (AObj.row (flts xs) (1 : Nat) true true true) :: some (AObj.row (ints hs) (2 : Nat) true true true) :: some (AObj.row [Value.string nm, Value.int IntKind.i64 f, Value.slice (some { block := (0 : Nat), off := (0 : Nat) }) n c, Value.slice (some { block := (1 : Nat), off := (0 : Nat) }) k d] (0 : Nat) false true false) :: noH) ∧ ∀ (s : Nat), Is (s ≤ n ∧ ∀ (j : Nat), j < s → nzB (List.getD xs j (0 : Nat)) = true → knB hs (↑j : Int) = true) → br (decide ((↑s : Int) < (↑n : Int))) (Is ((0 : Int) ≤ (↑s : Int) ∧ (↑s : Int) < (↑n : Int)) ∧ Is ((flts xs)[(0 : Nat) + Int.toNat (↑s : Int) * (1 : Nat)]? = some (Value.float FloatKind.f32 (List.getD xs ((0 : Nat) + Int.toNat (↑s : Int) * (1 : Nat)) (0 : Nat)))) ∧ Is True ∧ br (fNe (List.getD xs ((0 : Nat) + Int.toNat (↑s : Int) * (1 : Nat)) (0 : Nat)) (0 : Nat)) (Is (isRn0 xs hs k (flts xs) (ints hs)) ∧ br (!knB hs (↑s : Int)) (K (Value.int IntKind.i64 (1 : Int)) (some (AObj.row (flts xs) (1 : Nat) true true true) :: some (AObj.row (ints hs) (2 : Nat) true true true) :: noH)) (∃ (s' : Nat), Is (s' ≤ n ∧ ∀ (j : Nat), j < s' → nzB (List.getD xs j (0 : Nat)) = true → knB hs (↑j : Int) = true) ∧ Is (n - s' < n - s) ∧ [poi, Value.pointer (some { block := (2 : Nat), off := (0 : Nat) }), poi, poi, poi, Value.int IntKind.i64 (IntKind.wrap IntKind.i64 ((↑s : Int) + (1 : Int))), poi, poi, poi, poi, poi, poi, poi, poi, poi, poi, poi, poi, poi, poi, poi, poi, poi, poi, poi, poi, poi, poi, poi, poi, poi, poi, poi, poi, poi, poi, poi, poi, poi, poi, poi, poi, poi, poi, poi, poi, poi, poi, poi, poi, poi, poi, poi, poi, poi, poi, poi, poi, poi, poi, poi, poi] = [poi, Value.pointer (some { block := (2 : Nat), off := (0 : Nat) }), poi, poi, poi, Value.int IntKind.i64 (↑s' : Int), poi, poi, poi, poi, poi, poi, poi, poi, poi, poi, poi, poi, poi, poi, poi, poi, poi, poi, poi, poi, poi, poi, poi, poi, poi, poi, poi, poi, poi, poi, poi, poi, poi, poi, poi, poi, poi, poi, poi, poi, poi, poi, poi, poi, poi, poi, poi, poi, poi, poi, poi, poi, poi, poi, poi, poi] ∧ some (AObj.row (flts xs) (1 : Nat) true true true) :: some (AObj.row (ints hs) (2 : Nat) true true true) :: some (AObj.row [Value.string nm, Value.int IntKind.i64 f, Value.slice (some { block := (0 : Nat), off := (0 : Nat) }) n c, Value.slice (some { block := (1 : Nat), off := (0 : Nat) }) k d] (0 : Nat) false true false) :: noH = some (AObj.row (flts xs) (1 : Nat) true true true) :: some (AObj.row (ints hs) (2 : Nat) true true true) :: some (AObj.row [Value.string nm, Value.int IntKind.i64 f, Value.slice (some { block := (0 : Nat), off := (0 : Nat) }) n c, Value.slice (some { block := (1 : Nat), off := (0 : Nat) }) k d] (0 : Nat) false true false) :: noH)) (∃ (s' : Nat), Is (s' ≤ n ∧ ∀ (j : Nat), j < s' → nzB (List.getD xs j (0 : Nat)) = true → knB hs (↑j : Int) = true) ∧ Is (n - s' < n - s) ∧ [poi, Value.pointer (some { block := (2 : Nat), off := (0 : Nat) }), poi, poi, poi, Value.int IntKind.i64 (IntKind.wrap IntKind.i64 ((↑s : Int) + (1 : Int))), poi, poi, poi, poi, poi, poi, poi, poi, poi, poi, poi, poi, poi, poi, poi, poi, poi, poi, poi, poi, poi, poi, poi, poi, poi, poi, poi, poi, poi, poi, poi, poi, poi, poi, poi, poi, poi, poi, poi, poi, poi, poi, poi, poi, poi, poi, poi, poi, poi, poi, poi, poi, poi, poi, poi, poi] = [poi, Value.pointer (some { block := (2 : Nat), off := (0 : Nat) }), poi, poi, poi, Value.int IntKind.i64 (↑s' : Int), poi, poi, poi, poi, poi, poi, poi, poi, poi, poi, poi, poi, poi, poi, poi, poi, poi, poi, poi, poi, poi, poi, poi, poi, poi, poi, poi, poi, poi, poi, poi, poi, poi, poi, poi, poi, poi, poi, poi, poi, poi, poi, poi, poi, poi, poi, poi, poi, poi, poi, poi, poi, poi, poi, poi, poi] ∧ some (AObj.row (flts xs) (1 : Nat) true true true) :: some (AObj.row (ints hs) (2 : Nat) true true true) :: some (AObj.row [Value.string nm, Value.int IntKind.i64 f, Value.slice (some { block := (0 : Nat), off := (0 : Nat) }) n c, Value.slice (some { block := (1 : Nat), off := (0 : Nat) }) k d] (0 : Nat) false true false) :: noH = some (AObj.row (flts xs) (1 : Nat) true true true) :: some (AObj.row (ints hs) (2 : Nat) true true true) :: some (AObj.row [Value.string nm, Value.int IntKind.i64 f, Value.slice (some { block := (0 : Nat), off := (0 : Nat) }) n c, Value.slice (some { block := (1 : Nat), off := (0 : Nat) }) k d] (0 : Nat) false true false) :: noH)) (K (Value.int IntKind.i64 (0 : Int)) (some (AObj.row (flts xs) (1 : Nat) true true true) :: some (AObj.row (ints hs) (2 : Nat) true true true) :: noH)))))) := by kernel_rfl
set_option maxRecDepth 100000 in
theorem crT_ok {nm : ByteArray} {f : Int} {n c k d : Nat} {xs : List Nat} {hs : List Int} (hn : xs.length = n) (h9 : n ≤ 100000) (hk : hs.length = k * 2) (hk9 : k ≤ 100000) :
    SmallRes Try.prog 16 [.agg (runA nm f 0 n c 1 k d).toArray] (hp2r xs hs true true true true []) (.int .i64 (runE nm f xs n hs)) (hp2r xs hs true true true true []) := by
  refine fnP_res hm cr14_ok (hs := hsCrT nm f n c k d xs hs) ?_
  rw [crT_t, wrap_eq (x := 100000000 - (n : Int)) (by omega) (by omega)]
  have pre : ∀ {b : Bool} {e : Int}, wh b 4 = e → (b = true ↔ (100000000 : Int) < f + n ∧ n ≤ 4096) → runE nm f xs n hs = sel (fi [wh (!nameB nm) 8, wi f 0 100000000, fi [wh (decide ((4096 : Int) < n)) 5, fi (xs.map sE)], e]) (sel (hchk n hs (-1)) (wh (!hzH xs hs) 1)) := by
    intro b e he hb
    subst he
    have e4 : ∀ x : Int, wh (decide ((4096 : Int) < n)) 5 = 0 → fi [fi (xs.map sE), wh (decide ((100000000 : Int) < f + n)) 4] = fi [fi (xs.map sE), wh b 4] := fun _ h => by
      have h := (wh_zero (by decide)).1 h
      have h := of_decide_eq_false h
      have : decide ((100000000 : Int) < f + n) = b := by
        rw [Bool.eq_iff_iff, decide_eq_true_iff, hb]
        exact ⟨fun h1 => ⟨h1, by omega⟩, fun h1 => h1.1⟩
      rw [this]
    rw [runE]
    by_cases h1 : wh (!nameB nm) 8 = 0
    · by_cases h2 : wi f 0 100000000 = 0
      · by_cases h3 : wh (decide ((4096 : Int) < n)) 5 = 0
        · rw [e4 0 h3]
          by_cases h4 : fi (xs.map sE) = 0 <;> simp [fi, h1, h2, h3, h4, sel]
        · simp [fi, h1, h2, h3, sel]
      · simp [fi, h1, h2, sel]
    · simp [fi, h1, sel]
  have go : ∀ {e : Int}, runE nm f xs n hs = sel e (sel (hchk n hs (-1)) (wh (!hzH xs hs) 1)) → e = 0 → hchk n hs (-1) = 0 → runE nm f xs n hs = wh (!hzH xs hs) 1 := fun h h1 h2 => by rw [h, h1, h2]; rfl
  have yes : runE nm f xs n hs = wh (!hzH xs hs) 1 → hchk n hs (-1) = 0 → (∀ j, j < n → nzB (xs.getD j 0) = true → knB hs (j : Int) = true) → runE nm f xs n hs = 0 := fun h h1 h2 => by
    subst hn
    rw [h, (hz_iff hs (-1) h1).2 h2]; rfl
  have no : runE nm f xs n hs = wh (!hzH xs hs) 1 → hchk n hs (-1) = 0 → ∀ j, j < n → nzB (xs.getD j 0) = true → knB hs (j : Int) = false → runE nm f xs n hs = 1 := fun h h1 j hj h2 h3 => by
    subst hn
    have : hzH xs hs = false := by
      cases hz : hzH xs hs
      · rfl
      · rw [(hz_iff hs (-1) h1).1 hz j hj h2] at h3; cases h3
    rw [h, this]; rfl
  refine ⟨⟨rfl, hn, h9⟩, br_of (fun hb => ?_) (fun hb => ?_)⟩
  case' refine_1 => have P := pre (b := decide ((n : Int) ≤ 4096)) rfl (by rw [decide_eq_true_iff]; have := of_decide_eq_true hb; omega)
  case' refine_2 => have P := pre (b := false) (e := 0) rfl (by have := of_decide_eq_false hb; constructor <;> intro h; cases h; omega)
  all_goals
    refine br_of (fun h => ?_) (fun h => ⟨⟨rfl, hk, hk9⟩, br_of (fun h2 => ?_) (fun h2 => ?_)⟩)
    · rw [P]
      rw [sel_ne h]
      exact ⟨by first | trivial | rfl, by first | trivial | rfl⟩
    · rw [P]
      rw [sel_eq h, sel_ne h2]
      exact ⟨by first | trivial | rfl, by first | trivial | rfl⟩
    have h2' : hchk n hs (-1) = 0 := by simpa using h2
    have h0 : runE nm f xs n hs = wh (!hzH xs hs) 1 := go P (by simpa using h) h2'
    refine ⟨⟨(0 : Nat), ⟨by omega, fun j hj => by omega⟩, by first | trivial | rfl, by first | trivial | rfl⟩, fun s hs' => br_of (fun hc => ?_) (fun hc => ?_)⟩
    · have hc := lt_of_dec hc
      obtain ⟨i1, i2⟩ := hs'.out
      simp only [Nat.zero_add, Nat.mul_one, Int.toNat_natCast]
      have next : (nzB (xs.getD s 0) = true → knB hs (s : Int) = true) → ∀ j, j < s + 1 → nzB (xs.getD j 0) = true → knB hs (j : Int) = true := fun h j hj hz => by
        rcases Nat.lt_succ_iff_lt_or_eq.1 hj with h' | rfl
        · exact i2 j h' hz
        · exact h hz
      refine ⟨⟨by omega, by omega⟩, ⟨flts_at (by omega)⟩, ⟨trivial⟩, br_of (fun hz => ⟨⟨rfl, rfl, hk, hk9⟩, br_of (fun hkn => ?_) (fun hkn => ⟨s + 1, ⟨hc, next fun _ => by simpa using hkn⟩, ⟨by omega⟩, by rw [up1 hc (by omega)], by first | trivial | rfl⟩)⟩) (fun hz => ⟨s + 1, ⟨hc, next fun h => ?_⟩, ⟨by omega⟩, by rw [up1 hc (by omega)], by first | trivial | rfl⟩)⟩
      · rw [no h0 h2' s hc hz (by simpa using hkn)]
        exact ⟨by first | trivial | rfl, by first | trivial | rfl⟩
      · have hz : nzB (xs.getD s 0) = false := hz
        rw [hz] at h; cases h
    · have hc := ge_of_dec hc
      obtain ⟨i1, i2⟩ := hs'.out
      rw [yes h0 h2' (fun j hj => i2 j (by omega))]
      exact ⟨by first | trivial | rfl, by first | trivial | rfl⟩
noncomputable def orcCrT (xs : List Nat) (hs : List Int) : OrcV
  | [.agg ⟨[.string nm, .int .i64 f, .slice (some ⟨0, 0, none⟩) n _, .slice (some ⟨1, 0, none⟩) k _]⟩], [some (.row e1 1 true true true), some (.row e2 2 true true true)] =>
    some (.int .i64 (runE nm f xs n hs), [some (.row e1 1 true true true), some (.row e2 2 true true true)], isRun xs hs n k e1 e2)
  | _, _ => none
theorem okCrT (xs : List Nat) (hs : List Int) : OkV Try.prog 16 (orcCrT xs hs) := by
  intro args H ret H' vc h hv
  unfold orcCrT at h
  split at h
  · cases h
    obtain ⟨rfl, rfl, h1, h2, h3, h4⟩ := hv
    exact crT_ok h1 h2 h3 h4
  · cases h
end
end Qq
end
section
/- Runs moved; small runs; runs compared. -/
open Go Go.Vm Go.Proofs Sp
namespace Sp
noncomputable section
/-- The first so many samples are small. -/
def smS (xs : List Nat) (s : Nat) : Prop := ∀ j, j < s → fGt (xs.getD j 0) 1148846080 = false ∧ fLt (xs.getD j 0) 3296329728 = false
instance (xs : List Nat) (s : Nat) : Decidable (smS xs s) := inferInstanceAs (Decidable (∀ j, j < s → fGt (xs.getD j 0) 1148846080 = false ∧ fLt (xs.getD j 0) 3296329728 = false))
end
end Sp
namespace Qq
noncomputable section
theorem owT_t (nm : ByteArray) (f : Int) (n : Nat) (c : Nat) (k : Nat) (d : Nat) (xs : List Nat) (hs : List Int) (K : Value → Heap → Prop) :
    (fnP Try.prog c0 hsOw (10 : FuncId) [Value.agg (List.toArray (runA nm f (0 : Nat) n c (1 : Nat) k d))] (hp2r xs hs true true true true []) K) =
    (Is (List.length (flts xs) = n * (1 : Nat) ∧ (∀ (v : Value), v ∈ flts xs → atom v = true) ∧ n * (4 : Nat) ≤ (140737488355328 : Nat) ∧ n ≤ (9223372036854775807 : Nat)) ∧ Is (List.length (ints hs) = k * (2 : Nat) ∧ (∀ (v : Value), v ∈ ints hs → atom v = true) ∧ k * (16 : Nat) ≤ (140737488355328 : Nat) ∧ k ≤ (9223372036854775807 : Nat)) ∧ K (Value.agg #[Value.string nm, Value.int IntKind.i64 f, Value.slice (some { block := (2 : Nat), off := (0 : Nat) }) n (0 : Nat), Value.slice (some { block := (3 : Nat), off := (0 : Nat) }) k (0 : Nat)]) (some (AObj.row (flts xs) (1 : Nat) true true true) :: some (AObj.row (ints hs) (2 : Nat) true true true) :: some (AObj.row (flts xs) (1 : Nat) true true true) :: some (AObj.row (ints hs) (2 : Nat) true true true) :: noH)) := by kernel_rfl
noncomputable def orcOwT (xs : List Nat) (hs : List Int) : OrcV
  | [.agg ⟨[.string nm, .int .i64 f, .slice (some ⟨0, 0, none⟩) n _, .slice (some ⟨1, 0, none⟩) k _]⟩], [some (.row e1 1 true true true), some (.row e2 2 true true true)] =>
    some (.agg #[.string nm, .int .i64 f, .slice (some ⟨2, 0, none⟩) n 0, .slice (some ⟨3, 0, none⟩) k 0], [some (.row e1 1 true true true), some (.row e2 2 true true true), fR xs, some (.row (ints hs) 2 true true true)], isRun xs hs n k e1 e2)
  | _, _ => none
theorem okOwT (xs : List Nat) (hs : List Int) : OkV Try.prog 10 (orcOwT xs hs) := by
  intro args H ret H' vc h hv
  unfold orcOwT at h
  split at h
  · rename_i nm f n c k d e1 e2
    cases h
    obtain ⟨rfl, rfl, h1, h2, h3, h4⟩ := hv
    refine fnP_res hm c0_ok (hs := hsOw) ?_
    show fnP Try.prog c0 hsOw 10 [.agg (runA nm f 0 n c 1 k d).toArray] (hp2r xs hs true true true true []) _
    rw [owT_t]
    exact ⟨⟨by rw [flts_len]; omega, flts_atom xs, by omega, by omega⟩, ⟨by rw [ints_len]; omega, fun v hv => by obtain ⟨x, _, rfl⟩ := List.mem_map.1 hv; rfl, by omega, by omega⟩, by first | trivial | rfl, by first | trivial | rfl⟩
  · cases h
end
end Qq
end
section
/- Three runs: checked, read. -/
open Go Go.Vm Go.Proofs Sp
namespace Sp
noncomputable section
/-- The numbers that cells are. -/
def fxs (e : List Value) : List Nat := e.map fun v => match v with | .float _ a => a | _ => 0
def ihs (e : List Value) : List Int := e.map fun v => match v with | .int _ a => a | _ => 0
/-- The readings of a run, told by its cells. -/
noncomputable def rdG (n : Nat) (e1 e2 : List Value) : List Value := rdc n (rdF (fxs e1) (knB (ihs e2)))
end
end Sp
namespace Qq
noncomputable section
theorem fxs_flts (xs : List Nat) : fxs (flts xs) = xs := by
  rw [fxs, flts, List.map_map]
  exact (List.map_congr_left fun _ _ => rfl).trans (List.map_id xs)
theorem ihs_ints (hs : List Int) : ihs (ints hs) = hs := by
  rw [ihs, ints, List.map_map]
  exact (List.map_congr_left fun _ _ => rfl).trans (List.map_id hs)
/-- A valid run, told by its cells. -/
def okRun (nm : ByteArray) (f : Int) (n k : Nat) (e1 e2 : List Value) : Prop := isRun (fxs e1) (ihs e2) n k e1 e2 ∧ runE nm f (fxs e1) n (ihs e2) = 0
theorem okRun_of {nm : ByteArray} {f : Int} {n k : Nat} {xs : List Nat} {hs : List Int} (h : isRun xs hs n k (flts xs) (ints hs)) (h0 : runE nm f xs n hs = 0) : okRun nm f n k (flts xs) (ints hs) := by
  rw [okRun, fxs_flts, ihs_ints]; exact ⟨h, h0⟩
noncomputable def orcCrG : OrcV
  | [.agg ⟨[.string nm, .int .i64 f, .slice (some ⟨0, 0, none⟩) n _, .slice (some ⟨1, 0, none⟩) k _]⟩], [some (.row e1 1 true true true), some (.row e2 2 true true true)] =>
    some (.int .i64 0, [some (.row e1 1 true true true), some (.row e2 2 true true true)], okRun nm f n k e1 e2)
  | _, _ => none
theorem okCrG : OkV Try.prog 31 orcCrG := by
  intro args H ret H' vc h hv
  unfold orcCrG at h
  split at h
  · rename_i nm f n c k d e1 e2
    cases h
    obtain ⟨h1, h2⟩ := hv
    have := okCrP (fxs e1) (ihs e2) _ _ _ _ _ (show orcCrP (fxs e1) (ihs e2) [.agg ⟨[.string nm, .int .i64 f, .slice (some ⟨0, 0, none⟩) n c, .slice (some ⟨1, 0, none⟩) k d]⟩] [some (.row e1 1 true true true), some (.row e2 2 true true true)] = some _ from rfl) h1
    rwa [h2] at this
  · cases h
noncomputable def orcRrG : OrcV
  | [.agg ⟨[.string nm, .int .i64 f, .slice (some ⟨0, 0, none⟩) n _, .slice (some ⟨1, 0, none⟩) k _]⟩], [some (.row e1 1 true true true), some (.row e2 2 true true true)] =>
    some (.slice (some ⟨2, 0, none⟩) n 0, [some (.row e1 1 true true true), some (.row e2 2 true true true), some (.row (rdG n e1 e2) 2 true true true)], okRun nm f n k e1 e2)
  | _, _ => none
theorem okRrG : OkV Try.prog 34 orcRrG := by
  intro args H ret H' vc h hv
  unfold orcRrG at h
  split at h
  · rename_i nm f n c k d e1 e2
    cases h
    obtain ⟨h1, h2⟩ := hv
    obtain ⟨_, _, _, _, hx, hh, _⟩ := run_zero h2
    exact okRr (fxs e1) (ihs e2) _ _ _ _ _ (show orcRr (fxs e1) (ihs e2) [.agg ⟨[.string nm, .int .i64 f, .slice (some ⟨0, 0, none⟩) n c, .slice (some ⟨1, 0, none⟩) k d]⟩] [some (.row e1 1 true true true), some (.row e2 2 true true true)] = some _ from rfl) ⟨h1, hx, hh⟩
  · cases h
end
end Qq
end
section
/- Three runs, turned by a function: the law's own closures. -/
open Go Go.Vm Go.Proofs Sp
namespace Sp
noncomputable section
/-- The samples and the holes of a run in the other direction, told by its cells. -/
noncomputable def rvX (n : Nat) (e1 e2 : List Value) : List Value := flts (mkX (rvA n (rdF (fxs e1) (knB (ihs e2)))) n)
noncomputable def rvH (n : Nat) (e1 e2 : List Value) : List Value := ints (mkS (mkB (rvA n (rdF (fxs e1) (knB (ihs e2))))) n)
noncomputable def rvK (n : Nat) (e1 e2 : List Value) : Nat := mkK (mkB (rvA n (rdF (fxs e1) (knB (ihs e2))))) n
end
end Sp
namespace Qq
noncomputable section
def isRunG (n k : Nat) (e1 e2 : List Value) : Prop := isRun (fxs e1) (ihs e2) n k e1 e2
noncomputable def orcTuG : OrcV
  | [.agg ⟨[.string nm, .int .i64 f, .slice (some ⟨0, 0, none⟩) n _, .slice (some ⟨1, 0, none⟩) k _]⟩], [some (.row e1 1 true true true), some (.row e2 2 true true true)] =>
    some (.tuple #[.agg #[.string nm, .int .i64 f, .slice (some ⟨2, 0, none⟩) n 0, .slice (some ⟨3, 0, none⟩) (rvK n e1 e2) 0], .int .i64 0], [some (.row e1 1 true true true), some (.row e2 2 true true true), some (.row (rvX n e1 e2) 1 true true true), some (.row (rvH n e1 e2) 2 true true true)], okRun nm f n k e1 e2)
  | _, _ => none
theorem okTuG : OkV Try.prog 11 orcTuG := by
  intro args H ret H' vc h hv
  unfold orcTuG at h
  split at h
  · rename_i nm f n c k d e1 e2
    cases h
    exact okTu (fxs e1) (ihs e2) _ _ _ _ _ (show orcTu (fxs e1) (ihs e2) [.agg ⟨[.string nm, .int .i64 f, .slice (some ⟨0, 0, none⟩) n c, .slice (some ⟨1, 0, none⟩) k d]⟩] [some (.row e1 1 true true true), some (.row e2 2 true true true)] = some _ from rfl) hv
  · cases h
/- The runs themselves. -/
end
end Qq
end
section
/- Contracts that the law calls: proved. -/
open Go Go.Vm Go.Proofs Sp
namespace Sp
noncomputable section
end
end Sp
namespace Qq
noncomputable section
/- Both are runs of one's own. -/
noncomputable def orcOwTG : OrcV
  | [.agg ⟨[.string nm, .int .i64 f, .slice (some ⟨0, 0, none⟩) n _, .slice (some ⟨1, 0, none⟩) k _]⟩], [some (.row e1 1 true true true), some (.row e2 2 true true true)] =>
    some (.agg #[.string nm, .int .i64 f, .slice (some ⟨2, 0, none⟩) n 0, .slice (some ⟨3, 0, none⟩) k 0], [some (.row e1 1 true true true), some (.row e2 2 true true true), some (.row e1 1 true true true), some (.row e2 2 true true true)], isRunG n k e1 e2)
  | _, _ => none
theorem okOwTG : OkV Try.prog 10 orcOwTG := by
  intro args H ret H' vc h hv
  unfold orcOwTG at h
  split at h
  · rename_i nm f n c k d e1 e2
    cases h
    have hv' : isRun (fxs e1) (ihs e2) n k e1 e2 := hv
    have := okOwT (fxs e1) (ihs e2) _ _ _ _ _ (show orcOwT (fxs e1) (ihs e2) [.agg ⟨[.string nm, .int .i64 f, .slice (some ⟨0, 0, none⟩) n c, .slice (some ⟨1, 0, none⟩) k d]⟩] [some (.row e1 1 true true true), some (.row e2 2 true true true)] = some _ from rfl) hv'
    have q1 : fR (fxs e1) = some (.row e1 1 true true true) := by rw [fR, ← hv'.1]
    have q2 := hv'.2.1
    rw [q1, ← q2] at this
    exact this
  · cases h
end
end Qq
end
section
/- The law of the vote: plain facts. -/
open Go Go.Vm Go.Proofs Sp
namespace Qq
noncomputable section
theorem mkS_congrZ9 {B C : Nat → Bool} : ∀ {n : Nat}, (∀ i, i < n → B i = C i) → mkS B n = mkS C n
  | 0, _ => by rw [mkS_zero, mkS_zero]
  | n + 1, h => by rw [mkS, mkS, mkS_congrZ9 (n := n) fun i hi => h i (by omega), h n (by omega)]
theorem mkB_congr {R S : Nat → Int × Bool} {n : Nat} (h : ∀ i, i < n → R i = S i) : mkS (mkB R) n = mkS (mkB S) n := mkS_congrZ9 fun i hi => by rw [mkB, mkB, h i hi]
theorem mkK_congr {R S : Nat → Int × Bool} {n : Nat} (h : ∀ i, i < n → R i = S i) : mkK (mkB R) n = mkK (mkB S) n := by rw [mkK, mkK, mkB_congr h]
theorem RdOk.congr {R S : Nat → Int × Bool} {n : Nat} (h : ∀ i, i < n → R i = S i) (hR : RdOk R n) : RdOk S n := ⟨fun i hi => by rw [← h i hi]; exact hR.few i hi, fun i hi => by rw [← h i hi]; exact hR.zero i hi⟩
/-- A run that is made of readings: valid, told by its cells. -/
theorem okRun_mk {nm : ByteArray} {f : Int} {n : Nat} {R : Nat → Int × Bool} (h : RdOk R n) (h1 : nameB nm = true) (h2 : 0 ≤ f ∧ f ≤ 100000000) (h3 : n ≤ 4096) (h4 : f + n ≤ 100000000) : okRun nm f n (mkK (mkB R) n) (flts (mkX R n)) (ints (mkS (mkB R) n)) :=
  okRun_of (mk_isRun (by omega)) (mk_runE h h1 h2 h3 h4)
end
end Qq
end
section
/- Bytes of numbers: plain facts. -/
open Go Go.Vm
namespace Sp
/-- The lowest two bytes of a number, and the lowest four, the highest first. -/
def two (n : Int) : List Int := [n / 256 % 256, n % 256]
def four (n : Int) : List Int := [n / 16777216 % 256, n / 65536 % 256, n / 256 % 256, n % 256]
/-- The number of bytes. -/
def num (l : List Int) : Int := l.foldl (fun a b => 256 * a + b) 0
/-- The checksum of bytes, from one on. -/
def ckS (l : List Int) (x : Int) : Int := l.foldl (fun a b => Int.tmod (271 * a + b) 16777213) x
/-- A packet, and its frame. -/
structure Pk where
  s : Int
  c : Int
  x : Nat
  y : Nat
  z : Nat
def hd (p : Pk) : List Int := [90, p.s % 256] ++ two p.c ++ four p.x ++ four p.y ++ four p.z
def frm (p : Pk) : List Int := hd p ++ four (ckS (hd p) 1)
end Sp
namespace Qq
open Sp
theorem num_two {n : Int} (h0 : 0 ≤ n) (h1 : n < 65536) : num (two n) = n := by
  simp only [num, two, List.foldl_cons, List.foldl_nil]; omega
theorem num_four {n : Int} (h0 : 0 ≤ n) (h1 : n < 4294967296) : num (four n) = n := by
  simp only [num, four, List.foldl_cons, List.foldl_nil]; omega
theorem ckS_lt : ∀ (l : List Int) (x : Int), (∀ b ∈ l, 0 ≤ b) → 0 ≤ x → x < 16777213 → 0 ≤ ckS l x ∧ ckS l x < 16777213
  | [], x, _, h0, h1 => ⟨h0, h1⟩
  | b :: l, x, hb, h0, h1 => by
    have := hb b (by simp)
    have hx : 0 ≤ 271 * x + b := by omega
    have e : ckS (b :: l) x = ckS l (Int.tmod (271 * x + b) 16777213) := rfl
    rw [e]
    rw [Int.tmod_eq_emod_of_nonneg hx]
    exact ckS_lt l _ (fun c hc => hb c (by simp [hc])) (by omega) (by omega)
theorem frm_len (p : Pk) : (frm p).length = 20 := rfl
theorem two_byte {n : Int} : ∀ b ∈ two n, 0 ≤ b ∧ b < 256 := by
  intro b hb; simp only [two, List.mem_cons, List.not_mem_nil, or_false] at hb; omega
theorem four_byte {n : Int} : ∀ b ∈ four n, 0 ≤ b ∧ b < 256 := by
  intro b hb; simp only [four, List.mem_cons, List.not_mem_nil, or_false] at hb; omega
theorem hd_byte (p : Pk) : ∀ b ∈ hd p, 0 ≤ b ∧ b < 256 := by
  intro b hb
  simp only [hd, List.mem_append] at hb
  rcases hb with (((h | h) | h) | h) | h
  · simp only [List.mem_cons, List.not_mem_nil, or_false] at h; omega
  · exact two_byte b h
  · exact four_byte b h
  · exact four_byte b h
  · exact four_byte b h
theorem frm_byte (p : Pk) : ∀ b ∈ frm p, 0 ≤ b ∧ b < 256 := by
  intro b hb
  rw [frm, List.mem_append] at hb
  rcases hb with h | h
  · exact hd_byte p b h
  · exact four_byte b h
end Qq
end
section
/- What is kept of a row of places: plain facts. -/
open Go Go.Vm
namespace Sp
/-- The places below m that a condition keeps. -/
def kl (kp : Nat → Bool) : Nat → List Nat
  | 0 => []
  | m + 1 => if kp m = true then kl kp m ++ [m] else kl kp m
end Sp
namespace Qq
open Sp
theorem kl_mem {kp : Nat → Bool} : ∀ {m q : Nat}, q ∈ kl kp m ↔ q < m ∧ kp q = true
  | 0, q => by simp [kl]
  | m + 1, q => by
    rw [kl]
    by_cases h : kp m = true
    · rw [if_pos h, List.mem_append, kl_mem (m := m)]
      refine ⟨fun h' => ?_, fun ⟨h1, h2⟩ => ?_⟩
      · rcases h' with h1 | h1
        · exact ⟨by omega, h1.2⟩
        · have : q = m := by simpa using h1
          subst this; exact ⟨by omega, h⟩
      · by_cases e : q = m
        · subst e; exact .inr (by simp)
        · exact .inl ⟨by omega, h2⟩
    · rw [if_neg h, kl_mem (m := m)]
      refine ⟨fun h' => ⟨by omega, h'.2⟩, fun ⟨h1, h2⟩ => ⟨?_, h2⟩⟩
      by_cases e : q = m
      · subst e; exact absurd h2 h
      · omega
theorem kl_len {kp : Nat → Bool} : ∀ m, (kl kp m).length ≤ m
  | 0 => Nat.le_refl _
  | m + 1 => by
    rw [kl]
    have := kl_len (kp := kp) m
    split
    · simp only [List.length_append, List.length_cons, List.length_nil]; omega
    · omega
/-- They are in order, and between two of them none is kept. -/
theorem kl_next {kp : Nat → Bool} : ∀ (m i : Nat), i + 1 < (kl kp m).length → (kl kp m).getD i 0 < (kl kp m).getD (i + 1) 0 ∧ ∀ q, (kl kp m).getD i 0 < q → q < (kl kp m).getD (i + 1) 0 → kp q = false
  | 0, i, h => by simp [kl] at h
  | m + 1, i, h => by
    rw [kl] at h ⊢
    by_cases hk : kp m = true
    · rw [if_pos hk] at h ⊢
      by_cases hi : i + 1 < (kl kp m).length
      · have := kl_next m i hi
        have e1 : (kl kp m ++ [m]).getD i 0 = (kl kp m).getD i 0 := by simp only [List.getD_eq_getElem?_getD]; rw [List.getElem?_append_left (by omega)]
        have e2 : (kl kp m ++ [m]).getD (i + 1) 0 = (kl kp m).getD (i + 1) 0 := by simp only [List.getD_eq_getElem?_getD]; rw [List.getElem?_append_left hi]
        rw [e1, e2]; exact this
      · have hl : i + 1 = (kl kp m).length := by simp only [List.length_append, List.length_cons, List.length_nil] at h; omega
        have e1 : (kl kp m ++ [m]).getD i 0 = (kl kp m).getD i 0 := by simp only [List.getD_eq_getElem?_getD]; rw [List.getElem?_append_left (by omega)]
        have e2 : (kl kp m ++ [m]).getD (i + 1) 0 = m := by simp only [List.getD_eq_getElem?_getD]; rw [hl, List.getElem?_append_right (Nat.le_refl _)]; simp
        rw [e1, e2]
        have hin : (kl kp m).getD i 0 ∈ kl kp m := by
          rw [List.getD_eq_getElem?_getD, List.getElem?_eq_getElem (by omega)]; exact List.getElem_mem _
        refine ⟨(kl_mem.1 hin).1, fun q h1 h2 => ?_⟩
        cases hq : kp q with
        | false => rfl
        | true => exact absurd (kl_last m q i hl.symm (kl_mem.2 ⟨h2, hq⟩)) (by omega)
    · rw [if_neg hk] at h ⊢; exact kl_next m i h
where
  /-- The last one is the greatest. -/
  kl_last {kp : Nat → Bool} (m q i : Nat) (hl : (kl kp m).length = i + 1) (hq : q ∈ kl kp m) : q ≤ (kl kp m).getD i 0 := by
    induction m generalizing i with
    | zero => simp [kl] at hl
    | succ m ih =>
      rw [kl] at hl hq ⊢
      by_cases hk : kp m = true
      · rw [if_pos hk] at hl hq ⊢
        have hl' : (kl kp m).length = i := by simp only [List.length_append, List.length_cons, List.length_nil] at hl; omega
        have e : (kl kp m ++ [m]).getD i 0 = m := by simp only [List.getD_eq_getElem?_getD]; rw [← hl', List.getElem?_append_right (Nat.le_refl _)]; simp
        rw [e]
        rcases List.mem_append.1 hq with h | h
        · have := (kl_mem.1 h).1; omega
        · have : q = m := by simpa using h
          omega
      · rw [if_neg hk] at hl hq ⊢; exact ih i hl hq
end Qq
end
section
/- Runs that are received packet by packet: plain facts. -/
open Go Go.Vm
namespace Sp
/-- Two rows of readings, the second one from a place on. -/
def jnR (R1 R2 : Nat → Int × Bool) (n1 o j : Nat) : Int × Bool := if j < n1 then R1 j else if j < o then (0, false) else R2 (j - o)
/-- What is known of numbers of which threes are kept, from a place on. -/
def kR (kp : Nat → Bool) (X : Nat → Int) (f j : Nat) : Int × Bool := if kp ((f + j) / 3) = true then (X (f + j), true) else (0, false)
/-- The first of what is kept, and the i-th. -/
def kat (kp : Nat → Bool) (m i : Nat) : Nat := (kl kp m).getD i 0
end Sp
namespace Qq
open Sp
theorem kat_kp {kp : Nat → Bool} {m i : Nat} (h : i < (kl kp m).length) : kat kp m i < m ∧ kp (kat kp m i) = true := by
  refine kl_mem.1 ?_
  rw [kat, List.getD_eq_getElem?_getD, List.getElem?_eq_getElem h]; exact List.getElem_mem _
theorem kat_up {kp : Nat → Bool} {m : Nat} : ∀ {i : Nat}, i < (kl kp m).length → kat kp m 0 + i ≤ kat kp m i
  | 0, _ => Nat.le_refl _
  | i + 1, h => by
    have := kat_up (i := i) (m := m) (kp := kp) (by omega)
    have := (kl_next m i h).1
    simp only [kat] at *; omega
theorem kR_step {kp : Nat → Bool} {X : Nat → Int} {m i j : Nat} (h : i + 1 < (kl kp m).length) (hj : j < 3 * (kat kp m (i + 1) + 1) - 3 * kat kp m 0) :
    jnR (kR kp X (3 * kat kp m 0)) (fun r => (X (3 * kat kp m (i + 1) + r), true)) (3 * (kat kp m i + 1) - 3 * kat kp m 0) (3 * kat kp m (i + 1) - 3 * kat kp m 0) j = kR kp X (3 * kat kp m 0) j := by
  obtain ⟨h1, h2⟩ := kl_next m i h
  have h3 := (kat_kp h).2
  have h4 := kat_up (kp := kp) (m := m) (i := i) (by omega)
  rw [jnR]
  by_cases c1 : j < 3 * (kat kp m i + 1) - 3 * kat kp m 0
  · rw [if_pos c1]
  · rw [if_neg c1]
    by_cases c2 : j < 3 * kat kp m (i + 1) - 3 * kat kp m 0
    · rw [if_pos c2, kR, h2 ((3 * kat kp m 0 + j) / 3) (by simp only [kat] at *; omega) (by simp only [kat] at *; omega)]; rfl
    · rw [if_neg c2, kR]
      have h5 := kat_up (kp := kp) (m := m) (i := i + 1) h
      have e1 : (3 * kat kp m 0 + j) / 3 = kat kp m (i + 1) := by omega
      have e2 : 3 * kat kp m (i + 1) + (j - (3 * kat kp m (i + 1) - 3 * kat kp m 0)) = 3 * kat kp m 0 + j := by omega
      rw [e1, h3, if_pos rfl, e2]
theorem kR_one {kp : Nat → Bool} {X : Nat → Int} {m j : Nat} (h : 0 < (kl kp m).length) (hj : j < 3) : kR kp X (3 * kat kp m 0) j = (X (3 * kat kp m 0 + j), true) := by
  have h3 := (kat_kp h).2
  rw [kR, show (3 * kat kp m 0 + j) / 3 = kat kp m 0 by omega, h3, if_pos rfl]
/-- What is kept, counted from the other end. -/
theorem kl_rev {kp kr : Nat → Bool} {m : Nat} (hr : ∀ q, q < m → kr q = kp (m - 1 - q)) : ∀ i, i ≤ m → kl kp m = kl kp (m - i) ++ ((kl kr i).map (m - 1 - ·)).reverse
  | 0, _ => by simp [kl]
  | i + 1, h => by
    rw [kl_rev hr i (by omega), kl, hr i (by omega), show m - i = (m - (i + 1)) + 1 by omega, kl, show m - (i + 1) = m - 1 - i by omega]
    by_cases hk : kp (m - 1 - i) = true
    · rw [if_pos hk, if_pos hk, List.map_append, List.reverse_append]
      simp
    · rw [if_neg hk, if_neg hk]
theorem kl_turn {kp kr : Nat → Bool} {m : Nat} (hr : ∀ q, q < m → kr q = kp (m - 1 - q)) : (kl kp m).reverse = (kl kr m).map (m - 1 - ·) := by
  have := kl_rev hr m (Nat.le_refl m)
  rw [Nat.sub_self, show kl kp 0 = [] from rfl, List.nil_append] at this
  rw [this, List.reverse_reverse]
theorem kl_turn_len {kp kr : Nat → Bool} {m : Nat} (hr : ∀ q, q < m → kr q = kp (m - 1 - q)) : (kl kr m).length = (kl kp m).length := by
  have := congrArg List.length (kl_turn hr)
  simpa using this.symm
end Qq
end
