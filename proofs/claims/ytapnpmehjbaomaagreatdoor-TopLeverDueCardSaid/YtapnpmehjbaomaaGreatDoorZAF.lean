/- Parts of the proof: RS, RJ, RK, RL, RM, RT, RU, RV, QOW, QYA, QYB, LA, FlE. -/
import Derived.Test.YtapnpmehjbaomaaGreatDoorZAE
import Derived.Test.YtapnpmehjbaomaaGreatDoorZAC
import Derived.Test.YtapnpmehjbaomaaGreatDoorZAA
import Derived.Test.YtapnpmehjbaomaaGreatDoorZAD
section
/- Readings: a list of integers, each known or not. -/
open Go Go.Vm Go.Proofs Sp
namespace Sp
noncomputable section
noncomputable def rC (r : Int × Bool) : List Value := [.int .i64 r.1, .bool r.2]
noncomputable def rdc : Nat → (Nat → Int × Bool) → List Value
  | 0, _ => []
  | n + 1, R => rdc n R ++ rC (R n)
noncomputable def upR (R : Nat → Int × Bool) (i : Nat) (v : Int × Bool) (j : Nat) : Int × Bool := if j = i then v else R j
/-- Readings of samples, where P says that they are known. -/
noncomputable def rdF (xs : List Nat) (P : Int → Bool) (i : Nat) : Int × Bool := if P (i : Int) = true then (lev (xs.getD i 0), true) else (0, false)
noncomputable def tt1 (_ : Int) : Bool := true
noncomputable def rdV (R : Nat → Int × Bool) (off : Nat) : Int := (R (off / 2)).1
noncomputable def rdW (R : Nat → Int × Bool) (off : Nat) : Bool := (R (off / 2)).2
noncomputable def zR (R : Nat → Int × Bool) (off : Nat) : Value := .agg #[.int .i64 (rdV R off), .bool (rdW R off)]
theorem rdV_at (R : Nat → Int × Bool) (i : Nat) : rdV R (i * 2) = (R i).1 := by rw [rdV, Nat.mul_div_cancel _ (by decide)]
theorem rdW_at (R : Nat → Int × Bool) (i : Nat) : rdW R (i * 2) = (R i).2 := by rw [rdW, Nat.mul_div_cancel _ (by decide)]
/-- In none of the first s holes, nor in the first j of the next one. -/
noncomputable def knT (hs : List Int) (s j : Nat) (i : Int) : Bool := knB (hs.take (s * 2)) i && !(decide (hs.getD (s * 2) 0 ≤ i) && decide (i < hs.getD (s * 2) 0 + (j : Int)))
noncomputable def hsz (hs : List Int) (s : Nat) : Int := hs.getD (s * 2 + 1) 0 - hs.getD (s * 2) 0
end
end Sp
namespace Qq
noncomputable section
theorem rdc_len : ∀ (n : Nat) (R : Nat → Int × Bool), (rdc n R).length = n * 2
  | 0, _ => rfl
  | n + 1, R => by rw [rdc, List.length_append, rdc_len n R, rC]; simp only [List.length_cons, List.length_nil]; omega
theorem rdc_congr : ∀ {n : Nat} {R Q : Nat → Int × Bool}, (∀ i, i < n → R i = Q i) → rdc n R = rdc n Q
  | 0, _, _, _ => rfl
  | n + 1, R, Q, h => by rw [rdc, rdc, rdc_congr (fun i hi => h i (by omega)), h n (by omega)]
theorem rdc_cut : ∀ {n i : Nat} {R : Nat → Int × Bool}, i < n → ∃ t, rdc n R = rdc i R ++ (rC (R i) ++ t) ∧ ∀ Q : Nat → Int × Bool, (∀ j, i < j → Q j = R j) → rdc n Q = rdc i Q ++ (rC (Q i) ++ t)
  | n + 1, i, R, h => by
    by_cases e : i = n
    · subst e
      refine ⟨[], by rw [rdc, List.append_nil], fun Q _ => by rw [rdc, List.append_nil]⟩
    · obtain ⟨t, h1, h2⟩ := rdc_cut (n := n) (i := i) (R := R) (by omega)
      refine ⟨t ++ rC (R n), by rw [rdc, h1]; simp only [List.append_assoc], fun Q hQ => ?_⟩
      rw [rdc, h2 Q hQ, hQ n (by omega)]
      simp only [List.append_assoc]
theorem rdc_take {n i : Nat} {R : Nat → Int × Bool} (h : i < n) : (if i * 2 + 2 ≤ (rdc n R).length then some (Value.agg (List.toArray (List.take 2 (List.drop (i * 2) (rdc n R))))) else none) = some (.agg #[.int .i64 (R i).1, .bool (R i).2]) := by
  obtain ⟨t, h1, _⟩ := rdc_cut (R := R) h
  have hl := rdc_len i R
  rw [if_pos (by rw [rdc_len]; omega), h1, ← hl, List.drop_left]
  rfl
theorem rdc_int {n i : Nat} {R : Nat → Int × Bool} (h : i < n) : (rdc n R)[i * 2]? = some (.int .i64 (R i).1) := by
  obtain ⟨t, h1, _⟩ := rdc_cut (R := R) h
  have hl := rdc_len i R
  rw [h1, List.getElem?_append_right (by omega), hl, Nat.sub_self]
  rfl
theorem rdc_put {n i : Nat} {R : Nat → Int × Bool} {v : Int × Bool} (h : i < n) : putL (rdc n R) (i * 2) (rC v) = rdc n (upR R i v) := by
  obtain ⟨t, h1, h2⟩ := rdc_cut (R := R) h
  have hl := rdc_len i R
  have h3 : rdc i (upR R i v) = rdc i R := rdc_congr (fun j hj => by rw [upR, if_neg (by omega)])
  have h4 : upR R i v i = v := by rw [upR, if_pos rfl]
  rw [h2 (upR R i v) (fun j hj => by rw [upR, if_neg (by omega)]), h3, h4, putL, splice, h1]
  have e1 : List.take (i * 2) (rdc i R ++ (rC (R i) ++ t)) = rdc i R := by rw [← hl, List.take_left]
  have e2 : List.drop (i * 2 + (rC v).length) (rdc i R ++ (rC (R i) ++ t)) = t := by
    have : i * 2 + (rC v).length = (rdc i R ++ rC (R i)).length := by rw [List.length_append, hl]; rfl
    rw [this, ← List.append_assoc, List.drop_left]
  rw [e1, e2]
theorem knT_zero {hs : List Int} {s : Nat} (i : Int) : knT hs s 0 i = knB (hs.take (s * 2)) i := by
  rw [knT]
  have : (decide (hs.getD (s * 2) 0 ≤ i) && decide (i < hs.getD (s * 2) 0 + ((0 : Nat) : Int))) = false := by
    by_cases h : hs.getD (s * 2) 0 ≤ i
    · rw [decide_eq_false (p := i < _) (by omega), Bool.and_false]
    · rw [decide_eq_false h, Bool.false_and]
  rw [this]; simp
theorem knB_app : ∀ (s : Nat) {l r : List Int} (i : Int), l.length = s * 2 → knB (l ++ r) i = (knB l i && knB r i)
  | 0, [], r, i, _ => by simp [knB]
  | s + 1, a :: b :: l, r, i, h => by
    rw [List.cons_append, List.cons_append, knB, knB, knB_app s i (by simp only [List.length_cons] at h; omega), Bool.and_assoc]
  | s + 1, [a], r, i, h => by simp only [List.length_cons, List.length_nil] at h; omega
  | s + 1, [], r, i, h => by simp only [List.length_nil] at h; omega
  | 0, a :: l, r, i, h => by simp only [List.length_cons] at h; omega
theorem knT_full {hs : List Int} {s j : Nat} (h : s * 2 + 2 ≤ hs.length) (hj : (j : Int) = hsz hs s) (i : Int) : knT hs s j i = knB (hs.take ((s + 1) * 2)) i := by
  have e : hs.take ((s + 1) * 2) = hs.take (s * 2) ++ [hs.getD (s * 2) 0, hs.getD (s * 2 + 1) 0] := by
    rw [show (s + 1) * 2 = s * 2 + 2 by omega, List.take_add, spn_drop h]; rfl
  have e2 : hs.getD (s * 2) 0 + (j : Int) = hs.getD (s * 2 + 1) 0 := by rw [hj, hsz]; omega
  rw [e, knB_app s i (by rw [List.length_take]; omega), knT, e2]
  simp [knB]
theorem rdF_congr {xs : List Nat} {P Q : Int → Bool} {n : Nat} (h : ∀ i : Int, P i = Q i) : rdc n (rdF xs P) = rdc n (rdF xs Q) := rdc_congr fun i _ => by rw [rdF, rdF, h]
theorem rdF_put {xs : List Nat} {hs : List Int} {s j i : Nat} (ha : (i : Int) = hs.getD (s * 2) 0 + (j : Int)) : ∀ k, upR (rdF xs (knT hs s j)) i (0, false) k = rdF xs (knT hs s (j + 1)) k := fun k => by
  rw [upR]
  have e2 : ((j + 1 : Nat) : Int) = (j : Int) + 1 := rfl
  split
  · rename_i e
    subst e
    rw [rdF, knT]
    have : (decide (hs.getD (s * 2) 0 ≤ (k : Int)) && decide ((k : Int) < hs.getD (s * 2) 0 + ((j + 1 : Nat) : Int))) = true := by
      rw [decide_eq_true (by omega), decide_eq_true (by omega)]; rfl
    rw [this]; simp
  · rename_i e
    rw [rdF, rdF]
    have : knT hs s j (k : Int) = knT hs s (j + 1) (k : Int) := by
      rw [knT, knT]
      congr 2
      congr 1
      exact decide_eq_decide.2 ⟨fun h => by omega, fun h => by omega⟩
    rw [this]
/- The integer of a sample, once more; a reading of a sample. -/
theorem intS_t (x : Nat) (K : Value → Heap → Prop) :
    (fnP Tryz.prog cs2 hsFl0 (94 : FuncId) [Value.float FloatKind.f32 x] [] K) =
    (Is (fMulOk (1098907648 : Nat) x) ∧ Is (fIntOk (fMul (1098907648 : Nat) x)) ∧ K (Value.int IntKind.i64 (Sp.fInt (fMul (1098907648 : Nat) x))) noH) := by kernel_rfl
theorem okInS : OkV Tryz.prog 94 orcLev := by
  intro args H ret H' vc h hv
  unfold orcLev at h
  split at h
  · rename_i x
    cases h
    have hs := Fl.smp hv
    refine fnP_res hm cs2_ok (hs := hsFl0) ?_
    rw [intS_t, Fl.mul_comm16 1098907648 x]
    exact ⟨⟨hs.m2⟩, ⟨hs.i1⟩, by first | trivial | rfl, by first | trivial | rfl⟩
  · cases h
noncomputable def hsRd1 : Hs Tryz.prog where
  au := auCalls [(94, hCa Tryz.prog 94 orcLev okInS)]
theorem rd1_t (x : Nat) (K : Value → Heap → Prop) :
    (fnP Tryz.prog cs2 hsRd1 (93 : FuncId) [Value.float FloatKind.f32 x] [] K) =
    (Is (sE x = (0 : Int)) ∧ K (Value.agg #[Value.int IntKind.i64 (lev x), Value.bool true]) noH) := by kernel_rfl
noncomputable def orcRd1 : OrcV
  | [.float .f32 x], [] => some (.agg #[.int .i64 (lev x), .bool true], [], sE x = 0)
  | _, _ => none
theorem okRd1 : OkV Tryz.prog 93 orcRd1 := by
  intro args H ret H' vc h hv
  unfold orcRd1 at h
  split at h
  · rename_i x
    cases h
    refine fnP_res hm cs2_ok (hs := hsRd1) ?_
    rw [rd1_t]
    exact ⟨⟨hv⟩, by first | trivial | rfl, by first | trivial | rfl⟩
  · cases h
/- A reading for each sample. -/
noncomputable def fR1 : Value := .func (.func 93) #[] #[]
noncomputable def rdR (n : Nat) (R : Nat → Int × Bool) : Option AObj := some (.row (rdc n R) 2 true true true)
noncomputable def lpMr0 (xs : List Nat) (n c : Nat) : Lp where
  σ := Nat
  E _ := slots 22 [(0, .slice (some ⟨0, 0, none⟩) n c), (1, fR1), (5, .slice (some ⟨1, 0, none⟩) 0 0)]
  Hp _ := [fR xs, rdR 0 (rdF xs tt1)]
  I s := s = 0
  m _ := 0
noncomputable def lpMr (xs : List Nat) (n c : Nat) : Lp where
  σ := Nat
  E i := slots 22 [(1, fR1), (5, .slice (some ⟨1, 0, none⟩) i 0), (8, .slice (some ⟨0, 0, none⟩) n c), (9, .int .i64 (Int.ofNat n)), (10, .int .i64 (Int.ofNat i))]
  Hp i := [fR xs, rdR i (rdF xs tt1)]
  I i := i ≤ n
  m i := n - i
noncomputable def hsMr (xs : List Nat) (n c : Nat) : Hs Tryz.prog where
  op y := if y = 400 then some (hIa Tryz.prog) else if y = 401 then some (hLd Tryz.prog (xF xs)) else if y = 503 then some (hCa Tryz.prog 93 orcRd1 okRd1) else if y = 505 then some (hAp Tryz.prog) else none
  cut y := if y = 2 then some (lpMr0 xs n c) else none
  lp _ := some (lpMr xs n c)
  cl y := if y = 2 then keep 22 [0, 1, 5] else keep 22 [1, 5, 8, 9, 10]
  nl y := if y = 2 then [.slot 5 2] else []
  au := au0 Tryz.prog
theorem mr_t (xs : List Nat) (n : Nat) (c : Nat) (K : Value → Heap → Prop) :
    (fnP Tryz.prog c0 (hsMr xs n c) (92 : FuncId) [Value.slice (some { block := (0 : Nat), off := (0 : Nat) }) n c, fR1] [fR xs] K) =
    ((∃ (s : Nat), Is (s = (0 : Nat)) ∧ [Value.slice (some { block := (0 : Nat), off := (0 : Nat) }) n c, Value.func (Fn.func (93 : Nat)) #[] #[], poi, poi, poi, Value.slice (some { block := (1 : Nat), off := (0 : Nat) }) (0 : Nat) (0 : Nat), poi, poi, poi, poi, poi, poi, poi, poi, poi, poi, poi, poi, poi, poi, poi, poi] = [Value.slice (some { block := (0 : Nat), off := (0 : Nat) }) n c, Value.func (Fn.func (93 : Nat)) #[] #[], poi, poi, poi, Value.slice (some { block := (1 : Nat), off := (0 : Nat) }) (0 : Nat) (0 : Nat), poi, poi, poi, poi, poi, poi, poi, poi, poi, poi, poi, poi, poi, poi, poi, poi] ∧ some (AObj.row (flts xs) (1 : Nat) true true true) :: some (AObj.row [] (2 : Nat) true true true) :: noH = some (AObj.row (flts xs) (1 : Nat) true true true) :: some (AObj.row [] (2 : Nat) true true true) :: noH) ∧ ∀ (s : Nat), Is (s = (0 : Nat)) → (∃ (s : Nat), Is (s ≤ n) ∧ [poi, Value.func (Fn.func (93 : Nat)) #[] #[], poi, poi, poi, Value.slice (some { block := (1 : Nat), off := (0 : Nat) }) (0 : Nat) (0 : Nat), poi, poi, Value.slice (some { block := (0 : Nat), off := (0 : Nat) }) n c, Value.int IntKind.i64 (↑n : Int), Value.int IntKind.i64 (0 : Int), poi, poi, poi, poi, poi, poi, poi, poi, poi, poi, poi] = [poi, Value.func (Fn.func (93 : Nat)) #[] #[], poi, poi, poi, Value.slice (some { block := (1 : Nat), off := (0 : Nat) }) s (0 : Nat), poi, poi, Value.slice (some { block := (0 : Nat), off := (0 : Nat) }) n c, Value.int IntKind.i64 (↑n : Int), Value.int IntKind.i64 (↑s : Int), poi, poi, poi, poi, poi, poi, poi, poi, poi, poi, poi] ∧ some (AObj.row (flts xs) (1 : Nat) true true true) :: some (AObj.row [] (2 : Nat) true true true) :: noH = some (AObj.row (flts xs) (1 : Nat) true true true) :: some (AObj.row (rdc s (rdF xs tt1)) (2 : Nat) true true true) :: noH) ∧ ∀ (s : Nat), Is (s ≤ n) → br (decide ((↑s : Int) < (↑n : Int))) (Is ((0 : Int) ≤ (↑s : Int) ∧ (↑s : Int) < (↑n : Int)) ∧ Is ((flts xs)[(0 : Nat) + Int.toNat (↑s : Int) * (1 : Nat)]? = some (Value.float FloatKind.f32 (List.getD xs ((0 : Nat) + Int.toNat (↑s : Int) * (1 : Nat)) (0 : Nat)))) ∧ Is (sE (List.getD xs ((0 : Nat) + Int.toNat (↑s : Int) * (1 : Nat)) (0 : Nat)) = (0 : Int)) ∧ Is (List.length (rdc s (rdF xs tt1)) = s * (2 : Nat) ∧ (s + (1 : Nat)) * (16 : Nat) ≤ (140737488355328 : Nat) ∧ s + (1 : Nat) ≤ (9223372036854775807 : Nat)) ∧ ∃ (s' : Nat), Is (s' ≤ n) ∧ Is (n - s' < n - s) ∧ [poi, Value.func (Fn.func (93 : Nat)) #[] #[], poi, poi, poi, Value.slice (some { block := (1 : Nat), off := (0 : Nat) }) (s + (1 : Nat)) (0 : Nat), poi, poi, Value.slice (some { block := (0 : Nat), off := (0 : Nat) }) n c, Value.int IntKind.i64 (↑n : Int), Value.int IntKind.i64 (IntKind.wrap IntKind.i64 ((↑s : Int) + (1 : Int))), poi, poi, poi, poi, poi, poi, poi, poi, poi, poi, poi] = [poi, Value.func (Fn.func (93 : Nat)) #[] #[], poi, poi, poi, Value.slice (some { block := (1 : Nat), off := (0 : Nat) }) s' (0 : Nat), poi, poi, Value.slice (some { block := (0 : Nat), off := (0 : Nat) }) n c, Value.int IntKind.i64 (↑n : Int), Value.int IntKind.i64 (↑s' : Int), poi, poi, poi, poi, poi, poi, poi, poi, poi, poi, poi] ∧ some (AObj.row (flts xs) (1 : Nat) true true true) :: some (AObj.row (rdc s (rdF xs tt1) ++ [Value.int IntKind.i64 (lev (List.getD xs ((0 : Nat) + Int.toNat (↑s : Int) * (1 : Nat)) (0 : Nat))), Value.bool true]) (2 : Nat) true true (List.all [Value.int IntKind.i64 (lev (List.getD xs ((0 : Nat) + Int.toNat (↑s : Int) * (1 : Nat)) (0 : Nat))), Value.bool true] atom)) :: noH = some (AObj.row (flts xs) (1 : Nat) true true true) :: some (AObj.row (rdc s' (rdF xs tt1)) (2 : Nat) true true true) :: noH) (K (Value.slice (some { block := (1 : Nat), off := (0 : Nat) }) s (0 : Nat)) (some (AObj.row (flts xs) (1 : Nat) true true true) :: some (AObj.row (rdc s (rdF xs tt1)) (2 : Nat) true true true) :: noH))) := by kernel_rfl
set_option maxRecDepth 100000 in
theorem mr_ok {xs : List Nat} {n c : Nat} (hn : xs.length = n) (h9 : n ≤ 100000) (hx : fi (xs.map sE) = 0) :
    SmallRes Tryz.prog 92 [.slice (some ⟨0, 0, none⟩) n c, fR1] [fR xs] (.slice (some ⟨1, 0, none⟩) n 0) [fR xs, rdR n (rdF xs tt1)] := by
  refine fnP_res hm c0_ok (hs := hsMr xs n c) ?_
  rw [mr_t]
  refine ⟨⟨(0 : Nat), ⟨rfl⟩, by first | trivial | rfl, by first | trivial | rfl⟩, fun _ _ => ⟨⟨(0 : Nat), ⟨by omega⟩, by first | trivial | rfl, by first | trivial | rfl⟩, fun s hs' => br_of (fun hc => ?_) (fun hc => ?_)⟩⟩
  · have hc := lt_of_dec hc
    simp only [Nat.zero_add, Nat.mul_one, Int.toNat_natCast]
    refine ⟨⟨by omega, by omega⟩, ⟨flts_at (by omega)⟩, ⟨smps hx (by omega)⟩, ⟨by rw [rdc_len], by omega, by omega⟩, s + 1, ⟨hc⟩, ⟨by omega⟩, ?_, by first | trivial | rfl⟩
    rw [up1 hc (by omega)]
  · have hc := ge_of_dec hc
    have : s = n := by have := hs'.out; omega
    subst this
    exact ⟨by first | trivial | rfl, by first | trivial | rfl⟩
noncomputable def orcMr (xs : List Nat) : OrcV
  | [.slice (some ⟨0, 0, none⟩) n _, .func (.func 93) ⟨[]⟩ ⟨[]⟩], [some (.row e1 1 true true true)] => some (.slice (some ⟨1, 0, none⟩) n 0, [some (.row e1 1 true true true), rdR n (rdF xs tt1)], e1 = flts xs ∧ xs.length = n ∧ n ≤ 100000 ∧ fi (xs.map sE) = 0)
  | _, _ => none
theorem okMr (xs : List Nat) : OkV Tryz.prog 92 (orcMr xs) := by
  intro args H ret H' vc h hv
  unfold orcMr at h
  split at h
  · cases h
    obtain ⟨rfl, h1, h2, h3⟩ := hv
    exact mr_ok h1 h2 h3
  · cases h
/- Readings of a run. -/
noncomputable def lpRr (nm : ByteArray) (f : Int) (n c k d : Nat) (xs : List Nat) (hs : List Int) : Lp where
  σ := Nat
  E s := slots 35 [(1, .pointer (some ⟨2, 0, none⟩)), (3, .slice (some ⟨3, 0, none⟩) n 0), (11, .slice (some ⟨1, 0, none⟩) k d), (12, .int .i64 (Int.ofNat k)), (13, .int .i64 (Int.ofNat s))]
  Hp s := hp2r xs hs true true true true [runO nm f n c k d, rdR n (rdF xs (knB (hs.take (s * 2))))]
  I s := s ≤ k
  m s := k - s
noncomputable def lpRi (nm : ByteArray) (f : Int) (n c k d : Nat) (xs : List Nat) (hs : List Int) (s : Nat) : Lp where
  σ := Nat
  E j := slots 35 [(1, .pointer (some ⟨2, 0, none⟩)), (3, .slice (some ⟨3, 0, none⟩) n 0), (5, .pointer (some ⟨4, 0, none⟩)), (11, .slice (some ⟨1, 0, none⟩) k d), (12, .int .i64 (Int.ofNat k)), (13, .int .i64 (Int.ofNat s)), (21, .int .i64 (hsz hs s)), (22, .int .i64 (Int.ofNat j))]
  Hp j := hp2r xs hs true true true true [runO nm f n c k d, rdR n (rdF xs (knT hs s j)), some (.row [.int .i64 (hs.getD (s * 2) 0), .int .i64 (hs.getD (s * 2 + 1) 0)] 0 false true true)]
  I j := s < k ∧ (j : Int) ≤ hsz hs s
  m j := (hsz hs s).toNat - j
noncomputable def hsRr (nm : ByteArray) (f : Int) (n c k d : Nat) (xs : List Nat) (hs : List Int) : Hs Tryz.prog where
  op y := if [400, 806].contains y then some (hIa Tryz.prog) else if y = 401 then some (hLd Tryz.prog (z2 hs)) else if y = 807 then some (hSp Tryz.prog) else none
  lp y := if y = 3 then some (lpRr nm f n c k d xs hs) else none
  lq y := if y = 6 then some ⟨Nat, lpRi nm f n c k d xs hs⟩ else none
  cl y := if y = 3 then keep 35 [1, 3, 11, 12, 13] else keep 35 [1, 3, 5, 11, 12, 13, 21, 22]
  au := auCalls [(92, hCa Tryz.prog 92 (orcMr xs) (okMr xs))]
theorem rr_t (nm : ByteArray) (f : Int) (n : Nat) (c : Nat) (k : Nat) (d : Nat) (xs : List Nat) (hs : List Int) (K : Value → Heap → Prop) :
    (fnP Tryz.prog c0 (hsRr nm f n c k d xs hs) (68 : FuncId) [Value.agg (List.toArray (runA nm f (0 : Nat) n c (1 : Nat) k d))] (hp2r xs hs true true true true []) K) =
    (Is (flts xs = flts xs ∧ List.length xs = n ∧ n ≤ (100000 : Nat) ∧ fi (List.map sE xs) = (0 : Int)) ∧ (∃ (s : Nat), Is (s ≤ k) ∧ [poi, Value.pointer (some { block := (2 : Nat), off := (0 : Nat) }), poi, Value.slice (some { block := (3 : Nat), off := (0 : Nat) }) n (0 : Nat), poi, poi, poi, poi, poi, poi, poi, Value.slice (some { block := (1 : Nat), off := (0 : Nat) }) k d, Value.int IntKind.i64 (↑k : Int), Value.int IntKind.i64 (0 : Int), poi, poi, poi, poi, poi, poi, poi, poi, poi, poi, poi, poi, poi, poi, poi, poi, poi, poi, poi, poi, poi] = [poi, Value.pointer (some { block := (2 : Nat), off := (0 : Nat) }), poi, Value.slice (some { block := (3 : Nat), off := (0 : Nat) }) n (0 : Nat), poi, poi, poi, poi, poi, poi, poi, Value.slice (some { block := (1 : Nat), off := (0 : Nat) }) k d, Value.int IntKind.i64 (↑k : Int), Value.int IntKind.i64 (↑s : Int), poi, poi, poi, poi, poi, poi, poi, poi, poi, poi, poi, poi, poi, poi, poi, poi, poi, poi, poi, poi, poi] ∧ some (AObj.row (flts xs) (1 : Nat) true true true) :: some (AObj.row (ints hs) (2 : Nat) true true true) :: some (AObj.row [Value.string nm, Value.int IntKind.i64 f, Value.slice (some { block := (0 : Nat), off := (0 : Nat) }) n c, Value.slice (some { block := (1 : Nat), off := (0 : Nat) }) k d] (0 : Nat) false true (List.all [Value.string nm, Value.int IntKind.i64 f, Value.slice (some { block := (0 : Nat), off := (0 : Nat) }) n c, Value.slice (some { block := (1 : Nat), off := (0 : Nat) }) k d] atom)) :: some (AObj.row (rdc n (rdF xs tt1)) (2 : Nat) true true true) :: noH = some (AObj.row (flts xs) (1 : Nat) true true true) :: some (AObj.row (ints hs) (2 : Nat) true true true) :: some (AObj.row [Value.string nm, Value.int IntKind.i64 f, Value.slice (some { block := (0 : Nat), off := (0 : Nat) }) n c, Value.slice (some { block := (1 : Nat), off := (0 : Nat) }) k d] (0 : Nat) false true false) :: some (AObj.row (rdc n (rdF xs (knB (List.take (s * (2 : Nat)) hs)))) (2 : Nat) true true true) :: noH) ∧ ∀ (s : Nat), Is (s ≤ k) → br (decide ((↑s : Int) < (↑k : Int))) (Is ((0 : Int) ≤ (↑s : Int) ∧ (↑s : Int) < (↑k : Int)) ∧ Is ((if (0 : Nat) + Int.toNat (↑s : Int) * (2 : Nat) + (2 : Nat) ≤ List.length (ints hs) then some (Value.agg (List.toArray (List.take (2 : Nat) (List.drop ((0 : Nat) + Int.toNat (↑s : Int) * (2 : Nat)) (ints hs))))) else none) = some (Value.agg #[Value.int IntKind.i64 (List.getD hs ((0 : Nat) + Int.toNat (↑s : Int) * (2 : Nat)) (0 : Int)), Value.int IntKind.i64 (List.getD hs ((0 : Nat) + Int.toNat (↑s : Int) * (2 : Nat) + (1 : Nat)) (0 : Int))])) ∧ ∃ (p : Nat), (∃ (s_1 : Nat), Is (p < k ∧ (↑s_1 : Int) ≤ hsz hs p) ∧ [poi, Value.pointer (some { block := (2 : Nat), off := (0 : Nat) }), poi, Value.slice (some { block := (3 : Nat), off := (0 : Nat) }) n (0 : Nat), poi, Value.pointer (some { block := (4 : Nat), off := (0 : Nat) }), poi, poi, poi, poi, poi, Value.slice (some { block := (1 : Nat), off := (0 : Nat) }) k d, Value.int IntKind.i64 (↑k : Int), Value.int IntKind.i64 (↑s : Int), poi, poi, poi, poi, poi, poi, poi, Value.int IntKind.i64 (IntKind.wrap IntKind.i64 (List.getD hs ((0 : Nat) + Int.toNat (↑s : Int) * (2 : Nat) + (1 : Nat)) (0 : Int) - List.getD hs ((0 : Nat) + Int.toNat (↑s : Int) * (2 : Nat)) (0 : Int))), Value.int IntKind.i64 (0 : Int), poi, poi, poi, poi, poi, poi, poi, poi, poi, poi, poi, poi] = [poi, Value.pointer (some { block := (2 : Nat), off := (0 : Nat) }), poi, Value.slice (some { block := (3 : Nat), off := (0 : Nat) }) n (0 : Nat), poi, Value.pointer (some { block := (4 : Nat), off := (0 : Nat) }), poi, poi, poi, poi, poi, Value.slice (some { block := (1 : Nat), off := (0 : Nat) }) k d, Value.int IntKind.i64 (↑k : Int), Value.int IntKind.i64 (↑p : Int), poi, poi, poi, poi, poi, poi, poi, Value.int IntKind.i64 (hsz hs p), Value.int IntKind.i64 (↑s_1 : Int), poi, poi, poi, poi, poi, poi, poi, poi, poi, poi, poi, poi] ∧ some (AObj.row (flts xs) (1 : Nat) true true true) :: some (AObj.row (ints hs) (2 : Nat) true true true) :: some (AObj.row [Value.string nm, Value.int IntKind.i64 f, Value.slice (some { block := (0 : Nat), off := (0 : Nat) }) n c, Value.slice (some { block := (1 : Nat), off := (0 : Nat) }) k d] (0 : Nat) false true false) :: some (AObj.row (rdc n (rdF xs (knB (List.take (s * (2 : Nat)) hs)))) (2 : Nat) true true true) :: some (AObj.row [Value.int IntKind.i64 (List.getD hs ((0 : Nat) + Int.toNat (↑s : Int) * (2 : Nat)) (0 : Int)), Value.int IntKind.i64 (List.getD hs ((0 : Nat) + Int.toNat (↑s : Int) * (2 : Nat) + (1 : Nat)) (0 : Int))] (0 : Nat) false true (true && List.all [Value.int IntKind.i64 (List.getD hs ((0 : Nat) + Int.toNat (↑s : Int) * (2 : Nat)) (0 : Int)), Value.int IntKind.i64 (List.getD hs ((0 : Nat) + Int.toNat (↑s : Int) * (2 : Nat) + (1 : Nat)) (0 : Int))] atom)) :: noH = some (AObj.row (flts xs) (1 : Nat) true true true) :: some (AObj.row (ints hs) (2 : Nat) true true true) :: some (AObj.row [Value.string nm, Value.int IntKind.i64 f, Value.slice (some { block := (0 : Nat), off := (0 : Nat) }) n c, Value.slice (some { block := (1 : Nat), off := (0 : Nat) }) k d] (0 : Nat) false true false) :: some (AObj.row (rdc n (rdF xs (knT hs p s_1))) (2 : Nat) true true true) :: some (AObj.row [Value.int IntKind.i64 (List.getD hs (p * (2 : Nat)) (0 : Int)), Value.int IntKind.i64 (List.getD hs (p * (2 : Nat) + (1 : Nat)) (0 : Int))] (0 : Nat) false true true) :: noH) ∧ ∀ (s_1 : Nat), Is (p < k ∧ (↑s_1 : Int) ≤ hsz hs p) → br (decide ((↑s_1 : Int) < hsz hs p)) (Is ((0 : Int) ≤ IntKind.wrap IntKind.i64 (List.getD hs (p * (2 : Nat)) (0 : Int) + (↑s_1 : Int)) ∧ IntKind.wrap IntKind.i64 (List.getD hs (p * (2 : Nat)) (0 : Int) + (↑s_1 : Int)) < (↑n : Int)) ∧ Is ((0 : Nat) + Int.toNat (IntKind.wrap IntKind.i64 (List.getD hs (p * (2 : Nat)) (0 : Int) + (↑s_1 : Int))) * (2 : Nat) + List.length [Value.int IntKind.i64 (0 : Int), Value.bool false] ≤ List.length (rdc n (rdF xs (knT hs p s_1)))) ∧ ∃ (s' : Nat), Is (p < k ∧ (↑s' : Int) ≤ hsz hs p) ∧ Is (Int.toNat (hsz hs p) - s' < Int.toNat (hsz hs p) - s_1) ∧ [poi, Value.pointer (some { block := (2 : Nat), off := (0 : Nat) }), poi, Value.slice (some { block := (3 : Nat), off := (0 : Nat) }) n (0 : Nat), poi, Value.pointer (some { block := (4 : Nat), off := (0 : Nat) }), poi, poi, poi, poi, poi, Value.slice (some { block := (1 : Nat), off := (0 : Nat) }) k d, Value.int IntKind.i64 (↑k : Int), Value.int IntKind.i64 (↑p : Int), poi, poi, poi, poi, poi, poi, poi, Value.int IntKind.i64 (hsz hs p), Value.int IntKind.i64 (IntKind.wrap IntKind.i64 ((↑s_1 : Int) + (1 : Int))), poi, poi, poi, poi, poi, poi, poi, poi, poi, poi, poi, poi] = [poi, Value.pointer (some { block := (2 : Nat), off := (0 : Nat) }), poi, Value.slice (some { block := (3 : Nat), off := (0 : Nat) }) n (0 : Nat), poi, Value.pointer (some { block := (4 : Nat), off := (0 : Nat) }), poi, poi, poi, poi, poi, Value.slice (some { block := (1 : Nat), off := (0 : Nat) }) k d, Value.int IntKind.i64 (↑k : Int), Value.int IntKind.i64 (↑p : Int), poi, poi, poi, poi, poi, poi, poi, Value.int IntKind.i64 (hsz hs p), Value.int IntKind.i64 (↑s' : Int), poi, poi, poi, poi, poi, poi, poi, poi, poi, poi, poi, poi] ∧ some (AObj.row (flts xs) (1 : Nat) true true true) :: some (AObj.row (ints hs) (2 : Nat) true true true) :: some (AObj.row [Value.string nm, Value.int IntKind.i64 f, Value.slice (some { block := (0 : Nat), off := (0 : Nat) }) n c, Value.slice (some { block := (1 : Nat), off := (0 : Nat) }) k d] (0 : Nat) false true false) :: some (AObj.row (putL (rdc n (rdF xs (knT hs p s_1))) ((0 : Nat) + Int.toNat (IntKind.wrap IntKind.i64 (List.getD hs (p * (2 : Nat)) (0 : Int) + (↑s_1 : Int))) * (2 : Nat)) [Value.int IntKind.i64 (0 : Int), Value.bool false]) (2 : Nat) true true (true && List.all [Value.int IntKind.i64 (0 : Int), Value.bool false] atom)) :: some (AObj.row [Value.int IntKind.i64 (List.getD hs (p * (2 : Nat)) (0 : Int)), Value.int IntKind.i64 (List.getD hs (p * (2 : Nat) + (1 : Nat)) (0 : Int))] (0 : Nat) false true true) :: noH = some (AObj.row (flts xs) (1 : Nat) true true true) :: some (AObj.row (ints hs) (2 : Nat) true true true) :: some (AObj.row [Value.string nm, Value.int IntKind.i64 f, Value.slice (some { block := (0 : Nat), off := (0 : Nat) }) n c, Value.slice (some { block := (1 : Nat), off := (0 : Nat) }) k d] (0 : Nat) false true false) :: some (AObj.row (rdc n (rdF xs (knT hs p s'))) (2 : Nat) true true true) :: some (AObj.row [Value.int IntKind.i64 (List.getD hs (p * (2 : Nat)) (0 : Int)), Value.int IntKind.i64 (List.getD hs (p * (2 : Nat) + (1 : Nat)) (0 : Int))] (0 : Nat) false true true) :: noH) (∃ (s' : Nat), Is (s' ≤ k) ∧ Is (k - s' < k - s) ∧ [poi, Value.pointer (some { block := (2 : Nat), off := (0 : Nat) }), poi, Value.slice (some { block := (3 : Nat), off := (0 : Nat) }) n (0 : Nat), poi, poi, poi, poi, poi, poi, poi, Value.slice (some { block := (1 : Nat), off := (0 : Nat) }) k d, Value.int IntKind.i64 (↑k : Int), Value.int IntKind.i64 (IntKind.wrap IntKind.i64 ((↑p : Int) + (1 : Int))), poi, poi, poi, poi, poi, poi, poi, poi, poi, poi, poi, poi, poi, poi, poi, poi, poi, poi, poi, poi, poi] = [poi, Value.pointer (some { block := (2 : Nat), off := (0 : Nat) }), poi, Value.slice (some { block := (3 : Nat), off := (0 : Nat) }) n (0 : Nat), poi, poi, poi, poi, poi, poi, poi, Value.slice (some { block := (1 : Nat), off := (0 : Nat) }) k d, Value.int IntKind.i64 (↑k : Int), Value.int IntKind.i64 (↑s' : Int), poi, poi, poi, poi, poi, poi, poi, poi, poi, poi, poi, poi, poi, poi, poi, poi, poi, poi, poi, poi, poi] ∧ some (AObj.row (flts xs) (1 : Nat) true true true) :: some (AObj.row (ints hs) (2 : Nat) true true true) :: some (AObj.row [Value.string nm, Value.int IntKind.i64 f, Value.slice (some { block := (0 : Nat), off := (0 : Nat) }) n c, Value.slice (some { block := (1 : Nat), off := (0 : Nat) }) k d] (0 : Nat) false true false) :: some (AObj.row (rdc n (rdF xs (knT hs p s_1))) (2 : Nat) true true true) :: noH = some (AObj.row (flts xs) (1 : Nat) true true true) :: some (AObj.row (ints hs) (2 : Nat) true true true) :: some (AObj.row [Value.string nm, Value.int IntKind.i64 f, Value.slice (some { block := (0 : Nat), off := (0 : Nat) }) n c, Value.slice (some { block := (1 : Nat), off := (0 : Nat) }) k d] (0 : Nat) false true false) :: some (AObj.row (rdc n (rdF xs (knB (List.take (s' * (2 : Nat)) hs)))) (2 : Nat) true true true) :: noH)) (K (Value.slice (some { block := (2 : Nat), off := (0 : Nat) }) n (0 : Nat)) (some (AObj.row (flts xs) (1 : Nat) true true true) :: some (AObj.row (ints hs) (2 : Nat) true true true) :: some (AObj.row (rdc n (rdF xs (knB (List.take (s * (2 : Nat)) hs)))) (2 : Nat) true true true) :: noH))) := by kernel_rfl
set_option maxRecDepth 100000 in
theorem rr_ok {nm : ByteArray} {f : Int} {n c k d : Nat} {xs : List Nat} {hs : List Int} (hn : xs.length = n) (h9 : n ≤ 100000) (hk : hs.length = k * 2) (hk9 : k ≤ 100000) (hx : fi (xs.map sE) = 0) (hh : hchk n hs (-1) = 0) :
    SmallRes Tryz.prog 68 [.agg (runA nm f 0 n c 1 k d).toArray] (hp2r xs hs true true true true []) (.slice (some ⟨2, 0, none⟩) n 0) (hp2r xs hs true true true true [rdR n (rdF xs (knB hs))]) := by
  refine fnP_res hm c0_ok (hs := hsRr nm f n c k d xs hs) ?_
  rw [rr_t]
  have e0 : rdc n (rdF xs tt1) = rdc n (rdF xs (knB (hs.take (0 * 2)))) := rdF_congr fun i => by rw [Nat.zero_mul, List.take_zero]; rfl
  refine ⟨⟨rfl, hn, h9, hx⟩, ⟨(0 : Nat), ⟨Nat.zero_le _⟩, by first | trivial | rfl, by rw [e0]; first | done | trivial | rfl⟩, fun s hs' => br_of (fun hc => ?_) (fun hc => ?_)⟩
  · have hc := lt_of_dec hc
    obtain ⟨_, a0, ab, bn⟩ := hchk_all hs (-1) hh s (by omega)
    have hz : IntKind.wrap .i64 (hs.getD (s * 2 + 1) 0 - hs.getD (s * 2) 0) = hsz hs s := by rw [hsz]; exact wrap_eq (by omega) (by omega)
    simp only [Nat.zero_add, Int.toNat_natCast, hz]
    have ez : rdc n (rdF xs (knB (hs.take (s * 2)))) = rdc n (rdF xs (knT hs s 0)) := rdF_congr fun i => (knT_zero i).symm
    refine ⟨⟨by omega, by omega⟩, ⟨ldh (by omega)⟩, s, ⟨(0 : Nat), ⟨hc, by rw [hsz]; omega⟩, by first | trivial | rfl, by rw [ez]; first | done | trivial | rfl⟩, fun j hj => br_of (fun hd => ?_) (fun hd => ?_)⟩
    · obtain ⟨_, j1⟩ := hj.out
      have hd : (j : Int) < hsz hs s := of_decide_eq_true hd
      have hzs : hsz hs s = hs.getD (s * 2 + 1) 0 - hs.getD (s * 2) 0 := rfl
      obtain ⟨A, hA⟩ := Int.eq_ofNat_of_zero_le a0
      have ew : IntKind.wrap .i64 (hs.getD (s * 2) 0 + (j : Int)) = ((A + j : Nat) : Int) := by rw [wrap_eq (by omega) (by omega)]; omega
      rw [ew]
      simp only [Int.toNat_natCast]
      have hput : putL (rdc n (rdF xs (knT hs s j))) ((A + j) * 2) [.int .i64 0, .bool false] = rdc n (rdF xs (knT hs s (j + 1))) := by
        refine (rdc_put (v := (0, false)) (show A + j < n by omega)).trans (rdc_congr fun i _ => rdF_put (by omega) i)
      refine ⟨⟨by omega, by omega⟩, ⟨by rw [rdc_len]; simp only [List.length_cons, List.length_nil]; omega⟩, j + 1, ⟨hc, by omega⟩, ⟨by omega⟩, ?_, ?_⟩
      · rw [wrap_eq (by omega) (by omega)]; first | done | trivial | rfl
      · rw [hput]; first | done | trivial | rfl
    · obtain ⟨_, j1⟩ := hj.out
      have hd : ¬ (j : Int) < hsz hs s := of_decide_eq_false hd
      have ef : rdc n (rdF xs (knT hs s j)) = rdc n (rdF xs (knB (hs.take ((s + 1) * 2)))) := rdF_congr fun i => knT_full (by omega) (by omega) i
      refine ⟨s + 1, ⟨hc⟩, ⟨by omega⟩, by rw [up1 hc (by omega)], by rw [ef]⟩
  · have hc := ge_of_dec hc
    have : s = k := by have := hs'.out; omega
    subst this
    rw [List.take_of_length_le (by omega)]
    exact ⟨by first | trivial | rfl, by first | trivial | rfl⟩
noncomputable def orcRr (xs : List Nat) (hs : List Int) : OrcV
  | [.agg ⟨[.string _nm, .int .i64 _f, .slice (some ⟨0, 0, none⟩) n _, .slice (some ⟨1, 0, none⟩) k _]⟩], [some (.row e1 1 true true true), some (.row e2 2 true true true)] =>
    some (.slice (some ⟨2, 0, none⟩) n 0, [some (.row e1 1 true true true), some (.row e2 2 true true true), rdR n (rdF xs (knB hs))], isRun xs hs n k e1 e2 ∧ fi (xs.map sE) = 0 ∧ hchk n hs (-1) = 0)
  | _, _ => none
theorem okRr (xs : List Nat) (hs : List Int) : OkV Tryz.prog 68 (orcRr xs hs) := by
  intro args H ret H' vc h hv
  unfold orcRr at h
  split at h
  · cases h
    obtain ⟨⟨rfl, rfl, h1, h2, h3, h4⟩, h5, h6⟩ := hv
    exact rr_ok h1 h2 h3 h4 h5 h6
  · cases h
end
end Qq
end
section
/- Windows of a run: the program's iterator. -/
open Go Go.Vm Go.Proofs Sp
namespace Sp
noncomputable section
/-- The index of moments: the variance, rounded. -/
noncomputable def rnd (a b : Int) : Int := (2 * a + b) / (2 * b)
noncomputable def ixM (m : Int × Int × Int) (z : Int) : Int := if m.1 = z then rnd (m.1 * m.2.2 - m.2.1 * m.2.1) (m.1 * m.1) else -1
noncomputable def wnM (xs : List Nat) (hs : List Int) (z i : Nat) : Int × Int × Int := mo xs hs (i * z) z
end
end Sp
namespace Qq
noncomputable section
noncomputable def hcN (nm : ByteArray) (f : Int) (n c k d : Nat) (xs : List Nat) (hs : List Int) (z : Nat) : Heap := [some (.row [.int .i64 (z : Int)] 0 false false true), some (.row (runA nm f 2 n c 3 k d) 0 false false false), some (.row (flts xs) 1 true false true), some (.row (ints hs) 2 true false true)]
noncomputable def elN (xs : List Nat) (hs : List Int) (z i : Nat) : List Value := [.int .i64 ((i * z : Nat) : Int), .agg (moC (wnM xs hs z i)).toArray]
noncomputable def lyN (nm : ByteArray) (f : Int) (n c k d : Nat) (xs : List Nat) (hs : List Int) (z l : Nat) : Ly where
  σ := Nat
  E i := slots 43 [(0, .func (.yield l) #[] #[]), (1, .pointer (some ⟨0, 0, none⟩)), (2, .pointer (some ⟨1, 0, none⟩)), (4, .int .i64 ((i * z : Nat) : Int))]
  Hp _ := hcN nm f n c k d xs hs z
  I i := i ≤ n / z
  m i := n / z - i
  gi i := i
noncomputable def lqN (nm : ByteArray) (f : Int) (n c k d : Nat) (xs : List Nat) (hs : List Int) (z l w : Nat) : Lp where
  σ := Nat
  E j := slots 43 [(0, .func (.yield l) #[] #[]), (1, .pointer (some ⟨0, 0, none⟩)), (2, .pointer (some ⟨1, 0, none⟩)), (4, .int .i64 ((w * z : Nat) : Int)), (5, .pointer (some ⟨4, 0, none⟩)), (17, .int .i64 (z : Int)), (18, .int .i64 (Int.ofNat j))]
  Hp j := [some (.row [.int .i64 (z : Int)] 0 false false true), some (.row (runA nm f 2 n c 3 k d) 0 false false false), some (.row (flts xs) 1 true false true), some (.row (ints hs) 2 true false true), some (.row (moC (mo xs hs (w * z) j)) 0 false true true)]
  I j := j ≤ z
  m j := z - j
noncomputable def hsN (nm : ByteArray) (f : Int) (n c k d : Nat) (xs : List Nat) (hs : List Int) (z l : Nat) : Ys Tryz.prog where
  op y := if y = 806 then some (hIa Tryz.prog) else if y = 807 then some (hLd Tryz.prog (xF xs)) else none
  ys := [10]
  ly _ := some (lyN nm f n c k d xs hs z l)
  lq _ := some ⟨Nat, lqN nm f n c k d xs hs z l⟩
  cl y := if y = 1 then keep 43 [0, 1, 2, 4] else keep 43 [0, 1, 2, 4, 5, 17, 18]
  au := auCalls [(102, hCa Tryz.prog 102 (orcHd xs hs) (okHd xs hs)), (104, hCa Tryz.prog 104 orcLev okLev)]
noncomputable def cpN : List Value := [.pointer (some ⟨0, 0, none⟩), .pointer (some ⟨1, 0, none⟩)]
theorem itN_t (nm : ByteArray) (f : Int) (n : Nat) (c : Nat) (k : Nat) (d : Nat) (xs : List Nat) (hs : List Int) (z : Nat) (_K : Prop) :
    (iterZ Tryz.prog c0 (hsN nm f n c k d xs hs z) (hcN nm f n c k d xs hs z) (n / z) (elN xs hs z) (101 : FuncId) cpN) =
    (∀ (l : Nat), (false = false ∧ ∃ (s : Nat), Is (s ≤ n / z) ∧ Is ((0 : Nat) = s) ∧ [Value.func (Fn.yield l) #[] #[], Value.pointer (some { block := (0 : Nat), off := (0 : Nat) }), Value.pointer (some { block := (1 : Nat), off := (0 : Nat) }), poi, Value.int IntKind.i64 (0 : Int), poi, poi, poi, poi, poi, poi, poi, poi, poi, poi, poi, poi, poi, poi, poi, poi, poi, poi, poi, poi, poi, poi, poi, poi, poi, poi, poi, poi, poi, poi, poi, poi, poi, poi, poi, poi, poi, poi] = [Value.func (Fn.yield l) #[] #[], Value.pointer (some { block := (0 : Nat), off := (0 : Nat) }), Value.pointer (some { block := (1 : Nat), off := (0 : Nat) }), poi, Value.int IntKind.i64 (↑(s * z) : Int), poi, poi, poi, poi, poi, poi, poi, poi, poi, poi, poi, poi, poi, poi, poi, poi, poi, poi, poi, poi, poi, poi, poi, poi, poi, poi, poi, poi, poi, poi, poi, poi, poi, poi, poi, poi, poi, poi] ∧ some (AObj.row [Value.int IntKind.i64 (↑z : Int)] (0 : Nat) false false true) :: some (AObj.row [Value.string nm, Value.int IntKind.i64 f, Value.slice (some { block := (2 : Nat), off := (0 : Nat) }) n c, Value.slice (some { block := (3 : Nat), off := (0 : Nat) }) k d] (0 : Nat) false false false) :: some (AObj.row (flts xs) (1 : Nat) true false true) :: some (AObj.row (ints hs) (2 : Nat) true false true) :: noH = some (AObj.row [Value.int IntKind.i64 (↑z : Int)] (0 : Nat) false false true) :: some (AObj.row [Value.string nm, Value.int IntKind.i64 f, Value.slice (some { block := (2 : Nat), off := (0 : Nat) }) n c, Value.slice (some { block := (3 : Nat), off := (0 : Nat) }) k d] (0 : Nat) false false false) :: some (AObj.row (flts xs) (1 : Nat) true false true) :: some (AObj.row (ints hs) (2 : Nat) true false true) :: noH) ∧ ∀ (s : Nat), Is (s ≤ n / z) → br (decide (IntKind.wrap IntKind.i64 ((↑(s * z) : Int) + (↑z : Int)) ≤ (↑n : Int))) (∃ (p : Nat), (∃ (s_1 : Nat), Is (s_1 ≤ z) ∧ [Value.func (Fn.yield l) #[] #[], Value.pointer (some { block := (0 : Nat), off := (0 : Nat) }), Value.pointer (some { block := (1 : Nat), off := (0 : Nat) }), poi, Value.int IntKind.i64 (↑(s * z) : Int), Value.pointer (some { block := (4 : Nat), off := (0 : Nat) }), poi, poi, poi, poi, poi, poi, poi, poi, poi, poi, poi, Value.int IntKind.i64 (↑z : Int), Value.int IntKind.i64 (0 : Int), poi, poi, poi, poi, poi, poi, poi, poi, poi, poi, poi, poi, poi, poi, poi, poi, poi, poi, poi, poi, poi, poi, poi, poi] = [Value.func (Fn.yield l) #[] #[], Value.pointer (some { block := (0 : Nat), off := (0 : Nat) }), Value.pointer (some { block := (1 : Nat), off := (0 : Nat) }), poi, Value.int IntKind.i64 (↑(p * z) : Int), Value.pointer (some { block := (4 : Nat), off := (0 : Nat) }), poi, poi, poi, poi, poi, poi, poi, poi, poi, poi, poi, Value.int IntKind.i64 (↑z : Int), Value.int IntKind.i64 (↑s_1 : Int), poi, poi, poi, poi, poi, poi, poi, poi, poi, poi, poi, poi, poi, poi, poi, poi, poi, poi, poi, poi, poi, poi, poi, poi] ∧ some (AObj.row [Value.int IntKind.i64 (↑z : Int)] (0 : Nat) false false true) :: some (AObj.row [Value.string nm, Value.int IntKind.i64 f, Value.slice (some { block := (2 : Nat), off := (0 : Nat) }) n c, Value.slice (some { block := (3 : Nat), off := (0 : Nat) }) k d] (0 : Nat) false false false) :: some (AObj.row (flts xs) (1 : Nat) true false true) :: some (AObj.row (ints hs) (2 : Nat) true false true) :: some (AObj.row [Value.int IntKind.i64 (0 : Int), Value.int IntKind.i64 (0 : Int), Value.int IntKind.i64 (0 : Int)] (0 : Nat) false true true) :: noH = some (AObj.row [Value.int IntKind.i64 (↑z : Int)] (0 : Nat) false false true) :: some (AObj.row [Value.string nm, Value.int IntKind.i64 f, Value.slice (some { block := (2 : Nat), off := (0 : Nat) }) n c, Value.slice (some { block := (3 : Nat), off := (0 : Nat) }) k d] (0 : Nat) false false false) :: some (AObj.row (flts xs) (1 : Nat) true false true) :: some (AObj.row (ints hs) (2 : Nat) true false true) :: some (AObj.row [Value.int IntKind.i64 (Prod.fst (mo xs hs (p * z) s_1)), Value.int IntKind.i64 (Prod.fst (Prod.snd (mo xs hs (p * z) s_1))), Value.int IntKind.i64 (Prod.snd (Prod.snd (mo xs hs (p * z) s_1)))] (0 : Nat) false true true) :: noH) ∧ ∀ (s_1 : Nat), Is (s_1 ≤ z) → br (decide ((↑s_1 : Int) < (↑z : Int))) (Is (isRn0 xs hs k (flts xs) (ints hs) ∧ false = false) ∧ br (!!knB hs (IntKind.wrap IntKind.i64 ((↑(p * z) : Int) + (↑s_1 : Int)))) (Is ((0 : Int) ≤ IntKind.wrap IntKind.i64 ((↑(p * z) : Int) + (↑s_1 : Int)) ∧ IntKind.wrap IntKind.i64 ((↑(p * z) : Int) + (↑s_1 : Int)) < (↑n : Int)) ∧ Is ((flts xs)[(0 : Nat) + Int.toNat (IntKind.wrap IntKind.i64 ((↑(p * z) : Int) + (↑s_1 : Int))) * (1 : Nat)]? = some (Value.float FloatKind.f32 (List.getD xs ((0 : Nat) + Int.toNat (IntKind.wrap IntKind.i64 ((↑(p * z) : Int) + (↑s_1 : Int))) * (1 : Nat)) (0 : Nat)))) ∧ Is (sE (List.getD xs ((0 : Nat) + Int.toNat (IntKind.wrap IntKind.i64 ((↑(p * z) : Int) + (↑s_1 : Int))) * (1 : Nat)) (0 : Nat)) = (0 : Int)) ∧ ∃ (s' : Nat), Is (s' ≤ z) ∧ Is (z - s' < z - s_1) ∧ [Value.func (Fn.yield l) #[] #[], Value.pointer (some { block := (0 : Nat), off := (0 : Nat) }), Value.pointer (some { block := (1 : Nat), off := (0 : Nat) }), poi, Value.int IntKind.i64 (↑(p * z) : Int), Value.pointer (some { block := (4 : Nat), off := (0 : Nat) }), poi, poi, poi, poi, poi, poi, poi, poi, poi, poi, poi, Value.int IntKind.i64 (↑z : Int), Value.int IntKind.i64 (IntKind.wrap IntKind.i64 ((↑s_1 : Int) + (1 : Int))), poi, poi, poi, poi, poi, poi, poi, poi, poi, poi, poi, poi, poi, poi, poi, poi, poi, poi, poi, poi, poi, poi, poi, poi] = [Value.func (Fn.yield l) #[] #[], Value.pointer (some { block := (0 : Nat), off := (0 : Nat) }), Value.pointer (some { block := (1 : Nat), off := (0 : Nat) }), poi, Value.int IntKind.i64 (↑(p * z) : Int), Value.pointer (some { block := (4 : Nat), off := (0 : Nat) }), poi, poi, poi, poi, poi, poi, poi, poi, poi, poi, poi, Value.int IntKind.i64 (↑z : Int), Value.int IntKind.i64 (↑s' : Int), poi, poi, poi, poi, poi, poi, poi, poi, poi, poi, poi, poi, poi, poi, poi, poi, poi, poi, poi, poi, poi, poi, poi, poi] ∧ some (AObj.row [Value.int IntKind.i64 (↑z : Int)] (0 : Nat) false false true) :: some (AObj.row [Value.string nm, Value.int IntKind.i64 f, Value.slice (some { block := (2 : Nat), off := (0 : Nat) }) n c, Value.slice (some { block := (3 : Nat), off := (0 : Nat) }) k d] (0 : Nat) false false false) :: some (AObj.row (flts xs) (1 : Nat) true false true) :: some (AObj.row (ints hs) (2 : Nat) true false true) :: some (AObj.row [Value.int IntKind.i64 (IntKind.wrap IntKind.i64 (Prod.fst (mo xs hs (p * z) s_1) + (1 : Int))), Value.int IntKind.i64 (IntKind.wrap IntKind.i64 (Prod.fst (Prod.snd (mo xs hs (p * z) s_1)) + lev (List.getD xs ((0 : Nat) + Int.toNat (IntKind.wrap IntKind.i64 ((↑(p * z) : Int) + (↑s_1 : Int))) * (1 : Nat)) (0 : Nat)))), Value.int IntKind.i64 (IntKind.wrap IntKind.i64 (Prod.snd (Prod.snd (mo xs hs (p * z) s_1)) + IntKind.wrap IntKind.i64 (lev (List.getD xs ((0 : Nat) + Int.toNat (IntKind.wrap IntKind.i64 ((↑(p * z) : Int) + (↑s_1 : Int))) * (1 : Nat)) (0 : Nat)) * lev (List.getD xs ((0 : Nat) + Int.toNat (IntKind.wrap IntKind.i64 ((↑(p * z) : Int) + (↑s_1 : Int))) * (1 : Nat)) (0 : Nat)))))] (0 : Nat) false true (true && List.all [Value.int IntKind.i64 (IntKind.wrap IntKind.i64 (Prod.fst (mo xs hs (p * z) s_1) + (1 : Int))), Value.int IntKind.i64 (IntKind.wrap IntKind.i64 (Prod.fst (Prod.snd (mo xs hs (p * z) s_1)) + lev (List.getD xs ((0 : Nat) + Int.toNat (IntKind.wrap IntKind.i64 ((↑(p * z) : Int) + (↑s_1 : Int))) * (1 : Nat)) (0 : Nat)))), Value.int IntKind.i64 (IntKind.wrap IntKind.i64 (Prod.snd (Prod.snd (mo xs hs (p * z) s_1)) + IntKind.wrap IntKind.i64 (lev (List.getD xs ((0 : Nat) + Int.toNat (IntKind.wrap IntKind.i64 ((↑(p * z) : Int) + (↑s_1 : Int))) * (1 : Nat)) (0 : Nat)) * lev (List.getD xs ((0 : Nat) + Int.toNat (IntKind.wrap IntKind.i64 ((↑(p * z) : Int) + (↑s_1 : Int))) * (1 : Nat)) (0 : Nat)))))] atom)) :: noH = some (AObj.row [Value.int IntKind.i64 (↑z : Int)] (0 : Nat) false false true) :: some (AObj.row [Value.string nm, Value.int IntKind.i64 f, Value.slice (some { block := (2 : Nat), off := (0 : Nat) }) n c, Value.slice (some { block := (3 : Nat), off := (0 : Nat) }) k d] (0 : Nat) false false false) :: some (AObj.row (flts xs) (1 : Nat) true false true) :: some (AObj.row (ints hs) (2 : Nat) true false true) :: some (AObj.row [Value.int IntKind.i64 (Prod.fst (mo xs hs (p * z) s')), Value.int IntKind.i64 (Prod.fst (Prod.snd (mo xs hs (p * z) s'))), Value.int IntKind.i64 (Prod.snd (Prod.snd (mo xs hs (p * z) s')))] (0 : Nat) false true true) :: noH) (∃ (s' : Nat), Is (s' ≤ z) ∧ Is (z - s' < z - s_1) ∧ [Value.func (Fn.yield l) #[] #[], Value.pointer (some { block := (0 : Nat), off := (0 : Nat) }), Value.pointer (some { block := (1 : Nat), off := (0 : Nat) }), poi, Value.int IntKind.i64 (↑(p * z) : Int), Value.pointer (some { block := (4 : Nat), off := (0 : Nat) }), poi, poi, poi, poi, poi, poi, poi, poi, poi, poi, poi, Value.int IntKind.i64 (↑z : Int), Value.int IntKind.i64 (IntKind.wrap IntKind.i64 ((↑s_1 : Int) + (1 : Int))), poi, poi, poi, poi, poi, poi, poi, poi, poi, poi, poi, poi, poi, poi, poi, poi, poi, poi, poi, poi, poi, poi, poi, poi] = [Value.func (Fn.yield l) #[] #[], Value.pointer (some { block := (0 : Nat), off := (0 : Nat) }), Value.pointer (some { block := (1 : Nat), off := (0 : Nat) }), poi, Value.int IntKind.i64 (↑(p * z) : Int), Value.pointer (some { block := (4 : Nat), off := (0 : Nat) }), poi, poi, poi, poi, poi, poi, poi, poi, poi, poi, poi, Value.int IntKind.i64 (↑z : Int), Value.int IntKind.i64 (↑s' : Int), poi, poi, poi, poi, poi, poi, poi, poi, poi, poi, poi, poi, poi, poi, poi, poi, poi, poi, poi, poi, poi, poi, poi, poi] ∧ some (AObj.row [Value.int IntKind.i64 (↑z : Int)] (0 : Nat) false false true) :: some (AObj.row [Value.string nm, Value.int IntKind.i64 f, Value.slice (some { block := (2 : Nat), off := (0 : Nat) }) n c, Value.slice (some { block := (3 : Nat), off := (0 : Nat) }) k d] (0 : Nat) false false false) :: some (AObj.row (flts xs) (1 : Nat) true false true) :: some (AObj.row (ints hs) (2 : Nat) true false true) :: some (AObj.row [Value.int IntKind.i64 (Prod.fst (mo xs hs (p * z) s_1)), Value.int IntKind.i64 (Prod.fst (Prod.snd (mo xs hs (p * z) s_1))), Value.int IntKind.i64 (Prod.snd (Prod.snd (mo xs hs (p * z) s_1)))] (0 : Nat) false true true) :: noH = some (AObj.row [Value.int IntKind.i64 (↑z : Int)] (0 : Nat) false false true) :: some (AObj.row [Value.string nm, Value.int IntKind.i64 f, Value.slice (some { block := (2 : Nat), off := (0 : Nat) }) n c, Value.slice (some { block := (3 : Nat), off := (0 : Nat) }) k d] (0 : Nat) false false false) :: some (AObj.row (flts xs) (1 : Nat) true false true) :: some (AObj.row (ints hs) (2 : Nat) true false true) :: some (AObj.row [Value.int IntKind.i64 (Prod.fst (mo xs hs (p * z) s')), Value.int IntKind.i64 (Prod.fst (Prod.snd (mo xs hs (p * z) s'))), Value.int IntKind.i64 (Prod.snd (Prod.snd (mo xs hs (p * z) s')))] (0 : Nat) false true true) :: noH)) (Is (s < n / z) ∧ l = l ∧ [Value.int IntKind.i64 (↑(p * z) : Int), Value.agg #[Value.int IntKind.i64 (Prod.fst (mo xs hs (p * z) s_1)), Value.int IntKind.i64 (Prod.fst (Prod.snd (mo xs hs (p * z) s_1))), Value.int IntKind.i64 (Prod.snd (Prod.snd (mo xs hs (p * z) s_1)))]] = [Value.int IntKind.i64 (↑(s * z) : Int), Value.agg #[Value.int IntKind.i64 (Prod.fst (wnM xs hs z s)), Value.int IntKind.i64 (Prod.fst (Prod.snd (wnM xs hs z s))), Value.int IntKind.i64 (Prod.snd (Prod.snd (wnM xs hs z s)))]] ∧ (false = false ∧ ∃ (s' : Nat), Is (s' ≤ n / z) ∧ Is (n / z - s' < n / z - s) ∧ Is (s + (1 : Nat) = s') ∧ [Value.func (Fn.yield l) #[] #[], Value.pointer (some { block := (0 : Nat), off := (0 : Nat) }), Value.pointer (some { block := (1 : Nat), off := (0 : Nat) }), poi, Value.int IntKind.i64 (IntKind.wrap IntKind.i64 ((↑(p * z) : Int) + (↑z : Int))), poi, poi, poi, poi, poi, poi, poi, poi, poi, poi, poi, poi, poi, poi, poi, poi, poi, poi, poi, poi, poi, poi, poi, poi, poi, poi, poi, poi, poi, poi, poi, poi, poi, poi, poi, poi, poi, poi] = [Value.func (Fn.yield l) #[] #[], Value.pointer (some { block := (0 : Nat), off := (0 : Nat) }), Value.pointer (some { block := (1 : Nat), off := (0 : Nat) }), poi, Value.int IntKind.i64 (↑(s' * z) : Int), poi, poi, poi, poi, poi, poi, poi, poi, poi, poi, poi, poi, poi, poi, poi, poi, poi, poi, poi, poi, poi, poi, poi, poi, poi, poi, poi, poi, poi, poi, poi, poi, poi, poi, poi, poi, poi, poi] ∧ some (AObj.row [Value.int IntKind.i64 (↑z : Int)] (0 : Nat) false false true) :: some (AObj.row [Value.string nm, Value.int IntKind.i64 f, Value.slice (some { block := (2 : Nat), off := (0 : Nat) }) n c, Value.slice (some { block := (3 : Nat), off := (0 : Nat) }) k d] (0 : Nat) false false false) :: some (AObj.row (flts xs) (1 : Nat) true false true) :: some (AObj.row (ints hs) (2 : Nat) true false true) :: noH = some (AObj.row [Value.int IntKind.i64 (↑z : Int)] (0 : Nat) false false true) :: some (AObj.row [Value.string nm, Value.int IntKind.i64 f, Value.slice (some { block := (2 : Nat), off := (0 : Nat) }) n c, Value.slice (some { block := (3 : Nat), off := (0 : Nat) }) k d] (0 : Nat) false false false) :: some (AObj.row (flts xs) (1 : Nat) true false true) :: some (AObj.row (ints hs) (2 : Nat) true false true) :: noH) ∧ Is (s < n / z))) (Is (s = n / z))) := by kernel_rfl
theorem win_in {n z i : Nat} (_hz : 0 < z) (h : i < n / z) : (i + 1) * z ≤ n := by
  have := Nat.mul_le_of_le_div z (i + 1) n h
  omega
theorem win_out {n z i : Nat} (hz : 0 < z) (h : i ≤ n / z) (h2 : ¬ i * z + z ≤ n) : i = n / z := by
  rcases Nat.lt_or_ge i (n / z) with h' | h'
  · have := win_in hz h'
    rw [Nat.add_mul] at this
    omega
  · omega
set_option maxRecDepth 100000 in
theorem itN_ok {nm : ByteArray} {f : Int} {n c k d : Nat} {xs : List Nat} {hs : List Int} {z : Nat} (hr : runE nm f xs n hs = 0) (hn : xs.length = n) (hk : hs.length = k * 2) (hk9 : k ≤ 100000) (z0 : 0 < z) (z1 : z ≤ 256) :
    IterRes Tryz.prog 101 cpN (hcN nm f n c k d xs hs z) (n / z) (elN xs hs z) :=
  iterZ_ok (hz := hsN nm f n c k d xs hs z) hm c0_ok (by
    rw [itN_t nm f n c k d xs hs z True]
    obtain ⟨_, _, hn4, _, hx, _, _⟩ := run_zero hr
    refine fun l => ⟨⟨rfl, (0 : Nat), ⟨Nat.zero_le _⟩, ⟨rfl⟩, by (rw [Nat.zero_mul]) <;> first | trivial | rfl, by first | trivial | rfl⟩, fun i hi => ?_⟩
    have hi := hi.out
    have hin : i * z ≤ n := Nat.le_trans (Nat.mul_le_mul_right z hi) (Nat.div_mul_le_self n z)
    rw [wrap_eq (x := ((i * z : Nat) : Int) + (z : Int)) (by omega) (by omega)]
    refine br_of (fun hc => ?_) (fun hc => ⟨win_out z0 hi (by have := of_decide_eq_false hc; omega)⟩)
    have hc : i * z + z ≤ n := by have := of_decide_eq_true hc; omega
    have hlt : i < n / z := by
      rw [Nat.lt_iff_add_one_le, Nat.le_div_iff_mul_le z0, Nat.add_mul]; omega
    refine ⟨i, ⟨(0 : Nat), ⟨Nat.zero_le _⟩, by first | trivial | rfl, by first | trivial | rfl⟩, fun j hj => br_of (fun hjc => ?_) (fun hjc => ?_)⟩
    · have hjc := lt_of_dec hjc
      have hb := mo_bd (hs := hs) (a := i * z) hx j (by omega)
      have hsm := smps hx (show i * z + j < xs.length by omega)
      have w3 : IntKind.wrap .i64 (((i * z : Nat) : Int) + (j : Int)) = ((i * z + j : Nat) : Int) := by rw [wrap_eq (by omega) (by omega)]; omega
      simp only [Nat.mul_one, Nat.zero_add, Int.toNat_natCast, w3]
      refine ⟨⟨⟨rfl, rfl, hk, hk9⟩, by first | trivial | rfl⟩, br_of (fun hkn => ⟨⟨by omega, by omega⟩, ⟨flts_at (by omega)⟩, ⟨hsm⟩, j + 1, ⟨hjc⟩, ⟨by omega⟩, ?_, ?_⟩) (fun hkn => ⟨j + 1, ⟨hjc⟩, ⟨by omega⟩, ?_, ?_⟩)⟩
      · rw [up1 hjc (by omega)]
      · have hkn : knB hs ((i * z + j : Nat) : Int) = true := by simpa using hkn
        rw [hb.wraps (by omega) (Fl.smp hsm).few, mo, if_pos hkn]
        first | done | trivial | rfl
      · rw [up1 hjc (by omega)]
      · have hkn : ¬ knB hs ((i * z + j : Nat) : Int) = true := by simpa using hkn
        rw [mo, if_neg hkn]
    · have hjz : j = z := by
        have := ge_of_dec hjc
        have := hj.out
        omega
      subst hjz
      have w4 : IntKind.wrap .i64 (((i * j : Nat) : Int) + (j : Int)) = (((i + 1) * j : Nat) : Int) := by
        rw [wrap_eq (by omega) (by omega), Nat.add_mul, Nat.one_mul, Int.natCast_add]
      refine ⟨⟨hlt⟩, by first | trivial | rfl, by first | trivial | rfl, ⟨by first | trivial | rfl, i + 1, ⟨hlt⟩, ⟨by omega⟩, ⟨rfl⟩, ?_, by first | trivial | rfl⟩, ⟨hlt⟩⟩
      rw [w4])
end
end Qq
end
section
/- Indices of windows: the program, and the reference. -/
open Go Go.Vm Go.Proofs Sp
namespace Sp
noncomputable section
noncomputable def ixL (xs : List Nat) (hs : List Int) (z m : Nat) : List Int := (List.range m).map fun i => ixM (wnM xs hs z i) z
end
end Sp
namespace Qq
noncomputable section
noncomputable def hsRnd : Hs Tryz.prog where
  au := auCalls [(99, hCa Tryz.prog 99 orcFl okFlP)]
theorem rndP_t (a : Int) (b : Int) (K : Value → Heap → Prop) :
    (fnP Tryz.prog c0 hsRnd (97 : FuncId) [Value.int IntKind.i64 a, Value.int IntKind.i64 b] [] K) =
    (Is ((0 : Int) < IntKind.wrap IntKind.i64 ((2 : Int) * b) ∧ IntKind.wrap IntKind.i64 ((2 : Int) * b) ≤ (4000000000000000000 : Int) ∧ (-4000000000000000000 : Int) ≤ IntKind.wrap IntKind.i64 (IntKind.wrap IntKind.i64 ((2 : Int) * a) + b) ∧ IntKind.wrap IntKind.i64 (IntKind.wrap IntKind.i64 ((2 : Int) * a) + b) ≤ (4000000000000000000 : Int)) ∧ K (Value.int IntKind.i64 (IntKind.wrap IntKind.i64 (IntKind.wrap IntKind.i64 ((2 : Int) * a) + b) / IntKind.wrap IntKind.i64 ((2 : Int) * b))) noH) := by kernel_rfl
noncomputable def orcRnd : OrcV
  | [.int .i64 a, .int .i64 b], [] => some (.int .i64 (rnd a b), [], 0 < b ∧ b ≤ 1000000000 ∧ -1000000000000000000 ≤ a ∧ a ≤ 1000000000000000000)
  | _, _ => none
theorem okRnd : OkV Tryz.prog 97 orcRnd := by
  intro args H ret H' vc h hv
  unfold orcRnd at h
  split at h
  · rename_i a b
    cases h
    obtain ⟨b0, b1, a0, a1⟩ := hv
    refine fnP_res hm c0_ok (hs := hsRnd) ?_
    rw [rndP_t, wrap_eq (x := 2 * a) (by omega) (by omega), wrap_eq (x := 2 * b) (by omega) (by omega), wrap_eq (x := 2 * a + b) (by omega) (by omega)]
    exact ⟨⟨by omega, by omega, by omega, by omega⟩, by first | trivial | rfl, by first | trivial | rfl⟩
  · cases h
noncomputable def itI (nm : ByteArray) (f : Int) (n c k d : Nat) (xs : List Nat) (hs : List Int) (z : Nat) : It Tryz.prog where
  gf := 101
  fn cap H := some (n / z, elN xs hs z, (cap = cpN ∧ H = hcN nm f n c k d xs hs z) ∧ runE nm f xs n hs = 0 ∧ xs.length = n ∧ hs.length = k * 2 ∧ k ≤ 100000 ∧ 0 < z ∧ z ≤ 256)
  ok := by
    intro cap H N el vc h hv
    cases h
    obtain ⟨⟨rfl, rfl⟩, h1, h2, h3, h4, h5, h6⟩ := hv
    exact itN_ok h1 h2 h3 h4 h5 h6
noncomputable def rfI (nm : ByteArray) (f : Int) (n c k d : Nat) (xs : List Nat) (hs : List Int) (z : Nat) : Rf Tryz.prog where
  it := itI nm f n c k d xs hs z
  k := 6
  E := slots 28 [(3, .pointer (some ⟨2, 0, none⟩)), (5, .pointer (some ⟨3, 0, none⟩)), (11, .func (.func 101) #[] #[.pointer (some ⟨4, 0, none⟩), .pointer (some ⟨5, 0, none⟩)])]
  Hp i := hp2r xs hs true false true false [some (.row [.int .i64 (z : Int)] 0 false true true), some (.row [.slice (some ⟨6, 0, none⟩) i 0] 0 false true false),
    some (.row [.int .i64 (z : Int)] 0 false false true), some (.row (runA nm f 0 n c 1 k d) 0 false false false), some (.row (ints (ixL xs hs z i)) 1 true true true)]
noncomputable def hsInx (nm : ByteArray) (f : Int) (n c k d : Nat) (xs : List Nat) (hs : List Int) (z : Nat) : Hs Tryz.prog where
  op y := if y = 703 then some (hAp Tryz.prog) else none
  rf _ := some (rfI nm f n c k d xs hs z)
  cl _ := keep 28 [3, 5, 11]
  nl _ := [.cell 3 0 1]
  au := auCalls [(97, hCa Tryz.prog 97 orcRnd okRnd)]
theorem inx_t (nm : ByteArray) (f : Int) (n : Nat) (c : Nat) (k : Nat) (d : Nat) (xs : List Nat) (hs : List Int) (z : Nat) (K : Value → Heap → Prop) :
    (fnP Tryz.prog c0 (hsInx nm f n c k d xs hs z) (72 : FuncId) [Value.agg (List.toArray (runA nm f (0 : Nat) n c (1 : Nat) k d)), Value.int IntKind.i64 (↑z : Int)] (hp2r xs hs true false true false []) K) =
    ([poi, poi, poi, Value.pointer (some { block := (2 : Nat), off := (0 : Nat) }), poi, Value.pointer (some { block := (3 : Nat), off := (0 : Nat) }), poi, poi, poi, poi, poi, Value.func (Fn.func (101 : Nat)) #[] #[Value.pointer (some { block := (4 : Nat), off := (0 : Nat) }), Value.pointer (some { block := (5 : Nat), off := (0 : Nat) })], poi, poi, poi, poi, poi, poi, poi, poi, poi, poi, poi, poi, poi, poi, poi, poi] = [poi, poi, poi, Value.pointer (some { block := (2 : Nat), off := (0 : Nat) }), poi, Value.pointer (some { block := (3 : Nat), off := (0 : Nat) }), poi, poi, poi, poi, poi, Value.func (Fn.func (101 : Nat)) #[] #[Value.pointer (some { block := (4 : Nat), off := (0 : Nat) }), Value.pointer (some { block := (5 : Nat), off := (0 : Nat) })], poi, poi, poi, poi, poi, poi, poi, poi, poi, poi, poi, poi, poi, poi, poi, poi] ∧ some (AObj.row (flts xs) (1 : Nat) true false true) :: some (AObj.row (ints hs) (2 : Nat) true false true) :: some (AObj.row [Value.int IntKind.i64 (↑z : Int)] (0 : Nat) false true (List.all [Value.int IntKind.i64 (↑z : Int)] atom)) :: some (AObj.row [Value.slice (some { block := List.length (some (AObj.row (flts xs) (1 : Nat) true false true) :: some (AObj.row (ints hs) (2 : Nat) true false true) :: some (AObj.row [Value.int IntKind.i64 (↑z : Int)] (0 : Nat) false true (List.all [Value.int IntKind.i64 (↑z : Int)] atom)) :: some (AObj.row [Value.slice none (0 : Nat) (0 : Nat)] (0 : Nat) false true true) :: some (AObj.row [Value.int IntKind.i64 (↑z : Int)] (0 : Nat) false true (List.all [Value.int IntKind.i64 (↑z : Int)] atom)) :: some (AObj.row [Value.string nm, Value.int IntKind.i64 f, Value.slice (some { block := (0 : Nat), off := (0 : Nat) }) n c, Value.slice (some { block := (1 : Nat), off := (0 : Nat) }) k d] (0 : Nat) false true (List.all [Value.string nm, Value.int IntKind.i64 f, Value.slice (some { block := (0 : Nat), off := (0 : Nat) }) n c, Value.slice (some { block := (1 : Nat), off := (0 : Nat) }) k d] atom)) :: noH), off := (0 : Nat) }) (0 : Nat) (0 : Nat)] (0 : Nat) false true false) :: some (AObj.row [Value.int IntKind.i64 (↑z : Int)] (0 : Nat) false false (List.all [Value.int IntKind.i64 (↑z : Int)] atom)) :: some (AObj.row [Value.string nm, Value.int IntKind.i64 f, Value.slice (some { block := (0 : Nat), off := (0 : Nat) }) n c, Value.slice (some { block := (1 : Nat), off := (0 : Nat) }) k d] (0 : Nat) false false (List.all [Value.string nm, Value.int IntKind.i64 f, Value.slice (some { block := (0 : Nat), off := (0 : Nat) }) n c, Value.slice (some { block := (1 : Nat), off := (0 : Nat) }) k d] atom)) :: some (AObj.row [] (1 : Nat) true true true) :: noH = some (AObj.row (flts xs) (1 : Nat) true false true) :: some (AObj.row (ints hs) (2 : Nat) true false true) :: some (AObj.row [Value.int IntKind.i64 (↑z : Int)] (0 : Nat) false true true) :: some (AObj.row [Value.slice (some { block := (6 : Nat), off := (0 : Nat) }) (0 : Nat) (0 : Nat)] (0 : Nat) false true false) :: some (AObj.row [Value.int IntKind.i64 (↑z : Int)] (0 : Nat) false false true) :: some (AObj.row [Value.string nm, Value.int IntKind.i64 f, Value.slice (some { block := (0 : Nat), off := (0 : Nat) }) n c, Value.slice (some { block := (1 : Nat), off := (0 : Nat) }) k d] (0 : Nat) false false false) :: some (AObj.row [] (1 : Nat) true true true) :: noH ∧ [poi, poi, poi, Value.pointer (some { block := (2 : Nat), off := (0 : Nat) }), poi, Value.pointer (some { block := (3 : Nat), off := (0 : Nat) }), poi, poi, poi, poi, poi, Value.func (Fn.func (101 : Nat)) #[] #[Value.pointer (some { block := (4 : Nat), off := (0 : Nat) }), Value.pointer (some { block := (5 : Nat), off := (0 : Nat) })], poi, poi, poi, poi, poi, poi, poi, poi, poi, poi, poi, poi, poi, poi, poi, poi] = [poi, poi, poi, Value.pointer (some { block := (2 : Nat), off := (0 : Nat) }), poi, Value.pointer (some { block := (3 : Nat), off := (0 : Nat) }), poi, poi, poi, poi, poi, Value.func (Fn.func (101 : Nat)) #[] #[Value.pointer (some { block := (4 : Nat), off := (0 : Nat) }), Value.pointer (some { block := (5 : Nat), off := (0 : Nat) })], poi, poi, poi, poi, poi, poi, poi, poi, poi, poi, poi, poi, poi, poi, poi, poi] ∧ Is (([Value.pointer (some { block := (0 : Nat), off := (0 : Nat) }), Value.pointer (some { block := (1 : Nat), off := (0 : Nat) })] = [Value.pointer (some { block := (0 : Nat), off := (0 : Nat) }), Value.pointer (some { block := (1 : Nat), off := (0 : Nat) })] ∧ some (AObj.row [Value.int IntKind.i64 (↑z : Int)] (0 : Nat) false false true) :: some (AObj.row [Value.string nm, Value.int IntKind.i64 f, Value.slice (some { block := (2 : Nat), off := (0 : Nat) }) n c, Value.slice (some { block := (3 : Nat), off := (0 : Nat) }) k d] (0 : Nat) false false false) :: some (AObj.row (flts xs) (1 : Nat) true false true) :: some (AObj.row (ints hs) (2 : Nat) true false true) :: noH = some (AObj.row [Value.int IntKind.i64 (↑z : Int)] (0 : Nat) false false true) :: some (AObj.row [Value.string nm, Value.int IntKind.i64 f, Value.slice (some { block := (2 : Nat), off := (0 : Nat) }) n c, Value.slice (some { block := (3 : Nat), off := (0 : Nat) }) k d] (0 : Nat) false false false) :: some (AObj.row (flts xs) (1 : Nat) true false true) :: some (AObj.row (ints hs) (2 : Nat) true false true) :: noH) ∧ runE nm f xs n hs = (0 : Int) ∧ List.length xs = n ∧ List.length hs = k * (2 : Nat) ∧ k ≤ (100000 : Nat) ∧ (0 : Nat) < z ∧ z ≤ (256 : Nat)) ∧ Is True ∧ (∀ (i : Nat), Is True → Is (i < n / z) → br (Prod.fst (wnM xs hs z i) == (↑z : Int)) (Is ((0 : Int) < IntKind.wrap IntKind.i64 (Prod.fst (wnM xs hs z i) * Prod.fst (wnM xs hs z i)) ∧ IntKind.wrap IntKind.i64 (Prod.fst (wnM xs hs z i) * Prod.fst (wnM xs hs z i)) ≤ (1000000000 : Int) ∧ (-1000000000000000000 : Int) ≤ IntKind.wrap IntKind.i64 (IntKind.wrap IntKind.i64 (Prod.fst (wnM xs hs z i) * Prod.snd (Prod.snd (wnM xs hs z i))) - IntKind.wrap IntKind.i64 (Prod.fst (Prod.snd (wnM xs hs z i)) * Prod.fst (Prod.snd (wnM xs hs z i)))) ∧ IntKind.wrap IntKind.i64 (IntKind.wrap IntKind.i64 (Prod.fst (wnM xs hs z i) * Prod.snd (Prod.snd (wnM xs hs z i))) - IntKind.wrap IntKind.i64 (Prod.fst (Prod.snd (wnM xs hs z i)) * Prod.fst (Prod.snd (wnM xs hs z i)))) ≤ (1000000000000000000 : Int)) ∧ Is (List.length (ints (ixL xs hs z i)) = i * (1 : Nat) ∧ (i + (1 : Nat)) * (8 : Nat) ≤ (140737488355328 : Nat) ∧ i + (1 : Nat) ≤ (9223372036854775807 : Nat)) ∧ some (AObj.row (flts xs) (1 : Nat) true false true) :: some (AObj.row (ints hs) (2 : Nat) true false true) :: some (AObj.row [Value.int IntKind.i64 (↑z : Int)] (0 : Nat) false true true) :: some (AObj.row [Value.slice (some { block := (6 : Nat), off := (0 : Nat) }) (i + (1 : Nat)) (0 : Nat)] (0 : Nat) false true (false && List.all [Value.slice (some { block := List.length (some (AObj.row (flts xs) (1 : Nat) true false true) :: some (AObj.row (ints hs) (2 : Nat) true false true) :: some (AObj.row [Value.int IntKind.i64 (↑z : Int)] (0 : Nat) false true true) :: some (AObj.row [Value.slice (some { block := (6 : Nat), off := (0 : Nat) }) i (0 : Nat)] (0 : Nat) false true false) :: some (AObj.row [Value.int IntKind.i64 (↑z : Int)] (0 : Nat) false false true) :: some (AObj.row [Value.string nm, Value.int IntKind.i64 f, Value.slice (some { block := (0 : Nat), off := (0 : Nat) }) n c, Value.slice (some { block := (1 : Nat), off := (0 : Nat) }) k d] (0 : Nat) false false false) :: some (AObj.row (ints (ixL xs hs z i)) (1 : Nat) true true true) :: some (AObj.row [Value.int IntKind.i64 (Prod.fst (wnM xs hs z i)), Value.int IntKind.i64 (Prod.fst (Prod.snd (wnM xs hs z i))), Value.int IntKind.i64 (Prod.snd (Prod.snd (wnM xs hs z i)))] (0 : Nat) false true (true && List.all [Value.int IntKind.i64 (Prod.fst (wnM xs hs z i)), Value.int IntKind.i64 (Prod.fst (Prod.snd (wnM xs hs z i))), Value.int IntKind.i64 (Prod.snd (Prod.snd (wnM xs hs z i)))] atom)) :: some (AObj.row [Value.int IntKind.i64 (rnd (IntKind.wrap IntKind.i64 (IntKind.wrap IntKind.i64 (Prod.fst (wnM xs hs z i) * Prod.snd (Prod.snd (wnM xs hs z i))) - IntKind.wrap IntKind.i64 (Prod.fst (Prod.snd (wnM xs hs z i)) * Prod.fst (Prod.snd (wnM xs hs z i))))) (IntKind.wrap IntKind.i64 (Prod.fst (wnM xs hs z i) * Prod.fst (wnM xs hs z i))))] (1 : Nat) false true (List.all [Value.int IntKind.i64 (rnd (IntKind.wrap IntKind.i64 (IntKind.wrap IntKind.i64 (Prod.fst (wnM xs hs z i) * Prod.snd (Prod.snd (wnM xs hs z i))) - IntKind.wrap IntKind.i64 (Prod.fst (Prod.snd (wnM xs hs z i)) * Prod.fst (Prod.snd (wnM xs hs z i))))) (IntKind.wrap IntKind.i64 (Prod.fst (wnM xs hs z i) * Prod.fst (wnM xs hs z i))))] atom)) :: noH), off := (0 : Nat) }) (i + (1 : Nat)) (0 : Nat)] atom)) :: some (AObj.row [Value.int IntKind.i64 (↑z : Int)] (0 : Nat) false false true) :: some (AObj.row [Value.string nm, Value.int IntKind.i64 f, Value.slice (some { block := (0 : Nat), off := (0 : Nat) }) n c, Value.slice (some { block := (1 : Nat), off := (0 : Nat) }) k d] (0 : Nat) false false false) :: some (AObj.row (ints (ixL xs hs z i) ++ [Value.int IntKind.i64 (rnd (IntKind.wrap IntKind.i64 (IntKind.wrap IntKind.i64 (Prod.fst (wnM xs hs z i) * Prod.snd (Prod.snd (wnM xs hs z i))) - IntKind.wrap IntKind.i64 (Prod.fst (Prod.snd (wnM xs hs z i)) * Prod.fst (Prod.snd (wnM xs hs z i))))) (IntKind.wrap IntKind.i64 (Prod.fst (wnM xs hs z i) * Prod.fst (wnM xs hs z i))))]) (1 : Nat) true true (List.all [Value.int IntKind.i64 (rnd (IntKind.wrap IntKind.i64 (IntKind.wrap IntKind.i64 (Prod.fst (wnM xs hs z i) * Prod.snd (Prod.snd (wnM xs hs z i))) - IntKind.wrap IntKind.i64 (Prod.fst (Prod.snd (wnM xs hs z i)) * Prod.fst (Prod.snd (wnM xs hs z i))))) (IntKind.wrap IntKind.i64 (Prod.fst (wnM xs hs z i) * Prod.fst (wnM xs hs z i))))] atom)) :: noH = some (AObj.row (flts xs) (1 : Nat) true false true) :: some (AObj.row (ints hs) (2 : Nat) true false true) :: some (AObj.row [Value.int IntKind.i64 (↑z : Int)] (0 : Nat) false true true) :: some (AObj.row [Value.slice (some { block := (6 : Nat), off := (0 : Nat) }) (i + (1 : Nat)) (0 : Nat)] (0 : Nat) false true false) :: some (AObj.row [Value.int IntKind.i64 (↑z : Int)] (0 : Nat) false false true) :: some (AObj.row [Value.string nm, Value.int IntKind.i64 f, Value.slice (some { block := (0 : Nat), off := (0 : Nat) }) n c, Value.slice (some { block := (1 : Nat), off := (0 : Nat) }) k d] (0 : Nat) false false false) :: some (AObj.row (ints (ixL xs hs z (i + (1 : Nat)))) (1 : Nat) true true true) :: noH ∧ Is True) (Is (List.length (ints (ixL xs hs z i)) = i * (1 : Nat) ∧ (i + (1 : Nat)) * (8 : Nat) ≤ (140737488355328 : Nat) ∧ i + (1 : Nat) ≤ (9223372036854775807 : Nat)) ∧ some (AObj.row (flts xs) (1 : Nat) true false true) :: some (AObj.row (ints hs) (2 : Nat) true false true) :: some (AObj.row [Value.int IntKind.i64 (↑z : Int)] (0 : Nat) false true true) :: some (AObj.row [Value.slice (some { block := (6 : Nat), off := (0 : Nat) }) (i + (1 : Nat)) (0 : Nat)] (0 : Nat) false true (false && List.all [Value.slice (some { block := List.length (some (AObj.row (flts xs) (1 : Nat) true false true) :: some (AObj.row (ints hs) (2 : Nat) true false true) :: some (AObj.row [Value.int IntKind.i64 (↑z : Int)] (0 : Nat) false true true) :: some (AObj.row [Value.slice (some { block := (6 : Nat), off := (0 : Nat) }) i (0 : Nat)] (0 : Nat) false true false) :: some (AObj.row [Value.int IntKind.i64 (↑z : Int)] (0 : Nat) false false true) :: some (AObj.row [Value.string nm, Value.int IntKind.i64 f, Value.slice (some { block := (0 : Nat), off := (0 : Nat) }) n c, Value.slice (some { block := (1 : Nat), off := (0 : Nat) }) k d] (0 : Nat) false false false) :: some (AObj.row (ints (ixL xs hs z i)) (1 : Nat) true true true) :: some (AObj.row [Value.int IntKind.i64 (Prod.fst (wnM xs hs z i)), Value.int IntKind.i64 (Prod.fst (Prod.snd (wnM xs hs z i))), Value.int IntKind.i64 (Prod.snd (Prod.snd (wnM xs hs z i)))] (0 : Nat) false true (true && List.all [Value.int IntKind.i64 (Prod.fst (wnM xs hs z i)), Value.int IntKind.i64 (Prod.fst (Prod.snd (wnM xs hs z i))), Value.int IntKind.i64 (Prod.snd (Prod.snd (wnM xs hs z i)))] atom)) :: some (AObj.row [Value.int IntKind.i64 (-1 : Int)] (1 : Nat) false true (List.all [Value.int IntKind.i64 (-1 : Int)] atom)) :: noH), off := (0 : Nat) }) (i + (1 : Nat)) (0 : Nat)] atom)) :: some (AObj.row [Value.int IntKind.i64 (↑z : Int)] (0 : Nat) false false true) :: some (AObj.row [Value.string nm, Value.int IntKind.i64 f, Value.slice (some { block := (0 : Nat), off := (0 : Nat) }) n c, Value.slice (some { block := (1 : Nat), off := (0 : Nat) }) k d] (0 : Nat) false false false) :: some (AObj.row (ints (ixL xs hs z i) ++ [Value.int IntKind.i64 (-1 : Int)]) (1 : Nat) true true (List.all [Value.int IntKind.i64 (-1 : Int)] atom)) :: noH = some (AObj.row (flts xs) (1 : Nat) true false true) :: some (AObj.row (ints hs) (2 : Nat) true false true) :: some (AObj.row [Value.int IntKind.i64 (↑z : Int)] (0 : Nat) false true true) :: some (AObj.row [Value.slice (some { block := (6 : Nat), off := (0 : Nat) }) (i + (1 : Nat)) (0 : Nat)] (0 : Nat) false true false) :: some (AObj.row [Value.int IntKind.i64 (↑z : Int)] (0 : Nat) false false true) :: some (AObj.row [Value.string nm, Value.int IntKind.i64 f, Value.slice (some { block := (0 : Nat), off := (0 : Nat) }) n c, Value.slice (some { block := (1 : Nat), off := (0 : Nat) }) k d] (0 : Nat) false false false) :: some (AObj.row (ints (ixL xs hs z (i + (1 : Nat)))) (1 : Nat) true true true) :: noH ∧ Is True)) ∧ (Is True → K (Value.slice (some { block := (2 : Nat), off := (0 : Nat) }) (n / z) (0 : Nat)) (some (AObj.row (flts xs) (1 : Nat) true false true) :: some (AObj.row (ints hs) (2 : Nat) true false true) :: some (AObj.row (ints (ixL xs hs z (n / z))) (1 : Nat) true true true) :: noH)) ∧ ∀ (_s : Empty), Is False → False) := by kernel_rfl
/- The reference. -/
theorem abs_mulR {a b A B : Int} (a0 : -A ≤ a) (a1 : a ≤ A) (b0 : -B ≤ b) (b1 : b ≤ B) : -(A * B) ≤ a * b ∧ a * b ≤ A * B := by
  have hA : 0 ≤ A := by omega
  have := bmul hA (show 0 ≤ B by omega) a0 a1 b0 b1
  exact this
/-- The variance of a window's moments: no product leaves the machine's numbers. -/
theorem MoB.var {m : Int × Int × Int} {z : Nat} (h : MoB m z) (hz : z ≤ 256) :
    IntKind.wrap .i64 (m.1 * m.1) = m.1 * m.1 ∧ m.1 * m.1 ≤ 65536 ∧ IntKind.wrap .i64 (IntKind.wrap .i64 (m.1 * m.2.2) - IntKind.wrap .i64 (m.2.1 * m.2.1)) = m.1 * m.2.2 - m.2.1 * m.2.1 ∧
      -1000000000000000000 ≤ m.1 * m.2.2 - m.2.1 * m.2.1 ∧ m.1 * m.2.2 - m.2.1 * m.2.1 ≤ 1000000000000000000 := by
  obtain ⟨a, b, c, d, e, f⟩ := h
  have p1 := mul_in (a := m.1) (b := m.1) (A := 256) (B := 256) a (by omega) a (by omega)
  have p2 := mul_in (a := m.1) (b := m.2.2) (A := 256) (B := 68719476736) a (by omega) e (by omega)
  have p3 := abs_mulR (a := m.2.1) (b := m.2.1) (A := 4194304) (B := 4194304) (by omega) (by omega) (by omega) (by omega)
  refine ⟨wrap_eq (by omega) (by omega), by omega, ?_, by omega, by omega⟩
  rw [wrap_eq (x := m.1 * m.2.2) (by omega) (by omega), wrap_eq (x := m.2.1 * m.2.1) (by omega) (by omega), wrap_eq (by omega) (by omega)]
theorem ixL_len (xs : List Nat) (hs : List Int) (z m : Nat) : (ixL xs hs z m).length = m := by rw [ixL, List.length_map, List.length_range]
theorem ixL_more (xs : List Nat) (hs : List Int) (z m : Nat) : ixL xs hs z (m + 1) = ixL xs hs z m ++ [ixM (wnM xs hs z m) z] := by
  rw [ixL, List.range_succ, List.map_append]; rfl
set_option maxRecDepth 100000 in
theorem inx_ok {nm : ByteArray} {f : Int} {n c k d : Nat} {xs : List Nat} {hs : List Int} {z : Nat} (hr : runE nm f xs n hs = 0) (hn : xs.length = n) (hk : hs.length = k * 2) (hk9 : k ≤ 100000) (z0 : 0 < z) (z1 : z ≤ 256) :
    SmallRes Tryz.prog 72 [.agg (runA nm f 0 n c 1 k d).toArray, .int .i64 (z : Int)] (hp2r xs hs true false true false []) (.slice (some ⟨2, 0, none⟩) (n / z) 0) (hp2r xs hs true false true false [some (.row (ints (ixL xs hs z (n / z))) 1 true true true)]) := by
  refine fnP_res hm c0_ok (hs := hsInx nm f n c k d xs hs z) ?_
  rw [inx_t]
  obtain ⟨_, _, hn4, _, hx, _, _⟩ := run_zero hr
  refine ⟨by first | trivial | rfl, by first | trivial | rfl, by first | trivial | rfl, ⟨⟨by first | trivial | rfl, by first | trivial | rfl⟩, hr, hn, hk, hk9, z0, z1⟩, ⟨trivial⟩, fun i _ hi => ?_, fun _ => ⟨by first | trivial | rfl, by first | trivial | rfl⟩, fun s => s.elim⟩
  have hi := hi.out
  have hw := win_in z0 hi
  rw [Nat.add_mul] at hw
  have hb : MoB (wnM xs hs z i) z := mo_bd (hs := hs) (a := i * z) hx z (by omega)
  obtain ⟨v1, v2, v3, v4, v5⟩ := hb.var z1
  have hdz : n / z ≤ n := Nat.div_le_self n z
  refine br_of (fun hc => ⟨⟨?_, by omega, by omega, by omega⟩, ⟨by rw [ints_len, ixL_len, Nat.mul_one], by omega, by omega⟩, ?_, ⟨trivial⟩⟩) (fun hc => ⟨⟨by rw [ints_len, ixL_len, Nat.mul_one], by omega, by omega⟩, ?_, ⟨trivial⟩⟩)
  · have hc : (wnM xs hs z i).1 = (z : Int) := by simpa using hc
    rw [v1, hc]
    exact Int.mul_pos (by omega) (by omega)
  · have hc : (wnM xs hs z i).1 = (z : Int) := by simpa using hc
    rw [ixL_more, ixM, if_pos hc, v1, v3, ← ints_app]
    first | done | trivial | rfl
  · have hc : ¬ (wnM xs hs z i).1 = (z : Int) := by simpa using hc
    rw [ixL_more, ixM, if_neg hc, ← ints_app]
    first | done | trivial | rfl
noncomputable def orcInx (xs : List Nat) (hs : List Int) (z : Nat) : OrcV
  | [.agg ⟨[.string nm, .int .i64 f, .slice (some ⟨0, 0, none⟩) n _, .slice (some ⟨1, 0, none⟩) k _]⟩, .int .i64 y], [some (.row e1 1 true true true), some (.row e2 2 true true true)] =>
    some (.slice (some ⟨2, 0, none⟩) (n / z) 0, [some (.row e1 1 true true true), some (.row e2 2 true true true), some (.row (ints (ixL xs hs z (n / z))) 1 true true true)], isRun xs hs n k e1 e2 ∧ runE nm f xs n hs = 0 ∧ y = (z : Int) ∧ 0 < z ∧ z ≤ 256)
  | _, _ => none
theorem okInx (xs : List Nat) (hs : List Int) (z : Nat) : OkV Tryz.prog 72 (orcInx xs hs z) := by
  intro args H ret H' vc h hv
  unfold orcInx at h
  split at h
  · rename_i nm f n c k d y e1 e2
    cases h
    obtain ⟨⟨rfl, rfl, h1, h2, h3, h4⟩, h5, rfl, h6, h7⟩ := hv
    exact regain (H := hp2r xs hs true true true true []) [0, 1] (inx_ok (c := c) (d := d) h5 h1 h3 h4 h6 h7) (by rfl) (by rfl)
  · cases h
end
end Qq
end
section
/- Indices, the worst window: the program, and the reference. -/
open Go Go.Vm Go.Proofs Sp
namespace Sp
noncomputable section
noncomputable def cwE (nm : ByteArray) (f : Int) (xs : List Nat) (n : Nat) (hs : List Int) (y : Int) : Int := fi [runE nm f xs n hs, wi y 2 256]
noncomputable def iL (nm : ByteArray) (f : Int) (xs : List Nat) (n : Nat) (hs : List Int) (y : Int) : List Int := if cwE nm f xs n hs y = 0 then ixL xs hs y.toNat (n / y.toNat) else []
end
end Sp
namespace Qq
noncomputable section
noncomputable def hsCw (xs : List Nat) (hs : List Int) : Hs Tryz.prog where
  au := auCalls [(26, hCa Tryz.prog 26 (orcCrP xs hs) (okCrP xs hs))]
theorem cw_t (nm : ByteArray) (f : Int) (n : Nat) (c : Nat) (k : Nat) (d : Nat) (xs : List Nat) (hs : List Int) (y : Int) (K : Value → Heap → Prop) :
    (fnP Tryz.prog c2 (hsCw xs hs) (71 : FuncId) [Value.agg (List.toArray (runA nm f (0 : Nat) n c (1 : Nat) k d)), Value.int IntKind.i64 y] (hp2r xs hs true true true true []) K) =
    (Is (isRun xs hs n k (flts xs) (ints hs)) ∧ K (Value.int IntKind.i64 (fi [runE nm f xs n hs, wi y (2 : Int) (256 : Int)])) (some (AObj.row (flts xs) (1 : Nat) true true true) :: some (AObj.row (ints hs) (2 : Nat) true true true) :: noH)) := by kernel_rfl
noncomputable def orcCw (xs : List Nat) (hs : List Int) : OrcV
  | [.agg ⟨[.string nm, .int .i64 f, .slice (some ⟨0, 0, none⟩) n _, .slice (some ⟨1, 0, none⟩) k _]⟩, .int .i64 y], [some (.row e1 1 true true true), some (.row e2 2 true true true)] =>
    some (.int .i64 (cwE nm f xs n hs y), [some (.row e1 1 true true true), some (.row e2 2 true true true)], isRun xs hs n k e1 e2)
  | _, _ => none
theorem okCw (xs : List Nat) (hs : List Int) : OkV Tryz.prog 71 (orcCw xs hs) := by
  intro args H ret H' vc h hv
  unfold orcCw at h
  split at h
  · rename_i nm f n c k d y e1 e2
    cases h
    obtain ⟨rfl, rfl, h1, h2, h3, h4⟩ := hv
    refine fnP_res hm c2_ok (hs := hsCw xs hs) ?_
    show fnP Tryz.prog c2 (hsCw xs hs) 71 [.agg (runA nm f 0 n c 1 k d).toArray, _] (hp2r xs hs true true true true []) _
    rw [cw_t]
    exact ⟨⟨rfl, rfl, h1, h2, h3, h4⟩, by first | trivial | rfl, by first | trivial | rfl⟩
  · cases h
noncomputable def hsId (xs : List Nat) (hs : List Int) (y : Int) : Hs Tryz.prog where
  au := auCalls [(71, hCa Tryz.prog 71 (orcCw xs hs) (okCw xs hs)), (72, hCa Tryz.prog 72 (orcInx xs hs y.toNat) (okInx xs hs y.toNat))]
theorem id_t (nm : ByteArray) (f : Int) (n : Nat) (c : Nat) (k : Nat) (d : Nat) (xs : List Nat) (hs : List Int) (y : Int) (K : Value → Heap → Prop) :
    (fnP Tryz.prog c2 (hsId xs hs y) (31 : FuncId) [Value.agg (List.toArray (runA nm f (0 : Nat) n c (1 : Nat) k d)), Value.int IntKind.i64 y] (hp2r xs hs true true true true []) K) =
    (Is (isRun xs hs n k (flts xs) (ints hs)) ∧ br (cwE nm f xs n hs y != (0 : Int)) (K (Value.tuple #[Value.slice none (0 : Nat) (0 : Nat), Value.int IntKind.i64 (cwE nm f xs n hs y)]) (some (AObj.row (flts xs) (1 : Nat) true true true) :: some (AObj.row (ints hs) (2 : Nat) true true true) :: noH)) (Is (isRun xs hs n k (flts xs) (ints hs) ∧ runE nm f xs n hs = (0 : Int) ∧ y = (↑(Int.toNat y) : Int) ∧ (0 : Nat) < Int.toNat y ∧ Int.toNat y ≤ (256 : Nat)) ∧ K (Value.tuple #[Value.slice (some { block := (2 : Nat), off := (0 : Nat) }) (n / Int.toNat y) (0 : Nat), Value.int IntKind.i64 (0 : Int)]) (some (AObj.row (flts xs) (1 : Nat) true true true) :: some (AObj.row (ints hs) (2 : Nat) true true true) :: some (AObj.row (ints (ixL xs hs (Int.toNat y) (n / Int.toNat y))) (1 : Nat) true true true) :: noH))) := by kernel_rfl
/- The first index of a value. -/
/- The worst window. -/
theorem cw_zero {nm : ByteArray} {f : Int} {xs : List Nat} {n : Nat} {hs : List Int} {y : Int} (h : cwE nm f xs n hs y = 0) : runE nm f xs n hs = 0 ∧ y = (y.toNat : Int) ∧ 0 < y.toNat ∧ y.toNat ≤ 256 := by
  have h1 := fi_zero.1 h (runE nm f xs n hs) (by simp)
  have h2 := wi_zero.1 (fi_zero.1 h (wi y 2 256) (by simp))
  exact ⟨h1, by omega, by omega, by omega⟩
theorem iL_some {nm : ByteArray} {f : Int} {xs : List Nat} {n : Nat} {hs : List Int} {y : Int} (h : cwE nm f xs n hs y = 0) : iL nm f xs n hs y = ixL xs hs y.toNat (n / y.toNat) := if_pos h
theorem iL_none {nm : ByteArray} {f : Int} {xs : List Nat} {n : Nat} {hs : List Int} {y : Int} (h : ¬ cwE nm f xs n hs y = 0) : iL nm f xs n hs y = [] := if_neg h
theorem id_ok {nm : ByteArray} {f : Int} {n c k d : Nat} {xs : List Nat} {hs : List Int} {y : Int} (hr : isRun xs hs n k (flts xs) (ints hs)) :
    SmallRes Tryz.prog 31 [.agg (runA nm f 0 n c 1 k d).toArray, .int .i64 y] (hp2r xs hs true true true true []) (.tuple #[.slice (some ⟨2, 0, none⟩) (iL nm f xs n hs y).length 0, .int .i64 (cwE nm f xs n hs y)]) (hp2r xs hs true true true true [oneR (iL nm f xs n hs y)]) := by
  by_cases h0 : cwE nm f xs n hs y = 0
  · obtain ⟨h1, h2, h3, h4⟩ := cw_zero h0
    rw [iL_some h0, ixL_len, h0]
    refine fnP_res hm c2_ok (hs := hsId xs hs y) ?_
    rw [id_t]
    exact ⟨⟨hr⟩, br_of (fun h => by rw [h0] at h; cases h) (fun _ => ⟨⟨hr, h1, h2, h3, h4⟩, by first | trivial | rfl, by first | trivial | rfl⟩)⟩
  · rw [iL_none h0]
    refine SmallRes.nil (H' := hp2r xs hs true true true true []) (rest := [.int .i64 (cwE nm f xs n hs y)]) ?_ 1
    refine fnP_res hm c2_ok (hs := hsId xs hs y) ?_
    rw [id_t]
    exact ⟨⟨hr⟩, br_of (fun _ => ⟨by first | trivial | rfl, by first | trivial | rfl⟩) (fun h => absurd (by simpa using h) h0)⟩
noncomputable def orcIdV (xs : List Nat) (hs : List Int) : OrcV
  | [.agg ⟨[.string nm, .int .i64 f, .slice (some ⟨0, 0, none⟩) n _, .slice (some ⟨1, 0, none⟩) k _]⟩, .int .i64 y], [some (.row e1 1 true true true), some (.row e2 2 true true true)] =>
    some (.tuple #[.slice (some ⟨2, 0, none⟩) (iL nm f xs n hs y).length 0, .int .i64 (cwE nm f xs n hs y)], [some (.row e1 1 true true true), some (.row e2 2 true true true), oneR (iL nm f xs n hs y)], isRun xs hs n k e1 e2)
  | _, _ => none
theorem okIdV (xs : List Nat) (hs : List Int) : OkV Tryz.prog 31 (orcIdV xs hs) := by
  intro args H ret H' vc h hv
  unfold orcIdV at h
  split at h
  · cases h
    obtain ⟨rfl, rfl, h1⟩ := hv
    exact id_ok ⟨rfl, rfl, h1⟩
  · cases h
/-! ### The worst window -/
end
end Qq
end
section
/- Spans of windows above a limit: the program, and the reference. -/
open Go Go.Vm Go.Proofs Sp
namespace Sp
noncomputable section
end
end Sp
namespace Qq
noncomputable section
/- The reference. -/
theorem iAt_ints {l : List Int} {i : Nat} (h : i < l.length) : iAt (ints l) i = l.getD i 0 := by
  rw [iAt, zint_at h]
theorem putL_last {l : List Int} {m : Nat} {v : Int} (h : l.length = m * 2) (h0 : 0 < m) : putL (ints l) ((m - 1) * 2 + 1) [.int .i64 v] = ints (l.take (l.length - 1) ++ [v]) := by
  have e : (m - 1) * 2 + 1 = l.length - 1 := by omega
  rw [putL, splice, e, List.drop_eq_nil_of_le (by rw [ints_len]; simp only [List.length_cons, List.length_nil]; omega), List.append_nil, ints_take, ← ints_app]
  rfl
theorem join_len {l : List Int} {x : Int} (h : 0 < l.length) : (l.take (l.length - 1) ++ [x]).length = l.length := by
  rw [List.length_append, List.length_take]; simp only [List.length_cons, List.length_nil]; omega
theorem new_len (l : List Int) (x y : Int) : (l ++ [x, y]).length / 2 = l.length / 2 + 1 := by
  rw [List.length_append]; simp only [List.length_cons, List.length_nil]; omega
end
end Qq
end
section
/- Readings, written as a run. -/
open Go Go.Vm Go.Proofs Sp
namespace Sp
noncomputable section
def lastIs (l : List Int) (s : Int) : Bool := decide (0 < l.length) && decide (l.getD (l.length - 1) 0 = s)
/-- The holes of the first so many readings, of which B tells the known ones. -/
def mkS (B : Nat → Bool) : Nat → List Int
  | 0 => []
  | s + 1 => if B s = true then mkS B s else if lastIs (mkS B s) s = true then (mkS B s).take ((mkS B s).length - 1) ++ [(s : Int) + 1] else mkS B s ++ [(s : Int), (s : Int) + 1]
def mkK (B : Nat → Bool) (s : Nat) : Nat := (mkS B s).length / 2
noncomputable def mkX (R : Nat → Int × Bool) (n : Nat) : List Nat := (List.range n).map fun i => smO (R i).1
def mkB (R : Nat → Int × Bool) (i : Nat) : Bool := (R i).2
end
end Sp
namespace Qq
noncomputable section
noncomputable def orcSmO : OrcV
  | [.int .i64 n], [] => some (.float .f32 (smO n), [], n.natAbs < 2 ^ 24)
  | _, _ => none
theorem smO_t (n : Int) (K : Value → Heap → Prop) :
    (fnP Tryz.prog cs2 hsFl0 (95 : FuncId) [Value.int IntKind.i64 n] [] K) =
    (Is True ∧ Is (fDivOk (fOf n) (1098907648 : Nat)) ∧ K (Value.float FloatKind.f32 (fDiv (fOf n) (1098907648 : Nat))) noH) := by kernel_rfl
theorem okSmO : OkV Tryz.prog 95 orcSmO := by
  intro args H ret H' vc h hv
  unfold orcSmO at h
  split at h
  · rename_i n
    cases h
    refine fnP_res hm cs2_ok (hs := hsFl0) ?_
    rw [smO_t]
    exact ⟨⟨trivial⟩, ⟨(Fl.sm_ok hv).1⟩, by first | trivial | rfl, by first | trivial | rfl⟩
  · cases h
noncomputable def zrun : List Value := [.string ByteArray.empty, .int .i64 0, .slice none 0 0, .slice none 0 0]
noncomputable def lpW0 (nm : ByteArray) (f : Int) (n c k d m e : Nat) (xs : List Nat) (hs : List Int) (R : Nat → Int × Bool) : Lp where
  σ := Nat
  E _ := slots 70 [(1, .slice (some ⟨2, 0, none⟩) m e), (2, .pointer (some ⟨3, 0, none⟩)), (4, .pointer (some ⟨4, 0, none⟩)), (5, .pointer (some ⟨5, 0, none⟩))]
  Hp _ := hp2r xs hs true true true true [rdR m R, runO nm f n c k d, some (.row zrun 0 false true true), some (.row (runA nm f 6 0 0 7 0 0) 0 false true false), fR [], some (.row (ints []) 2 true true true)]
  I s := s = 0
  m _ := 0
noncomputable def lpW (nm : ByteArray) (f : Int) (n c k d m e : Nat) (xs : List Nat) (hs : List Int) (R : Nat → Int × Bool) : Lp where
  σ := Nat
  E s := slots 70 [(2, .pointer (some ⟨3, 0, none⟩)), (4, .pointer (some ⟨4, 0, none⟩)), (5, .pointer (some ⟨5, 0, none⟩)), (14, .slice (some ⟨2, 0, none⟩) m e), (15, .int .i64 (Int.ofNat m)), (16, .int .i64 (Int.ofNat s))]
  Hp s := hp2r xs hs true true true true [rdR m R, runO nm f n c k d, some (.row zrun 0 false true true), some (.row (runA nm f 6 s 0 7 (mkK (mkB R) s) 0) 0 false true false), fR (mkX R s), some (.row (ints (mkS (mkB R) s)) 2 true true true)]
  I s := s ≤ m
  m s := m - s
noncomputable def hsWi (nm : ByteArray) (f : Int) (n c k d m e : Nat) (xs : List Nat) (hs : List Int) (R : Nat → Int × Bool) : Hs Tryz.prog where
  op y := if [401, 907, 1004, 1008].contains y then some (hIa Tryz.prog) else if y = 402 then some (hLd Tryz.prog (zR R)) else if [909, 1006].contains y then some (hLc Tryz.prog gI) else if [506, 707].contains y then some (hAp Tryz.prog) else if y = 1010 then some (hSp Tryz.prog) else none
  cut y := if y = 2 then some (lpW0 nm f n c k d m e xs hs R) else none
  lp _ := some (lpW nm f n c k d m e xs hs R)
  cl y := if y = 2 then keep 70 [1, 2, 4, 5] else keep 70 [2, 4, 5, 14, 15, 16]
  nl y := if y = 2 then [.cell 5 2 1, .cell 5 3 2] else []
  au := auCalls [(95, hCa Tryz.prog 95 orcSmO okSmO)]
theorem wi_t (nm : ByteArray) (f : Int) (n : Nat) (c : Nat) (k : Nat) (d : Nat) (m : Nat) (e : Nat) (xs : List Nat) (hs : List Int) (R : Nat → Int × Bool) (K : Value → Heap → Prop) :
    (fnP Tryz.prog c0 (hsWi nm f n c k d m e xs hs R) (70 : FuncId) [Value.agg (List.toArray (runA nm f (0 : Nat) n c (1 : Nat) k d)), Value.slice (some { block := (2 : Nat), off := (0 : Nat) }) m e] (hp2r xs hs true true true true [rdR m R]) K) =
    ((∃ (s : Nat), Is (s = (0 : Nat)) ∧ [poi, Value.slice (some { block := (2 : Nat), off := (0 : Nat) }) m e, Value.pointer (some { block := (3 : Nat), off := (0 : Nat) }), poi, Value.pointer (some { block := (4 : Nat), off := (0 : Nat) }), Value.pointer (some { block := (5 : Nat), off := (0 : Nat) }), poi, poi, poi, poi, poi, poi, poi, poi, poi, poi, poi, poi, poi, poi, poi, poi, poi, poi, poi, poi, poi, poi, poi, poi, poi, poi, poi, poi, poi, poi, poi, poi, poi, poi, poi, poi, poi, poi, poi, poi, poi, poi, poi, poi, poi, poi, poi, poi, poi, poi, poi, poi, poi, poi, poi, poi, poi, poi, poi, poi, poi, poi, poi, poi] = [poi, Value.slice (some { block := (2 : Nat), off := (0 : Nat) }) m e, Value.pointer (some { block := (3 : Nat), off := (0 : Nat) }), poi, Value.pointer (some { block := (4 : Nat), off := (0 : Nat) }), Value.pointer (some { block := (5 : Nat), off := (0 : Nat) }), poi, poi, poi, poi, poi, poi, poi, poi, poi, poi, poi, poi, poi, poi, poi, poi, poi, poi, poi, poi, poi, poi, poi, poi, poi, poi, poi, poi, poi, poi, poi, poi, poi, poi, poi, poi, poi, poi, poi, poi, poi, poi, poi, poi, poi, poi, poi, poi, poi, poi, poi, poi, poi, poi, poi, poi, poi, poi, poi, poi, poi, poi, poi, poi] ∧ some (AObj.row (flts xs) (1 : Nat) true true true) :: some (AObj.row (ints hs) (2 : Nat) true true true) :: some (AObj.row (rdc m R) (2 : Nat) true true true) :: some (AObj.row [Value.string nm, Value.int IntKind.i64 f, Value.slice (some { block := (0 : Nat), off := (0 : Nat) }) n c, Value.slice (some { block := (1 : Nat), off := (0 : Nat) }) k d] (0 : Nat) false true (List.all [Value.string nm, Value.int IntKind.i64 f, Value.slice (some { block := (0 : Nat), off := (0 : Nat) }) n c, Value.slice (some { block := (1 : Nat), off := (0 : Nat) }) k d] atom)) :: some (AObj.row [Value.string { data := #[] }, Value.int IntKind.i64 (0 : Int), Value.slice none (0 : Nat) (0 : Nat), Value.slice none (0 : Nat) (0 : Nat)] (0 : Nat) false true true) :: some (AObj.row [Value.string nm, Value.int IntKind.i64 f, Value.slice (some { block := (6 : Nat), off := (0 : Nat) }) (0 : Nat) (0 : Nat), Value.slice (some { block := (7 : Nat), off := (0 : Nat) }) (0 : Nat) (0 : Nat)] (0 : Nat) false true false) :: some (AObj.row [] (1 : Nat) true true true) :: some (AObj.row [] (2 : Nat) true true true) :: noH = some (AObj.row (flts xs) (1 : Nat) true true true) :: some (AObj.row (ints hs) (2 : Nat) true true true) :: some (AObj.row (rdc m R) (2 : Nat) true true true) :: some (AObj.row [Value.string nm, Value.int IntKind.i64 f, Value.slice (some { block := (0 : Nat), off := (0 : Nat) }) n c, Value.slice (some { block := (1 : Nat), off := (0 : Nat) }) k d] (0 : Nat) false true false) :: some (AObj.row [Value.string { data := #[] }, Value.int IntKind.i64 (0 : Int), Value.slice none (0 : Nat) (0 : Nat), Value.slice none (0 : Nat) (0 : Nat)] (0 : Nat) false true true) :: some (AObj.row [Value.string nm, Value.int IntKind.i64 f, Value.slice (some { block := (6 : Nat), off := (0 : Nat) }) (0 : Nat) (0 : Nat), Value.slice (some { block := (7 : Nat), off := (0 : Nat) }) (0 : Nat) (0 : Nat)] (0 : Nat) false true false) :: some (AObj.row [] (1 : Nat) true true true) :: some (AObj.row [] (2 : Nat) true true true) :: noH) ∧ ∀ (s : Nat), Is (s = (0 : Nat)) → (∃ (s : Nat), Is (s ≤ m) ∧ [poi, poi, Value.pointer (some { block := (3 : Nat), off := (0 : Nat) }), poi, Value.pointer (some { block := (4 : Nat), off := (0 : Nat) }), Value.pointer (some { block := (5 : Nat), off := (0 : Nat) }), poi, poi, poi, poi, poi, poi, poi, poi, Value.slice (some { block := (2 : Nat), off := (0 : Nat) }) m e, Value.int IntKind.i64 (↑m : Int), Value.int IntKind.i64 (0 : Int), poi, poi, poi, poi, poi, poi, poi, poi, poi, poi, poi, poi, poi, poi, poi, poi, poi, poi, poi, poi, poi, poi, poi, poi, poi, poi, poi, poi, poi, poi, poi, poi, poi, poi, poi, poi, poi, poi, poi, poi, poi, poi, poi, poi, poi, poi, poi, poi, poi, poi, poi, poi, poi] = [poi, poi, Value.pointer (some { block := (3 : Nat), off := (0 : Nat) }), poi, Value.pointer (some { block := (4 : Nat), off := (0 : Nat) }), Value.pointer (some { block := (5 : Nat), off := (0 : Nat) }), poi, poi, poi, poi, poi, poi, poi, poi, Value.slice (some { block := (2 : Nat), off := (0 : Nat) }) m e, Value.int IntKind.i64 (↑m : Int), Value.int IntKind.i64 (↑s : Int), poi, poi, poi, poi, poi, poi, poi, poi, poi, poi, poi, poi, poi, poi, poi, poi, poi, poi, poi, poi, poi, poi, poi, poi, poi, poi, poi, poi, poi, poi, poi, poi, poi, poi, poi, poi, poi, poi, poi, poi, poi, poi, poi, poi, poi, poi, poi, poi, poi, poi, poi, poi, poi] ∧ some (AObj.row (flts xs) (1 : Nat) true true true) :: some (AObj.row (ints hs) (2 : Nat) true true true) :: some (AObj.row (rdc m R) (2 : Nat) true true true) :: some (AObj.row [Value.string nm, Value.int IntKind.i64 f, Value.slice (some { block := (0 : Nat), off := (0 : Nat) }) n c, Value.slice (some { block := (1 : Nat), off := (0 : Nat) }) k d] (0 : Nat) false true false) :: some (AObj.row [Value.string { data := #[] }, Value.int IntKind.i64 (0 : Int), Value.slice none (0 : Nat) (0 : Nat), Value.slice none (0 : Nat) (0 : Nat)] (0 : Nat) false true true) :: some (AObj.row [Value.string nm, Value.int IntKind.i64 f, Value.slice (some { block := (6 : Nat), off := (0 : Nat) }) (0 : Nat) (0 : Nat), Value.slice (some { block := (7 : Nat), off := (0 : Nat) }) (0 : Nat) (0 : Nat)] (0 : Nat) false true false) :: some (AObj.row [] (1 : Nat) true true true) :: some (AObj.row [] (2 : Nat) true true true) :: noH = some (AObj.row (flts xs) (1 : Nat) true true true) :: some (AObj.row (ints hs) (2 : Nat) true true true) :: some (AObj.row (rdc m R) (2 : Nat) true true true) :: some (AObj.row [Value.string nm, Value.int IntKind.i64 f, Value.slice (some { block := (0 : Nat), off := (0 : Nat) }) n c, Value.slice (some { block := (1 : Nat), off := (0 : Nat) }) k d] (0 : Nat) false true false) :: some (AObj.row [Value.string { data := #[] }, Value.int IntKind.i64 (0 : Int), Value.slice none (0 : Nat) (0 : Nat), Value.slice none (0 : Nat) (0 : Nat)] (0 : Nat) false true true) :: some (AObj.row [Value.string nm, Value.int IntKind.i64 f, Value.slice (some { block := (6 : Nat), off := (0 : Nat) }) s (0 : Nat), Value.slice (some { block := (7 : Nat), off := (0 : Nat) }) (mkK (mkB R) s) (0 : Nat)] (0 : Nat) false true false) :: some (AObj.row (flts (mkX R s)) (1 : Nat) true true true) :: some (AObj.row (ints (mkS (mkB R) s)) (2 : Nat) true true true) :: noH) ∧ ∀ (s : Nat), Is (s ≤ m) → br (decide ((↑s : Int) < (↑m : Int))) (Is ((0 : Int) ≤ (↑s : Int) ∧ (↑s : Int) < (↑m : Int)) ∧ Is ((if (0 : Nat) + Int.toNat (↑s : Int) * (2 : Nat) + (2 : Nat) ≤ List.length (rdc m R) then some (Value.agg (List.toArray (List.take (2 : Nat) (List.drop ((0 : Nat) + Int.toNat (↑s : Int) * (2 : Nat)) (rdc m R))))) else none) = some (Value.agg #[Value.int IntKind.i64 (rdV R ((0 : Nat) + Int.toNat (↑s : Int) * (2 : Nat))), Value.bool (rdW R ((0 : Nat) + Int.toNat (↑s : Int) * (2 : Nat)))])) ∧ Is (Int.natAbs (rdV R ((0 : Nat) + Int.toNat (↑s : Int) * (2 : Nat))) < (16777216 : Nat)) ∧ Is (List.length (flts (mkX R s)) = s * (1 : Nat) ∧ (s + (1 : Nat)) * (4 : Nat) ≤ (140737488355328 : Nat) ∧ s + (1 : Nat) ≤ (9223372036854775807 : Nat)) ∧ br (rdW R ((0 : Nat) + Int.toNat (↑s : Int) * (2 : Nat))) (∃ (s' : Nat), Is (s' ≤ m) ∧ Is (m - s' < m - s) ∧ [poi, poi, Value.pointer (some { block := (3 : Nat), off := (0 : Nat) }), poi, Value.pointer (some { block := (4 : Nat), off := (0 : Nat) }), Value.pointer (some { block := (5 : Nat), off := (0 : Nat) }), poi, poi, poi, poi, poi, poi, poi, poi, Value.slice (some { block := (2 : Nat), off := (0 : Nat) }) m e, Value.int IntKind.i64 (↑m : Int), Value.int IntKind.i64 (IntKind.wrap IntKind.i64 ((↑s : Int) + (1 : Int))), poi, poi, poi, poi, poi, poi, poi, poi, poi, poi, poi, poi, poi, poi, poi, poi, poi, poi, poi, poi, poi, poi, poi, poi, poi, poi, poi, poi, poi, poi, poi, poi, poi, poi, poi, poi, poi, poi, poi, poi, poi, poi, poi, poi, poi, poi, poi, poi, poi, poi, poi, poi, poi] = [poi, poi, Value.pointer (some { block := (3 : Nat), off := (0 : Nat) }), poi, Value.pointer (some { block := (4 : Nat), off := (0 : Nat) }), Value.pointer (some { block := (5 : Nat), off := (0 : Nat) }), poi, poi, poi, poi, poi, poi, poi, poi, Value.slice (some { block := (2 : Nat), off := (0 : Nat) }) m e, Value.int IntKind.i64 (↑m : Int), Value.int IntKind.i64 (↑s' : Int), poi, poi, poi, poi, poi, poi, poi, poi, poi, poi, poi, poi, poi, poi, poi, poi, poi, poi, poi, poi, poi, poi, poi, poi, poi, poi, poi, poi, poi, poi, poi, poi, poi, poi, poi, poi, poi, poi, poi, poi, poi, poi, poi, poi, poi, poi, poi, poi, poi, poi, poi, poi, poi] ∧ some (AObj.row (flts xs) (1 : Nat) true true true) :: some (AObj.row (ints hs) (2 : Nat) true true true) :: some (AObj.row (rdc m R) (2 : Nat) true true true) :: some (AObj.row [Value.string nm, Value.int IntKind.i64 f, Value.slice (some { block := (0 : Nat), off := (0 : Nat) }) n c, Value.slice (some { block := (1 : Nat), off := (0 : Nat) }) k d] (0 : Nat) false true false) :: some (AObj.row [Value.string { data := #[] }, Value.int IntKind.i64 (0 : Int), Value.slice none (0 : Nat) (0 : Nat), Value.slice none (0 : Nat) (0 : Nat)] (0 : Nat) false true true) :: some (AObj.row [Value.string nm, Value.int IntKind.i64 f, Value.slice (some { block := (6 : Nat), off := (0 : Nat) }) (s + (1 : Nat)) (0 : Nat), Value.slice (some { block := (7 : Nat), off := (0 : Nat) }) (mkK (mkB R) s) (0 : Nat)] (0 : Nat) false true (false && List.all [Value.slice (some { block := List.length (some (AObj.row (flts xs) (1 : Nat) true true true) :: some (AObj.row (ints hs) (2 : Nat) true true true) :: some (AObj.row (rdc m R) (2 : Nat) true true true) :: some (AObj.row [Value.string nm, Value.int IntKind.i64 f, Value.slice (some { block := (0 : Nat), off := (0 : Nat) }) n c, Value.slice (some { block := (1 : Nat), off := (0 : Nat) }) k d] (0 : Nat) false true false) :: some (AObj.row [Value.string { data := #[] }, Value.int IntKind.i64 (0 : Int), Value.slice none (0 : Nat) (0 : Nat), Value.slice none (0 : Nat) (0 : Nat)] (0 : Nat) false true true) :: some (AObj.row [Value.string nm, Value.int IntKind.i64 f, Value.slice (some { block := (6 : Nat), off := (0 : Nat) }) s (0 : Nat), Value.slice (some { block := (7 : Nat), off := (0 : Nat) }) (mkK (mkB R) s) (0 : Nat)] (0 : Nat) false true false) :: some (AObj.row (flts (mkX R s)) (1 : Nat) true true true) :: some (AObj.row (ints (mkS (mkB R) s)) (2 : Nat) true true true) :: some (AObj.row [Value.int IntKind.i64 (rdV R ((0 : Nat) + Int.toNat (↑s : Int) * (2 : Nat))), Value.bool (rdW R ((0 : Nat) + Int.toNat (↑s : Int) * (2 : Nat)))] (0 : Nat) false true (true && List.all [Value.int IntKind.i64 (rdV R ((0 : Nat) + Int.toNat (↑s : Int) * (2 : Nat))), Value.bool (rdW R ((0 : Nat) + Int.toNat (↑s : Int) * (2 : Nat)))] atom)) :: some (AObj.row [Value.float FloatKind.f32 (smO (rdV R ((0 : Nat) + Int.toNat (↑s : Int) * (2 : Nat))))] (1 : Nat) false true (List.all [Value.float FloatKind.f32 (smO (rdV R ((0 : Nat) + Int.toNat (↑s : Int) * (2 : Nat))))] atom)) :: noH), off := (0 : Nat) }) (s + (1 : Nat)) (0 : Nat)] atom)) :: some (AObj.row (flts (mkX R s) ++ [Value.float FloatKind.f32 (smO (rdV R ((0 : Nat) + Int.toNat (↑s : Int) * (2 : Nat))))]) (1 : Nat) true true (List.all [Value.float FloatKind.f32 (smO (rdV R ((0 : Nat) + Int.toNat (↑s : Int) * (2 : Nat))))] atom)) :: some (AObj.row (ints (mkS (mkB R) s)) (2 : Nat) true true true) :: noH = some (AObj.row (flts xs) (1 : Nat) true true true) :: some (AObj.row (ints hs) (2 : Nat) true true true) :: some (AObj.row (rdc m R) (2 : Nat) true true true) :: some (AObj.row [Value.string nm, Value.int IntKind.i64 f, Value.slice (some { block := (0 : Nat), off := (0 : Nat) }) n c, Value.slice (some { block := (1 : Nat), off := (0 : Nat) }) k d] (0 : Nat) false true false) :: some (AObj.row [Value.string { data := #[] }, Value.int IntKind.i64 (0 : Int), Value.slice none (0 : Nat) (0 : Nat), Value.slice none (0 : Nat) (0 : Nat)] (0 : Nat) false true true) :: some (AObj.row [Value.string nm, Value.int IntKind.i64 f, Value.slice (some { block := (6 : Nat), off := (0 : Nat) }) s' (0 : Nat), Value.slice (some { block := (7 : Nat), off := (0 : Nat) }) (mkK (mkB R) s') (0 : Nat)] (0 : Nat) false true false) :: some (AObj.row (flts (mkX R s')) (1 : Nat) true true true) :: some (AObj.row (ints (mkS (mkB R) s')) (2 : Nat) true true true) :: noH) (br (decide ((0 : Int) < (↑(mkK (mkB R) s) : Int))) (Is ((0 : Int) ≤ IntKind.wrap IntKind.i64 ((↑(mkK (mkB R) s) : Int) - (1 : Int)) ∧ IntKind.wrap IntKind.i64 ((↑(mkK (mkB R) s) : Int) - (1 : Int)) < (↑(mkK (mkB R) s) : Int)) ∧ Is ((ints (mkS (mkB R) s))[(0 : Nat) + Int.toNat (IntKind.wrap IntKind.i64 ((↑(mkK (mkB R) s) : Int) - (1 : Int))) * (2 : Nat) + (1 : Nat)]? = some (Value.int IntKind.i64 (iAt (ints (mkS (mkB R) s)) ((0 : Nat) + Int.toNat (IntKind.wrap IntKind.i64 ((↑(mkK (mkB R) s) : Int) - (1 : Int))) * (2 : Nat) + (1 : Nat))))) ∧ br (iAt (ints (mkS (mkB R) s)) ((0 : Nat) + Int.toNat (IntKind.wrap IntKind.i64 ((↑(mkK (mkB R) s) : Int) - (1 : Int))) * (2 : Nat) + (1 : Nat)) == (↑s : Int)) (Is ((0 : Int) ≤ IntKind.wrap IntKind.i64 ((↑(mkK (mkB R) s) : Int) - (1 : Int)) ∧ IntKind.wrap IntKind.i64 ((↑(mkK (mkB R) s) : Int) - (1 : Int)) < (↑(mkK (mkB R) s) : Int)) ∧ Is ((ints (mkS (mkB R) s))[(0 : Nat) + Int.toNat (IntKind.wrap IntKind.i64 ((↑(mkK (mkB R) s) : Int) - (1 : Int))) * (2 : Nat) + (1 : Nat)]? = some (Value.int IntKind.i64 (iAt (ints (mkS (mkB R) s)) ((0 : Nat) + Int.toNat (IntKind.wrap IntKind.i64 ((↑(mkK (mkB R) s) : Int) - (1 : Int))) * (2 : Nat) + (1 : Nat))))) ∧ Is ((0 : Int) ≤ IntKind.wrap IntKind.i64 ((↑(mkK (mkB R) s) : Int) - (1 : Int)) ∧ IntKind.wrap IntKind.i64 ((↑(mkK (mkB R) s) : Int) - (1 : Int)) < (↑(mkK (mkB R) s) : Int)) ∧ Is ((0 : Nat) + Int.toNat (IntKind.wrap IntKind.i64 ((↑(mkK (mkB R) s) : Int) - (1 : Int))) * (2 : Nat) + (1 : Nat) + List.length [Value.int IntKind.i64 (IntKind.wrap IntKind.i64 (iAt (ints (mkS (mkB R) s)) ((0 : Nat) + Int.toNat (IntKind.wrap IntKind.i64 ((↑(mkK (mkB R) s) : Int) - (1 : Int))) * (2 : Nat) + (1 : Nat)) + (1 : Int)))] ≤ List.length (ints (mkS (mkB R) s))) ∧ ∃ (s' : Nat), Is (s' ≤ m) ∧ Is (m - s' < m - s) ∧ [poi, poi, Value.pointer (some { block := (3 : Nat), off := (0 : Nat) }), poi, Value.pointer (some { block := (4 : Nat), off := (0 : Nat) }), Value.pointer (some { block := (5 : Nat), off := (0 : Nat) }), poi, poi, poi, poi, poi, poi, poi, poi, Value.slice (some { block := (2 : Nat), off := (0 : Nat) }) m e, Value.int IntKind.i64 (↑m : Int), Value.int IntKind.i64 (IntKind.wrap IntKind.i64 ((↑s : Int) + (1 : Int))), poi, poi, poi, poi, poi, poi, poi, poi, poi, poi, poi, poi, poi, poi, poi, poi, poi, poi, poi, poi, poi, poi, poi, poi, poi, poi, poi, poi, poi, poi, poi, poi, poi, poi, poi, poi, poi, poi, poi, poi, poi, poi, poi, poi, poi, poi, poi, poi, poi, poi, poi, poi, poi] = [poi, poi, Value.pointer (some { block := (3 : Nat), off := (0 : Nat) }), poi, Value.pointer (some { block := (4 : Nat), off := (0 : Nat) }), Value.pointer (some { block := (5 : Nat), off := (0 : Nat) }), poi, poi, poi, poi, poi, poi, poi, poi, Value.slice (some { block := (2 : Nat), off := (0 : Nat) }) m e, Value.int IntKind.i64 (↑m : Int), Value.int IntKind.i64 (↑s' : Int), poi, poi, poi, poi, poi, poi, poi, poi, poi, poi, poi, poi, poi, poi, poi, poi, poi, poi, poi, poi, poi, poi, poi, poi, poi, poi, poi, poi, poi, poi, poi, poi, poi, poi, poi, poi, poi, poi, poi, poi, poi, poi, poi, poi, poi, poi, poi, poi, poi, poi, poi, poi, poi] ∧ some (AObj.row (flts xs) (1 : Nat) true true true) :: some (AObj.row (ints hs) (2 : Nat) true true true) :: some (AObj.row (rdc m R) (2 : Nat) true true true) :: some (AObj.row [Value.string nm, Value.int IntKind.i64 f, Value.slice (some { block := (0 : Nat), off := (0 : Nat) }) n c, Value.slice (some { block := (1 : Nat), off := (0 : Nat) }) k d] (0 : Nat) false true false) :: some (AObj.row [Value.string { data := #[] }, Value.int IntKind.i64 (0 : Int), Value.slice none (0 : Nat) (0 : Nat), Value.slice none (0 : Nat) (0 : Nat)] (0 : Nat) false true true) :: some (AObj.row [Value.string nm, Value.int IntKind.i64 f, Value.slice (some { block := (6 : Nat), off := (0 : Nat) }) (s + (1 : Nat)) (0 : Nat), Value.slice (some { block := (7 : Nat), off := (0 : Nat) }) (mkK (mkB R) s) (0 : Nat)] (0 : Nat) false true (false && List.all [Value.slice (some { block := List.length (some (AObj.row (flts xs) (1 : Nat) true true true) :: some (AObj.row (ints hs) (2 : Nat) true true true) :: some (AObj.row (rdc m R) (2 : Nat) true true true) :: some (AObj.row [Value.string nm, Value.int IntKind.i64 f, Value.slice (some { block := (0 : Nat), off := (0 : Nat) }) n c, Value.slice (some { block := (1 : Nat), off := (0 : Nat) }) k d] (0 : Nat) false true false) :: some (AObj.row [Value.string { data := #[] }, Value.int IntKind.i64 (0 : Int), Value.slice none (0 : Nat) (0 : Nat), Value.slice none (0 : Nat) (0 : Nat)] (0 : Nat) false true true) :: some (AObj.row [Value.string nm, Value.int IntKind.i64 f, Value.slice (some { block := (6 : Nat), off := (0 : Nat) }) s (0 : Nat), Value.slice (some { block := (7 : Nat), off := (0 : Nat) }) (mkK (mkB R) s) (0 : Nat)] (0 : Nat) false true false) :: some (AObj.row (flts (mkX R s)) (1 : Nat) true true true) :: some (AObj.row (ints (mkS (mkB R) s)) (2 : Nat) true true true) :: some (AObj.row [Value.int IntKind.i64 (rdV R ((0 : Nat) + Int.toNat (↑s : Int) * (2 : Nat))), Value.bool (rdW R ((0 : Nat) + Int.toNat (↑s : Int) * (2 : Nat)))] (0 : Nat) false true (true && List.all [Value.int IntKind.i64 (rdV R ((0 : Nat) + Int.toNat (↑s : Int) * (2 : Nat))), Value.bool (rdW R ((0 : Nat) + Int.toNat (↑s : Int) * (2 : Nat)))] atom)) :: some (AObj.row [Value.float FloatKind.f32 (smO (rdV R ((0 : Nat) + Int.toNat (↑s : Int) * (2 : Nat))))] (1 : Nat) false true (List.all [Value.float FloatKind.f32 (smO (rdV R ((0 : Nat) + Int.toNat (↑s : Int) * (2 : Nat))))] atom)) :: noH), off := (0 : Nat) }) (s + (1 : Nat)) (0 : Nat)] atom)) :: some (AObj.row (flts (mkX R s) ++ [Value.float FloatKind.f32 (smO (rdV R ((0 : Nat) + Int.toNat (↑s : Int) * (2 : Nat))))]) (1 : Nat) true true (List.all [Value.float FloatKind.f32 (smO (rdV R ((0 : Nat) + Int.toNat (↑s : Int) * (2 : Nat))))] atom)) :: some (AObj.row (putL (ints (mkS (mkB R) s)) ((0 : Nat) + Int.toNat (IntKind.wrap IntKind.i64 ((↑(mkK (mkB R) s) : Int) - (1 : Int))) * (2 : Nat) + (1 : Nat)) [Value.int IntKind.i64 (IntKind.wrap IntKind.i64 (iAt (ints (mkS (mkB R) s)) ((0 : Nat) + Int.toNat (IntKind.wrap IntKind.i64 ((↑(mkK (mkB R) s) : Int) - (1 : Int))) * (2 : Nat) + (1 : Nat)) + (1 : Int)))]) (2 : Nat) true true (true && List.all [Value.int IntKind.i64 (IntKind.wrap IntKind.i64 (iAt (ints (mkS (mkB R) s)) ((0 : Nat) + Int.toNat (IntKind.wrap IntKind.i64 ((↑(mkK (mkB R) s) : Int) - (1 : Int))) * (2 : Nat) + (1 : Nat)) + (1 : Int)))] atom)) :: noH = some (AObj.row (flts xs) (1 : Nat) true true true) :: some (AObj.row (ints hs) (2 : Nat) true true true) :: some (AObj.row (rdc m R) (2 : Nat) true true true) :: some (AObj.row [Value.string nm, Value.int IntKind.i64 f, Value.slice (some { block := (0 : Nat), off := (0 : Nat) }) n c, Value.slice (some { block := (1 : Nat), off := (0 : Nat) }) k d] (0 : Nat) false true false) :: some (AObj.row [Value.string { data := #[] }, Value.int IntKind.i64 (0 : Int), Value.slice none (0 : Nat) (0 : Nat), Value.slice none (0 : Nat) (0 : Nat)] (0 : Nat) false true true) :: some (AObj.row [Value.string nm, Value.int IntKind.i64 f, Value.slice (some { block := (6 : Nat), off := (0 : Nat) }) s' (0 : Nat), Value.slice (some { block := (7 : Nat), off := (0 : Nat) }) (mkK (mkB R) s') (0 : Nat)] (0 : Nat) false true false) :: some (AObj.row (flts (mkX R s')) (1 : Nat) true true true) :: some (AObj.row (ints (mkS (mkB R) s')) (2 : Nat) true true true) :: noH) (Is (List.length (ints (mkS (mkB R) s)) = mkK (mkB R) s * (2 : Nat) ∧ (mkK (mkB R) s + (1 : Nat)) * (16 : Nat) ≤ (140737488355328 : Nat) ∧ mkK (mkB R) s + (1 : Nat) ≤ (9223372036854775807 : Nat)) ∧ ∃ (s' : Nat), Is (s' ≤ m) ∧ Is (m - s' < m - s) ∧ [poi, poi, Value.pointer (some { block := (3 : Nat), off := (0 : Nat) }), poi, Value.pointer (some { block := (4 : Nat), off := (0 : Nat) }), Value.pointer (some { block := (5 : Nat), off := (0 : Nat) }), poi, poi, poi, poi, poi, poi, poi, poi, Value.slice (some { block := (2 : Nat), off := (0 : Nat) }) m e, Value.int IntKind.i64 (↑m : Int), Value.int IntKind.i64 (IntKind.wrap IntKind.i64 ((↑s : Int) + (1 : Int))), poi, poi, poi, poi, poi, poi, poi, poi, poi, poi, poi, poi, poi, poi, poi, poi, poi, poi, poi, poi, poi, poi, poi, poi, poi, poi, poi, poi, poi, poi, poi, poi, poi, poi, poi, poi, poi, poi, poi, poi, poi, poi, poi, poi, poi, poi, poi, poi, poi, poi, poi, poi, poi] = [poi, poi, Value.pointer (some { block := (3 : Nat), off := (0 : Nat) }), poi, Value.pointer (some { block := (4 : Nat), off := (0 : Nat) }), Value.pointer (some { block := (5 : Nat), off := (0 : Nat) }), poi, poi, poi, poi, poi, poi, poi, poi, Value.slice (some { block := (2 : Nat), off := (0 : Nat) }) m e, Value.int IntKind.i64 (↑m : Int), Value.int IntKind.i64 (↑s' : Int), poi, poi, poi, poi, poi, poi, poi, poi, poi, poi, poi, poi, poi, poi, poi, poi, poi, poi, poi, poi, poi, poi, poi, poi, poi, poi, poi, poi, poi, poi, poi, poi, poi, poi, poi, poi, poi, poi, poi, poi, poi, poi, poi, poi, poi, poi, poi, poi, poi, poi, poi, poi, poi] ∧ some (AObj.row (flts xs) (1 : Nat) true true true) :: some (AObj.row (ints hs) (2 : Nat) true true true) :: some (AObj.row (rdc m R) (2 : Nat) true true true) :: some (AObj.row [Value.string nm, Value.int IntKind.i64 f, Value.slice (some { block := (0 : Nat), off := (0 : Nat) }) n c, Value.slice (some { block := (1 : Nat), off := (0 : Nat) }) k d] (0 : Nat) false true false) :: some (AObj.row [Value.string { data := #[] }, Value.int IntKind.i64 (0 : Int), Value.slice none (0 : Nat) (0 : Nat), Value.slice none (0 : Nat) (0 : Nat)] (0 : Nat) false true true) :: some (AObj.row [Value.string nm, Value.int IntKind.i64 f, Value.slice (some { block := (6 : Nat), off := (0 : Nat) }) (s + (1 : Nat)) (0 : Nat), Value.slice (some { block := (7 : Nat), off := (0 : Nat) }) (mkK (mkB R) s + (1 : Nat)) (0 : Nat)] (0 : Nat) false true (false && List.all [Value.slice (some { block := List.length (some (AObj.row (flts xs) (1 : Nat) true true true) :: some (AObj.row (ints hs) (2 : Nat) true true true) :: some (AObj.row (rdc m R) (2 : Nat) true true true) :: some (AObj.row [Value.string nm, Value.int IntKind.i64 f, Value.slice (some { block := (0 : Nat), off := (0 : Nat) }) n c, Value.slice (some { block := (1 : Nat), off := (0 : Nat) }) k d] (0 : Nat) false true false) :: some (AObj.row [Value.string { data := #[] }, Value.int IntKind.i64 (0 : Int), Value.slice none (0 : Nat) (0 : Nat), Value.slice none (0 : Nat) (0 : Nat)] (0 : Nat) false true true) :: some (AObj.row [Value.string nm, Value.int IntKind.i64 f, Value.slice (some { block := (6 : Nat), off := (0 : Nat) }) s (0 : Nat), Value.slice (some { block := (7 : Nat), off := (0 : Nat) }) (mkK (mkB R) s) (0 : Nat)] (0 : Nat) false true false) :: some (AObj.row (flts (mkX R s)) (1 : Nat) true true true) :: some (AObj.row (ints (mkS (mkB R) s)) (2 : Nat) true true true) :: some (AObj.row [Value.int IntKind.i64 (rdV R ((0 : Nat) + Int.toNat (↑s : Int) * (2 : Nat))), Value.bool (rdW R ((0 : Nat) + Int.toNat (↑s : Int) * (2 : Nat)))] (0 : Nat) false true (true && List.all [Value.int IntKind.i64 (rdV R ((0 : Nat) + Int.toNat (↑s : Int) * (2 : Nat))), Value.bool (rdW R ((0 : Nat) + Int.toNat (↑s : Int) * (2 : Nat)))] atom)) :: some (AObj.row [Value.float FloatKind.f32 (smO (rdV R ((0 : Nat) + Int.toNat (↑s : Int) * (2 : Nat))))] (1 : Nat) false true (List.all [Value.float FloatKind.f32 (smO (rdV R ((0 : Nat) + Int.toNat (↑s : Int) * (2 : Nat))))] atom)) :: noH), off := (0 : Nat) }) (s + (1 : Nat)) (0 : Nat)] atom && List.all [Value.slice (some { block := List.length (some (AObj.row (flts xs) (1 : Nat) true true true) :: some (AObj.row (ints hs) (2 : Nat) true true true) :: some (AObj.row (rdc m R) (2 : Nat) true true true) :: some (AObj.row [Value.string nm, Value.int IntKind.i64 f, Value.slice (some { block := (0 : Nat), off := (0 : Nat) }) n c, Value.slice (some { block := (1 : Nat), off := (0 : Nat) }) k d] (0 : Nat) false true false) :: some (AObj.row [Value.string { data := #[] }, Value.int IntKind.i64 (0 : Int), Value.slice none (0 : Nat) (0 : Nat), Value.slice none (0 : Nat) (0 : Nat)] (0 : Nat) false true true) :: some (AObj.row [Value.string nm, Value.int IntKind.i64 f, Value.slice (some { block := List.length (some (AObj.row (flts xs) (1 : Nat) true true true) :: some (AObj.row (ints hs) (2 : Nat) true true true) :: some (AObj.row (rdc m R) (2 : Nat) true true true) :: some (AObj.row [Value.string nm, Value.int IntKind.i64 f, Value.slice (some { block := (0 : Nat), off := (0 : Nat) }) n c, Value.slice (some { block := (1 : Nat), off := (0 : Nat) }) k d] (0 : Nat) false true false) :: some (AObj.row [Value.string { data := #[] }, Value.int IntKind.i64 (0 : Int), Value.slice none (0 : Nat) (0 : Nat), Value.slice none (0 : Nat) (0 : Nat)] (0 : Nat) false true true) :: some (AObj.row [Value.string nm, Value.int IntKind.i64 f, Value.slice (some { block := (6 : Nat), off := (0 : Nat) }) s (0 : Nat), Value.slice (some { block := (7 : Nat), off := (0 : Nat) }) (mkK (mkB R) s) (0 : Nat)] (0 : Nat) false true false) :: some (AObj.row (flts (mkX R s)) (1 : Nat) true true true) :: some (AObj.row (ints (mkS (mkB R) s)) (2 : Nat) true true true) :: some (AObj.row [Value.int IntKind.i64 (rdV R ((0 : Nat) + Int.toNat (↑s : Int) * (2 : Nat))), Value.bool (rdW R ((0 : Nat) + Int.toNat (↑s : Int) * (2 : Nat)))] (0 : Nat) false true (true && List.all [Value.int IntKind.i64 (rdV R ((0 : Nat) + Int.toNat (↑s : Int) * (2 : Nat))), Value.bool (rdW R ((0 : Nat) + Int.toNat (↑s : Int) * (2 : Nat)))] atom)) :: some (AObj.row [Value.float FloatKind.f32 (smO (rdV R ((0 : Nat) + Int.toNat (↑s : Int) * (2 : Nat))))] (1 : Nat) false true (List.all [Value.float FloatKind.f32 (smO (rdV R ((0 : Nat) + Int.toNat (↑s : Int) * (2 : Nat))))] atom)) :: noH), off := (0 : Nat) }) (s + (1 : Nat)) (0 : Nat), Value.slice (some { block := (7 : Nat), off := (0 : Nat) }) (mkK (mkB R) s) (0 : Nat)] (0 : Nat) false true (false && List.all [Value.slice (some { block := List.length (some (AObj.row (flts xs) (1 : Nat) true true true) :: some (AObj.row (ints hs) (2 : Nat) true true true) :: some (AObj.row (rdc m R) (2 : Nat) true true true) :: some (AObj.row [Value.string nm, Value.int IntKind.i64 f, Value.slice (some { block := (0 : Nat), off := (0 : Nat) }) n c, Value.slice (some { block := (1 : Nat), off := (0 : Nat) }) k d] (0 : Nat) false true false) :: some (AObj.row [Value.string { data := #[] }, Value.int IntKind.i64 (0 : Int), Value.slice none (0 : Nat) (0 : Nat), Value.slice none (0 : Nat) (0 : Nat)] (0 : Nat) false true true) :: some (AObj.row [Value.string nm, Value.int IntKind.i64 f, Value.slice (some { block := (6 : Nat), off := (0 : Nat) }) s (0 : Nat), Value.slice (some { block := (7 : Nat), off := (0 : Nat) }) (mkK (mkB R) s) (0 : Nat)] (0 : Nat) false true false) :: some (AObj.row (flts (mkX R s)) (1 : Nat) true true true) :: some (AObj.row (ints (mkS (mkB R) s)) (2 : Nat) true true true) :: some (AObj.row [Value.int IntKind.i64 (rdV R ((0 : Nat) + Int.toNat (↑s : Int) * (2 : Nat))), Value.bool (rdW R ((0 : Nat) + Int.toNat (↑s : Int) * (2 : Nat)))] (0 : Nat) false true (true && List.all [Value.int IntKind.i64 (rdV R ((0 : Nat) + Int.toNat (↑s : Int) * (2 : Nat))), Value.bool (rdW R ((0 : Nat) + Int.toNat (↑s : Int) * (2 : Nat)))] atom)) :: some (AObj.row [Value.float FloatKind.f32 (smO (rdV R ((0 : Nat) + Int.toNat (↑s : Int) * (2 : Nat))))] (1 : Nat) false true (List.all [Value.float FloatKind.f32 (smO (rdV R ((0 : Nat) + Int.toNat (↑s : Int) * (2 : Nat))))] atom)) :: noH), off := (0 : Nat) }) (s + (1 : Nat)) (0 : Nat)] atom)) :: none :: some (AObj.row (ints (mkS (mkB R) s)) (2 : Nat) true true true) :: some (AObj.row [Value.int IntKind.i64 (rdV R ((0 : Nat) + Int.toNat (↑s : Int) * (2 : Nat))), Value.bool (rdW R ((0 : Nat) + Int.toNat (↑s : Int) * (2 : Nat)))] (0 : Nat) false true (true && List.all [Value.int IntKind.i64 (rdV R ((0 : Nat) + Int.toNat (↑s : Int) * (2 : Nat))), Value.bool (rdW R ((0 : Nat) + Int.toNat (↑s : Int) * (2 : Nat)))] atom)) :: some (AObj.row [Value.float FloatKind.f32 (smO (rdV R ((0 : Nat) + Int.toNat (↑s : Int) * (2 : Nat))))] (1 : Nat) false true (List.all [Value.float FloatKind.f32 (smO (rdV R ((0 : Nat) + Int.toNat (↑s : Int) * (2 : Nat))))] atom)) :: some (AObj.row (flts (mkX R s) ++ [Value.float FloatKind.f32 (smO (rdV R ((0 : Nat) + Int.toNat (↑s : Int) * (2 : Nat))))]) (1 : Nat) true true (List.all [Value.float FloatKind.f32 (smO (rdV R ((0 : Nat) + Int.toNat (↑s : Int) * (2 : Nat))))] atom)) :: some (AObj.row [Value.int IntKind.i64 (↑s : Int), Value.int IntKind.i64 (IntKind.wrap IntKind.i64 ((↑s : Int) + (1 : Int)))] (2 : Nat) false true (List.all [Value.int IntKind.i64 (↑s : Int), Value.int IntKind.i64 (IntKind.wrap IntKind.i64 ((↑s : Int) + (1 : Int)))] atom)) :: noH), off := (0 : Nat) }) (mkK (mkB R) s + (1 : Nat)) (0 : Nat)] atom)) :: some (AObj.row (flts (mkX R s) ++ [Value.float FloatKind.f32 (smO (rdV R ((0 : Nat) + Int.toNat (↑s : Int) * (2 : Nat))))]) (1 : Nat) true true (List.all [Value.float FloatKind.f32 (smO (rdV R ((0 : Nat) + Int.toNat (↑s : Int) * (2 : Nat))))] atom)) :: some (AObj.row (ints (mkS (mkB R) s) ++ [Value.int IntKind.i64 (↑s : Int), Value.int IntKind.i64 (IntKind.wrap IntKind.i64 ((↑s : Int) + (1 : Int)))]) (2 : Nat) true true (List.all [Value.int IntKind.i64 (↑s : Int), Value.int IntKind.i64 (IntKind.wrap IntKind.i64 ((↑s : Int) + (1 : Int)))] atom)) :: noH = some (AObj.row (flts xs) (1 : Nat) true true true) :: some (AObj.row (ints hs) (2 : Nat) true true true) :: some (AObj.row (rdc m R) (2 : Nat) true true true) :: some (AObj.row [Value.string nm, Value.int IntKind.i64 f, Value.slice (some { block := (0 : Nat), off := (0 : Nat) }) n c, Value.slice (some { block := (1 : Nat), off := (0 : Nat) }) k d] (0 : Nat) false true false) :: some (AObj.row [Value.string { data := #[] }, Value.int IntKind.i64 (0 : Int), Value.slice none (0 : Nat) (0 : Nat), Value.slice none (0 : Nat) (0 : Nat)] (0 : Nat) false true true) :: some (AObj.row [Value.string nm, Value.int IntKind.i64 f, Value.slice (some { block := (6 : Nat), off := (0 : Nat) }) s' (0 : Nat), Value.slice (some { block := (7 : Nat), off := (0 : Nat) }) (mkK (mkB R) s') (0 : Nat)] (0 : Nat) false true false) :: some (AObj.row (flts (mkX R s')) (1 : Nat) true true true) :: some (AObj.row (ints (mkS (mkB R) s')) (2 : Nat) true true true) :: noH)) (Is (List.length (ints (mkS (mkB R) s)) = mkK (mkB R) s * (2 : Nat) ∧ (mkK (mkB R) s + (1 : Nat)) * (16 : Nat) ≤ (140737488355328 : Nat) ∧ mkK (mkB R) s + (1 : Nat) ≤ (9223372036854775807 : Nat)) ∧ ∃ (s' : Nat), Is (s' ≤ m) ∧ Is (m - s' < m - s) ∧ [poi, poi, Value.pointer (some { block := (3 : Nat), off := (0 : Nat) }), poi, Value.pointer (some { block := (4 : Nat), off := (0 : Nat) }), Value.pointer (some { block := (5 : Nat), off := (0 : Nat) }), poi, poi, poi, poi, poi, poi, poi, poi, Value.slice (some { block := (2 : Nat), off := (0 : Nat) }) m e, Value.int IntKind.i64 (↑m : Int), Value.int IntKind.i64 (IntKind.wrap IntKind.i64 ((↑s : Int) + (1 : Int))), poi, poi, poi, poi, poi, poi, poi, poi, poi, poi, poi, poi, poi, poi, poi, poi, poi, poi, poi, poi, poi, poi, poi, poi, poi, poi, poi, poi, poi, poi, poi, poi, poi, poi, poi, poi, poi, poi, poi, poi, poi, poi, poi, poi, poi, poi, poi, poi, poi, poi, poi, poi, poi] = [poi, poi, Value.pointer (some { block := (3 : Nat), off := (0 : Nat) }), poi, Value.pointer (some { block := (4 : Nat), off := (0 : Nat) }), Value.pointer (some { block := (5 : Nat), off := (0 : Nat) }), poi, poi, poi, poi, poi, poi, poi, poi, Value.slice (some { block := (2 : Nat), off := (0 : Nat) }) m e, Value.int IntKind.i64 (↑m : Int), Value.int IntKind.i64 (↑s' : Int), poi, poi, poi, poi, poi, poi, poi, poi, poi, poi, poi, poi, poi, poi, poi, poi, poi, poi, poi, poi, poi, poi, poi, poi, poi, poi, poi, poi, poi, poi, poi, poi, poi, poi, poi, poi, poi, poi, poi, poi, poi, poi, poi, poi, poi, poi, poi, poi, poi, poi, poi, poi, poi] ∧ some (AObj.row (flts xs) (1 : Nat) true true true) :: some (AObj.row (ints hs) (2 : Nat) true true true) :: some (AObj.row (rdc m R) (2 : Nat) true true true) :: some (AObj.row [Value.string nm, Value.int IntKind.i64 f, Value.slice (some { block := (0 : Nat), off := (0 : Nat) }) n c, Value.slice (some { block := (1 : Nat), off := (0 : Nat) }) k d] (0 : Nat) false true false) :: some (AObj.row [Value.string { data := #[] }, Value.int IntKind.i64 (0 : Int), Value.slice none (0 : Nat) (0 : Nat), Value.slice none (0 : Nat) (0 : Nat)] (0 : Nat) false true true) :: some (AObj.row [Value.string nm, Value.int IntKind.i64 f, Value.slice (some { block := (6 : Nat), off := (0 : Nat) }) (s + (1 : Nat)) (0 : Nat), Value.slice (some { block := (7 : Nat), off := (0 : Nat) }) (mkK (mkB R) s + (1 : Nat)) (0 : Nat)] (0 : Nat) false true (false && List.all [Value.slice (some { block := List.length (some (AObj.row (flts xs) (1 : Nat) true true true) :: some (AObj.row (ints hs) (2 : Nat) true true true) :: some (AObj.row (rdc m R) (2 : Nat) true true true) :: some (AObj.row [Value.string nm, Value.int IntKind.i64 f, Value.slice (some { block := (0 : Nat), off := (0 : Nat) }) n c, Value.slice (some { block := (1 : Nat), off := (0 : Nat) }) k d] (0 : Nat) false true false) :: some (AObj.row [Value.string { data := #[] }, Value.int IntKind.i64 (0 : Int), Value.slice none (0 : Nat) (0 : Nat), Value.slice none (0 : Nat) (0 : Nat)] (0 : Nat) false true true) :: some (AObj.row [Value.string nm, Value.int IntKind.i64 f, Value.slice (some { block := (6 : Nat), off := (0 : Nat) }) s (0 : Nat), Value.slice (some { block := (7 : Nat), off := (0 : Nat) }) (mkK (mkB R) s) (0 : Nat)] (0 : Nat) false true false) :: some (AObj.row (flts (mkX R s)) (1 : Nat) true true true) :: some (AObj.row (ints (mkS (mkB R) s)) (2 : Nat) true true true) :: some (AObj.row [Value.int IntKind.i64 (rdV R ((0 : Nat) + Int.toNat (↑s : Int) * (2 : Nat))), Value.bool (rdW R ((0 : Nat) + Int.toNat (↑s : Int) * (2 : Nat)))] (0 : Nat) false true (true && List.all [Value.int IntKind.i64 (rdV R ((0 : Nat) + Int.toNat (↑s : Int) * (2 : Nat))), Value.bool (rdW R ((0 : Nat) + Int.toNat (↑s : Int) * (2 : Nat)))] atom)) :: some (AObj.row [Value.float FloatKind.f32 (smO (rdV R ((0 : Nat) + Int.toNat (↑s : Int) * (2 : Nat))))] (1 : Nat) false true (List.all [Value.float FloatKind.f32 (smO (rdV R ((0 : Nat) + Int.toNat (↑s : Int) * (2 : Nat))))] atom)) :: noH), off := (0 : Nat) }) (s + (1 : Nat)) (0 : Nat)] atom && List.all [Value.slice (some { block := List.length (some (AObj.row (flts xs) (1 : Nat) true true true) :: some (AObj.row (ints hs) (2 : Nat) true true true) :: some (AObj.row (rdc m R) (2 : Nat) true true true) :: some (AObj.row [Value.string nm, Value.int IntKind.i64 f, Value.slice (some { block := (0 : Nat), off := (0 : Nat) }) n c, Value.slice (some { block := (1 : Nat), off := (0 : Nat) }) k d] (0 : Nat) false true false) :: some (AObj.row [Value.string { data := #[] }, Value.int IntKind.i64 (0 : Int), Value.slice none (0 : Nat) (0 : Nat), Value.slice none (0 : Nat) (0 : Nat)] (0 : Nat) false true true) :: some (AObj.row [Value.string nm, Value.int IntKind.i64 f, Value.slice (some { block := List.length (some (AObj.row (flts xs) (1 : Nat) true true true) :: some (AObj.row (ints hs) (2 : Nat) true true true) :: some (AObj.row (rdc m R) (2 : Nat) true true true) :: some (AObj.row [Value.string nm, Value.int IntKind.i64 f, Value.slice (some { block := (0 : Nat), off := (0 : Nat) }) n c, Value.slice (some { block := (1 : Nat), off := (0 : Nat) }) k d] (0 : Nat) false true false) :: some (AObj.row [Value.string { data := #[] }, Value.int IntKind.i64 (0 : Int), Value.slice none (0 : Nat) (0 : Nat), Value.slice none (0 : Nat) (0 : Nat)] (0 : Nat) false true true) :: some (AObj.row [Value.string nm, Value.int IntKind.i64 f, Value.slice (some { block := (6 : Nat), off := (0 : Nat) }) s (0 : Nat), Value.slice (some { block := (7 : Nat), off := (0 : Nat) }) (mkK (mkB R) s) (0 : Nat)] (0 : Nat) false true false) :: some (AObj.row (flts (mkX R s)) (1 : Nat) true true true) :: some (AObj.row (ints (mkS (mkB R) s)) (2 : Nat) true true true) :: some (AObj.row [Value.int IntKind.i64 (rdV R ((0 : Nat) + Int.toNat (↑s : Int) * (2 : Nat))), Value.bool (rdW R ((0 : Nat) + Int.toNat (↑s : Int) * (2 : Nat)))] (0 : Nat) false true (true && List.all [Value.int IntKind.i64 (rdV R ((0 : Nat) + Int.toNat (↑s : Int) * (2 : Nat))), Value.bool (rdW R ((0 : Nat) + Int.toNat (↑s : Int) * (2 : Nat)))] atom)) :: some (AObj.row [Value.float FloatKind.f32 (smO (rdV R ((0 : Nat) + Int.toNat (↑s : Int) * (2 : Nat))))] (1 : Nat) false true (List.all [Value.float FloatKind.f32 (smO (rdV R ((0 : Nat) + Int.toNat (↑s : Int) * (2 : Nat))))] atom)) :: noH), off := (0 : Nat) }) (s + (1 : Nat)) (0 : Nat), Value.slice (some { block := (7 : Nat), off := (0 : Nat) }) (mkK (mkB R) s) (0 : Nat)] (0 : Nat) false true (false && List.all [Value.slice (some { block := List.length (some (AObj.row (flts xs) (1 : Nat) true true true) :: some (AObj.row (ints hs) (2 : Nat) true true true) :: some (AObj.row (rdc m R) (2 : Nat) true true true) :: some (AObj.row [Value.string nm, Value.int IntKind.i64 f, Value.slice (some { block := (0 : Nat), off := (0 : Nat) }) n c, Value.slice (some { block := (1 : Nat), off := (0 : Nat) }) k d] (0 : Nat) false true false) :: some (AObj.row [Value.string { data := #[] }, Value.int IntKind.i64 (0 : Int), Value.slice none (0 : Nat) (0 : Nat), Value.slice none (0 : Nat) (0 : Nat)] (0 : Nat) false true true) :: some (AObj.row [Value.string nm, Value.int IntKind.i64 f, Value.slice (some { block := (6 : Nat), off := (0 : Nat) }) s (0 : Nat), Value.slice (some { block := (7 : Nat), off := (0 : Nat) }) (mkK (mkB R) s) (0 : Nat)] (0 : Nat) false true false) :: some (AObj.row (flts (mkX R s)) (1 : Nat) true true true) :: some (AObj.row (ints (mkS (mkB R) s)) (2 : Nat) true true true) :: some (AObj.row [Value.int IntKind.i64 (rdV R ((0 : Nat) + Int.toNat (↑s : Int) * (2 : Nat))), Value.bool (rdW R ((0 : Nat) + Int.toNat (↑s : Int) * (2 : Nat)))] (0 : Nat) false true (true && List.all [Value.int IntKind.i64 (rdV R ((0 : Nat) + Int.toNat (↑s : Int) * (2 : Nat))), Value.bool (rdW R ((0 : Nat) + Int.toNat (↑s : Int) * (2 : Nat)))] atom)) :: some (AObj.row [Value.float FloatKind.f32 (smO (rdV R ((0 : Nat) + Int.toNat (↑s : Int) * (2 : Nat))))] (1 : Nat) false true (List.all [Value.float FloatKind.f32 (smO (rdV R ((0 : Nat) + Int.toNat (↑s : Int) * (2 : Nat))))] atom)) :: noH), off := (0 : Nat) }) (s + (1 : Nat)) (0 : Nat)] atom)) :: none :: some (AObj.row (ints (mkS (mkB R) s)) (2 : Nat) true true true) :: some (AObj.row [Value.int IntKind.i64 (rdV R ((0 : Nat) + Int.toNat (↑s : Int) * (2 : Nat))), Value.bool (rdW R ((0 : Nat) + Int.toNat (↑s : Int) * (2 : Nat)))] (0 : Nat) false true (true && List.all [Value.int IntKind.i64 (rdV R ((0 : Nat) + Int.toNat (↑s : Int) * (2 : Nat))), Value.bool (rdW R ((0 : Nat) + Int.toNat (↑s : Int) * (2 : Nat)))] atom)) :: some (AObj.row [Value.float FloatKind.f32 (smO (rdV R ((0 : Nat) + Int.toNat (↑s : Int) * (2 : Nat))))] (1 : Nat) false true (List.all [Value.float FloatKind.f32 (smO (rdV R ((0 : Nat) + Int.toNat (↑s : Int) * (2 : Nat))))] atom)) :: some (AObj.row (flts (mkX R s) ++ [Value.float FloatKind.f32 (smO (rdV R ((0 : Nat) + Int.toNat (↑s : Int) * (2 : Nat))))]) (1 : Nat) true true (List.all [Value.float FloatKind.f32 (smO (rdV R ((0 : Nat) + Int.toNat (↑s : Int) * (2 : Nat))))] atom)) :: some (AObj.row [Value.int IntKind.i64 (↑s : Int), Value.int IntKind.i64 (IntKind.wrap IntKind.i64 ((↑s : Int) + (1 : Int)))] (2 : Nat) false true (List.all [Value.int IntKind.i64 (↑s : Int), Value.int IntKind.i64 (IntKind.wrap IntKind.i64 ((↑s : Int) + (1 : Int)))] atom)) :: noH), off := (0 : Nat) }) (mkK (mkB R) s + (1 : Nat)) (0 : Nat)] atom)) :: some (AObj.row (flts (mkX R s) ++ [Value.float FloatKind.f32 (smO (rdV R ((0 : Nat) + Int.toNat (↑s : Int) * (2 : Nat))))]) (1 : Nat) true true (List.all [Value.float FloatKind.f32 (smO (rdV R ((0 : Nat) + Int.toNat (↑s : Int) * (2 : Nat))))] atom)) :: some (AObj.row (ints (mkS (mkB R) s) ++ [Value.int IntKind.i64 (↑s : Int), Value.int IntKind.i64 (IntKind.wrap IntKind.i64 ((↑s : Int) + (1 : Int)))]) (2 : Nat) true true (List.all [Value.int IntKind.i64 (↑s : Int), Value.int IntKind.i64 (IntKind.wrap IntKind.i64 ((↑s : Int) + (1 : Int)))] atom)) :: noH = some (AObj.row (flts xs) (1 : Nat) true true true) :: some (AObj.row (ints hs) (2 : Nat) true true true) :: some (AObj.row (rdc m R) (2 : Nat) true true true) :: some (AObj.row [Value.string nm, Value.int IntKind.i64 f, Value.slice (some { block := (0 : Nat), off := (0 : Nat) }) n c, Value.slice (some { block := (1 : Nat), off := (0 : Nat) }) k d] (0 : Nat) false true false) :: some (AObj.row [Value.string { data := #[] }, Value.int IntKind.i64 (0 : Int), Value.slice none (0 : Nat) (0 : Nat), Value.slice none (0 : Nat) (0 : Nat)] (0 : Nat) false true true) :: some (AObj.row [Value.string nm, Value.int IntKind.i64 f, Value.slice (some { block := (6 : Nat), off := (0 : Nat) }) s' (0 : Nat), Value.slice (some { block := (7 : Nat), off := (0 : Nat) }) (mkK (mkB R) s') (0 : Nat)] (0 : Nat) false true false) :: some (AObj.row (flts (mkX R s')) (1 : Nat) true true true) :: some (AObj.row (ints (mkS (mkB R) s')) (2 : Nat) true true true) :: noH))) (K (Value.agg #[Value.string nm, Value.int IntKind.i64 f, Value.slice (some { block := (3 : Nat), off := (0 : Nat) }) s (0 : Nat), Value.slice (some { block := (4 : Nat), off := (0 : Nat) }) (mkK (mkB R) s) (0 : Nat)]) (some (AObj.row (flts xs) (1 : Nat) true true true) :: some (AObj.row (ints hs) (2 : Nat) true true true) :: some (AObj.row (rdc m R) (2 : Nat) true true true) :: some (AObj.row (flts (mkX R s)) (1 : Nat) true true true) :: some (AObj.row (ints (mkS (mkB R) s)) (2 : Nat) true true true) :: noH))) := by kernel_rfl
theorem mkS_len (B : Nat → Bool) : ∀ s, (mkS B s).length = mkK B s * 2 ∧ mkK B s ≤ s := by
  intro s
  have : (mkS B s).length % 2 = 0 ∧ (mkS B s).length ≤ 2 * s := by
    induction s with
    | zero => exact ⟨rfl, Nat.le_refl _⟩
    | succ s ih =>
      rw [mkS]
      split
      · exact ⟨ih.1, by omega⟩
      · split
        · rename_i h; simp only [lastIs, Bool.and_eq_true, decide_eq_true_eq] at h
          rw [join_len h.1]; exact ⟨ih.1, by omega⟩
        · rw [List.length_append]; simp only [List.length_cons, List.length_nil]; omega
  rw [mkK]; omega
theorem mkS_zero (B : Nat → Bool) : mkS B 0 = [] := by rw [mkS]
theorem mkK_zero (B : Nat → Bool) : mkK B 0 = 0 := by rw [mkK, mkS_zero]; rfl
theorem mkX_zero (R : Nat → Int × Bool) : mkX R 0 = [] := rfl
theorem mkX_succ (R : Nat → Int × Bool) (s : Nat) : mkX R (s + 1) = mkX R s ++ [smO (R s).1] := by
  rw [mkX, mkX, List.range_succ, List.map_append]; rfl
theorem mkX_len (R : Nat → Int × Bool) (s : Nat) : (mkX R s).length = s := by rw [mkX, List.length_map, List.length_range]
theorem flts_app (xs ys : List Nat) : flts xs ++ flts ys = flts (xs ++ ys) := by rw [flts, flts, flts, List.map_append]
set_option maxRecDepth 100000 in
theorem wi_ok {nm : ByteArray} {f : Int} {n c k d m e : Nat} {xs : List Nat} {hs : List Int} {R : Nat → Int × Bool} (h9 : m ≤ 100000) (hR : ∀ i, i < m → (R i).1.natAbs < 2 ^ 24) :
    SmallRes Tryz.prog 70 [.agg (runA nm f 0 n c 1 k d).toArray, .slice (some ⟨2, 0, none⟩) m e] (hp2r xs hs true true true true [rdR m R]) (.agg (runA nm f 3 m 0 4 (mkK (mkB R) m) 0).toArray) (hp2r xs hs true true true true [rdR m R, fR (mkX R m), some (.row (ints (mkS (mkB R) m)) 2 true true true)]) := by
  refine fnP_res hm c0_ok (hs := hsWi nm f n c k d m e xs hs R) ?_
  rw [wi_t]
  refine ⟨⟨(0 : Nat), ⟨rfl⟩, by first | trivial | rfl, by first | trivial | rfl⟩, fun _ _ => ⟨⟨(0 : Nat), ⟨Nat.zero_le _⟩, by first | trivial | rfl, by rw [mkK_zero, mkX_zero, mkS_zero]; first | done | trivial | rfl⟩, fun s hs' => br_of (fun hc => ?_) (fun hc => ?_)⟩⟩
  · have hc := lt_of_dec hc
    simp only [Nat.zero_add, Int.toNat_natCast, rdV_at, rdW_at]
    obtain ⟨l1, l2⟩ := mkS_len (mkB R) s
    have hx : flts (mkX R s) ++ [.float .f32 (smO (R s).1)] = flts (mkX R (s + 1)) := by rw [mkX_succ, ← flts_app]; rfl
    have es : mkS (mkB R) (s + 1) = if mkB R s = true then mkS (mkB R) s else if lastIs (mkS (mkB R) s) s = true then (mkS (mkB R) s).take ((mkS (mkB R) s).length - 1) ++ [(s : Int) + 1] else mkS (mkB R) s ++ [(s : Int), (s : Int) + 1] := rfl
    have ek : mkK (mkB R) (s + 1) = (mkS (mkB R) (s + 1)).length / 2 := rfl
    have ek0 : mkK (mkB R) s = (mkS (mkB R) s).length / 2 := rfl
    have w1 : IntKind.wrap .i64 ((s : Int) + 1) = (s : Int) + 1 := wrap_eq (by omega) (by omega)
    rw [hx, up1 hc (by omega)]
    refine ⟨⟨by omega, by omega⟩, ⟨by rw [rdc_len, if_pos (by omega), ← (rdc_take hc), rdc_len, if_pos (by omega)]⟩, ⟨hR s hc⟩, ⟨by rw [flts_len, mkX_len]; omega, by omega, by omega⟩, br_of (fun hk => ?_) (fun hk => ?_)⟩
    · have e1 : mkS (mkB R) (s + 1) = mkS (mkB R) s := by rw [es]; exact if_pos hk
      have e2 : mkK (mkB R) (s + 1) = mkK (mkB R) s := by rw [ek, e1, ek0]
      refine ⟨s + 1, ⟨hc⟩, ⟨by omega⟩, by first | trivial | rfl, by rw [e1, e2]; first | done | trivial | rfl⟩
    · have hk' : ¬ mkB R s = true := fun h => by rw [mkB, hk] at h; cases h
      rw [if_neg hk'] at es
      generalize mkS (mkB R) s = l at *
      have hnew : lastIs l s = false → mkS (mkB R) (s + 1) = l ++ [(s : Int), (s : Int) + 1] ∧ mkK (mkB R) (s + 1) = mkK (mkB R) s + 1 := fun h => by
        have : mkS (mkB R) (s + 1) = l ++ [(s : Int), (s : Int) + 1] := by rw [es, h]; rfl
        refine ⟨this, ?_⟩
        rw [ek, ek0, this, new_len]
      have happ : ints l ++ [.int .i64 (s : Int), .int .i64 ((s : Int) + 1)] = ints (l ++ [(s : Int), (s : Int) + 1]) := by rw [← ints_app]; rfl
      have hvc : (ints l).length = mkK (mkB R) s * 2 ∧ (mkK (mkB R) s + 1) * 16 ≤ 140737488355328 ∧ mkK (mkB R) s + 1 ≤ 9223372036854775807 := ⟨by rw [ints_len]; exact l1, by omega, by omega⟩
      have u1 : ((s + 1 : Nat) : Int) = (s : Int) + 1 := rfl
      refine br_of (fun h0 => ?_) (fun h0 => ?_)
      · have h0 : 0 < mkK (mkB R) s := by have := of_decide_eq_true h0; omega
        have wk : IntKind.wrap .i64 ((mkK (mkB R) s : Int) - 1) = ((mkK (mkB R) s - 1 : Nat) : Int) := by rw [wrap_eq (by omega) (by omega)]; omega
        have ei : (mkK (mkB R) s - 1) * 2 + 1 = l.length - 1 := by omega
        rw [wk]
        simp only [Int.toNat_natCast]
        have hl : l.length - 1 < l.length := by omega
        have hat : (ints l)[(mkK (mkB R) s - 1) * 2 + 1]? = some (.int .i64 (iAt (ints l) ((mkK (mkB R) s - 1) * 2 + 1))) := by rw [ei, iAt_ints hl, zint_at hl]
        have b1 : 0 ≤ ((mkK (mkB R) s - 1 : Nat) : Int) ∧ ((mkK (mkB R) s - 1 : Nat) : Int) < (mkK (mkB R) s : Int) := by omega
        refine ⟨⟨b1⟩, ⟨hat⟩, br_of (fun he => ?_) (fun he => ?_)⟩
        · have he : iAt (ints l) ((mkK (mkB R) s - 1) * 2 + 1) = (s : Int) := by simpa using he
          have hj : lastIs l s = true := by rw [lastIs, decide_eq_true (show 0 < l.length by omega), ← iAt_ints hl, ← ei, he]; simp
          have e1 : mkS (mkB R) (s + 1) = l.take (l.length - 1) ++ [(s : Int) + 1] := by rw [es, if_pos hj]
          have e2 : mkK (mkB R) (s + 1) = mkK (mkB R) s := by rw [ek, e1, join_len (by omega)]; omega
          rw [he, w1, putL_last l1 h0, ← e1]
          refine ⟨⟨b1⟩, ⟨by rw [he] at hat; exact hat⟩, ⟨b1⟩, ⟨by rw [ints_len]; simp only [List.length_cons, List.length_nil]; omega⟩, s + 1, ⟨hc⟩, ⟨by omega⟩, by first | trivial | rfl, by rw [e2]; first | done | trivial | rfl⟩
        · have he : ¬ iAt (ints l) ((mkK (mkB R) s - 1) * 2 + 1) = (s : Int) := by simpa using he
          have hj : lastIs l s = false := by
            rw [lastIs, ← iAt_ints hl, ← ei, decide_eq_false he, Bool.and_false]
          obtain ⟨e1, e2⟩ := hnew hj
          rw [u1, happ, ← e1]
          refine ⟨⟨hvc⟩, s + 1, ⟨hc⟩, ⟨by omega⟩, by first | trivial | rfl, by rw [e2]; first | done | trivial | rfl⟩
      · have h0 : ¬ 0 < mkK (mkB R) s := by have := of_decide_eq_false h0; omega
        have hj : lastIs l s = false := by rw [lastIs, decide_eq_false (show ¬ 0 < l.length by omega)]; rfl
        obtain ⟨e1, e2⟩ := hnew hj
        rw [u1, happ, ← e1]
        refine ⟨⟨hvc⟩, s + 1, ⟨hc⟩, ⟨by omega⟩, by first | trivial | rfl, by rw [e2]; first | done | trivial | rfl⟩
  · have hc := ge_of_dec hc
    have : s = m := by have := hs'.out; omega
    subst this
    exact ⟨by first | trivial | rfl, by first | trivial | rfl⟩
noncomputable def orcWi (xs : List Nat) (hs : List Int) (R : Nat → Int × Bool) : OrcV
  | [.agg ⟨[.string nm, .int .i64 f, .slice (some ⟨0, 0, none⟩) n _, .slice (some ⟨1, 0, none⟩) k _]⟩, .slice (some ⟨2, 0, none⟩) m _], [some (.row e1 1 true true true), some (.row e2 2 true true true), some (.row e3 2 true true true)] =>
    some (.agg (runA nm f 3 m 0 4 (mkK (mkB R) m) 0).toArray, [some (.row e1 1 true true true), some (.row e2 2 true true true), some (.row e3 2 true true true), fR (mkX R m), some (.row (ints (mkS (mkB R) m)) 2 true true true)], isRun xs hs n k e1 e2 ∧ e3 = rdc m R ∧ m ≤ 100000 ∧ ∀ i, i < m → (R i).1.natAbs < 2 ^ 24)
  | _, _ => none
theorem okWi (xs : List Nat) (hs : List Int) (R : Nat → Int × Bool) : OkV Tryz.prog 70 (orcWi xs hs R) := by
  intro args H ret H' vc h hv
  unfold orcWi at h
  split at h
  · cases h
    obtain ⟨⟨rfl, rfl, h1, h2, h3, h4⟩, rfl, h5, h6⟩ := hv
    exact wi_ok h5 h6
  · cases h
end
end Qq
end
section
/- A run in the other direction. -/
open Go Go.Vm Go.Proofs Sp
namespace Sp
noncomputable section
end
end Sp
namespace Qq
noncomputable section
/- Reversed. -/
theorem rdF_few {xs : List Nat} {P : Int → Bool} {i : Nat} (hx : fi (xs.map sE) = 0) (hi : i < xs.length) : (rdF xs P i).1.natAbs ≤ 16384 := by
  rw [rdF]
  split
  · exact (Fl.smp (smps hx hi)).few
  · exact Nat.zero_le _
noncomputable def wiR (R : Nat → Int × Bool) (n : Nat) : Heap := [fR (mkX R n), some (.row (ints (mkS (mkB R) n)) 2 true true true)]
end
end Qq
end
section
/- A run with other values: scaled. -/
open Go Go.Vm Go.Proofs Sp
namespace Sp
noncomputable section
/-- Readings, of which the first s known ones are changed. -/
noncomputable def chR (R : Nat → Int × Bool) (g : Nat → Int → Int) (s : Nat) (k : Nat) : Int × Bool := if (decide (k < s) && (R k).2) = true then (g k (R k).1, true) else R k
end
end Sp
namespace Qq
noncomputable section
theorem rn1_t (a : Int) (K : Value → Heap → Prop) :
    (fnP Tryz.prog c0 h0 (30 : FuncId) [Value.int IntKind.i64 a, Value.int IntKind.i64 (1 : Int)] [] K) =
    (Is ((2 : Int) ≠ (0 : Int)) ∧ br (decide (IntKind.wrap IntKind.i64 (IntKind.wrap IntKind.i64 ((2 : Int) * a) + (1 : Int)) < IntKind.wrap IntKind.i64 (IntKind.wrap IntKind.i64 (Int.tdiv (IntKind.wrap IntKind.i64 (IntKind.wrap IntKind.i64 ((2 : Int) * a) + (1 : Int))) (2 : Int)) * (2 : Int)))) (K (Value.int IntKind.i64 (IntKind.wrap IntKind.i64 (IntKind.wrap IntKind.i64 (Int.tdiv (IntKind.wrap IntKind.i64 (IntKind.wrap IntKind.i64 ((2 : Int) * a) + (1 : Int))) (2 : Int)) - (1 : Int)))) noH) (K (Value.int IntKind.i64 (IntKind.wrap IntKind.i64 (Int.tdiv (IntKind.wrap IntKind.i64 (IntKind.wrap IntKind.i64 ((2 : Int) * a) + (1 : Int))) (2 : Int)))) noH)) := by kernel_rfl
noncomputable def orcRn1 : OrcV
  | [.int .i64 a, .int .i64 b], [] => some (.int .i64 a, [], b = 1 ∧ a.natAbs ≤ 100000)
  | _, _ => none
theorem okRn1 : OkV Tryz.prog 30 orcRn1 := by
  intro args H ret H' vc h hv
  unfold orcRn1 at h
  split at h
  · rename_i a b
    cases h
    obtain ⟨rfl, hb⟩ := hv
    refine fnP_res hm c0_ok (hs := h0) ?_
    rw [rn1_t, wrap_eq (x := 2 * a) (by omega) (by omega), wrap_eq (x := 2 * a + 1) (by omega) (by omega)]
    have hq : (2 * a + 1).tdiv 2 = if 0 ≤ a then a else a + 1 := by
      split
      · rw [Int.tdiv_eq_ediv_of_nonneg (by omega)]; omega
      · have := Int.neg_tdiv (2 * a + 1) 2
        have h2 : (-(2 * a + 1)).tdiv 2 = -a - 1 := by rw [Int.tdiv_eq_ediv_of_nonneg (by omega)]; omega
        omega
    simp only [hq]
    by_cases h0 : 0 ≤ a
    · simp only [if_pos h0, wrap_eq (x := a) (by omega) (by omega), wrap_eq (x := a * 2) (by omega) (by omega)]
      exact ⟨⟨by decide⟩, br_of (fun h => by have := of_decide_eq_true h; omega) (fun _ => ⟨by first | trivial | rfl, by first | trivial | rfl⟩)⟩
    · have e1 : a + 1 - 1 = a := by omega
      simp only [if_neg h0, wrap_eq (x := a + 1) (by omega) (by omega), wrap_eq (x := (a + 1) * 2) (by omega) (by omega), e1, wrap_eq (x := a) (by omega) (by omega)]
      exact ⟨⟨by decide⟩, br_of (fun h => ⟨by first | trivial | rfl, by first | trivial | rfl⟩) (fun h => by have := of_decide_eq_false h; omega)⟩
  · cases h
noncomputable def bxI (a : Int) : Option AObj := some (.row [.int .i64 a] 0 false true true)
theorem lgS_t (a : Int) (K : Value → Heap → Prop) :
    (fnP Tryz.prog c0 h0 (69 : FuncId) [Value.int IntKind.i64 a] [] K) =
    (br (decide (a < (-16384 : Int))) (K (Value.bool true) noH) (K (Value.bool (decide ((16384 : Int) < a))) noH)) := by kernel_rfl
noncomputable def orcLgS : Orc
  | [.int .i64 a], [] => some (.bool (decide (a < -16384) || decide (16384 < a)), [])
  | _, _ => none
theorem okLgS0 : Ok Tryz.prog 69 orcLgS := by
  intro args H ret H' h
  unfold orcLgS at h
  split at h
  · cases h
    refine fnP_res hm c0_ok (hs := h0) ?_
    rw [lgS_t]
    refine br_of (fun h => ?_) (fun h => ?_)
    · rw [h]; exact ⟨by first | trivial | rfl, by first | trivial | rfl⟩
    · rw [h]; exact ⟨by first | trivial | rfl, by first | trivial | rfl⟩
  · cases h
noncomputable def cLg : CallF := ctx Tryz.prog [(69, orcLgS)]
theorem cLg_ok : CallOK Tryz.prog cLg := ctx_ok hm (all_cons okLgS0 all_nil)
theorem rdc_put1 {n i : Nat} {R : Nat → Int × Bool} {v : Int} (h : i < n) : putL (rdc n R) (i * 2) [.int .i64 v] = rdc n (upR R i (v, (R i).2)) := by
  rw [← rdc_put h]
  obtain ⟨t, h1, h2⟩ := rdc_cut (R := R) h
  have hl := rdc_len i R
  have e1 : List.take (i * 2) (rdc i R ++ (rC (R i) ++ t)) = rdc i R := by rw [← hl, List.take_left]
  have e2 : ∀ {k : Nat} {l : List Value}, i * 2 + k = (rdc i R ++ l).length → ∀ t', List.drop (i * 2 + k) (rdc i R ++ (l ++ t')) = t' := fun {k l} hk t' => by rw [hk, ← List.append_assoc, List.drop_left]
  rw [putL, putL, splice, splice, h1, e1]
  have e3 : List.drop (i * 2 + (rC (v, (R i).2)).length) (rdc i R ++ (rC (R i) ++ t)) = t := e2 (by rw [List.length_append, hl]; rfl) t
  have e4 : List.drop (i * 2 + [Value.int .i64 v].length) (rdc i R ++ (rC (R i) ++ t)) = .bool (R i).2 :: t := e2 (l := [.int .i64 (R i).1]) (by rw [List.length_append, hl]; rfl) (.bool (R i).2 :: t)
  rw [e3, e4]; rfl
theorem chR_skip {R : Nat → Int × Bool} {g : Nat → Int → Int} {s n : Nat} (h : (R s).2 = false) : rdc n (chR R g s) = rdc n (chR R g (s + 1)) := rdc_congr fun i _ => by
  rw [chR, chR]
  by_cases e : i = s
  · subst e; rw [h, Bool.and_false, Bool.and_false]
  · rw [show decide (i < s) = decide (i < s + 1) from decide_eq_decide.2 (by omega)]
theorem chR_at {R : Nat → Int × Bool} {g : Nat → Int → Int} {s : Nat} : chR R g s s = R s := by rw [chR, decide_eq_false (Nat.lt_irrefl s)]; rfl
theorem chR_step {R : Nat → Int × Bool} {g : Nat → Int → Int} {s n : Nat} (h : (R s).2 = true) : rdc n (upR (chR R g s) s (g s (R s).1, true)) = rdc n (chR R g (s + 1)) := rdc_congr fun i _ => by
  rw [upR, chR, chR]
  by_cases e : i = s
  · subst e; rw [if_pos rfl, h, decide_eq_true (Nat.lt_succ_self i)]; rfl
  · rw [if_neg e, show decide (i < s) = decide (i < s + 1) from decide_eq_decide.2 (by omega)]
theorem chR_few {R : Nat → Int × Bool} {g : Nat → Int → Int} {s i : Nat} (h : (R i).1.natAbs ≤ 16384) (hg : (R i).2 = true → (g i (R i).1).natAbs ≤ 16384) : (chR R g s i).1.natAbs ≤ 16384 := by
  rw [chR]
  split
  · rename_i e; exact hg (Bool.and_eq_true_iff.1 e).2
  · exact h
/- Scaled by -1. -/
end
end Qq
end
section
/- A section of one's own, of the reference. -/
open Go Go.Vm Go.Proofs Sp
namespace Qq
noncomputable section
theorem acs_atom : ∀ (ks : List (Int × ByteArray)), ∀ v ∈ acs ks, atom v = true
  | [], v, h => by simp [acs] at h
  | a :: r, v, h => by
    simp only [acs, List.mem_cons] at h
    rcases h with rfl | rfl | h
    · rfl
    · rfl
    · exact acs_atom r v h
end
end Qq
end
section
/- Sections with one more line: the program's own copies. -/
open Go Go.Vm Go.Proofs Sp
namespace Sp
noncomputable section
/-- The day of the last measurement, of the last intervention. -/
noncomputable def lmD (zs : List Int) (n : Nat) : Int := if 0 < n then zs.getD ((n - 1) * 2) 0 else -1
noncomputable def laD (ks : List (Int × ByteArray)) (k : Nat) : Int := if 0 < k then (ks.getD (k - 1) (0, ⟨#[]⟩)).1 else -1
end
end Sp
namespace Qq
noncomputable section
noncomputable def hsLm (zs : List Int) : Hs Tryz.prog where
  op y := if y = 304 then some (hIa Tryz.prog) else if y = 306 then some (hLd Tryz.prog (zI zs)) else none
  au := au0 Tryz.prog
theorem lm_t (nm : ByteArray) (zs : List Int) (ks : List (Int × ByteArray)) (n : Nat) (c : Nat) (k : Nat) (d : Nat) (m1 : Bool) (w1 : Bool) (m2 : Bool) (w2 : Bool) (K : Value → Heap → Prop) :
    (fnP Tryz.prog c0 (hsLm zs) (36 : FuncId) [Value.agg (List.toArray (secA nm (0 : Nat) n c (1 : Nat) k d))] (hp2 zs ks m1 w1 m2 w2 []) K) =
    (br (decide ((0 : Int) < (↑n : Int))) (Is ((0 : Int) ≤ IntKind.wrap IntKind.i64 ((↑n : Int) - (1 : Int)) ∧ IntKind.wrap IntKind.i64 ((↑n : Int) - (1 : Int)) < (↑n : Int)) ∧ Is ((ints zs)[(0 : Nat) + Int.toNat (IntKind.wrap IntKind.i64 ((↑n : Int) - (1 : Int))) * (2 : Nat) + (0 : Nat)]? = some (Value.int IntKind.i64 (List.getD zs ((0 : Nat) + Int.toNat (IntKind.wrap IntKind.i64 ((↑n : Int) - (1 : Int))) * (2 : Nat) + (0 : Nat)) (0 : Int)))) ∧ K (Value.int IntKind.i64 (List.getD zs ((0 : Nat) + Int.toNat (IntKind.wrap IntKind.i64 ((↑n : Int) - (1 : Int))) * (2 : Nat) + (0 : Nat)) (0 : Int))) (some (AObj.row (ints zs) (2 : Nat) m1 w1 true) :: some (AObj.row (acs ks) (2 : Nat) m2 w2 true) :: noH)) (K (Value.int IntKind.i64 (-1 : Int)) (some (AObj.row (ints zs) (2 : Nat) m1 w1 true) :: some (AObj.row (acs ks) (2 : Nat) m2 w2 true) :: noH))) := by kernel_rfl
noncomputable def hsLaA (ks : List (Int × ByteArray)) : Hs Tryz.prog where
  op y := if y = 304 then some (hIa Tryz.prog) else if y = 306 then some (hLd Tryz.prog (kI ks)) else none
  au := au0 Tryz.prog
theorem lA_t (nm : ByteArray) (zs : List Int) (ks : List (Int × ByteArray)) (n : Nat) (c : Nat) (k : Nat) (d : Nat) (m1 : Bool) (w1 : Bool) (m2 : Bool) (w2 : Bool) (K : Value → Heap → Prop) :
    (fnP Tryz.prog c0 (hsLaA ks) (46 : FuncId) [Value.agg (List.toArray (secA nm (0 : Nat) n c (1 : Nat) k d))] (hp2 zs ks m1 w1 m2 w2 []) K) =
    (br (decide ((0 : Int) < (↑k : Int))) (Is ((0 : Int) ≤ IntKind.wrap IntKind.i64 ((↑k : Int) - (1 : Int)) ∧ IntKind.wrap IntKind.i64 ((↑k : Int) - (1 : Int)) < (↑k : Int)) ∧ Is ((acs ks)[(0 : Nat) + Int.toNat (IntKind.wrap IntKind.i64 ((↑k : Int) - (1 : Int))) * (2 : Nat) + (0 : Nat)]? = some (Value.int IntKind.i64 (Prod.fst (List.getD ks (((0 : Nat) + Int.toNat (IntKind.wrap IntKind.i64 ((↑k : Int) - (1 : Int))) * (2 : Nat) + (0 : Nat)) / (2 : Nat)) ((0 : Int), { data := #[] }))))) ∧ K (Value.int IntKind.i64 (Prod.fst (List.getD ks (((0 : Nat) + Int.toNat (IntKind.wrap IntKind.i64 ((↑k : Int) - (1 : Int))) * (2 : Nat) + (0 : Nat)) / (2 : Nat)) ((0 : Int), { data := #[] })))) (some (AObj.row (ints zs) (2 : Nat) m1 w1 true) :: some (AObj.row (acs ks) (2 : Nat) m2 w2 true) :: noH)) (K (Value.int IntKind.i64 (-1 : Int)) (some (AObj.row (ints zs) (2 : Nat) m1 w1 true) :: some (AObj.row (acs ks) (2 : Nat) m2 w2 true) :: noH))) := by kernel_rfl
noncomputable def hsCln : Hs Tryz.prog where
  op y := if y = 302 then some (hAe Tryz.prog true) else none
  nd y := if y = 101 then some (hNil Tryz.prog) else none
  rn := [.slot 0 2]
theorem cln0_t (d : Nat) (m : Bool) (w : Bool) (K : Value → Heap → Prop) :
    (fnP Tryz.prog c0 hsCln (73 : FuncId) [Value.slice (some { block := (0 : Nat), off := (0 : Nat) }) (0 : Nat) d] [some (AObj.row [] (2 : Nat) m w true)] K) =
    (∀ (x : Bool), Is (x = true → (0 : Nat) = (0 : Nat)) → br x (K (Value.slice (some { block := (1 : Nat), off := (0 : Nat) }) (0 : Nat) (0 : Nat)) (some (AObj.row [] (2 : Nat) m w true) :: some (AObj.row [] (2 : Nat) true true true) :: noH)) (Is ((0 : Nat) = (0 : Nat) ∧ (∀ (v : Value), v ∈ [] → atom v = true) ∧ (0 : Nat) ≤ (140737488355328 : Nat) ∧ (0 : Nat) ≤ (9223372036854775807 : Nat)) ∧ K (Value.slice (some { block := (1 : Nat), off := (0 : Nat) }) (0 : Nat) (0 : Nat)) (some (AObj.row [] (2 : Nat) m w true) :: some (AObj.row [] (2 : Nat) true true true) :: noH))) := by kernel_rfl
theorem cln1_t (es : List Value) (k : Nat) (d : Nat) (m : Bool) (w : Bool) (K : Value → Heap → Prop) :
    (fnP Tryz.prog c0 hsCln (73 : FuncId) [Value.slice (some { block := (0 : Nat), off := (0 : Nat) }) (k + (1 : Nat)) d] [some (AObj.row es (2 : Nat) m w true)] K) =
    (∀ (x : Bool), Is (x = true → k + (1 : Nat) = (0 : Nat)) → br x (K (Value.slice (some { block := (1 : Nat), off := (0 : Nat) }) (0 : Nat) (0 : Nat)) (some (AObj.row es (2 : Nat) m w true) :: some (AObj.row [] (2 : Nat) true true true) :: noH)) (Is (List.length es = (k + (1 : Nat)) * (2 : Nat) ∧ (∀ (v : Value), v ∈ es → atom v = true) ∧ (k + (1 : Nat)) * (24 : Nat) ≤ (140737488355328 : Nat) ∧ k + (1 : Nat) ≤ (9223372036854775807 : Nat)) ∧ K (Value.slice (some { block := (1 : Nat), off := (0 : Nat) }) (k + (1 : Nat)) (0 : Nat)) (some (AObj.row es (2 : Nat) m w true) :: some (AObj.row es (2 : Nat) true true true) :: noH))) := by kernel_rfl
theorem last_nat {n : Nat} (h : 0 < n) (hn : n ≤ 1000) : IntKind.wrap .i64 ((n : Int) - 1) = ((n - 1 : Nat) : Int) := by
  rw [wrap_eq (by omega) (by omega)]; omega
noncomputable def orcLm (zs : List Int) (ks : List (Int × ByteArray)) : OrcV
  | [.agg ⟨[.string _nm, .slice (some ⟨0, 0, none⟩) n _c, .slice (some ⟨1, 0, none⟩) k _d]⟩], [some (.row e1 2 m1 w1 true), some (.row e2 2 m2 w2 true)] => some (.int .i64 (lmD zs n), [some (.row e1 2 m1 w1 true), some (.row e2 2 m2 w2 true)], isSec zs ks n k e1 e2)
  | _, _ => none
theorem lm_okV (zs : List Int) (ks : List (Int × ByteArray)) : OkV Tryz.prog 36 (orcLm zs ks) := by
  intro args H ret H' vc h hv
  unfold orcLm at h
  split at h
  · rename_i nm n c k d e1 m1 w1 e2 m2 w2
    cases h
    obtain ⟨rfl, rfl, hz, hk, hn, hk2⟩ := hv
    refine fnP_res hm c0_ok (hs := hsLm zs) ?_
    show fnP Tryz.prog c0 (hsLm zs) 36 [.agg (secA nm 0 n c 1 k d).toArray] (hp2 zs ks m1 w1 m2 w2 []) _
    rw [lm_t]
    refine br_of (fun h => ?_) (fun h => ?_)
    · have h0 : 0 < n := by have := of_decide_eq_true h; omega
      rw [last_nat h0 hn]
      simp only [Int.toNat_natCast, Nat.zero_add, Nat.add_zero]
      refine ⟨⟨by omega, by omega⟩, ⟨zint_at (by omega)⟩, ?_, by first | trivial | rfl⟩
      rw [lmD, if_pos h0]
    · have h0 : ¬ 0 < n := by have := of_decide_eq_false h; omega
      rw [lmD, if_neg h0]
      exact ⟨by first | trivial | rfl, by first | trivial | rfl⟩
  · cases h
noncomputable def orcLaA (zs : List Int) (ks : List (Int × ByteArray)) : OrcV
  | [.agg ⟨[.string _nm, .slice (some ⟨0, 0, none⟩) n _c, .slice (some ⟨1, 0, none⟩) k _d]⟩], [some (.row e1 2 m1 w1 true), some (.row e2 2 m2 w2 true)] => some (.int .i64 (laD ks k), [some (.row e1 2 m1 w1 true), some (.row e2 2 m2 w2 true)], isSec zs ks n k e1 e2)
  | _, _ => none
theorem lA_okV (zs : List Int) (ks : List (Int × ByteArray)) : OkV Tryz.prog 46 (orcLaA zs ks) := by
  intro args H ret H' vc h hv
  unfold orcLaA at h
  split at h
  · rename_i nm n c k d e1 m1 w1 e2 m2 w2
    cases h
    obtain ⟨rfl, rfl, hz, hk, hn, hk2⟩ := hv
    refine fnP_res hm c0_ok (hs := hsLaA ks) ?_
    show fnP Tryz.prog c0 (hsLaA ks) 46 [.agg (secA nm 0 n c 1 k d).toArray] (hp2 zs ks m1 w1 m2 w2 []) _
    rw [lA_t]
    refine br_of (fun h => ?_) (fun h => ?_)
    · have h0 : 0 < k := by have := of_decide_eq_true h; omega
      rw [last_nat h0 hk2]
      have e2 : (k - 1) * 2 / 2 = k - 1 := by omega
      simp only [Int.toNat_natCast, Nat.zero_add, Nat.add_zero, e2]
      refine ⟨⟨by omega, by omega⟩, ⟨acs_day (by omega)⟩, ?_, by first | trivial | rfl⟩
      rw [laD, if_pos h0]
    · have h0 : ¬ 0 < k := by have := of_decide_eq_false h; omega
      rw [laD, if_neg h0]
      exact ⟨by first | trivial | rfl, by first | trivial | rfl⟩
  · cases h
noncomputable def orcCln : OrcV
  | [.slice (some ⟨0, 0, none⟩) k _d], [some (.row es 2 m w true)] => some (.slice (some ⟨1, 0, none⟩) k 0, [some (.row es 2 m w true), some (.row es 2 true true true)], es.length = k * 2 ∧ Sp.atoms es ∧ k ≤ 1000)
  | _, _ => none
theorem cln_okV : OkV Tryz.prog 73 orcCln := by
  intro args H ret H' vc h hv
  unfold orcCln at h
  split at h
  · rename_i k d es m w
    cases h
    obtain ⟨h1, h2, h3⟩ := hv
    match k with
    | 0 =>
      have e0 : es = [] := List.eq_nil_of_length_eq_zero (by omega)
      subst e0
      refine fnP_res hm c0_ok (hs := hsCln) ?_
      rw [cln0_t]
      exact fun x _ => br_of (fun _ => ⟨by first | trivial | rfl, by first | trivial | rfl⟩) (fun _ => ⟨⟨by first | trivial | rfl, fun v hv => (by cases hv), by omega, by omega⟩, by first | trivial | rfl, by first | trivial | rfl⟩)
    | k + 1 =>
      refine fnP_res hm c0_ok (hs := hsCln) ?_
      rw [cln1_t]
      refine fun x hx => br_of (fun hb => ?_) (fun _ => ⟨⟨h1, h2, by omega, by omega⟩, by first | trivial | rfl, by first | trivial | rfl⟩)
      have := hx.out hb
      omega
  · cases h
noncomputable def zrs (n : Nat) : List Value := ints (List.replicate (n * 2) 0)
theorem zrs_ok (n : Nat) : Sp.zeroCells (.agg #[.int .i64 0, .int .i64 0]) (n * 2) (zrs n) := by
  unfold Sp.zeroCells zrs zrow
  refine List.ext_getElem? fun i => ?_
  by_cases hi : i < n * 2
  · have h2 : i % 2 = 0 ∨ i % 2 = 1 := by omega
    rcases h2 with h2 | h2 <;> simp [ints, Value.cells, hi, h2]
  · rw [List.getElem?_eq_none (by simp; omega), List.getElem?_eq_none (by simp [ints]; omega)]
noncomputable def hsOwd : Hs Tryz.prog where
  op y := if y = 203 then some (hMk Tryz.prog zrs) else if y = 304 then some (hCp Tryz.prog) else none
  au := auCalls [(73, hCa Tryz.prog 73 orcCln cln_okV)]
theorem owd_t (nm : ByteArray) (zs : List Int) (ks : List (Int × ByteArray)) (n : Nat) (c : Nat) (k : Nat) (d : Nat) (K : Value → Heap → Prop) :
    (fnP Tryz.prog c0 hsOwd (37 : FuncId) [Value.agg (List.toArray (secA nm (0 : Nat) n c (1 : Nat) k d))] (hp2 zs ks true true true true []) K) =
    (Is ((↑n : Int) = (↑n : Int) ∧ (0 : Int) ≤ (↑n : Int) ∧ (↑n : Int) ≤ (9223372036854775807 : Int) ∧ (16 : Int) * (↑n : Int) ≤ (281474976710656 : Int) ∧ zeroCells (Value.agg #[Value.int IntKind.i64 (0 : Int), Value.int IntKind.i64 (0 : Int)]) (Int.toNat (↑n : Int) * (2 : Nat)) (zrs (Int.toNat (↑n : Int)))) ∧ Is (n = Int.toNat (↑n : Int) ∧ List.length (zrs (Int.toNat (↑n : Int))) = Int.toNat (↑n : Int) * (2 : Nat) ∧ List.length (ints zs) = Int.toNat (↑n : Int) * (2 : Nat) ∧ atoms (ints zs)) ∧ Is (List.length (acs ks) = k * (2 : Nat) ∧ atoms (acs ks) ∧ k ≤ (1000 : Nat)) ∧ K (Value.agg #[Value.string nm, Value.slice (some { block := (2 : Nat), off := (0 : Nat) }) (Int.toNat (↑n : Int)) (0 : Nat), Value.slice (some { block := (3 : Nat), off := (0 : Nat) }) k (0 : Nat)]) (some (AObj.row (ints zs) (2 : Nat) true true true) :: some (AObj.row (acs ks) (2 : Nat) true true true) :: some (AObj.row (ints zs) (2 : Nat) true true true) :: some (AObj.row (acs ks) (2 : Nat) true true true) :: noH)) := by kernel_rfl
theorem ints_atom (zs : List Int) : ∀ v ∈ ints zs, atom v = true := by
  intro v hv
  obtain ⟨z, _, rfl⟩ := List.mem_map.1 hv; rfl
noncomputable def orcOwd (zs : List Int) (ks : List (Int × ByteArray)) : OrcV
  | [.agg ⟨[.string nm, .slice (some ⟨0, 0, none⟩) n _, .slice (some ⟨1, 0, none⟩) k _]⟩], [some (.row e1 2 true true true), some (.row e2 2 true true true)] => some (.agg #[.string nm, .slice (some ⟨2, 0, none⟩) n 0, .slice (some ⟨3, 0, none⟩) k 0], [some (.row e1 2 true true true), some (.row e2 2 true true true), some (.row (ints zs) 2 true true true), some (.row (acs ks) 2 true true true)], isSec zs ks n k e1 e2)
  | _, _ => none
theorem owd_okV (zs : List Int) (ks : List (Int × ByteArray)) : OkV Tryz.prog 37 (orcOwd zs ks) := by
  intro args H ret H' vc h hv
  unfold orcOwd at h
  split at h
  · rename_i nm n c k d e1 e2
    cases h
    obtain ⟨rfl, rfl, hz, hk, hn, hk2⟩ := hv
    refine fnP_res hm c0_ok (hs := hsOwd) ?_
    show fnP Tryz.prog c0 hsOwd 37 [.agg (secA nm 0 n c 1 k d).toArray] (hp2 zs ks true true true true []) _
    rw [owd_t]
    simp only [Int.toNat_natCast]
    refine ⟨⟨by first | trivial | rfl, by omega, by omega, by omega, zrs_ok n⟩, ⟨by first | trivial | rfl, by simp [zrs, ints], by rw [ints_len]; omega, ints_atom zs⟩, ⟨by rw [acs_len]; omega, acs_atom ks, hk2⟩, by first | trivial | rfl, by first | trivial | rfl⟩
  · cases h
/-! ### A section, told to the reference -/
/-! ### Two sections that are the same -/
end
end Qq
end
section
/- A section with a further measurement, or intervention: the program and the reference. -/
open Go Go.Vm Go.Proofs Sp
namespace Sp
noncomputable section
/-- A value that stands where there is no error, and one where there is. -/
noncomputable def gqN (e : Int) (x : Nat) : Nat := if e = 0 then x else 0
noncomputable def gqS (e : Int) (x : ByteArray) : ByteArray := if e = 0 then x else ⟨#[]⟩
noncomputable def gqL (e : Int) (x : List Int) : List Int := if e = 0 then x else []
noncomputable def gqK (e : Int) (x : List (Int × ByteArray)) : List (Int × ByteArray) := if e = 0 then x else []
/-- The errors of a further measurement, of a further intervention. -/
noncomputable def moEq (zs : List Int) (n : Nat) (d : Int) : Int := fi [wh ((n : Int) == 32) 5, wh (decide (d ≤ lmD zs n)) 11]
noncomputable def acE (zs : List Int) (n : Nat) (ks : List (Int × ByteArray)) (k : Nat) (d : Int) : Int := fi [wh ((k : Int) == 16) 5, wh (decide (d ≤ laD ks k)) 11, wh (decide (d ≤ lmD zs n)) 23]
noncomputable def meE (nm : ByteArray) (zs : List Int) (n : Nat) (ks : List (Int × ByteArray)) (k : Nat) (d x : Int) : Int := sel (fi [secE nm zs n ks k, chkM d x]) (moEq zs n d)
noncomputable def doE (nm : ByteArray) (zs : List Int) (n : Nat) (ks : List (Int × ByteArray)) (k : Nat) (d : Int) (q : ByteArray) : Int := sel (fi [secE nm zs n ks k, chkA d q]) (acE zs n ks k d)
end
end Sp
namespace Qq
noncomputable section
noncomputable def hsMeq (zs : List Int) (ks : List (Int × ByteArray)) : Hs Tryz.prog where
  op y := if y = 804 then some (hAp Tryz.prog) else none
  rn := [.only (.part 0 1 2), .only (.part 0 2 2)]
  au := auCalls [(33, hCa Tryz.prog 33 (orcCkV zs ks) (ck_okV zs ks)), (36, hCaR Tryz.prog 36 (orcLm zs ks) (lm_okV zs ks)), (46, hCaR Tryz.prog 46 (orcLaA zs ks) (lA_okV zs ks)), (37, hCa Tryz.prog 37 (orcOwd zs ks) (owd_okV zs ks))]
theorem meq_t (nm : ByteArray) (zs : List Int) (ks : List (Int × ByteArray)) (n : Nat) (c : Nat) (k : Nat) (d : Nat) (x : Int) (y : Int) (K : Value → Heap → Prop) :
    (fnP Tryz.prog c12 (hsMeq zs ks) (10 : FuncId) [Value.agg (List.toArray (secA nm (0 : Nat) n c (1 : Nat) k d)), Value.agg #[Value.int IntKind.i64 x, Value.int IntKind.i64 y]] (hp2 zs ks true true true true []) K) =
    (Is (isSec zs ks n k (ints zs) (acs ks)) ∧ br (fi [secE nm zs n ks k, chkM x y] != (0 : Int)) (K (Value.tuple #[Value.agg #[Value.string { data := #[] }, Value.slice (some { block := (2 : Nat), off := (0 : Nat) }) (0 : Nat) (0 : Nat), Value.slice (some { block := (3 : Nat), off := (0 : Nat) }) (0 : Nat) (0 : Nat)], Value.int IntKind.i64 (fi [secE nm zs n ks k, chkM x y])]) (some (AObj.row (ints zs) (2 : Nat) true true true) :: some (AObj.row (acs ks) (2 : Nat) true true true) :: some (AObj.row [] (2 : Nat) true true true) :: some (AObj.row [] (2 : Nat) true true true) :: noH)) (Is (isSec zs ks n k (ints zs) (acs ks)) ∧ br (fi [wh ((↑n : Int) == (32 : Int)) (5 : Int), wh (decide (x ≤ lmD zs n)) (11 : Int)] != (0 : Int)) (K (Value.tuple #[Value.agg #[Value.string { data := #[] }, Value.slice (some { block := (2 : Nat), off := (0 : Nat) }) (0 : Nat) (0 : Nat), Value.slice (some { block := (3 : Nat), off := (0 : Nat) }) (0 : Nat) (0 : Nat)], Value.int IntKind.i64 (fi [wh ((↑n : Int) == (32 : Int)) (5 : Int), wh (decide (x ≤ lmD zs n)) (11 : Int)])]) (some (AObj.row (ints zs) (2 : Nat) true true true) :: some (AObj.row (acs ks) (2 : Nat) true true true) :: some (AObj.row [] (2 : Nat) true true true) :: some (AObj.row [] (2 : Nat) true true true) :: noH)) (Is (isSec zs ks n k (ints zs) (acs ks)) ∧ Is (List.length (ints zs) = n * (2 : Nat) ∧ (n + (1 : Nat)) * (16 : Nat) ≤ (140737488355328 : Nat) ∧ n + (1 : Nat) ≤ (9223372036854775807 : Nat)) ∧ K (Value.tuple #[Value.agg #[Value.string nm, Value.slice (some { block := (2 : Nat), off := (0 : Nat) }) (n + (1 : Nat)) (0 : Nat), Value.slice (some { block := (3 : Nat), off := (0 : Nat) }) k (0 : Nat)], Value.int IntKind.i64 (0 : Int)]) (some (AObj.row (ints zs) (2 : Nat) true true true) :: some (AObj.row (acs ks) (2 : Nat) true true true) :: some (AObj.row (ints zs ++ [Value.int IntKind.i64 x, Value.int IntKind.i64 y]) (2 : Nat) true true (List.all [Value.int IntKind.i64 x, Value.int IntKind.i64 y] atom)) :: some (AObj.row (acs ks) (2 : Nat) true true true) :: noH)))) := by kernel_rfl
theorem do_t (nm : ByteArray) (zs : List Int) (ks : List (Int × ByteArray)) (n : Nat) (c : Nat) (k : Nat) (d : Nat) (x : Int) (q : ByteArray) (K : Value → Heap → Prop) :
    (fnP Tryz.prog c12 (hsMeq zs ks) (15 : FuncId) [Value.agg (List.toArray (secA nm (0 : Nat) n c (1 : Nat) k d)), Value.agg #[Value.int IntKind.i64 x, Value.string q]] (hp2 zs ks true true true true []) K) =
    (Is (isSec zs ks n k (ints zs) (acs ks)) ∧ br (fi [secE nm zs n ks k, chkA x q] != (0 : Int)) (K (Value.tuple #[Value.agg #[Value.string { data := #[] }, Value.slice (some { block := (2 : Nat), off := (0 : Nat) }) (0 : Nat) (0 : Nat), Value.slice (some { block := (3 : Nat), off := (0 : Nat) }) (0 : Nat) (0 : Nat)], Value.int IntKind.i64 (fi [secE nm zs n ks k, chkA x q])]) (some (AObj.row (ints zs) (2 : Nat) true true true) :: some (AObj.row (acs ks) (2 : Nat) true true true) :: some (AObj.row [] (2 : Nat) true true true) :: some (AObj.row [] (2 : Nat) true true true) :: noH)) (Is (isSec zs ks n k (ints zs) (acs ks)) ∧ Is (isSec zs ks n k (ints zs) (acs ks)) ∧ br (fi [wh ((↑k : Int) == (16 : Int)) (5 : Int), wh (decide (x ≤ laD ks k)) (11 : Int), wh (decide (x ≤ lmD zs n)) (23 : Int)] != (0 : Int)) (K (Value.tuple #[Value.agg #[Value.string { data := #[] }, Value.slice (some { block := (2 : Nat), off := (0 : Nat) }) (0 : Nat) (0 : Nat), Value.slice (some { block := (3 : Nat), off := (0 : Nat) }) (0 : Nat) (0 : Nat)], Value.int IntKind.i64 (fi [wh ((↑k : Int) == (16 : Int)) (5 : Int), wh (decide (x ≤ laD ks k)) (11 : Int), wh (decide (x ≤ lmD zs n)) (23 : Int)])]) (some (AObj.row (ints zs) (2 : Nat) true true true) :: some (AObj.row (acs ks) (2 : Nat) true true true) :: some (AObj.row [] (2 : Nat) true true true) :: some (AObj.row [] (2 : Nat) true true true) :: noH)) (Is (isSec zs ks n k (ints zs) (acs ks)) ∧ Is (List.length (acs ks) = k * (2 : Nat) ∧ (k + (1 : Nat)) * (24 : Nat) ≤ (140737488355328 : Nat) ∧ k + (1 : Nat) ≤ (9223372036854775807 : Nat)) ∧ K (Value.tuple #[Value.agg #[Value.string nm, Value.slice (some { block := (2 : Nat), off := (0 : Nat) }) n (0 : Nat), Value.slice (some { block := (3 : Nat), off := (0 : Nat) }) (k + (1 : Nat)) (0 : Nat)], Value.int IntKind.i64 (0 : Int)]) (some (AObj.row (ints zs) (2 : Nat) true true true) :: some (AObj.row (acs ks) (2 : Nat) true true true) :: some (AObj.row (ints zs) (2 : Nat) true true true) :: some (AObj.row (acs ks ++ [Value.int IntKind.i64 x, Value.string q]) (2 : Nat) true true (List.all [Value.int IntKind.i64 x, Value.string q] atom)) :: noH)))) := by kernel_rfl
theorem gqN_z {e : Int} (h : e = 0) (x : Nat) : gqN e x = x := if_pos h
theorem gqN_n {e : Int} (h : e ≠ 0) (x : Nat) : gqN e x = 0 := if_neg h
theorem gqS_z {e : Int} (h : e = 0) (x : ByteArray) : gqS e x = x := if_pos h
theorem gqS_n {e : Int} (h : e ≠ 0) (x : ByteArray) : gqS e x = ⟨#[]⟩ := if_neg h
theorem gqL_z {e : Int} (h : e = 0) (x : List Int) : gqL e x = x := if_pos h
theorem gqL_n {e : Int} (h : e ≠ 0) (x : List Int) : gqL e x = [] := if_neg h
theorem gqK_z {e : Int} (h : e = 0) (x : List (Int × ByteArray)) : gqK e x = x := if_pos h
theorem gqK_n {e : Int} (h : e ≠ 0) (x : List (Int × ByteArray)) : gqK e x = [] := if_neg h
noncomputable def aRow (ks : List (Int × ByteArray)) : Option AObj := some (.row (acs ks) 2 true true true)
noncomputable def orcMeq (zs : List Int) (ks : List (Int × ByteArray)) : OrcV
  | [.agg ⟨[.string nm, .slice (some ⟨0, 0, none⟩) n _, .slice (some ⟨1, 0, none⟩) k _]⟩, .agg ⟨[.int .i64 d, .int .i64 x]⟩], [some (.row e1 2 true true true), some (.row e2 2 true true true)] =>
    some (.tuple #[.agg #[.string (gqS (meE nm zs n ks k d x) nm), .slice (some ⟨2, 0, none⟩) (gqN (meE nm zs n ks k d x) (n + 1)) 0, .slice (some ⟨3, 0, none⟩) (gqN (meE nm zs n ks k d x) k) 0], .int .i64 (meE nm zs n ks k d x)],
      [some (.row e1 2 true true true), some (.row e2 2 true true true), lst2 (gqL (meE nm zs n ks k d x) (zs ++ [d, x])), aRow (gqK (meE nm zs n ks k d x) ks)], isSec zs ks n k e1 e2)
  | _, _ => none
noncomputable def orcDo (zs : List Int) (ks : List (Int × ByteArray)) : OrcV
  | [.agg ⟨[.string nm, .slice (some ⟨0, 0, none⟩) n _, .slice (some ⟨1, 0, none⟩) k _]⟩, .agg ⟨[.int .i64 d, .string q]⟩], [some (.row e1 2 true true true), some (.row e2 2 true true true)] =>
    some (.tuple #[.agg #[.string (gqS (doE nm zs n ks k d q) nm), .slice (some ⟨2, 0, none⟩) (gqN (doE nm zs n ks k d q) n) 0, .slice (some ⟨3, 0, none⟩) (gqN (doE nm zs n ks k d q) (k + 1)) 0], .int .i64 (doE nm zs n ks k d q)],
      [some (.row e1 2 true true true), some (.row e2 2 true true true), lst2 (gqL (doE nm zs n ks k d q) zs), aRow (gqK (doE nm zs n ks k d q) (ks ++ [(d, q)]))], isSec zs ks n k e1 e2)
  | _, _ => none
theorem me_okV (zs : List Int) (ks : List (Int × ByteArray)) : OkV Tryz.prog 10 (orcMeq zs ks) := by
  intro args H ret H' vc h hv
  unfold orcMeq at h
  split at h
  · rename_i nm n c k d x y e1 e2
    cases h
    obtain ⟨rfl, rfl, hi⟩ := hv
    have hs : isSec zs ks n k (ints zs) (acs ks) := ⟨rfl, rfl, hi⟩
    obtain ⟨hz, hk, hn, hk2⟩ := hi
    refine fnP_res hm c12_ok (hs := hsMeq zs ks) ?_
    show fnP Tryz.prog c12 (hsMeq zs ks) 10 [.agg (secA nm 0 n c 1 k d).toArray, .agg #[.int .i64 x, .int .i64 y]] (hp2 zs ks true true true true []) _
    rw [meq_t]
    refine ⟨⟨hs⟩, br_of (fun h => ?_) (fun h => ⟨⟨hs⟩, br_of (fun h2 => ?_) (fun h2 => ⟨⟨hs⟩, ⟨by rw [ints_len]; exact hz, by omega, by omega⟩, ?_⟩)⟩)⟩
    · have he : meE nm zs n ks k x y = fi [secE nm zs n ks k, chkM x y] := sel_ne h
      have h0 : meE nm zs n ks k x y ≠ 0 := by rw [he]; simpa using h
      rw [gqS_n h0, gqN_n h0, gqN_n h0, gqL_n h0, gqK_n h0, he]
      exact ⟨by first | trivial | rfl, by first | trivial | rfl⟩
    · have he : meE nm zs n ks k x y = moEq zs n x := sel_eq h
      have h0 : meE nm zs n ks k x y ≠ 0 := by rw [he, moEq]; simpa using h2
      rw [gqS_n h0, gqN_n h0, gqN_n h0, gqL_n h0, gqK_n h0, he]
      exact ⟨by first | trivial | rfl, by first | trivial | rfl⟩
    · have he : meE nm zs n ks k x y = moEq zs n x := sel_eq h
      have h0 : meE nm zs n ks k x y = 0 := by rw [he, moEq]; simpa using h2
      rw [gqS_z h0, gqN_z h0, gqN_z h0, gqL_z h0, gqK_z h0, h0, lst2, ← ints_app]
      exact ⟨by first | trivial | rfl, by first | trivial | rfl⟩
  · cases h
theorem do_okV (zs : List Int) (ks : List (Int × ByteArray)) : OkV Tryz.prog 15 (orcDo zs ks) := by
  intro args H ret H' vc h hv
  unfold orcDo at h
  split at h
  · rename_i nm n c k d x q e1 e2
    cases h
    obtain ⟨rfl, rfl, hi⟩ := hv
    have hs : isSec zs ks n k (ints zs) (acs ks) := ⟨rfl, rfl, hi⟩
    obtain ⟨hz, hk, hn, hk2⟩ := hi
    refine fnP_res hm c12_ok (hs := hsMeq zs ks) ?_
    show fnP Tryz.prog c12 (hsMeq zs ks) 15 [.agg (secA nm 0 n c 1 k d).toArray, .agg #[.int .i64 x, .string q]] (hp2 zs ks true true true true []) _
    rw [do_t]
    refine ⟨⟨hs⟩, br_of (fun h => ?_) (fun h => ⟨⟨hs⟩, ⟨hs⟩, br_of (fun h2 => ?_) (fun h2 => ⟨⟨hs⟩, ⟨by rw [acs_len]; omega, by omega, by omega⟩, ?_⟩)⟩)⟩
    · have he : doE nm zs n ks k x q = fi [secE nm zs n ks k, chkA x q] := sel_ne h
      have h0 : doE nm zs n ks k x q ≠ 0 := by rw [he]; simpa using h
      rw [gqS_n h0, gqN_n h0, gqN_n h0, gqL_n h0, gqK_n h0, he]
      exact ⟨by first | trivial | rfl, by first | trivial | rfl⟩
    · have he : doE nm zs n ks k x q = acE zs n ks k x := sel_eq h
      have h0 : doE nm zs n ks k x q ≠ 0 := by rw [he, acE]; simpa using h2
      rw [gqS_n h0, gqN_n h0, gqN_n h0, gqL_n h0, gqK_n h0, he]
      exact ⟨by first | trivial | rfl, by first | trivial | rfl⟩
    · have he : doE nm zs n ks k x q = acE zs n ks k x := sel_eq h
      have h0 : doE nm zs n ks k x q = 0 := by rw [he, acE]; simpa using h2
      rw [gqS_z h0, gqN_z h0, gqN_z h0, gqL_z h0, gqK_z h0, h0, aRow, ← acs_app]
      exact ⟨by first | trivial | rfl, by first | trivial | rfl⟩
  · cases h
end
end Qq
end
section
/- The index of a signal, plain. -/
open Go Go.Vm Go.Proofs Sp
namespace Qq
noncomputable section
/-- The sum of the first numbers. -/
def su (g : Nat → Int) : Nat → Int
  | 0 => 0
  | i + 1 => su g i + g i
theorem su_ext {g h : Nat → Int} : ∀ {n : Nat}, (∀ i, i < n → g i = h i) → su g n = su h n
  | 0, _ => rfl
  | n + 1, e => by rw [su, su, su_ext (fun i hi => e i (by omega)), e n (by omega)]
/-- The index of so many numbers as one window. -/
def ixG (g : Nat → Int) (n : Nat) : Int := rnd ((n : Int) * su (fun i => g i * g i) n - su g n * su g n) ((n : Int) * n)
theorem ixG_ext {g h : Nat → Int} {n : Nat} (e : ∀ i, i < n → g i = h i) : ixG g n = ixG h n := by
  rw [ixG, ixG, su_ext e, su_ext (g := fun i => g i * g i) (h := fun i => h i * h i) (fun i hi => by simp only [e i hi])]
theorem mo_none (xs : List Nat) : ∀ i, mo xs [] 0 i = ((i : Int), su (fun j => lev (xs.getD j 0)) i, su (fun j => lev (xs.getD j 0) * lev (xs.getD j 0)) i)
  | 0 => rfl
  | i + 1 => by
    have e : knB [] ((0 + i : Nat) : Int) = true := rfl
    rw [mo, if_pos e, mo_none xs i, addM, su, su, Nat.zero_add]
    rfl
theorem ixM_all (xs : List Nat) (n : Nat) : ixM (wnM xs [] n 0) (n : Int) = ixG (fun j => lev (xs.getD j 0)) n := by
  rw [wnM, Nat.zero_mul, mo_none, ixM, if_pos rfl]; rfl
end
end Qq
end
section
/- The sum of two samples. -/
open Go
namespace Fl
open Ieee Sp
theorem smp_of {z : Nat} {n : Int} (f1 : IsF z) (e1 : val z * 16 = n * (one : Int)) (h : n.natAbs ≤ 16384) : lev z = n ∧ sE z = 0 := by
  have hp := one_pos
  have hb : (val z).natAbs ≤ 1024 * one := by
    have e := congrArg Int.natAbs e1
    rw [Int.natAbs_mul, Int.natAbs_mul] at e
    have e2 : (one : Int).natAbs = one := Int.natAbs_natCast one
    rw [e2, show Int.natAbs 16 = 16 from rfl] at e
    have := Nat.mul_le_mul_right one h
    omega
  obtain ⟨m1, m2, m3⟩ := mul_16 f1 hb
  rw [e1] at m3
  obtain ⟨i1, _, s, i3, i4⟩ := int_ok m2 (by
    rw [m3, Int.natAbs_mul, show Int.natAbs (one : Int) = one from Int.natAbs_natCast one]
    exact Nat.mul_le_mul_right one (by omega))
  have hl : lev z = n := by
    rw [lev, i4]
    rw [m3] at i3 ⊢
    rw [Int.natAbs_mul, show Int.natAbs (one : Int) = one from Int.natAbs_natCast one] at i3 ⊢
    rw [Nat.mul_div_cancel _ hp]
    rw [sg_mul] at i3
    exact Int.eq_of_mul_eq_mul_right (by omega) i3
  refine ⟨hl, ?_⟩
  obtain ⟨f2, e2⟩ := of_val (n := n) (by omega)
  rw [sE_fin f1, hl]
  refine (Qq.wh_zero (by decide)).2 ?_
  have q1 : fLt z 3296722944 = false := by
    rw [lt_val f1 fin_m1024.1, fin_m1024.2]; exact decide_eq_false (by omega)
  have q2 : fGt z 1149239296 = false := by
    rw [gt_val f1 fin_1024.1, fin_1024.2]; exact decide_eq_false (by omega)
  have q3 : fNe (fMul z 1098907648) (fOf n) = false := by
    rw [ne_val m2 f2, m3, e2]; exact decide_eq_false (by simp)
  rw [q1, q2, q3]; rfl
theorem add_ok {x y : Nat} (hx : Smp x) (hy : Smp y) (h : (lev x + lev y).natAbs ≤ 16384) : fAddOk x y ∧ lev (fAdd x y) = lev x + lev y ∧ sE (fAdd x y) = 0 := by
  obtain ⟨r, e1, h1⟩ := Has.sum (lo := -149) (by decide) hx.fin.has hy.fin.has
  have es : single.add x y = some (single.write r) := by
    have e3 : single.add x y = ((single.read x).sum (single.read y)).map single.write := rfl
    rw [e3, e1]; rfl
  have hv : (val x + val y) * 16 = (lev x + lev y) * (one : Int) := by rw [Int.add_mul, Int.add_mul, hx.v, hy.v]
  have ht : val x + val y = (lev x + lev y) * ((2 ^ 396 : Nat) : Int) := by
    have e4 : ((2 ^ 396 : Nat) : Int) * 16 = (one : Int) := one_split (a := 396) (b := 4) (k := 16) rfl rfl
    rw [← e4, ← Int.mul_assoc] at hv
    omega
  have hr : Rep (val x + val y) := rep_pow (by omega) (by decide) (by decide) ht
  have hw := has_fin (h1.write (by decide) hr)
  have em : fAdd x y = single.write r := by rw [fAdd, fmt32, es]; rfl
  have hz := smp_of (z := fAdd x y) (n := lev x + lev y) (by rw [em]; exact hw.1) (by rw [em, hw.2, hv]) h
  exact ⟨by rw [fAddOk, fmt32, es]; rfl, hz.1, hz.2⟩
end Fl
end
