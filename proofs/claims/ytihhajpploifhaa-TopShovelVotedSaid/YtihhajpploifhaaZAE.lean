/- Parts of the proof: RS, RJ, RM, RT, RU, RV, RX. -/
import Derived.Test.YtihhajpploifhaaZAD
import Derived.Test.YtihhajpploifhaaZAC
import Derived.Test.YtihhajpploifhaaZAA
section
/- Readings: a list of integers, each known or not. -/
open Go Go.Vm Go.Proofs Sp
namespace Sp
noncomputable section
noncomputable def rC (r : Int × Bool) : List Value := [.int .i64 r.1, .bool r.2]
noncomputable def rdc : Nat → (Nat → Int × Bool) → List Value
  | 0, _ => []
  | n + 1, R => rdc n R ++ rC (R n)
noncomputable def upR (R : Nat → Int × Bool) (i : Nat) (v : Int × Bool) (j : Nat) : Int × Bool := if j = i then v else R j
/-- Readings of samples, where P says that they are known. -/
noncomputable def rdF (xs : List Nat) (P : Int → Bool) (i : Nat) : Int × Bool := if P (i : Int) = true then (lev (xs.getD i 0), true) else (0, false)
noncomputable def tt1 (_ : Int) : Bool := true
noncomputable def rdV (R : Nat → Int × Bool) (off : Nat) : Int := (R (off / 2)).1
noncomputable def rdW (R : Nat → Int × Bool) (off : Nat) : Bool := (R (off / 2)).2
noncomputable def zR (R : Nat → Int × Bool) (off : Nat) : Value := .agg #[.int .i64 (rdV R off), .bool (rdW R off)]
theorem rdV_at (R : Nat → Int × Bool) (i : Nat) : rdV R (i * 2) = (R i).1 := by rw [rdV, Nat.mul_div_cancel _ (by decide)]
theorem rdW_at (R : Nat → Int × Bool) (i : Nat) : rdW R (i * 2) = (R i).2 := by rw [rdW, Nat.mul_div_cancel _ (by decide)]
/-- In none of the first s holes, nor in the first j of the next one. -/
noncomputable def knT (hs : List Int) (s j : Nat) (i : Int) : Bool := knB (hs.take (s * 2)) i && !(decide (hs.getD (s * 2) 0 ≤ i) && decide (i < hs.getD (s * 2) 0 + (j : Int)))
noncomputable def hsz (hs : List Int) (s : Nat) : Int := hs.getD (s * 2 + 1) 0 - hs.getD (s * 2) 0
end
end Sp
namespace Qq
noncomputable section
theorem rdc_len : ∀ (n : Nat) (R : Nat → Int × Bool), (rdc n R).length = n * 2
  | 0, _ => rfl
  | n + 1, R => by rw [rdc, List.length_append, rdc_len n R, rC]; simp only [List.length_cons, List.length_nil]; omega
theorem rdc_congr : ∀ {n : Nat} {R Q : Nat → Int × Bool}, (∀ i, i < n → R i = Q i) → rdc n R = rdc n Q
  | 0, _, _, _ => rfl
  | n + 1, R, Q, h => by rw [rdc, rdc, rdc_congr (fun i hi => h i (by omega)), h n (by omega)]
theorem rdc_cut : ∀ {n i : Nat} {R : Nat → Int × Bool}, i < n → ∃ t, rdc n R = rdc i R ++ (rC (R i) ++ t) ∧ ∀ Q : Nat → Int × Bool, (∀ j, i < j → Q j = R j) → rdc n Q = rdc i Q ++ (rC (Q i) ++ t)
  | n + 1, i, R, h => by
    by_cases e : i = n
    · subst e
      refine ⟨[], by rw [rdc, List.append_nil], fun Q _ => by rw [rdc, List.append_nil]⟩
    · obtain ⟨t, h1, h2⟩ := rdc_cut (n := n) (i := i) (R := R) (by omega)
      refine ⟨t ++ rC (R n), by rw [rdc, h1]; simp only [List.append_assoc], fun Q hQ => ?_⟩
      rw [rdc, h2 Q hQ, hQ n (by omega)]
      simp only [List.append_assoc]
theorem rdc_take {n i : Nat} {R : Nat → Int × Bool} (h : i < n) : (if i * 2 + 2 ≤ (rdc n R).length then some (Value.agg (List.toArray (List.take 2 (List.drop (i * 2) (rdc n R))))) else none) = some (.agg #[.int .i64 (R i).1, .bool (R i).2]) := by
  obtain ⟨t, h1, _⟩ := rdc_cut (R := R) h
  have hl := rdc_len i R
  rw [if_pos (by rw [rdc_len]; omega), h1, ← hl, List.drop_left]
  rfl
theorem rdc_int {n i : Nat} {R : Nat → Int × Bool} (h : i < n) : (rdc n R)[i * 2]? = some (.int .i64 (R i).1) := by
  obtain ⟨t, h1, _⟩ := rdc_cut (R := R) h
  have hl := rdc_len i R
  rw [h1, List.getElem?_append_right (by omega), hl, Nat.sub_self]
  rfl
theorem rdc_bool {n i : Nat} {R : Nat → Int × Bool} (h : i < n) : (rdc n R)[i * 2 + 1]? = some (.bool (R i).2) := by
  obtain ⟨t, h1, _⟩ := rdc_cut (R := R) h
  have hl := rdc_len i R
  rw [h1, List.getElem?_append_right (by omega), hl, show i * 2 + 1 - i * 2 = 1 by omega]
  rfl
theorem rdc_put {n i : Nat} {R : Nat → Int × Bool} {v : Int × Bool} (h : i < n) : putL (rdc n R) (i * 2) (rC v) = rdc n (upR R i v) := by
  obtain ⟨t, h1, h2⟩ := rdc_cut (R := R) h
  have hl := rdc_len i R
  have h3 : rdc i (upR R i v) = rdc i R := rdc_congr (fun j hj => by rw [upR, if_neg (by omega)])
  have h4 : upR R i v i = v := by rw [upR, if_pos rfl]
  rw [h2 (upR R i v) (fun j hj => by rw [upR, if_neg (by omega)]), h3, h4, putL, splice, h1]
  have e1 : List.take (i * 2) (rdc i R ++ (rC (R i) ++ t)) = rdc i R := by rw [← hl, List.take_left]
  have e2 : List.drop (i * 2 + (rC v).length) (rdc i R ++ (rC (R i) ++ t)) = t := by
    have : i * 2 + (rC v).length = (rdc i R ++ rC (R i)).length := by rw [List.length_append, hl]; rfl
    rw [this, ← List.append_assoc, List.drop_left]
  rw [e1, e2]
theorem knT_zero {hs : List Int} {s : Nat} (i : Int) : knT hs s 0 i = knB (hs.take (s * 2)) i := by
  rw [knT]
  have : (decide (hs.getD (s * 2) 0 ≤ i) && decide (i < hs.getD (s * 2) 0 + ((0 : Nat) : Int))) = false := by
    by_cases h : hs.getD (s * 2) 0 ≤ i
    · rw [decide_eq_false (p := i < _) (by omega), Bool.and_false]
    · rw [decide_eq_false h, Bool.false_and]
  rw [this]; simp
theorem knB_app : ∀ (s : Nat) {l r : List Int} (i : Int), l.length = s * 2 → knB (l ++ r) i = (knB l i && knB r i)
  | 0, [], r, i, _ => by simp [knB]
  | s + 1, a :: b :: l, r, i, h => by
    rw [List.cons_append, List.cons_append, knB, knB, knB_app s i (by simp only [List.length_cons] at h; omega), Bool.and_assoc]
  | s + 1, [a], r, i, h => by simp only [List.length_cons, List.length_nil] at h; omega
  | s + 1, [], r, i, h => by simp only [List.length_nil] at h; omega
  | 0, a :: l, r, i, h => by simp only [List.length_cons] at h; omega
theorem knT_full {hs : List Int} {s j : Nat} (h : s * 2 + 2 ≤ hs.length) (hj : (j : Int) = hsz hs s) (i : Int) : knT hs s j i = knB (hs.take ((s + 1) * 2)) i := by
  have e : hs.take ((s + 1) * 2) = hs.take (s * 2) ++ [hs.getD (s * 2) 0, hs.getD (s * 2 + 1) 0] := by
    rw [show (s + 1) * 2 = s * 2 + 2 by omega, List.take_add, spn_drop h]; rfl
  have e2 : hs.getD (s * 2) 0 + (j : Int) = hs.getD (s * 2 + 1) 0 := by rw [hj, hsz]; omega
  rw [e, knB_app s i (by rw [List.length_take]; omega), knT, e2]
  simp [knB]
theorem rdF_congr {xs : List Nat} {P Q : Int → Bool} {n : Nat} (h : ∀ i : Int, P i = Q i) : rdc n (rdF xs P) = rdc n (rdF xs Q) := rdc_congr fun i _ => by rw [rdF, rdF, h]
theorem rdF_put {xs : List Nat} {hs : List Int} {s j i : Nat} (ha : (i : Int) = hs.getD (s * 2) 0 + (j : Int)) : ∀ k, upR (rdF xs (knT hs s j)) i (0, false) k = rdF xs (knT hs s (j + 1)) k := fun k => by
  rw [upR]
  have e2 : ((j + 1 : Nat) : Int) = (j : Int) + 1 := rfl
  split
  · rename_i e
    subst e
    rw [rdF, knT]
    have : (decide (hs.getD (s * 2) 0 ≤ (k : Int)) && decide ((k : Int) < hs.getD (s * 2) 0 + ((j + 1 : Nat) : Int))) = true := by
      rw [decide_eq_true (by omega), decide_eq_true (by omega)]; rfl
    rw [this]; simp
  · rename_i e
    rw [rdF, rdF]
    have : knT hs s j (k : Int) = knT hs s (j + 1) (k : Int) := by
      rw [knT, knT]
      congr 2
      congr 1
      exact decide_eq_decide.2 ⟨fun h => by omega, fun h => by omega⟩
    rw [this]
/- The integer of a sample, once more; a reading of a sample. -/
theorem intS_t (x : Nat) (K : Value → Heap → Prop) :
    (fnP Try.prog cs2 hsFl0 (40 : FuncId) [Value.float FloatKind.f32 x] [] K) =
    (Is (fMulOk (1098907648 : Nat) x) ∧ Is (fIntOk (fMul (1098907648 : Nat) x)) ∧ K (Value.int IntKind.i64 (Sp.fInt (fMul (1098907648 : Nat) x))) noH) := by kernel_rfl
theorem okInS : OkV Try.prog 40 orcLev := by
  intro args H ret H' vc h hv
  unfold orcLev at h
  split at h
  · rename_i x
    cases h
    have hs := Fl.smp hv
    refine fnP_res hm cs2_ok (hs := hsFl0) ?_
    rw [intS_t, Fl.mul_comm16 1098907648 x]
    exact ⟨⟨hs.m2⟩, ⟨hs.i1⟩, by first | trivial | rfl, by first | trivial | rfl⟩
  · cases h
noncomputable def hsRd1 : Hs Try.prog where
  au := auCalls [(40, hCa Try.prog 40 orcLev okInS)]
theorem rd1_t (x : Nat) (K : Value → Heap → Prop) :
    (fnP Try.prog cs2 hsRd1 (61 : FuncId) [Value.float FloatKind.f32 x] [] K) =
    (Is (sE x = (0 : Int)) ∧ K (Value.agg #[Value.int IntKind.i64 (lev x), Value.bool true]) noH) := by kernel_rfl
noncomputable def orcRd1 : OrcV
  | [.float .f32 x], [] => some (.agg #[.int .i64 (lev x), .bool true], [], sE x = 0)
  | _, _ => none
theorem okRd1 : OkV Try.prog 61 orcRd1 := by
  intro args H ret H' vc h hv
  unfold orcRd1 at h
  split at h
  · rename_i x
    cases h
    refine fnP_res hm cs2_ok (hs := hsRd1) ?_
    rw [rd1_t]
    exact ⟨⟨hv⟩, by first | trivial | rfl, by first | trivial | rfl⟩
  · cases h
/- A reading for each sample. -/
noncomputable def fR1 : Value := .func (.func 61) #[] #[]
noncomputable def rdR (n : Nat) (R : Nat → Int × Bool) : Option AObj := some (.row (rdc n R) 2 true true true)
noncomputable def lpMr0 (xs : List Nat) (n c : Nat) : Lp where
  σ := Nat
  E _ := slots 22 [(0, .slice (some ⟨0, 0, none⟩) n c), (1, fR1), (5, .slice (some ⟨1, 0, none⟩) 0 0)]
  Hp _ := [fR xs, rdR 0 (rdF xs tt1)]
  I s := s = 0
  m _ := 0
noncomputable def lpMr (xs : List Nat) (n c : Nat) : Lp where
  σ := Nat
  E i := slots 22 [(1, fR1), (5, .slice (some ⟨1, 0, none⟩) i 0), (8, .slice (some ⟨0, 0, none⟩) n c), (9, .int .i64 (Int.ofNat n)), (10, .int .i64 (Int.ofNat i))]
  Hp i := [fR xs, rdR i (rdF xs tt1)]
  I i := i ≤ n
  m i := n - i
noncomputable def hsMr (xs : List Nat) (n c : Nat) : Hs Try.prog where
  op y := if y = 400 then some (hIa Try.prog) else if y = 401 then some (hLd Try.prog (xF xs)) else if y = 503 then some (hCa Try.prog 61 orcRd1 okRd1) else if y = 505 then some (hAp Try.prog) else none
  cut y := if y = 2 then some (lpMr0 xs n c) else none
  lp _ := some (lpMr xs n c)
  cl y := if y = 2 then keep 22 [0, 1, 5] else keep 22 [1, 5, 8, 9, 10]
  nl y := if y = 2 then [.slot 5 2] else []
  au := au0 Try.prog
theorem mr_t (xs : List Nat) (n : Nat) (c : Nat) (K : Value → Heap → Prop) :
    (fnP Try.prog c0 (hsMr xs n c) (60 : FuncId) [Value.slice (some { block := (0 : Nat), off := (0 : Nat) }) n c, fR1] [fR xs] K) =
    ((∃ (s : Nat), Is (s = (0 : Nat)) ∧ [Value.slice (some { block := (0 : Nat), off := (0 : Nat) }) n c, Value.func (Fn.func (61 : Nat)) #[] #[], poi, poi, poi, Value.slice (some { block := (1 : Nat), off := (0 : Nat) }) (0 : Nat) (0 : Nat), poi, poi, poi, poi, poi, poi, poi, poi, poi, poi, poi, poi, poi, poi, poi, poi] = [Value.slice (some { block := (0 : Nat), off := (0 : Nat) }) n c, Value.func (Fn.func (61 : Nat)) #[] #[], poi, poi, poi, Value.slice (some { block := (1 : Nat), off := (0 : Nat) }) (0 : Nat) (0 : Nat), poi, poi, poi, poi, poi, poi, poi, poi, poi, poi, poi, poi, poi, poi, poi, poi] ∧ some (AObj.row (flts xs) (1 : Nat) true true true) :: some (AObj.row [] (2 : Nat) true true true) :: noH = some (AObj.row (flts xs) (1 : Nat) true true true) :: some (AObj.row [] (2 : Nat) true true true) :: noH) ∧ ∀ (s : Nat), Is (s = (0 : Nat)) → (∃ (s : Nat), Is (s ≤ n) ∧ [poi, Value.func (Fn.func (61 : Nat)) #[] #[], poi, poi, poi, Value.slice (some { block := (1 : Nat), off := (0 : Nat) }) (0 : Nat) (0 : Nat), poi, poi, Value.slice (some { block := (0 : Nat), off := (0 : Nat) }) n c, Value.int IntKind.i64 (↑n : Int), Value.int IntKind.i64 (0 : Int), poi, poi, poi, poi, poi, poi, poi, poi, poi, poi, poi] = [poi, Value.func (Fn.func (61 : Nat)) #[] #[], poi, poi, poi, Value.slice (some { block := (1 : Nat), off := (0 : Nat) }) s (0 : Nat), poi, poi, Value.slice (some { block := (0 : Nat), off := (0 : Nat) }) n c, Value.int IntKind.i64 (↑n : Int), Value.int IntKind.i64 (↑s : Int), poi, poi, poi, poi, poi, poi, poi, poi, poi, poi, poi] ∧ some (AObj.row (flts xs) (1 : Nat) true true true) :: some (AObj.row [] (2 : Nat) true true true) :: noH = some (AObj.row (flts xs) (1 : Nat) true true true) :: some (AObj.row (rdc s (rdF xs tt1)) (2 : Nat) true true true) :: noH) ∧ ∀ (s : Nat), Is (s ≤ n) → br (decide ((↑s : Int) < (↑n : Int))) (Is ((0 : Int) ≤ (↑s : Int) ∧ (↑s : Int) < (↑n : Int)) ∧ Is ((flts xs)[(0 : Nat) + Int.toNat (↑s : Int) * (1 : Nat)]? = some (Value.float FloatKind.f32 (List.getD xs ((0 : Nat) + Int.toNat (↑s : Int) * (1 : Nat)) (0 : Nat)))) ∧ Is (sE (List.getD xs ((0 : Nat) + Int.toNat (↑s : Int) * (1 : Nat)) (0 : Nat)) = (0 : Int)) ∧ Is (List.length (rdc s (rdF xs tt1)) = s * (2 : Nat) ∧ (s + (1 : Nat)) * (16 : Nat) ≤ (140737488355328 : Nat) ∧ s + (1 : Nat) ≤ (9223372036854775807 : Nat)) ∧ ∃ (s' : Nat), Is (s' ≤ n) ∧ Is (n - s' < n - s) ∧ [poi, Value.func (Fn.func (61 : Nat)) #[] #[], poi, poi, poi, Value.slice (some { block := (1 : Nat), off := (0 : Nat) }) (s + (1 : Nat)) (0 : Nat), poi, poi, Value.slice (some { block := (0 : Nat), off := (0 : Nat) }) n c, Value.int IntKind.i64 (↑n : Int), Value.int IntKind.i64 (IntKind.wrap IntKind.i64 ((↑s : Int) + (1 : Int))), poi, poi, poi, poi, poi, poi, poi, poi, poi, poi, poi] = [poi, Value.func (Fn.func (61 : Nat)) #[] #[], poi, poi, poi, Value.slice (some { block := (1 : Nat), off := (0 : Nat) }) s' (0 : Nat), poi, poi, Value.slice (some { block := (0 : Nat), off := (0 : Nat) }) n c, Value.int IntKind.i64 (↑n : Int), Value.int IntKind.i64 (↑s' : Int), poi, poi, poi, poi, poi, poi, poi, poi, poi, poi, poi] ∧ some (AObj.row (flts xs) (1 : Nat) true true true) :: some (AObj.row (rdc s (rdF xs tt1) ++ [Value.int IntKind.i64 (lev (List.getD xs ((0 : Nat) + Int.toNat (↑s : Int) * (1 : Nat)) (0 : Nat))), Value.bool true]) (2 : Nat) true true (List.all [Value.int IntKind.i64 (lev (List.getD xs ((0 : Nat) + Int.toNat (↑s : Int) * (1 : Nat)) (0 : Nat))), Value.bool true] atom)) :: noH = some (AObj.row (flts xs) (1 : Nat) true true true) :: some (AObj.row (rdc s' (rdF xs tt1)) (2 : Nat) true true true) :: noH) (K (Value.slice (some { block := (1 : Nat), off := (0 : Nat) }) s (0 : Nat)) (some (AObj.row (flts xs) (1 : Nat) true true true) :: some (AObj.row (rdc s (rdF xs tt1)) (2 : Nat) true true true) :: noH))) := by kernel_rfl
set_option maxRecDepth 100000 in
theorem mr_ok {xs : List Nat} {n c : Nat} (hn : xs.length = n) (h9 : n ≤ 100000) (hx : fi (xs.map sE) = 0) :
    SmallRes Try.prog 60 [.slice (some ⟨0, 0, none⟩) n c, fR1] [fR xs] (.slice (some ⟨1, 0, none⟩) n 0) [fR xs, rdR n (rdF xs tt1)] := by
  refine fnP_res hm c0_ok (hs := hsMr xs n c) ?_
  rw [mr_t]
  refine ⟨⟨(0 : Nat), ⟨rfl⟩, by first | trivial | rfl, by first | trivial | rfl⟩, fun _ _ => ⟨⟨(0 : Nat), ⟨by omega⟩, by first | trivial | rfl, by first | trivial | rfl⟩, fun s hs' => br_of (fun hc => ?_) (fun hc => ?_)⟩⟩
  · have hc := lt_of_dec hc
    simp only [Nat.zero_add, Nat.mul_one, Int.toNat_natCast]
    refine ⟨⟨by omega, by omega⟩, ⟨flts_at (by omega)⟩, ⟨smps hx (by omega)⟩, ⟨by rw [rdc_len], by omega, by omega⟩, s + 1, ⟨hc⟩, ⟨by omega⟩, ?_, by first | trivial | rfl⟩
    rw [up1 hc (by omega)]
  · have hc := ge_of_dec hc
    have : s = n := by have := hs'.out; omega
    subst this
    exact ⟨by first | trivial | rfl, by first | trivial | rfl⟩
noncomputable def orcMr (xs : List Nat) : OrcV
  | [.slice (some ⟨0, 0, none⟩) n _, .func (.func 61) ⟨[]⟩ ⟨[]⟩], [some (.row e1 1 true true true)] => some (.slice (some ⟨1, 0, none⟩) n 0, [some (.row e1 1 true true true), rdR n (rdF xs tt1)], e1 = flts xs ∧ xs.length = n ∧ n ≤ 100000 ∧ fi (xs.map sE) = 0)
  | _, _ => none
theorem okMr (xs : List Nat) : OkV Try.prog 60 (orcMr xs) := by
  intro args H ret H' vc h hv
  unfold orcMr at h
  split at h
  · cases h
    obtain ⟨rfl, h1, h2, h3⟩ := hv
    exact mr_ok h1 h2 h3
  · cases h
/- Readings of a run. -/
noncomputable def lpRr (nm : ByteArray) (f : Int) (n c k d : Nat) (xs : List Nat) (hs : List Int) : Lp where
  σ := Nat
  E s := slots 35 [(1, .pointer (some ⟨2, 0, none⟩)), (3, .slice (some ⟨3, 0, none⟩) n 0), (11, .slice (some ⟨1, 0, none⟩) k d), (12, .int .i64 (Int.ofNat k)), (13, .int .i64 (Int.ofNat s))]
  Hp s := hp2r xs hs true true true true [runO nm f n c k d, rdR n (rdF xs (knB (hs.take (s * 2))))]
  I s := s ≤ k
  m s := k - s
noncomputable def lpRi (nm : ByteArray) (f : Int) (n c k d : Nat) (xs : List Nat) (hs : List Int) (s : Nat) : Lp where
  σ := Nat
  E j := slots 35 [(1, .pointer (some ⟨2, 0, none⟩)), (3, .slice (some ⟨3, 0, none⟩) n 0), (5, .pointer (some ⟨4, 0, none⟩)), (11, .slice (some ⟨1, 0, none⟩) k d), (12, .int .i64 (Int.ofNat k)), (13, .int .i64 (Int.ofNat s)), (21, .int .i64 (hsz hs s)), (22, .int .i64 (Int.ofNat j))]
  Hp j := hp2r xs hs true true true true [runO nm f n c k d, rdR n (rdF xs (knT hs s j)), some (.row [.int .i64 (hs.getD (s * 2) 0), .int .i64 (hs.getD (s * 2 + 1) 0)] 0 false true true)]
  I j := s < k ∧ (j : Int) ≤ hsz hs s
  m j := (hsz hs s).toNat - j
noncomputable def hsRr (nm : ByteArray) (f : Int) (n c k d : Nat) (xs : List Nat) (hs : List Int) : Hs Try.prog where
  op y := if [400, 806].contains y then some (hIa Try.prog) else if y = 401 then some (hLd Try.prog (z2 hs)) else if y = 807 then some (hSp Try.prog) else none
  lp y := if y = 3 then some (lpRr nm f n c k d xs hs) else none
  lq y := if y = 6 then some ⟨Nat, lpRi nm f n c k d xs hs⟩ else none
  cl y := if y = 3 then keep 35 [1, 3, 11, 12, 13] else keep 35 [1, 3, 5, 11, 12, 13, 21, 22]
  au := auCalls [(60, hCa Try.prog 60 (orcMr xs) (okMr xs))]
theorem rr_t (nm : ByteArray) (f : Int) (n : Nat) (c : Nat) (k : Nat) (d : Nat) (xs : List Nat) (hs : List Int) (K : Value → Heap → Prop) :
    (fnP Try.prog c0 (hsRr nm f n c k d xs hs) (38 : FuncId) [Value.agg (List.toArray (runA nm f (0 : Nat) n c (1 : Nat) k d))] (hp2r xs hs true true true true []) K) =
    (Is (flts xs = flts xs ∧ List.length xs = n ∧ n ≤ (100000 : Nat) ∧ fi (List.map sE xs) = (0 : Int)) ∧ (∃ (s : Nat), Is (s ≤ k) ∧ [poi, Value.pointer (some { block := (2 : Nat), off := (0 : Nat) }), poi, Value.slice (some { block := (3 : Nat), off := (0 : Nat) }) n (0 : Nat), poi, poi, poi, poi, poi, poi, poi, Value.slice (some { block := (1 : Nat), off := (0 : Nat) }) k d, Value.int IntKind.i64 (↑k : Int), Value.int IntKind.i64 (0 : Int), poi, poi, poi, poi, poi, poi, poi, poi, poi, poi, poi, poi, poi, poi, poi, poi, poi, poi, poi, poi, poi] = [poi, Value.pointer (some { block := (2 : Nat), off := (0 : Nat) }), poi, Value.slice (some { block := (3 : Nat), off := (0 : Nat) }) n (0 : Nat), poi, poi, poi, poi, poi, poi, poi, Value.slice (some { block := (1 : Nat), off := (0 : Nat) }) k d, Value.int IntKind.i64 (↑k : Int), Value.int IntKind.i64 (↑s : Int), poi, poi, poi, poi, poi, poi, poi, poi, poi, poi, poi, poi, poi, poi, poi, poi, poi, poi, poi, poi, poi] ∧ some (AObj.row (flts xs) (1 : Nat) true true true) :: some (AObj.row (ints hs) (2 : Nat) true true true) :: some (AObj.row [Value.string nm, Value.int IntKind.i64 f, Value.slice (some { block := (0 : Nat), off := (0 : Nat) }) n c, Value.slice (some { block := (1 : Nat), off := (0 : Nat) }) k d] (0 : Nat) false true (List.all [Value.string nm, Value.int IntKind.i64 f, Value.slice (some { block := (0 : Nat), off := (0 : Nat) }) n c, Value.slice (some { block := (1 : Nat), off := (0 : Nat) }) k d] atom)) :: some (AObj.row (rdc n (rdF xs tt1)) (2 : Nat) true true true) :: noH = some (AObj.row (flts xs) (1 : Nat) true true true) :: some (AObj.row (ints hs) (2 : Nat) true true true) :: some (AObj.row [Value.string nm, Value.int IntKind.i64 f, Value.slice (some { block := (0 : Nat), off := (0 : Nat) }) n c, Value.slice (some { block := (1 : Nat), off := (0 : Nat) }) k d] (0 : Nat) false true false) :: some (AObj.row (rdc n (rdF xs (knB (List.take (s * (2 : Nat)) hs)))) (2 : Nat) true true true) :: noH) ∧ ∀ (s : Nat), Is (s ≤ k) → br (decide ((↑s : Int) < (↑k : Int))) (Is ((0 : Int) ≤ (↑s : Int) ∧ (↑s : Int) < (↑k : Int)) ∧ Is ((if (0 : Nat) + Int.toNat (↑s : Int) * (2 : Nat) + (2 : Nat) ≤ List.length (ints hs) then some (Value.agg (List.toArray (List.take (2 : Nat) (List.drop ((0 : Nat) + Int.toNat (↑s : Int) * (2 : Nat)) (ints hs))))) else none) = some (Value.agg #[Value.int IntKind.i64 (List.getD hs ((0 : Nat) + Int.toNat (↑s : Int) * (2 : Nat)) (0 : Int)), Value.int IntKind.i64 (List.getD hs ((0 : Nat) + Int.toNat (↑s : Int) * (2 : Nat) + (1 : Nat)) (0 : Int))])) ∧ ∃ (p : Nat), (∃ (s_1 : Nat), Is (p < k ∧ (↑s_1 : Int) ≤ hsz hs p) ∧ [poi, Value.pointer (some { block := (2 : Nat), off := (0 : Nat) }), poi, Value.slice (some { block := (3 : Nat), off := (0 : Nat) }) n (0 : Nat), poi, Value.pointer (some { block := (4 : Nat), off := (0 : Nat) }), poi, poi, poi, poi, poi, Value.slice (some { block := (1 : Nat), off := (0 : Nat) }) k d, Value.int IntKind.i64 (↑k : Int), Value.int IntKind.i64 (↑s : Int), poi, poi, poi, poi, poi, poi, poi, Value.int IntKind.i64 (IntKind.wrap IntKind.i64 (List.getD hs ((0 : Nat) + Int.toNat (↑s : Int) * (2 : Nat) + (1 : Nat)) (0 : Int) - List.getD hs ((0 : Nat) + Int.toNat (↑s : Int) * (2 : Nat)) (0 : Int))), Value.int IntKind.i64 (0 : Int), poi, poi, poi, poi, poi, poi, poi, poi, poi, poi, poi, poi] = [poi, Value.pointer (some { block := (2 : Nat), off := (0 : Nat) }), poi, Value.slice (some { block := (3 : Nat), off := (0 : Nat) }) n (0 : Nat), poi, Value.pointer (some { block := (4 : Nat), off := (0 : Nat) }), poi, poi, poi, poi, poi, Value.slice (some { block := (1 : Nat), off := (0 : Nat) }) k d, Value.int IntKind.i64 (↑k : Int), Value.int IntKind.i64 (↑p : Int), poi, poi, poi, poi, poi, poi, poi, Value.int IntKind.i64 (hsz hs p), Value.int IntKind.i64 (↑s_1 : Int), poi, poi, poi, poi, poi, poi, poi, poi, poi, poi, poi, poi] ∧ some (AObj.row (flts xs) (1 : Nat) true true true) :: some (AObj.row (ints hs) (2 : Nat) true true true) :: some (AObj.row [Value.string nm, Value.int IntKind.i64 f, Value.slice (some { block := (0 : Nat), off := (0 : Nat) }) n c, Value.slice (some { block := (1 : Nat), off := (0 : Nat) }) k d] (0 : Nat) false true false) :: some (AObj.row (rdc n (rdF xs (knB (List.take (s * (2 : Nat)) hs)))) (2 : Nat) true true true) :: some (AObj.row [Value.int IntKind.i64 (List.getD hs ((0 : Nat) + Int.toNat (↑s : Int) * (2 : Nat)) (0 : Int)), Value.int IntKind.i64 (List.getD hs ((0 : Nat) + Int.toNat (↑s : Int) * (2 : Nat) + (1 : Nat)) (0 : Int))] (0 : Nat) false true (true && List.all [Value.int IntKind.i64 (List.getD hs ((0 : Nat) + Int.toNat (↑s : Int) * (2 : Nat)) (0 : Int)), Value.int IntKind.i64 (List.getD hs ((0 : Nat) + Int.toNat (↑s : Int) * (2 : Nat) + (1 : Nat)) (0 : Int))] atom)) :: noH = some (AObj.row (flts xs) (1 : Nat) true true true) :: some (AObj.row (ints hs) (2 : Nat) true true true) :: some (AObj.row [Value.string nm, Value.int IntKind.i64 f, Value.slice (some { block := (0 : Nat), off := (0 : Nat) }) n c, Value.slice (some { block := (1 : Nat), off := (0 : Nat) }) k d] (0 : Nat) false true false) :: some (AObj.row (rdc n (rdF xs (knT hs p s_1))) (2 : Nat) true true true) :: some (AObj.row [Value.int IntKind.i64 (List.getD hs (p * (2 : Nat)) (0 : Int)), Value.int IntKind.i64 (List.getD hs (p * (2 : Nat) + (1 : Nat)) (0 : Int))] (0 : Nat) false true true) :: noH) ∧ ∀ (s_1 : Nat), Is (p < k ∧ (↑s_1 : Int) ≤ hsz hs p) → br (decide ((↑s_1 : Int) < hsz hs p)) (Is ((0 : Int) ≤ IntKind.wrap IntKind.i64 (List.getD hs (p * (2 : Nat)) (0 : Int) + (↑s_1 : Int)) ∧ IntKind.wrap IntKind.i64 (List.getD hs (p * (2 : Nat)) (0 : Int) + (↑s_1 : Int)) < (↑n : Int)) ∧ Is ((0 : Nat) + Int.toNat (IntKind.wrap IntKind.i64 (List.getD hs (p * (2 : Nat)) (0 : Int) + (↑s_1 : Int))) * (2 : Nat) + List.length [Value.int IntKind.i64 (0 : Int), Value.bool false] ≤ List.length (rdc n (rdF xs (knT hs p s_1)))) ∧ ∃ (s' : Nat), Is (p < k ∧ (↑s' : Int) ≤ hsz hs p) ∧ Is (Int.toNat (hsz hs p) - s' < Int.toNat (hsz hs p) - s_1) ∧ [poi, Value.pointer (some { block := (2 : Nat), off := (0 : Nat) }), poi, Value.slice (some { block := (3 : Nat), off := (0 : Nat) }) n (0 : Nat), poi, Value.pointer (some { block := (4 : Nat), off := (0 : Nat) }), poi, poi, poi, poi, poi, Value.slice (some { block := (1 : Nat), off := (0 : Nat) }) k d, Value.int IntKind.i64 (↑k : Int), Value.int IntKind.i64 (↑p : Int), poi, poi, poi, poi, poi, poi, poi, Value.int IntKind.i64 (hsz hs p), Value.int IntKind.i64 (IntKind.wrap IntKind.i64 ((↑s_1 : Int) + (1 : Int))), poi, poi, poi, poi, poi, poi, poi, poi, poi, poi, poi, poi] = [poi, Value.pointer (some { block := (2 : Nat), off := (0 : Nat) }), poi, Value.slice (some { block := (3 : Nat), off := (0 : Nat) }) n (0 : Nat), poi, Value.pointer (some { block := (4 : Nat), off := (0 : Nat) }), poi, poi, poi, poi, poi, Value.slice (some { block := (1 : Nat), off := (0 : Nat) }) k d, Value.int IntKind.i64 (↑k : Int), Value.int IntKind.i64 (↑p : Int), poi, poi, poi, poi, poi, poi, poi, Value.int IntKind.i64 (hsz hs p), Value.int IntKind.i64 (↑s' : Int), poi, poi, poi, poi, poi, poi, poi, poi, poi, poi, poi, poi] ∧ some (AObj.row (flts xs) (1 : Nat) true true true) :: some (AObj.row (ints hs) (2 : Nat) true true true) :: some (AObj.row [Value.string nm, Value.int IntKind.i64 f, Value.slice (some { block := (0 : Nat), off := (0 : Nat) }) n c, Value.slice (some { block := (1 : Nat), off := (0 : Nat) }) k d] (0 : Nat) false true false) :: some (AObj.row (putL (rdc n (rdF xs (knT hs p s_1))) ((0 : Nat) + Int.toNat (IntKind.wrap IntKind.i64 (List.getD hs (p * (2 : Nat)) (0 : Int) + (↑s_1 : Int))) * (2 : Nat)) [Value.int IntKind.i64 (0 : Int), Value.bool false]) (2 : Nat) true true (true && List.all [Value.int IntKind.i64 (0 : Int), Value.bool false] atom)) :: some (AObj.row [Value.int IntKind.i64 (List.getD hs (p * (2 : Nat)) (0 : Int)), Value.int IntKind.i64 (List.getD hs (p * (2 : Nat) + (1 : Nat)) (0 : Int))] (0 : Nat) false true true) :: noH = some (AObj.row (flts xs) (1 : Nat) true true true) :: some (AObj.row (ints hs) (2 : Nat) true true true) :: some (AObj.row [Value.string nm, Value.int IntKind.i64 f, Value.slice (some { block := (0 : Nat), off := (0 : Nat) }) n c, Value.slice (some { block := (1 : Nat), off := (0 : Nat) }) k d] (0 : Nat) false true false) :: some (AObj.row (rdc n (rdF xs (knT hs p s'))) (2 : Nat) true true true) :: some (AObj.row [Value.int IntKind.i64 (List.getD hs (p * (2 : Nat)) (0 : Int)), Value.int IntKind.i64 (List.getD hs (p * (2 : Nat) + (1 : Nat)) (0 : Int))] (0 : Nat) false true true) :: noH) (∃ (s' : Nat), Is (s' ≤ k) ∧ Is (k - s' < k - s) ∧ [poi, Value.pointer (some { block := (2 : Nat), off := (0 : Nat) }), poi, Value.slice (some { block := (3 : Nat), off := (0 : Nat) }) n (0 : Nat), poi, poi, poi, poi, poi, poi, poi, Value.slice (some { block := (1 : Nat), off := (0 : Nat) }) k d, Value.int IntKind.i64 (↑k : Int), Value.int IntKind.i64 (IntKind.wrap IntKind.i64 ((↑p : Int) + (1 : Int))), poi, poi, poi, poi, poi, poi, poi, poi, poi, poi, poi, poi, poi, poi, poi, poi, poi, poi, poi, poi, poi] = [poi, Value.pointer (some { block := (2 : Nat), off := (0 : Nat) }), poi, Value.slice (some { block := (3 : Nat), off := (0 : Nat) }) n (0 : Nat), poi, poi, poi, poi, poi, poi, poi, Value.slice (some { block := (1 : Nat), off := (0 : Nat) }) k d, Value.int IntKind.i64 (↑k : Int), Value.int IntKind.i64 (↑s' : Int), poi, poi, poi, poi, poi, poi, poi, poi, poi, poi, poi, poi, poi, poi, poi, poi, poi, poi, poi, poi, poi] ∧ some (AObj.row (flts xs) (1 : Nat) true true true) :: some (AObj.row (ints hs) (2 : Nat) true true true) :: some (AObj.row [Value.string nm, Value.int IntKind.i64 f, Value.slice (some { block := (0 : Nat), off := (0 : Nat) }) n c, Value.slice (some { block := (1 : Nat), off := (0 : Nat) }) k d] (0 : Nat) false true false) :: some (AObj.row (rdc n (rdF xs (knT hs p s_1))) (2 : Nat) true true true) :: noH = some (AObj.row (flts xs) (1 : Nat) true true true) :: some (AObj.row (ints hs) (2 : Nat) true true true) :: some (AObj.row [Value.string nm, Value.int IntKind.i64 f, Value.slice (some { block := (0 : Nat), off := (0 : Nat) }) n c, Value.slice (some { block := (1 : Nat), off := (0 : Nat) }) k d] (0 : Nat) false true false) :: some (AObj.row (rdc n (rdF xs (knB (List.take (s' * (2 : Nat)) hs)))) (2 : Nat) true true true) :: noH)) (K (Value.slice (some { block := (2 : Nat), off := (0 : Nat) }) n (0 : Nat)) (some (AObj.row (flts xs) (1 : Nat) true true true) :: some (AObj.row (ints hs) (2 : Nat) true true true) :: some (AObj.row (rdc n (rdF xs (knB (List.take (s * (2 : Nat)) hs)))) (2 : Nat) true true true) :: noH))) := by kernel_rfl
set_option maxRecDepth 100000 in
theorem rr_ok {nm : ByteArray} {f : Int} {n c k d : Nat} {xs : List Nat} {hs : List Int} (hn : xs.length = n) (h9 : n ≤ 100000) (hk : hs.length = k * 2) (hk9 : k ≤ 100000) (hx : fi (xs.map sE) = 0) (hh : hchk n hs (-1) = 0) :
    SmallRes Try.prog 38 [.agg (runA nm f 0 n c 1 k d).toArray] (hp2r xs hs true true true true []) (.slice (some ⟨2, 0, none⟩) n 0) (hp2r xs hs true true true true [rdR n (rdF xs (knB hs))]) := by
  refine fnP_res hm c0_ok (hs := hsRr nm f n c k d xs hs) ?_
  rw [rr_t]
  have e0 : rdc n (rdF xs tt1) = rdc n (rdF xs (knB (hs.take (0 * 2)))) := rdF_congr fun i => by rw [Nat.zero_mul, List.take_zero]; rfl
  refine ⟨⟨rfl, hn, h9, hx⟩, ⟨(0 : Nat), ⟨Nat.zero_le _⟩, by first | trivial | rfl, by rw [e0]; first | done | trivial | rfl⟩, fun s hs' => br_of (fun hc => ?_) (fun hc => ?_)⟩
  · have hc := lt_of_dec hc
    obtain ⟨_, a0, ab, bn⟩ := hchk_all hs (-1) hh s (by omega)
    have hz : IntKind.wrap .i64 (hs.getD (s * 2 + 1) 0 - hs.getD (s * 2) 0) = hsz hs s := by rw [hsz]; exact wrap_eq (by omega) (by omega)
    simp only [Nat.zero_add, Int.toNat_natCast, hz]
    have ez : rdc n (rdF xs (knB (hs.take (s * 2)))) = rdc n (rdF xs (knT hs s 0)) := rdF_congr fun i => (knT_zero i).symm
    refine ⟨⟨by omega, by omega⟩, ⟨ldh (by omega)⟩, s, ⟨(0 : Nat), ⟨hc, by rw [hsz]; omega⟩, by first | trivial | rfl, by rw [ez]; first | done | trivial | rfl⟩, fun j hj => br_of (fun hd => ?_) (fun hd => ?_)⟩
    · obtain ⟨_, j1⟩ := hj.out
      have hd : (j : Int) < hsz hs s := of_decide_eq_true hd
      have hzs : hsz hs s = hs.getD (s * 2 + 1) 0 - hs.getD (s * 2) 0 := rfl
      obtain ⟨A, hA⟩ := Int.eq_ofNat_of_zero_le a0
      have ew : IntKind.wrap .i64 (hs.getD (s * 2) 0 + (j : Int)) = ((A + j : Nat) : Int) := by rw [wrap_eq (by omega) (by omega)]; omega
      rw [ew]
      simp only [Int.toNat_natCast]
      have hput : putL (rdc n (rdF xs (knT hs s j))) ((A + j) * 2) [.int .i64 0, .bool false] = rdc n (rdF xs (knT hs s (j + 1))) := by
        refine (rdc_put (v := (0, false)) (show A + j < n by omega)).trans (rdc_congr fun i _ => rdF_put (by omega) i)
      refine ⟨⟨by omega, by omega⟩, ⟨by rw [rdc_len]; simp only [List.length_cons, List.length_nil]; omega⟩, j + 1, ⟨hc, by omega⟩, ⟨by omega⟩, ?_, ?_⟩
      · rw [wrap_eq (by omega) (by omega)]; first | done | trivial | rfl
      · rw [hput]; first | done | trivial | rfl
    · obtain ⟨_, j1⟩ := hj.out
      have hd : ¬ (j : Int) < hsz hs s := of_decide_eq_false hd
      have ef : rdc n (rdF xs (knT hs s j)) = rdc n (rdF xs (knB (hs.take ((s + 1) * 2)))) := rdF_congr fun i => knT_full (by omega) (by omega) i
      refine ⟨s + 1, ⟨hc⟩, ⟨by omega⟩, by rw [up1 hc (by omega)], by rw [ef]⟩
  · have hc := ge_of_dec hc
    have : s = k := by have := hs'.out; omega
    subst this
    rw [List.take_of_length_le (by omega)]
    exact ⟨by first | trivial | rfl, by first | trivial | rfl⟩
noncomputable def orcRr (xs : List Nat) (hs : List Int) : OrcV
  | [.agg ⟨[.string _nm, .int .i64 _f, .slice (some ⟨0, 0, none⟩) n _, .slice (some ⟨1, 0, none⟩) k _]⟩], [some (.row e1 1 true true true), some (.row e2 2 true true true)] =>
    some (.slice (some ⟨2, 0, none⟩) n 0, [some (.row e1 1 true true true), some (.row e2 2 true true true), rdR n (rdF xs (knB hs))], isRun xs hs n k e1 e2 ∧ fi (xs.map sE) = 0 ∧ hchk n hs (-1) = 0)
  | _, _ => none
theorem okRr (xs : List Nat) (hs : List Int) : OkV Try.prog 38 (orcRr xs hs) := by
  intro args H ret H' vc h hv
  unfold orcRr at h
  split at h
  · cases h
    obtain ⟨⟨rfl, rfl, h1, h2, h3, h4⟩, h5, h6⟩ := hv
    exact rr_ok h1 h2 h3 h4 h5 h6
  · cases h
end
end Qq
end
section
/- Windows of a run: the program's iterator. -/
open Go Go.Vm Go.Proofs Sp
namespace Sp
noncomputable section
/-- The index of moments: the variance, rounded. -/
noncomputable def rnd (a b : Int) : Int := (2 * a + b) / (2 * b)
end
end Sp
namespace Qq
noncomputable section
end
end Qq
end
section
/- Spans of windows above a limit: the program, and the reference. -/
open Go Go.Vm Go.Proofs Sp
namespace Sp
noncomputable section
end
end Sp
namespace Qq
noncomputable section
/- The reference. -/
theorem iAt_ints {l : List Int} {i : Nat} (h : i < l.length) : iAt (ints l) i = l.getD i 0 := by
  rw [iAt, zint_at h]
theorem putL_last {l : List Int} {m : Nat} {v : Int} (h : l.length = m * 2) (h0 : 0 < m) : putL (ints l) ((m - 1) * 2 + 1) [.int .i64 v] = ints (l.take (l.length - 1) ++ [v]) := by
  have e : (m - 1) * 2 + 1 = l.length - 1 := by omega
  rw [putL, splice, e, List.drop_eq_nil_of_le (by rw [ints_len]; simp only [List.length_cons, List.length_nil]; omega), List.append_nil, ints_take, ← ints_app]
  rfl
theorem join_len {l : List Int} {x : Int} (h : 0 < l.length) : (l.take (l.length - 1) ++ [x]).length = l.length := by
  rw [List.length_append, List.length_take]; simp only [List.length_cons, List.length_nil]; omega
theorem new_len (l : List Int) (x y : Int) : (l ++ [x, y]).length / 2 = l.length / 2 + 1 := by
  rw [List.length_append]; simp only [List.length_cons, List.length_nil]; omega
end
end Qq
end
section
/- Readings, written as a run. -/
open Go Go.Vm Go.Proofs Sp
namespace Sp
noncomputable section
def lastIs (l : List Int) (s : Int) : Bool := decide (0 < l.length) && decide (l.getD (l.length - 1) 0 = s)
/-- The holes of the first so many readings, of which B tells the known ones. -/
def mkS (B : Nat → Bool) : Nat → List Int
  | 0 => []
  | s + 1 => if B s = true then mkS B s else if lastIs (mkS B s) s = true then (mkS B s).take ((mkS B s).length - 1) ++ [(s : Int) + 1] else mkS B s ++ [(s : Int), (s : Int) + 1]
def mkK (B : Nat → Bool) (s : Nat) : Nat := (mkS B s).length / 2
noncomputable def mkX (R : Nat → Int × Bool) (n : Nat) : List Nat := (List.range n).map fun i => smO (R i).1
def mkB (R : Nat → Int × Bool) (i : Nat) : Bool := (R i).2
end
end Sp
namespace Qq
noncomputable section
noncomputable def orcSmO : OrcV
  | [.int .i64 n], [] => some (.float .f32 (smO n), [], n.natAbs < 2 ^ 24)
  | _, _ => none
theorem smO_t (n : Int) (K : Value → Heap → Prop) :
    (fnP Try.prog cs2 hsFl0 (63 : FuncId) [Value.int IntKind.i64 n] [] K) =
    (Is True ∧ Is (fDivOk (fOf n) (1098907648 : Nat)) ∧ K (Value.float FloatKind.f32 (fDiv (fOf n) (1098907648 : Nat))) noH) := by kernel_rfl
theorem okSmO : OkV Try.prog 63 orcSmO := by
  intro args H ret H' vc h hv
  unfold orcSmO at h
  split at h
  · rename_i n
    cases h
    refine fnP_res hm cs2_ok (hs := hsFl0) ?_
    rw [smO_t]
    exact ⟨⟨trivial⟩, ⟨(Fl.sm_ok hv).1⟩, by first | trivial | rfl, by first | trivial | rfl⟩
  · cases h
noncomputable def zrun : List Value := [.string ByteArray.empty, .int .i64 0, .slice none 0 0, .slice none 0 0]
noncomputable def lpW0 (nm : ByteArray) (f : Int) (n c k d m e : Nat) (xs : List Nat) (hs : List Int) (R : Nat → Int × Bool) : Lp where
  σ := Nat
  E _ := slots 70 [(1, .slice (some ⟨2, 0, none⟩) m e), (2, .pointer (some ⟨3, 0, none⟩)), (4, .pointer (some ⟨4, 0, none⟩)), (5, .pointer (some ⟨5, 0, none⟩))]
  Hp _ := hp2r xs hs true true true true [rdR m R, runO nm f n c k d, some (.row zrun 0 false true true), some (.row (runA nm f 6 0 0 7 0 0) 0 false true false), fR [], some (.row (ints []) 2 true true true)]
  I s := s = 0
  m _ := 0
noncomputable def lpW (nm : ByteArray) (f : Int) (n c k d m e : Nat) (xs : List Nat) (hs : List Int) (R : Nat → Int × Bool) : Lp where
  σ := Nat
  E s := slots 70 [(2, .pointer (some ⟨3, 0, none⟩)), (4, .pointer (some ⟨4, 0, none⟩)), (5, .pointer (some ⟨5, 0, none⟩)), (14, .slice (some ⟨2, 0, none⟩) m e), (15, .int .i64 (Int.ofNat m)), (16, .int .i64 (Int.ofNat s))]
  Hp s := hp2r xs hs true true true true [rdR m R, runO nm f n c k d, some (.row zrun 0 false true true), some (.row (runA nm f 6 s 0 7 (mkK (mkB R) s) 0) 0 false true false), fR (mkX R s), some (.row (ints (mkS (mkB R) s)) 2 true true true)]
  I s := s ≤ m
  m s := m - s
noncomputable def hsWi (nm : ByteArray) (f : Int) (n c k d m e : Nat) (xs : List Nat) (hs : List Int) (R : Nat → Int × Bool) : Hs Try.prog where
  op y := if [401, 907, 1004, 1008].contains y then some (hIa Try.prog) else if y = 402 then some (hLd Try.prog (zR R)) else if [909, 1006].contains y then some (hLc Try.prog gI) else if [506, 707].contains y then some (hAp Try.prog) else if y = 1010 then some (hSp Try.prog) else none
  cut y := if y = 2 then some (lpW0 nm f n c k d m e xs hs R) else none
  lp _ := some (lpW nm f n c k d m e xs hs R)
  cl y := if y = 2 then keep 70 [1, 2, 4, 5] else keep 70 [2, 4, 5, 14, 15, 16]
  nl y := if y = 2 then [.cell 5 2 1, .cell 5 3 2] else []
  au := auCalls [(63, hCa Try.prog 63 orcSmO okSmO)]
theorem wi_t (nm : ByteArray) (f : Int) (n : Nat) (c : Nat) (k : Nat) (d : Nat) (m : Nat) (e : Nat) (xs : List Nat) (hs : List Int) (R : Nat → Int × Bool) (K : Value → Heap → Prop) :
    (fnP Try.prog c0 (hsWi nm f n c k d m e xs hs R) (41 : FuncId) [Value.agg (List.toArray (runA nm f (0 : Nat) n c (1 : Nat) k d)), Value.slice (some { block := (2 : Nat), off := (0 : Nat) }) m e] (hp2r xs hs true true true true [rdR m R]) K) =
    ((∃ (s : Nat), Is (s = (0 : Nat)) ∧ [poi, Value.slice (some { block := (2 : Nat), off := (0 : Nat) }) m e, Value.pointer (some { block := (3 : Nat), off := (0 : Nat) }), poi, Value.pointer (some { block := (4 : Nat), off := (0 : Nat) }), Value.pointer (some { block := (5 : Nat), off := (0 : Nat) }), poi, poi, poi, poi, poi, poi, poi, poi, poi, poi, poi, poi, poi, poi, poi, poi, poi, poi, poi, poi, poi, poi, poi, poi, poi, poi, poi, poi, poi, poi, poi, poi, poi, poi, poi, poi, poi, poi, poi, poi, poi, poi, poi, poi, poi, poi, poi, poi, poi, poi, poi, poi, poi, poi, poi, poi, poi, poi, poi, poi, poi, poi, poi, poi] = [poi, Value.slice (some { block := (2 : Nat), off := (0 : Nat) }) m e, Value.pointer (some { block := (3 : Nat), off := (0 : Nat) }), poi, Value.pointer (some { block := (4 : Nat), off := (0 : Nat) }), Value.pointer (some { block := (5 : Nat), off := (0 : Nat) }), poi, poi, poi, poi, poi, poi, poi, poi, poi, poi, poi, poi, poi, poi, poi, poi, poi, poi, poi, poi, poi, poi, poi, poi, poi, poi, poi, poi, poi, poi, poi, poi, poi, poi, poi, poi, poi, poi, poi, poi, poi, poi, poi, poi, poi, poi, poi, poi, poi, poi, poi, poi, poi, poi, poi, poi, poi, poi, poi, poi, poi, poi, poi, poi] ∧ some (AObj.row (flts xs) (1 : Nat) true true true) :: some (AObj.row (ints hs) (2 : Nat) true true true) :: some (AObj.row (rdc m R) (2 : Nat) true true true) :: some (AObj.row [Value.string nm, Value.int IntKind.i64 f, Value.slice (some { block := (0 : Nat), off := (0 : Nat) }) n c, Value.slice (some { block := (1 : Nat), off := (0 : Nat) }) k d] (0 : Nat) false true (List.all [Value.string nm, Value.int IntKind.i64 f, Value.slice (some { block := (0 : Nat), off := (0 : Nat) }) n c, Value.slice (some { block := (1 : Nat), off := (0 : Nat) }) k d] atom)) :: some (AObj.row [Value.string { data := #[] }, Value.int IntKind.i64 (0 : Int), Value.slice none (0 : Nat) (0 : Nat), Value.slice none (0 : Nat) (0 : Nat)] (0 : Nat) false true true) :: some (AObj.row [Value.string nm, Value.int IntKind.i64 f, Value.slice (some { block := (6 : Nat), off := (0 : Nat) }) (0 : Nat) (0 : Nat), Value.slice (some { block := (7 : Nat), off := (0 : Nat) }) (0 : Nat) (0 : Nat)] (0 : Nat) false true false) :: some (AObj.row [] (1 : Nat) true true true) :: some (AObj.row [] (2 : Nat) true true true) :: noH = some (AObj.row (flts xs) (1 : Nat) true true true) :: some (AObj.row (ints hs) (2 : Nat) true true true) :: some (AObj.row (rdc m R) (2 : Nat) true true true) :: some (AObj.row [Value.string nm, Value.int IntKind.i64 f, Value.slice (some { block := (0 : Nat), off := (0 : Nat) }) n c, Value.slice (some { block := (1 : Nat), off := (0 : Nat) }) k d] (0 : Nat) false true false) :: some (AObj.row [Value.string { data := #[] }, Value.int IntKind.i64 (0 : Int), Value.slice none (0 : Nat) (0 : Nat), Value.slice none (0 : Nat) (0 : Nat)] (0 : Nat) false true true) :: some (AObj.row [Value.string nm, Value.int IntKind.i64 f, Value.slice (some { block := (6 : Nat), off := (0 : Nat) }) (0 : Nat) (0 : Nat), Value.slice (some { block := (7 : Nat), off := (0 : Nat) }) (0 : Nat) (0 : Nat)] (0 : Nat) false true false) :: some (AObj.row [] (1 : Nat) true true true) :: some (AObj.row [] (2 : Nat) true true true) :: noH) ∧ ∀ (s : Nat), Is (s = (0 : Nat)) → (∃ (s : Nat), Is (s ≤ m) ∧ [poi, poi, Value.pointer (some { block := (3 : Nat), off := (0 : Nat) }), poi, Value.pointer (some { block := (4 : Nat), off := (0 : Nat) }), Value.pointer (some { block := (5 : Nat), off := (0 : Nat) }), poi, poi, poi, poi, poi, poi, poi, poi, Value.slice (some { block := (2 : Nat), off := (0 : Nat) }) m e, Value.int IntKind.i64 (↑m : Int), Value.int IntKind.i64 (0 : Int), poi, poi, poi, poi, poi, poi, poi, poi, poi, poi, poi, poi, poi, poi, poi, poi, poi, poi, poi, poi, poi, poi, poi, poi, poi, poi, poi, poi, poi, poi, poi, poi, poi, poi, poi, poi, poi, poi, poi, poi, poi, poi, poi, poi, poi, poi, poi, poi, poi, poi, poi, poi, poi] = [poi, poi, Value.pointer (some { block := (3 : Nat), off := (0 : Nat) }), poi, Value.pointer (some { block := (4 : Nat), off := (0 : Nat) }), Value.pointer (some { block := (5 : Nat), off := (0 : Nat) }), poi, poi, poi, poi, poi, poi, poi, poi, Value.slice (some { block := (2 : Nat), off := (0 : Nat) }) m e, Value.int IntKind.i64 (↑m : Int), Value.int IntKind.i64 (↑s : Int), poi, poi, poi, poi, poi, poi, poi, poi, poi, poi, poi, poi, poi, poi, poi, poi, poi, poi, poi, poi, poi, poi, poi, poi, poi, poi, poi, poi, poi, poi, poi, poi, poi, poi, poi, poi, poi, poi, poi, poi, poi, poi, poi, poi, poi, poi, poi, poi, poi, poi, poi, poi, poi] ∧ some (AObj.row (flts xs) (1 : Nat) true true true) :: some (AObj.row (ints hs) (2 : Nat) true true true) :: some (AObj.row (rdc m R) (2 : Nat) true true true) :: some (AObj.row [Value.string nm, Value.int IntKind.i64 f, Value.slice (some { block := (0 : Nat), off := (0 : Nat) }) n c, Value.slice (some { block := (1 : Nat), off := (0 : Nat) }) k d] (0 : Nat) false true false) :: some (AObj.row [Value.string { data := #[] }, Value.int IntKind.i64 (0 : Int), Value.slice none (0 : Nat) (0 : Nat), Value.slice none (0 : Nat) (0 : Nat)] (0 : Nat) false true true) :: some (AObj.row [Value.string nm, Value.int IntKind.i64 f, Value.slice (some { block := (6 : Nat), off := (0 : Nat) }) (0 : Nat) (0 : Nat), Value.slice (some { block := (7 : Nat), off := (0 : Nat) }) (0 : Nat) (0 : Nat)] (0 : Nat) false true false) :: some (AObj.row [] (1 : Nat) true true true) :: some (AObj.row [] (2 : Nat) true true true) :: noH = some (AObj.row (flts xs) (1 : Nat) true true true) :: some (AObj.row (ints hs) (2 : Nat) true true true) :: some (AObj.row (rdc m R) (2 : Nat) true true true) :: some (AObj.row [Value.string nm, Value.int IntKind.i64 f, Value.slice (some { block := (0 : Nat), off := (0 : Nat) }) n c, Value.slice (some { block := (1 : Nat), off := (0 : Nat) }) k d] (0 : Nat) false true false) :: some (AObj.row [Value.string { data := #[] }, Value.int IntKind.i64 (0 : Int), Value.slice none (0 : Nat) (0 : Nat), Value.slice none (0 : Nat) (0 : Nat)] (0 : Nat) false true true) :: some (AObj.row [Value.string nm, Value.int IntKind.i64 f, Value.slice (some { block := (6 : Nat), off := (0 : Nat) }) s (0 : Nat), Value.slice (some { block := (7 : Nat), off := (0 : Nat) }) (mkK (mkB R) s) (0 : Nat)] (0 : Nat) false true false) :: some (AObj.row (flts (mkX R s)) (1 : Nat) true true true) :: some (AObj.row (ints (mkS (mkB R) s)) (2 : Nat) true true true) :: noH) ∧ ∀ (s : Nat), Is (s ≤ m) → br (decide ((↑s : Int) < (↑m : Int))) (Is ((0 : Int) ≤ (↑s : Int) ∧ (↑s : Int) < (↑m : Int)) ∧ Is ((if (0 : Nat) + Int.toNat (↑s : Int) * (2 : Nat) + (2 : Nat) ≤ List.length (rdc m R) then some (Value.agg (List.toArray (List.take (2 : Nat) (List.drop ((0 : Nat) + Int.toNat (↑s : Int) * (2 : Nat)) (rdc m R))))) else none) = some (Value.agg #[Value.int IntKind.i64 (rdV R ((0 : Nat) + Int.toNat (↑s : Int) * (2 : Nat))), Value.bool (rdW R ((0 : Nat) + Int.toNat (↑s : Int) * (2 : Nat)))])) ∧ Is (Int.natAbs (rdV R ((0 : Nat) + Int.toNat (↑s : Int) * (2 : Nat))) < (16777216 : Nat)) ∧ Is (List.length (flts (mkX R s)) = s * (1 : Nat) ∧ (s + (1 : Nat)) * (4 : Nat) ≤ (140737488355328 : Nat) ∧ s + (1 : Nat) ≤ (9223372036854775807 : Nat)) ∧ br (rdW R ((0 : Nat) + Int.toNat (↑s : Int) * (2 : Nat))) (∃ (s' : Nat), Is (s' ≤ m) ∧ Is (m - s' < m - s) ∧ [poi, poi, Value.pointer (some { block := (3 : Nat), off := (0 : Nat) }), poi, Value.pointer (some { block := (4 : Nat), off := (0 : Nat) }), Value.pointer (some { block := (5 : Nat), off := (0 : Nat) }), poi, poi, poi, poi, poi, poi, poi, poi, Value.slice (some { block := (2 : Nat), off := (0 : Nat) }) m e, Value.int IntKind.i64 (↑m : Int), Value.int IntKind.i64 (IntKind.wrap IntKind.i64 ((↑s : Int) + (1 : Int))), poi, poi, poi, poi, poi, poi, poi, poi, poi, poi, poi, poi, poi, poi, poi, poi, poi, poi, poi, poi, poi, poi, poi, poi, poi, poi, poi, poi, poi, poi, poi, poi, poi, poi, poi, poi, poi, poi, poi, poi, poi, poi, poi, poi, poi, poi, poi, poi, poi, poi, poi, poi, poi] = [poi, poi, Value.pointer (some { block := (3 : Nat), off := (0 : Nat) }), poi, Value.pointer (some { block := (4 : Nat), off := (0 : Nat) }), Value.pointer (some { block := (5 : Nat), off := (0 : Nat) }), poi, poi, poi, poi, poi, poi, poi, poi, Value.slice (some { block := (2 : Nat), off := (0 : Nat) }) m e, Value.int IntKind.i64 (↑m : Int), Value.int IntKind.i64 (↑s' : Int), poi, poi, poi, poi, poi, poi, poi, poi, poi, poi, poi, poi, poi, poi, poi, poi, poi, poi, poi, poi, poi, poi, poi, poi, poi, poi, poi, poi, poi, poi, poi, poi, poi, poi, poi, poi, poi, poi, poi, poi, poi, poi, poi, poi, poi, poi, poi, poi, poi, poi, poi, poi, poi] ∧ some (AObj.row (flts xs) (1 : Nat) true true true) :: some (AObj.row (ints hs) (2 : Nat) true true true) :: some (AObj.row (rdc m R) (2 : Nat) true true true) :: some (AObj.row [Value.string nm, Value.int IntKind.i64 f, Value.slice (some { block := (0 : Nat), off := (0 : Nat) }) n c, Value.slice (some { block := (1 : Nat), off := (0 : Nat) }) k d] (0 : Nat) false true false) :: some (AObj.row [Value.string { data := #[] }, Value.int IntKind.i64 (0 : Int), Value.slice none (0 : Nat) (0 : Nat), Value.slice none (0 : Nat) (0 : Nat)] (0 : Nat) false true true) :: some (AObj.row [Value.string nm, Value.int IntKind.i64 f, Value.slice (some { block := (6 : Nat), off := (0 : Nat) }) (s + (1 : Nat)) (0 : Nat), Value.slice (some { block := (7 : Nat), off := (0 : Nat) }) (mkK (mkB R) s) (0 : Nat)] (0 : Nat) false true (false && List.all [Value.slice (some { block := List.length (some (AObj.row (flts xs) (1 : Nat) true true true) :: some (AObj.row (ints hs) (2 : Nat) true true true) :: some (AObj.row (rdc m R) (2 : Nat) true true true) :: some (AObj.row [Value.string nm, Value.int IntKind.i64 f, Value.slice (some { block := (0 : Nat), off := (0 : Nat) }) n c, Value.slice (some { block := (1 : Nat), off := (0 : Nat) }) k d] (0 : Nat) false true false) :: some (AObj.row [Value.string { data := #[] }, Value.int IntKind.i64 (0 : Int), Value.slice none (0 : Nat) (0 : Nat), Value.slice none (0 : Nat) (0 : Nat)] (0 : Nat) false true true) :: some (AObj.row [Value.string nm, Value.int IntKind.i64 f, Value.slice (some { block := (6 : Nat), off := (0 : Nat) }) s (0 : Nat), Value.slice (some { block := (7 : Nat), off := (0 : Nat) }) (mkK (mkB R) s) (0 : Nat)] (0 : Nat) false true false) :: some (AObj.row (flts (mkX R s)) (1 : Nat) true true true) :: some (AObj.row (ints (mkS (mkB R) s)) (2 : Nat) true true true) :: some (AObj.row [Value.int IntKind.i64 (rdV R ((0 : Nat) + Int.toNat (↑s : Int) * (2 : Nat))), Value.bool (rdW R ((0 : Nat) + Int.toNat (↑s : Int) * (2 : Nat)))] (0 : Nat) false true (true && List.all [Value.int IntKind.i64 (rdV R ((0 : Nat) + Int.toNat (↑s : Int) * (2 : Nat))), Value.bool (rdW R ((0 : Nat) + Int.toNat (↑s : Int) * (2 : Nat)))] atom)) :: some (AObj.row [Value.float FloatKind.f32 (smO (rdV R ((0 : Nat) + Int.toNat (↑s : Int) * (2 : Nat))))] (1 : Nat) false true (List.all [Value.float FloatKind.f32 (smO (rdV R ((0 : Nat) + Int.toNat (↑s : Int) * (2 : Nat))))] atom)) :: noH), off := (0 : Nat) }) (s + (1 : Nat)) (0 : Nat)] atom)) :: some (AObj.row (flts (mkX R s) ++ [Value.float FloatKind.f32 (smO (rdV R ((0 : Nat) + Int.toNat (↑s : Int) * (2 : Nat))))]) (1 : Nat) true true (List.all [Value.float FloatKind.f32 (smO (rdV R ((0 : Nat) + Int.toNat (↑s : Int) * (2 : Nat))))] atom)) :: some (AObj.row (ints (mkS (mkB R) s)) (2 : Nat) true true true) :: noH = some (AObj.row (flts xs) (1 : Nat) true true true) :: some (AObj.row (ints hs) (2 : Nat) true true true) :: some (AObj.row (rdc m R) (2 : Nat) true true true) :: some (AObj.row [Value.string nm, Value.int IntKind.i64 f, Value.slice (some { block := (0 : Nat), off := (0 : Nat) }) n c, Value.slice (some { block := (1 : Nat), off := (0 : Nat) }) k d] (0 : Nat) false true false) :: some (AObj.row [Value.string { data := #[] }, Value.int IntKind.i64 (0 : Int), Value.slice none (0 : Nat) (0 : Nat), Value.slice none (0 : Nat) (0 : Nat)] (0 : Nat) false true true) :: some (AObj.row [Value.string nm, Value.int IntKind.i64 f, Value.slice (some { block := (6 : Nat), off := (0 : Nat) }) s' (0 : Nat), Value.slice (some { block := (7 : Nat), off := (0 : Nat) }) (mkK (mkB R) s') (0 : Nat)] (0 : Nat) false true false) :: some (AObj.row (flts (mkX R s')) (1 : Nat) true true true) :: some (AObj.row (ints (mkS (mkB R) s')) (2 : Nat) true true true) :: noH) (br (decide ((0 : Int) < (↑(mkK (mkB R) s) : Int))) (Is ((0 : Int) ≤ IntKind.wrap IntKind.i64 ((↑(mkK (mkB R) s) : Int) - (1 : Int)) ∧ IntKind.wrap IntKind.i64 ((↑(mkK (mkB R) s) : Int) - (1 : Int)) < (↑(mkK (mkB R) s) : Int)) ∧ Is ((ints (mkS (mkB R) s))[(0 : Nat) + Int.toNat (IntKind.wrap IntKind.i64 ((↑(mkK (mkB R) s) : Int) - (1 : Int))) * (2 : Nat) + (1 : Nat)]? = some (Value.int IntKind.i64 (iAt (ints (mkS (mkB R) s)) ((0 : Nat) + Int.toNat (IntKind.wrap IntKind.i64 ((↑(mkK (mkB R) s) : Int) - (1 : Int))) * (2 : Nat) + (1 : Nat))))) ∧ br (iAt (ints (mkS (mkB R) s)) ((0 : Nat) + Int.toNat (IntKind.wrap IntKind.i64 ((↑(mkK (mkB R) s) : Int) - (1 : Int))) * (2 : Nat) + (1 : Nat)) == (↑s : Int)) (Is ((0 : Int) ≤ IntKind.wrap IntKind.i64 ((↑(mkK (mkB R) s) : Int) - (1 : Int)) ∧ IntKind.wrap IntKind.i64 ((↑(mkK (mkB R) s) : Int) - (1 : Int)) < (↑(mkK (mkB R) s) : Int)) ∧ Is ((ints (mkS (mkB R) s))[(0 : Nat) + Int.toNat (IntKind.wrap IntKind.i64 ((↑(mkK (mkB R) s) : Int) - (1 : Int))) * (2 : Nat) + (1 : Nat)]? = some (Value.int IntKind.i64 (iAt (ints (mkS (mkB R) s)) ((0 : Nat) + Int.toNat (IntKind.wrap IntKind.i64 ((↑(mkK (mkB R) s) : Int) - (1 : Int))) * (2 : Nat) + (1 : Nat))))) ∧ Is ((0 : Int) ≤ IntKind.wrap IntKind.i64 ((↑(mkK (mkB R) s) : Int) - (1 : Int)) ∧ IntKind.wrap IntKind.i64 ((↑(mkK (mkB R) s) : Int) - (1 : Int)) < (↑(mkK (mkB R) s) : Int)) ∧ Is ((0 : Nat) + Int.toNat (IntKind.wrap IntKind.i64 ((↑(mkK (mkB R) s) : Int) - (1 : Int))) * (2 : Nat) + (1 : Nat) + List.length [Value.int IntKind.i64 (IntKind.wrap IntKind.i64 (iAt (ints (mkS (mkB R) s)) ((0 : Nat) + Int.toNat (IntKind.wrap IntKind.i64 ((↑(mkK (mkB R) s) : Int) - (1 : Int))) * (2 : Nat) + (1 : Nat)) + (1 : Int)))] ≤ List.length (ints (mkS (mkB R) s))) ∧ ∃ (s' : Nat), Is (s' ≤ m) ∧ Is (m - s' < m - s) ∧ [poi, poi, Value.pointer (some { block := (3 : Nat), off := (0 : Nat) }), poi, Value.pointer (some { block := (4 : Nat), off := (0 : Nat) }), Value.pointer (some { block := (5 : Nat), off := (0 : Nat) }), poi, poi, poi, poi, poi, poi, poi, poi, Value.slice (some { block := (2 : Nat), off := (0 : Nat) }) m e, Value.int IntKind.i64 (↑m : Int), Value.int IntKind.i64 (IntKind.wrap IntKind.i64 ((↑s : Int) + (1 : Int))), poi, poi, poi, poi, poi, poi, poi, poi, poi, poi, poi, poi, poi, poi, poi, poi, poi, poi, poi, poi, poi, poi, poi, poi, poi, poi, poi, poi, poi, poi, poi, poi, poi, poi, poi, poi, poi, poi, poi, poi, poi, poi, poi, poi, poi, poi, poi, poi, poi, poi, poi, poi, poi] = [poi, poi, Value.pointer (some { block := (3 : Nat), off := (0 : Nat) }), poi, Value.pointer (some { block := (4 : Nat), off := (0 : Nat) }), Value.pointer (some { block := (5 : Nat), off := (0 : Nat) }), poi, poi, poi, poi, poi, poi, poi, poi, Value.slice (some { block := (2 : Nat), off := (0 : Nat) }) m e, Value.int IntKind.i64 (↑m : Int), Value.int IntKind.i64 (↑s' : Int), poi, poi, poi, poi, poi, poi, poi, poi, poi, poi, poi, poi, poi, poi, poi, poi, poi, poi, poi, poi, poi, poi, poi, poi, poi, poi, poi, poi, poi, poi, poi, poi, poi, poi, poi, poi, poi, poi, poi, poi, poi, poi, poi, poi, poi, poi, poi, poi, poi, poi, poi, poi, poi] ∧ some (AObj.row (flts xs) (1 : Nat) true true true) :: some (AObj.row (ints hs) (2 : Nat) true true true) :: some (AObj.row (rdc m R) (2 : Nat) true true true) :: some (AObj.row [Value.string nm, Value.int IntKind.i64 f, Value.slice (some { block := (0 : Nat), off := (0 : Nat) }) n c, Value.slice (some { block := (1 : Nat), off := (0 : Nat) }) k d] (0 : Nat) false true false) :: some (AObj.row [Value.string { data := #[] }, Value.int IntKind.i64 (0 : Int), Value.slice none (0 : Nat) (0 : Nat), Value.slice none (0 : Nat) (0 : Nat)] (0 : Nat) false true true) :: some (AObj.row [Value.string nm, Value.int IntKind.i64 f, Value.slice (some { block := (6 : Nat), off := (0 : Nat) }) (s + (1 : Nat)) (0 : Nat), Value.slice (some { block := (7 : Nat), off := (0 : Nat) }) (mkK (mkB R) s) (0 : Nat)] (0 : Nat) false true (false && List.all [Value.slice (some { block := List.length (some (AObj.row (flts xs) (1 : Nat) true true true) :: some (AObj.row (ints hs) (2 : Nat) true true true) :: some (AObj.row (rdc m R) (2 : Nat) true true true) :: some (AObj.row [Value.string nm, Value.int IntKind.i64 f, Value.slice (some { block := (0 : Nat), off := (0 : Nat) }) n c, Value.slice (some { block := (1 : Nat), off := (0 : Nat) }) k d] (0 : Nat) false true false) :: some (AObj.row [Value.string { data := #[] }, Value.int IntKind.i64 (0 : Int), Value.slice none (0 : Nat) (0 : Nat), Value.slice none (0 : Nat) (0 : Nat)] (0 : Nat) false true true) :: some (AObj.row [Value.string nm, Value.int IntKind.i64 f, Value.slice (some { block := (6 : Nat), off := (0 : Nat) }) s (0 : Nat), Value.slice (some { block := (7 : Nat), off := (0 : Nat) }) (mkK (mkB R) s) (0 : Nat)] (0 : Nat) false true false) :: some (AObj.row (flts (mkX R s)) (1 : Nat) true true true) :: some (AObj.row (ints (mkS (mkB R) s)) (2 : Nat) true true true) :: some (AObj.row [Value.int IntKind.i64 (rdV R ((0 : Nat) + Int.toNat (↑s : Int) * (2 : Nat))), Value.bool (rdW R ((0 : Nat) + Int.toNat (↑s : Int) * (2 : Nat)))] (0 : Nat) false true (true && List.all [Value.int IntKind.i64 (rdV R ((0 : Nat) + Int.toNat (↑s : Int) * (2 : Nat))), Value.bool (rdW R ((0 : Nat) + Int.toNat (↑s : Int) * (2 : Nat)))] atom)) :: some (AObj.row [Value.float FloatKind.f32 (smO (rdV R ((0 : Nat) + Int.toNat (↑s : Int) * (2 : Nat))))] (1 : Nat) false true (List.all [Value.float FloatKind.f32 (smO (rdV R ((0 : Nat) + Int.toNat (↑s : Int) * (2 : Nat))))] atom)) :: noH), off := (0 : Nat) }) (s + (1 : Nat)) (0 : Nat)] atom)) :: some (AObj.row (flts (mkX R s) ++ [Value.float FloatKind.f32 (smO (rdV R ((0 : Nat) + Int.toNat (↑s : Int) * (2 : Nat))))]) (1 : Nat) true true (List.all [Value.float FloatKind.f32 (smO (rdV R ((0 : Nat) + Int.toNat (↑s : Int) * (2 : Nat))))] atom)) :: some (AObj.row (putL (ints (mkS (mkB R) s)) ((0 : Nat) + Int.toNat (IntKind.wrap IntKind.i64 ((↑(mkK (mkB R) s) : Int) - (1 : Int))) * (2 : Nat) + (1 : Nat)) [Value.int IntKind.i64 (IntKind.wrap IntKind.i64 (iAt (ints (mkS (mkB R) s)) ((0 : Nat) + Int.toNat (IntKind.wrap IntKind.i64 ((↑(mkK (mkB R) s) : Int) - (1 : Int))) * (2 : Nat) + (1 : Nat)) + (1 : Int)))]) (2 : Nat) true true (true && List.all [Value.int IntKind.i64 (IntKind.wrap IntKind.i64 (iAt (ints (mkS (mkB R) s)) ((0 : Nat) + Int.toNat (IntKind.wrap IntKind.i64 ((↑(mkK (mkB R) s) : Int) - (1 : Int))) * (2 : Nat) + (1 : Nat)) + (1 : Int)))] atom)) :: noH = some (AObj.row (flts xs) (1 : Nat) true true true) :: some (AObj.row (ints hs) (2 : Nat) true true true) :: some (AObj.row (rdc m R) (2 : Nat) true true true) :: some (AObj.row [Value.string nm, Value.int IntKind.i64 f, Value.slice (some { block := (0 : Nat), off := (0 : Nat) }) n c, Value.slice (some { block := (1 : Nat), off := (0 : Nat) }) k d] (0 : Nat) false true false) :: some (AObj.row [Value.string { data := #[] }, Value.int IntKind.i64 (0 : Int), Value.slice none (0 : Nat) (0 : Nat), Value.slice none (0 : Nat) (0 : Nat)] (0 : Nat) false true true) :: some (AObj.row [Value.string nm, Value.int IntKind.i64 f, Value.slice (some { block := (6 : Nat), off := (0 : Nat) }) s' (0 : Nat), Value.slice (some { block := (7 : Nat), off := (0 : Nat) }) (mkK (mkB R) s') (0 : Nat)] (0 : Nat) false true false) :: some (AObj.row (flts (mkX R s')) (1 : Nat) true true true) :: some (AObj.row (ints (mkS (mkB R) s')) (2 : Nat) true true true) :: noH) (Is (List.length (ints (mkS (mkB R) s)) = mkK (mkB R) s * (2 : Nat) ∧ (mkK (mkB R) s + (1 : Nat)) * (16 : Nat) ≤ (140737488355328 : Nat) ∧ mkK (mkB R) s + (1 : Nat) ≤ (9223372036854775807 : Nat)) ∧ ∃ (s' : Nat), Is (s' ≤ m) ∧ Is (m - s' < m - s) ∧ [poi, poi, Value.pointer (some { block := (3 : Nat), off := (0 : Nat) }), poi, Value.pointer (some { block := (4 : Nat), off := (0 : Nat) }), Value.pointer (some { block := (5 : Nat), off := (0 : Nat) }), poi, poi, poi, poi, poi, poi, poi, poi, Value.slice (some { block := (2 : Nat), off := (0 : Nat) }) m e, Value.int IntKind.i64 (↑m : Int), Value.int IntKind.i64 (IntKind.wrap IntKind.i64 ((↑s : Int) + (1 : Int))), poi, poi, poi, poi, poi, poi, poi, poi, poi, poi, poi, poi, poi, poi, poi, poi, poi, poi, poi, poi, poi, poi, poi, poi, poi, poi, poi, poi, poi, poi, poi, poi, poi, poi, poi, poi, poi, poi, poi, poi, poi, poi, poi, poi, poi, poi, poi, poi, poi, poi, poi, poi, poi] = [poi, poi, Value.pointer (some { block := (3 : Nat), off := (0 : Nat) }), poi, Value.pointer (some { block := (4 : Nat), off := (0 : Nat) }), Value.pointer (some { block := (5 : Nat), off := (0 : Nat) }), poi, poi, poi, poi, poi, poi, poi, poi, Value.slice (some { block := (2 : Nat), off := (0 : Nat) }) m e, Value.int IntKind.i64 (↑m : Int), Value.int IntKind.i64 (↑s' : Int), poi, poi, poi, poi, poi, poi, poi, poi, poi, poi, poi, poi, poi, poi, poi, poi, poi, poi, poi, poi, poi, poi, poi, poi, poi, poi, poi, poi, poi, poi, poi, poi, poi, poi, poi, poi, poi, poi, poi, poi, poi, poi, poi, poi, poi, poi, poi, poi, poi, poi, poi, poi, poi] ∧ some (AObj.row (flts xs) (1 : Nat) true true true) :: some (AObj.row (ints hs) (2 : Nat) true true true) :: some (AObj.row (rdc m R) (2 : Nat) true true true) :: some (AObj.row [Value.string nm, Value.int IntKind.i64 f, Value.slice (some { block := (0 : Nat), off := (0 : Nat) }) n c, Value.slice (some { block := (1 : Nat), off := (0 : Nat) }) k d] (0 : Nat) false true false) :: some (AObj.row [Value.string { data := #[] }, Value.int IntKind.i64 (0 : Int), Value.slice none (0 : Nat) (0 : Nat), Value.slice none (0 : Nat) (0 : Nat)] (0 : Nat) false true true) :: some (AObj.row [Value.string nm, Value.int IntKind.i64 f, Value.slice (some { block := (6 : Nat), off := (0 : Nat) }) (s + (1 : Nat)) (0 : Nat), Value.slice (some { block := (7 : Nat), off := (0 : Nat) }) (mkK (mkB R) s + (1 : Nat)) (0 : Nat)] (0 : Nat) false true (false && List.all [Value.slice (some { block := List.length (some (AObj.row (flts xs) (1 : Nat) true true true) :: some (AObj.row (ints hs) (2 : Nat) true true true) :: some (AObj.row (rdc m R) (2 : Nat) true true true) :: some (AObj.row [Value.string nm, Value.int IntKind.i64 f, Value.slice (some { block := (0 : Nat), off := (0 : Nat) }) n c, Value.slice (some { block := (1 : Nat), off := (0 : Nat) }) k d] (0 : Nat) false true false) :: some (AObj.row [Value.string { data := #[] }, Value.int IntKind.i64 (0 : Int), Value.slice none (0 : Nat) (0 : Nat), Value.slice none (0 : Nat) (0 : Nat)] (0 : Nat) false true true) :: some (AObj.row [Value.string nm, Value.int IntKind.i64 f, Value.slice (some { block := (6 : Nat), off := (0 : Nat) }) s (0 : Nat), Value.slice (some { block := (7 : Nat), off := (0 : Nat) }) (mkK (mkB R) s) (0 : Nat)] (0 : Nat) false true false) :: some (AObj.row (flts (mkX R s)) (1 : Nat) true true true) :: some (AObj.row (ints (mkS (mkB R) s)) (2 : Nat) true true true) :: some (AObj.row [Value.int IntKind.i64 (rdV R ((0 : Nat) + Int.toNat (↑s : Int) * (2 : Nat))), Value.bool (rdW R ((0 : Nat) + Int.toNat (↑s : Int) * (2 : Nat)))] (0 : Nat) false true (true && List.all [Value.int IntKind.i64 (rdV R ((0 : Nat) + Int.toNat (↑s : Int) * (2 : Nat))), Value.bool (rdW R ((0 : Nat) + Int.toNat (↑s : Int) * (2 : Nat)))] atom)) :: some (AObj.row [Value.float FloatKind.f32 (smO (rdV R ((0 : Nat) + Int.toNat (↑s : Int) * (2 : Nat))))] (1 : Nat) false true (List.all [Value.float FloatKind.f32 (smO (rdV R ((0 : Nat) + Int.toNat (↑s : Int) * (2 : Nat))))] atom)) :: noH), off := (0 : Nat) }) (s + (1 : Nat)) (0 : Nat)] atom && List.all [Value.slice (some { block := List.length (some (AObj.row (flts xs) (1 : Nat) true true true) :: some (AObj.row (ints hs) (2 : Nat) true true true) :: some (AObj.row (rdc m R) (2 : Nat) true true true) :: some (AObj.row [Value.string nm, Value.int IntKind.i64 f, Value.slice (some { block := (0 : Nat), off := (0 : Nat) }) n c, Value.slice (some { block := (1 : Nat), off := (0 : Nat) }) k d] (0 : Nat) false true false) :: some (AObj.row [Value.string { data := #[] }, Value.int IntKind.i64 (0 : Int), Value.slice none (0 : Nat) (0 : Nat), Value.slice none (0 : Nat) (0 : Nat)] (0 : Nat) false true true) :: some (AObj.row [Value.string nm, Value.int IntKind.i64 f, Value.slice (some { block := List.length (some (AObj.row (flts xs) (1 : Nat) true true true) :: some (AObj.row (ints hs) (2 : Nat) true true true) :: some (AObj.row (rdc m R) (2 : Nat) true true true) :: some (AObj.row [Value.string nm, Value.int IntKind.i64 f, Value.slice (some { block := (0 : Nat), off := (0 : Nat) }) n c, Value.slice (some { block := (1 : Nat), off := (0 : Nat) }) k d] (0 : Nat) false true false) :: some (AObj.row [Value.string { data := #[] }, Value.int IntKind.i64 (0 : Int), Value.slice none (0 : Nat) (0 : Nat), Value.slice none (0 : Nat) (0 : Nat)] (0 : Nat) false true true) :: some (AObj.row [Value.string nm, Value.int IntKind.i64 f, Value.slice (some { block := (6 : Nat), off := (0 : Nat) }) s (0 : Nat), Value.slice (some { block := (7 : Nat), off := (0 : Nat) }) (mkK (mkB R) s) (0 : Nat)] (0 : Nat) false true false) :: some (AObj.row (flts (mkX R s)) (1 : Nat) true true true) :: some (AObj.row (ints (mkS (mkB R) s)) (2 : Nat) true true true) :: some (AObj.row [Value.int IntKind.i64 (rdV R ((0 : Nat) + Int.toNat (↑s : Int) * (2 : Nat))), Value.bool (rdW R ((0 : Nat) + Int.toNat (↑s : Int) * (2 : Nat)))] (0 : Nat) false true (true && List.all [Value.int IntKind.i64 (rdV R ((0 : Nat) + Int.toNat (↑s : Int) * (2 : Nat))), Value.bool (rdW R ((0 : Nat) + Int.toNat (↑s : Int) * (2 : Nat)))] atom)) :: some (AObj.row [Value.float FloatKind.f32 (smO (rdV R ((0 : Nat) + Int.toNat (↑s : Int) * (2 : Nat))))] (1 : Nat) false true (List.all [Value.float FloatKind.f32 (smO (rdV R ((0 : Nat) + Int.toNat (↑s : Int) * (2 : Nat))))] atom)) :: noH), off := (0 : Nat) }) (s + (1 : Nat)) (0 : Nat), Value.slice (some { block := (7 : Nat), off := (0 : Nat) }) (mkK (mkB R) s) (0 : Nat)] (0 : Nat) false true (false && List.all [Value.slice (some { block := List.length (some (AObj.row (flts xs) (1 : Nat) true true true) :: some (AObj.row (ints hs) (2 : Nat) true true true) :: some (AObj.row (rdc m R) (2 : Nat) true true true) :: some (AObj.row [Value.string nm, Value.int IntKind.i64 f, Value.slice (some { block := (0 : Nat), off := (0 : Nat) }) n c, Value.slice (some { block := (1 : Nat), off := (0 : Nat) }) k d] (0 : Nat) false true false) :: some (AObj.row [Value.string { data := #[] }, Value.int IntKind.i64 (0 : Int), Value.slice none (0 : Nat) (0 : Nat), Value.slice none (0 : Nat) (0 : Nat)] (0 : Nat) false true true) :: some (AObj.row [Value.string nm, Value.int IntKind.i64 f, Value.slice (some { block := (6 : Nat), off := (0 : Nat) }) s (0 : Nat), Value.slice (some { block := (7 : Nat), off := (0 : Nat) }) (mkK (mkB R) s) (0 : Nat)] (0 : Nat) false true false) :: some (AObj.row (flts (mkX R s)) (1 : Nat) true true true) :: some (AObj.row (ints (mkS (mkB R) s)) (2 : Nat) true true true) :: some (AObj.row [Value.int IntKind.i64 (rdV R ((0 : Nat) + Int.toNat (↑s : Int) * (2 : Nat))), Value.bool (rdW R ((0 : Nat) + Int.toNat (↑s : Int) * (2 : Nat)))] (0 : Nat) false true (true && List.all [Value.int IntKind.i64 (rdV R ((0 : Nat) + Int.toNat (↑s : Int) * (2 : Nat))), Value.bool (rdW R ((0 : Nat) + Int.toNat (↑s : Int) * (2 : Nat)))] atom)) :: some (AObj.row [Value.float FloatKind.f32 (smO (rdV R ((0 : Nat) + Int.toNat (↑s : Int) * (2 : Nat))))] (1 : Nat) false true (List.all [Value.float FloatKind.f32 (smO (rdV R ((0 : Nat) + Int.toNat (↑s : Int) * (2 : Nat))))] atom)) :: noH), off := (0 : Nat) }) (s + (1 : Nat)) (0 : Nat)] atom)) :: none :: some (AObj.row (ints (mkS (mkB R) s)) (2 : Nat) true true true) :: some (AObj.row [Value.int IntKind.i64 (rdV R ((0 : Nat) + Int.toNat (↑s : Int) * (2 : Nat))), Value.bool (rdW R ((0 : Nat) + Int.toNat (↑s : Int) * (2 : Nat)))] (0 : Nat) false true (true && List.all [Value.int IntKind.i64 (rdV R ((0 : Nat) + Int.toNat (↑s : Int) * (2 : Nat))), Value.bool (rdW R ((0 : Nat) + Int.toNat (↑s : Int) * (2 : Nat)))] atom)) :: some (AObj.row [Value.float FloatKind.f32 (smO (rdV R ((0 : Nat) + Int.toNat (↑s : Int) * (2 : Nat))))] (1 : Nat) false true (List.all [Value.float FloatKind.f32 (smO (rdV R ((0 : Nat) + Int.toNat (↑s : Int) * (2 : Nat))))] atom)) :: some (AObj.row (flts (mkX R s) ++ [Value.float FloatKind.f32 (smO (rdV R ((0 : Nat) + Int.toNat (↑s : Int) * (2 : Nat))))]) (1 : Nat) true true (List.all [Value.float FloatKind.f32 (smO (rdV R ((0 : Nat) + Int.toNat (↑s : Int) * (2 : Nat))))] atom)) :: some (AObj.row [Value.int IntKind.i64 (↑s : Int), Value.int IntKind.i64 (IntKind.wrap IntKind.i64 ((↑s : Int) + (1 : Int)))] (2 : Nat) false true (List.all [Value.int IntKind.i64 (↑s : Int), Value.int IntKind.i64 (IntKind.wrap IntKind.i64 ((↑s : Int) + (1 : Int)))] atom)) :: noH), off := (0 : Nat) }) (mkK (mkB R) s + (1 : Nat)) (0 : Nat)] atom)) :: some (AObj.row (flts (mkX R s) ++ [Value.float FloatKind.f32 (smO (rdV R ((0 : Nat) + Int.toNat (↑s : Int) * (2 : Nat))))]) (1 : Nat) true true (List.all [Value.float FloatKind.f32 (smO (rdV R ((0 : Nat) + Int.toNat (↑s : Int) * (2 : Nat))))] atom)) :: some (AObj.row (ints (mkS (mkB R) s) ++ [Value.int IntKind.i64 (↑s : Int), Value.int IntKind.i64 (IntKind.wrap IntKind.i64 ((↑s : Int) + (1 : Int)))]) (2 : Nat) true true (List.all [Value.int IntKind.i64 (↑s : Int), Value.int IntKind.i64 (IntKind.wrap IntKind.i64 ((↑s : Int) + (1 : Int)))] atom)) :: noH = some (AObj.row (flts xs) (1 : Nat) true true true) :: some (AObj.row (ints hs) (2 : Nat) true true true) :: some (AObj.row (rdc m R) (2 : Nat) true true true) :: some (AObj.row [Value.string nm, Value.int IntKind.i64 f, Value.slice (some { block := (0 : Nat), off := (0 : Nat) }) n c, Value.slice (some { block := (1 : Nat), off := (0 : Nat) }) k d] (0 : Nat) false true false) :: some (AObj.row [Value.string { data := #[] }, Value.int IntKind.i64 (0 : Int), Value.slice none (0 : Nat) (0 : Nat), Value.slice none (0 : Nat) (0 : Nat)] (0 : Nat) false true true) :: some (AObj.row [Value.string nm, Value.int IntKind.i64 f, Value.slice (some { block := (6 : Nat), off := (0 : Nat) }) s' (0 : Nat), Value.slice (some { block := (7 : Nat), off := (0 : Nat) }) (mkK (mkB R) s') (0 : Nat)] (0 : Nat) false true false) :: some (AObj.row (flts (mkX R s')) (1 : Nat) true true true) :: some (AObj.row (ints (mkS (mkB R) s')) (2 : Nat) true true true) :: noH)) (Is (List.length (ints (mkS (mkB R) s)) = mkK (mkB R) s * (2 : Nat) ∧ (mkK (mkB R) s + (1 : Nat)) * (16 : Nat) ≤ (140737488355328 : Nat) ∧ mkK (mkB R) s + (1 : Nat) ≤ (9223372036854775807 : Nat)) ∧ ∃ (s' : Nat), Is (s' ≤ m) ∧ Is (m - s' < m - s) ∧ [poi, poi, Value.pointer (some { block := (3 : Nat), off := (0 : Nat) }), poi, Value.pointer (some { block := (4 : Nat), off := (0 : Nat) }), Value.pointer (some { block := (5 : Nat), off := (0 : Nat) }), poi, poi, poi, poi, poi, poi, poi, poi, Value.slice (some { block := (2 : Nat), off := (0 : Nat) }) m e, Value.int IntKind.i64 (↑m : Int), Value.int IntKind.i64 (IntKind.wrap IntKind.i64 ((↑s : Int) + (1 : Int))), poi, poi, poi, poi, poi, poi, poi, poi, poi, poi, poi, poi, poi, poi, poi, poi, poi, poi, poi, poi, poi, poi, poi, poi, poi, poi, poi, poi, poi, poi, poi, poi, poi, poi, poi, poi, poi, poi, poi, poi, poi, poi, poi, poi, poi, poi, poi, poi, poi, poi, poi, poi, poi] = [poi, poi, Value.pointer (some { block := (3 : Nat), off := (0 : Nat) }), poi, Value.pointer (some { block := (4 : Nat), off := (0 : Nat) }), Value.pointer (some { block := (5 : Nat), off := (0 : Nat) }), poi, poi, poi, poi, poi, poi, poi, poi, Value.slice (some { block := (2 : Nat), off := (0 : Nat) }) m e, Value.int IntKind.i64 (↑m : Int), Value.int IntKind.i64 (↑s' : Int), poi, poi, poi, poi, poi, poi, poi, poi, poi, poi, poi, poi, poi, poi, poi, poi, poi, poi, poi, poi, poi, poi, poi, poi, poi, poi, poi, poi, poi, poi, poi, poi, poi, poi, poi, poi, poi, poi, poi, poi, poi, poi, poi, poi, poi, poi, poi, poi, poi, poi, poi, poi, poi] ∧ some (AObj.row (flts xs) (1 : Nat) true true true) :: some (AObj.row (ints hs) (2 : Nat) true true true) :: some (AObj.row (rdc m R) (2 : Nat) true true true) :: some (AObj.row [Value.string nm, Value.int IntKind.i64 f, Value.slice (some { block := (0 : Nat), off := (0 : Nat) }) n c, Value.slice (some { block := (1 : Nat), off := (0 : Nat) }) k d] (0 : Nat) false true false) :: some (AObj.row [Value.string { data := #[] }, Value.int IntKind.i64 (0 : Int), Value.slice none (0 : Nat) (0 : Nat), Value.slice none (0 : Nat) (0 : Nat)] (0 : Nat) false true true) :: some (AObj.row [Value.string nm, Value.int IntKind.i64 f, Value.slice (some { block := (6 : Nat), off := (0 : Nat) }) (s + (1 : Nat)) (0 : Nat), Value.slice (some { block := (7 : Nat), off := (0 : Nat) }) (mkK (mkB R) s + (1 : Nat)) (0 : Nat)] (0 : Nat) false true (false && List.all [Value.slice (some { block := List.length (some (AObj.row (flts xs) (1 : Nat) true true true) :: some (AObj.row (ints hs) (2 : Nat) true true true) :: some (AObj.row (rdc m R) (2 : Nat) true true true) :: some (AObj.row [Value.string nm, Value.int IntKind.i64 f, Value.slice (some { block := (0 : Nat), off := (0 : Nat) }) n c, Value.slice (some { block := (1 : Nat), off := (0 : Nat) }) k d] (0 : Nat) false true false) :: some (AObj.row [Value.string { data := #[] }, Value.int IntKind.i64 (0 : Int), Value.slice none (0 : Nat) (0 : Nat), Value.slice none (0 : Nat) (0 : Nat)] (0 : Nat) false true true) :: some (AObj.row [Value.string nm, Value.int IntKind.i64 f, Value.slice (some { block := (6 : Nat), off := (0 : Nat) }) s (0 : Nat), Value.slice (some { block := (7 : Nat), off := (0 : Nat) }) (mkK (mkB R) s) (0 : Nat)] (0 : Nat) false true false) :: some (AObj.row (flts (mkX R s)) (1 : Nat) true true true) :: some (AObj.row (ints (mkS (mkB R) s)) (2 : Nat) true true true) :: some (AObj.row [Value.int IntKind.i64 (rdV R ((0 : Nat) + Int.toNat (↑s : Int) * (2 : Nat))), Value.bool (rdW R ((0 : Nat) + Int.toNat (↑s : Int) * (2 : Nat)))] (0 : Nat) false true (true && List.all [Value.int IntKind.i64 (rdV R ((0 : Nat) + Int.toNat (↑s : Int) * (2 : Nat))), Value.bool (rdW R ((0 : Nat) + Int.toNat (↑s : Int) * (2 : Nat)))] atom)) :: some (AObj.row [Value.float FloatKind.f32 (smO (rdV R ((0 : Nat) + Int.toNat (↑s : Int) * (2 : Nat))))] (1 : Nat) false true (List.all [Value.float FloatKind.f32 (smO (rdV R ((0 : Nat) + Int.toNat (↑s : Int) * (2 : Nat))))] atom)) :: noH), off := (0 : Nat) }) (s + (1 : Nat)) (0 : Nat)] atom && List.all [Value.slice (some { block := List.length (some (AObj.row (flts xs) (1 : Nat) true true true) :: some (AObj.row (ints hs) (2 : Nat) true true true) :: some (AObj.row (rdc m R) (2 : Nat) true true true) :: some (AObj.row [Value.string nm, Value.int IntKind.i64 f, Value.slice (some { block := (0 : Nat), off := (0 : Nat) }) n c, Value.slice (some { block := (1 : Nat), off := (0 : Nat) }) k d] (0 : Nat) false true false) :: some (AObj.row [Value.string { data := #[] }, Value.int IntKind.i64 (0 : Int), Value.slice none (0 : Nat) (0 : Nat), Value.slice none (0 : Nat) (0 : Nat)] (0 : Nat) false true true) :: some (AObj.row [Value.string nm, Value.int IntKind.i64 f, Value.slice (some { block := List.length (some (AObj.row (flts xs) (1 : Nat) true true true) :: some (AObj.row (ints hs) (2 : Nat) true true true) :: some (AObj.row (rdc m R) (2 : Nat) true true true) :: some (AObj.row [Value.string nm, Value.int IntKind.i64 f, Value.slice (some { block := (0 : Nat), off := (0 : Nat) }) n c, Value.slice (some { block := (1 : Nat), off := (0 : Nat) }) k d] (0 : Nat) false true false) :: some (AObj.row [Value.string { data := #[] }, Value.int IntKind.i64 (0 : Int), Value.slice none (0 : Nat) (0 : Nat), Value.slice none (0 : Nat) (0 : Nat)] (0 : Nat) false true true) :: some (AObj.row [Value.string nm, Value.int IntKind.i64 f, Value.slice (some { block := (6 : Nat), off := (0 : Nat) }) s (0 : Nat), Value.slice (some { block := (7 : Nat), off := (0 : Nat) }) (mkK (mkB R) s) (0 : Nat)] (0 : Nat) false true false) :: some (AObj.row (flts (mkX R s)) (1 : Nat) true true true) :: some (AObj.row (ints (mkS (mkB R) s)) (2 : Nat) true true true) :: some (AObj.row [Value.int IntKind.i64 (rdV R ((0 : Nat) + Int.toNat (↑s : Int) * (2 : Nat))), Value.bool (rdW R ((0 : Nat) + Int.toNat (↑s : Int) * (2 : Nat)))] (0 : Nat) false true (true && List.all [Value.int IntKind.i64 (rdV R ((0 : Nat) + Int.toNat (↑s : Int) * (2 : Nat))), Value.bool (rdW R ((0 : Nat) + Int.toNat (↑s : Int) * (2 : Nat)))] atom)) :: some (AObj.row [Value.float FloatKind.f32 (smO (rdV R ((0 : Nat) + Int.toNat (↑s : Int) * (2 : Nat))))] (1 : Nat) false true (List.all [Value.float FloatKind.f32 (smO (rdV R ((0 : Nat) + Int.toNat (↑s : Int) * (2 : Nat))))] atom)) :: noH), off := (0 : Nat) }) (s + (1 : Nat)) (0 : Nat), Value.slice (some { block := (7 : Nat), off := (0 : Nat) }) (mkK (mkB R) s) (0 : Nat)] (0 : Nat) false true (false && List.all [Value.slice (some { block := List.length (some (AObj.row (flts xs) (1 : Nat) true true true) :: some (AObj.row (ints hs) (2 : Nat) true true true) :: some (AObj.row (rdc m R) (2 : Nat) true true true) :: some (AObj.row [Value.string nm, Value.int IntKind.i64 f, Value.slice (some { block := (0 : Nat), off := (0 : Nat) }) n c, Value.slice (some { block := (1 : Nat), off := (0 : Nat) }) k d] (0 : Nat) false true false) :: some (AObj.row [Value.string { data := #[] }, Value.int IntKind.i64 (0 : Int), Value.slice none (0 : Nat) (0 : Nat), Value.slice none (0 : Nat) (0 : Nat)] (0 : Nat) false true true) :: some (AObj.row [Value.string nm, Value.int IntKind.i64 f, Value.slice (some { block := (6 : Nat), off := (0 : Nat) }) s (0 : Nat), Value.slice (some { block := (7 : Nat), off := (0 : Nat) }) (mkK (mkB R) s) (0 : Nat)] (0 : Nat) false true false) :: some (AObj.row (flts (mkX R s)) (1 : Nat) true true true) :: some (AObj.row (ints (mkS (mkB R) s)) (2 : Nat) true true true) :: some (AObj.row [Value.int IntKind.i64 (rdV R ((0 : Nat) + Int.toNat (↑s : Int) * (2 : Nat))), Value.bool (rdW R ((0 : Nat) + Int.toNat (↑s : Int) * (2 : Nat)))] (0 : Nat) false true (true && List.all [Value.int IntKind.i64 (rdV R ((0 : Nat) + Int.toNat (↑s : Int) * (2 : Nat))), Value.bool (rdW R ((0 : Nat) + Int.toNat (↑s : Int) * (2 : Nat)))] atom)) :: some (AObj.row [Value.float FloatKind.f32 (smO (rdV R ((0 : Nat) + Int.toNat (↑s : Int) * (2 : Nat))))] (1 : Nat) false true (List.all [Value.float FloatKind.f32 (smO (rdV R ((0 : Nat) + Int.toNat (↑s : Int) * (2 : Nat))))] atom)) :: noH), off := (0 : Nat) }) (s + (1 : Nat)) (0 : Nat)] atom)) :: none :: some (AObj.row (ints (mkS (mkB R) s)) (2 : Nat) true true true) :: some (AObj.row [Value.int IntKind.i64 (rdV R ((0 : Nat) + Int.toNat (↑s : Int) * (2 : Nat))), Value.bool (rdW R ((0 : Nat) + Int.toNat (↑s : Int) * (2 : Nat)))] (0 : Nat) false true (true && List.all [Value.int IntKind.i64 (rdV R ((0 : Nat) + Int.toNat (↑s : Int) * (2 : Nat))), Value.bool (rdW R ((0 : Nat) + Int.toNat (↑s : Int) * (2 : Nat)))] atom)) :: some (AObj.row [Value.float FloatKind.f32 (smO (rdV R ((0 : Nat) + Int.toNat (↑s : Int) * (2 : Nat))))] (1 : Nat) false true (List.all [Value.float FloatKind.f32 (smO (rdV R ((0 : Nat) + Int.toNat (↑s : Int) * (2 : Nat))))] atom)) :: some (AObj.row (flts (mkX R s) ++ [Value.float FloatKind.f32 (smO (rdV R ((0 : Nat) + Int.toNat (↑s : Int) * (2 : Nat))))]) (1 : Nat) true true (List.all [Value.float FloatKind.f32 (smO (rdV R ((0 : Nat) + Int.toNat (↑s : Int) * (2 : Nat))))] atom)) :: some (AObj.row [Value.int IntKind.i64 (↑s : Int), Value.int IntKind.i64 (IntKind.wrap IntKind.i64 ((↑s : Int) + (1 : Int)))] (2 : Nat) false true (List.all [Value.int IntKind.i64 (↑s : Int), Value.int IntKind.i64 (IntKind.wrap IntKind.i64 ((↑s : Int) + (1 : Int)))] atom)) :: noH), off := (0 : Nat) }) (mkK (mkB R) s + (1 : Nat)) (0 : Nat)] atom)) :: some (AObj.row (flts (mkX R s) ++ [Value.float FloatKind.f32 (smO (rdV R ((0 : Nat) + Int.toNat (↑s : Int) * (2 : Nat))))]) (1 : Nat) true true (List.all [Value.float FloatKind.f32 (smO (rdV R ((0 : Nat) + Int.toNat (↑s : Int) * (2 : Nat))))] atom)) :: some (AObj.row (ints (mkS (mkB R) s) ++ [Value.int IntKind.i64 (↑s : Int), Value.int IntKind.i64 (IntKind.wrap IntKind.i64 ((↑s : Int) + (1 : Int)))]) (2 : Nat) true true (List.all [Value.int IntKind.i64 (↑s : Int), Value.int IntKind.i64 (IntKind.wrap IntKind.i64 ((↑s : Int) + (1 : Int)))] atom)) :: noH = some (AObj.row (flts xs) (1 : Nat) true true true) :: some (AObj.row (ints hs) (2 : Nat) true true true) :: some (AObj.row (rdc m R) (2 : Nat) true true true) :: some (AObj.row [Value.string nm, Value.int IntKind.i64 f, Value.slice (some { block := (0 : Nat), off := (0 : Nat) }) n c, Value.slice (some { block := (1 : Nat), off := (0 : Nat) }) k d] (0 : Nat) false true false) :: some (AObj.row [Value.string { data := #[] }, Value.int IntKind.i64 (0 : Int), Value.slice none (0 : Nat) (0 : Nat), Value.slice none (0 : Nat) (0 : Nat)] (0 : Nat) false true true) :: some (AObj.row [Value.string nm, Value.int IntKind.i64 f, Value.slice (some { block := (6 : Nat), off := (0 : Nat) }) s' (0 : Nat), Value.slice (some { block := (7 : Nat), off := (0 : Nat) }) (mkK (mkB R) s') (0 : Nat)] (0 : Nat) false true false) :: some (AObj.row (flts (mkX R s')) (1 : Nat) true true true) :: some (AObj.row (ints (mkS (mkB R) s')) (2 : Nat) true true true) :: noH))) (K (Value.agg #[Value.string nm, Value.int IntKind.i64 f, Value.slice (some { block := (3 : Nat), off := (0 : Nat) }) s (0 : Nat), Value.slice (some { block := (4 : Nat), off := (0 : Nat) }) (mkK (mkB R) s) (0 : Nat)]) (some (AObj.row (flts xs) (1 : Nat) true true true) :: some (AObj.row (ints hs) (2 : Nat) true true true) :: some (AObj.row (rdc m R) (2 : Nat) true true true) :: some (AObj.row (flts (mkX R s)) (1 : Nat) true true true) :: some (AObj.row (ints (mkS (mkB R) s)) (2 : Nat) true true true) :: noH))) := by kernel_rfl
theorem mkS_len (B : Nat → Bool) : ∀ s, (mkS B s).length = mkK B s * 2 ∧ mkK B s ≤ s := by
  intro s
  have : (mkS B s).length % 2 = 0 ∧ (mkS B s).length ≤ 2 * s := by
    induction s with
    | zero => exact ⟨rfl, Nat.le_refl _⟩
    | succ s ih =>
      rw [mkS]
      split
      · exact ⟨ih.1, by omega⟩
      · split
        · rename_i h; simp only [lastIs, Bool.and_eq_true, decide_eq_true_eq] at h
          rw [join_len h.1]; exact ⟨ih.1, by omega⟩
        · rw [List.length_append]; simp only [List.length_cons, List.length_nil]; omega
  rw [mkK]; omega
theorem mkS_zero (B : Nat → Bool) : mkS B 0 = [] := by rw [mkS]
theorem mkK_zero (B : Nat → Bool) : mkK B 0 = 0 := by rw [mkK, mkS_zero]; rfl
theorem mkX_zero (R : Nat → Int × Bool) : mkX R 0 = [] := rfl
theorem mkX_succ (R : Nat → Int × Bool) (s : Nat) : mkX R (s + 1) = mkX R s ++ [smO (R s).1] := by
  rw [mkX, mkX, List.range_succ, List.map_append]; rfl
theorem mkX_len (R : Nat → Int × Bool) (s : Nat) : (mkX R s).length = s := by rw [mkX, List.length_map, List.length_range]
theorem flts_app (xs ys : List Nat) : flts xs ++ flts ys = flts (xs ++ ys) := by rw [flts, flts, flts, List.map_append]
set_option maxRecDepth 100000 in
theorem wi_ok {nm : ByteArray} {f : Int} {n c k d m e : Nat} {xs : List Nat} {hs : List Int} {R : Nat → Int × Bool} (h9 : m ≤ 100000) (hR : ∀ i, i < m → (R i).1.natAbs < 2 ^ 24) :
    SmallRes Try.prog 41 [.agg (runA nm f 0 n c 1 k d).toArray, .slice (some ⟨2, 0, none⟩) m e] (hp2r xs hs true true true true [rdR m R]) (.agg (runA nm f 3 m 0 4 (mkK (mkB R) m) 0).toArray) (hp2r xs hs true true true true [rdR m R, fR (mkX R m), some (.row (ints (mkS (mkB R) m)) 2 true true true)]) := by
  refine fnP_res hm c0_ok (hs := hsWi nm f n c k d m e xs hs R) ?_
  rw [wi_t]
  refine ⟨⟨(0 : Nat), ⟨rfl⟩, by first | trivial | rfl, by first | trivial | rfl⟩, fun _ _ => ⟨⟨(0 : Nat), ⟨Nat.zero_le _⟩, by first | trivial | rfl, by rw [mkK_zero, mkX_zero, mkS_zero]; first | done | trivial | rfl⟩, fun s hs' => br_of (fun hc => ?_) (fun hc => ?_)⟩⟩
  · have hc := lt_of_dec hc
    simp only [Nat.zero_add, Int.toNat_natCast, rdV_at, rdW_at]
    obtain ⟨l1, l2⟩ := mkS_len (mkB R) s
    have hx : flts (mkX R s) ++ [.float .f32 (smO (R s).1)] = flts (mkX R (s + 1)) := by rw [mkX_succ, ← flts_app]; rfl
    have es : mkS (mkB R) (s + 1) = if mkB R s = true then mkS (mkB R) s else if lastIs (mkS (mkB R) s) s = true then (mkS (mkB R) s).take ((mkS (mkB R) s).length - 1) ++ [(s : Int) + 1] else mkS (mkB R) s ++ [(s : Int), (s : Int) + 1] := rfl
    have ek : mkK (mkB R) (s + 1) = (mkS (mkB R) (s + 1)).length / 2 := rfl
    have ek0 : mkK (mkB R) s = (mkS (mkB R) s).length / 2 := rfl
    have w1 : IntKind.wrap .i64 ((s : Int) + 1) = (s : Int) + 1 := wrap_eq (by omega) (by omega)
    rw [hx, up1 hc (by omega)]
    refine ⟨⟨by omega, by omega⟩, ⟨by rw [rdc_len, if_pos (by omega), ← (rdc_take hc), rdc_len, if_pos (by omega)]⟩, ⟨hR s hc⟩, ⟨by rw [flts_len, mkX_len]; omega, by omega, by omega⟩, br_of (fun hk => ?_) (fun hk => ?_)⟩
    · have e1 : mkS (mkB R) (s + 1) = mkS (mkB R) s := by rw [es]; exact if_pos hk
      have e2 : mkK (mkB R) (s + 1) = mkK (mkB R) s := by rw [ek, e1, ek0]
      refine ⟨s + 1, ⟨hc⟩, ⟨by omega⟩, by first | trivial | rfl, by rw [e1, e2]; first | done | trivial | rfl⟩
    · have hk' : ¬ mkB R s = true := fun h => by rw [mkB, hk] at h; cases h
      rw [if_neg hk'] at es
      generalize mkS (mkB R) s = l at *
      have hnew : lastIs l s = false → mkS (mkB R) (s + 1) = l ++ [(s : Int), (s : Int) + 1] ∧ mkK (mkB R) (s + 1) = mkK (mkB R) s + 1 := fun h => by
        have : mkS (mkB R) (s + 1) = l ++ [(s : Int), (s : Int) + 1] := by rw [es, h]; rfl
        refine ⟨this, ?_⟩
        rw [ek, ek0, this, new_len]
      have happ : ints l ++ [.int .i64 (s : Int), .int .i64 ((s : Int) + 1)] = ints (l ++ [(s : Int), (s : Int) + 1]) := by rw [← ints_app]; rfl
      have hvc : (ints l).length = mkK (mkB R) s * 2 ∧ (mkK (mkB R) s + 1) * 16 ≤ 140737488355328 ∧ mkK (mkB R) s + 1 ≤ 9223372036854775807 := ⟨by rw [ints_len]; exact l1, by omega, by omega⟩
      have u1 : ((s + 1 : Nat) : Int) = (s : Int) + 1 := rfl
      refine br_of (fun h0 => ?_) (fun h0 => ?_)
      · have h0 : 0 < mkK (mkB R) s := by have := of_decide_eq_true h0; omega
        have wk : IntKind.wrap .i64 ((mkK (mkB R) s : Int) - 1) = ((mkK (mkB R) s - 1 : Nat) : Int) := by rw [wrap_eq (by omega) (by omega)]; omega
        have ei : (mkK (mkB R) s - 1) * 2 + 1 = l.length - 1 := by omega
        rw [wk]
        simp only [Int.toNat_natCast]
        have hl : l.length - 1 < l.length := by omega
        have hat : (ints l)[(mkK (mkB R) s - 1) * 2 + 1]? = some (.int .i64 (iAt (ints l) ((mkK (mkB R) s - 1) * 2 + 1))) := by rw [ei, iAt_ints hl, zint_at hl]
        have b1 : 0 ≤ ((mkK (mkB R) s - 1 : Nat) : Int) ∧ ((mkK (mkB R) s - 1 : Nat) : Int) < (mkK (mkB R) s : Int) := by omega
        refine ⟨⟨b1⟩, ⟨hat⟩, br_of (fun he => ?_) (fun he => ?_)⟩
        · have he : iAt (ints l) ((mkK (mkB R) s - 1) * 2 + 1) = (s : Int) := by simpa using he
          have hj : lastIs l s = true := by rw [lastIs, decide_eq_true (show 0 < l.length by omega), ← iAt_ints hl, ← ei, he]; simp
          have e1 : mkS (mkB R) (s + 1) = l.take (l.length - 1) ++ [(s : Int) + 1] := by rw [es, if_pos hj]
          have e2 : mkK (mkB R) (s + 1) = mkK (mkB R) s := by rw [ek, e1, join_len (by omega)]; omega
          rw [he, w1, putL_last l1 h0, ← e1]
          refine ⟨⟨b1⟩, ⟨by rw [he] at hat; exact hat⟩, ⟨b1⟩, ⟨by rw [ints_len]; simp only [List.length_cons, List.length_nil]; omega⟩, s + 1, ⟨hc⟩, ⟨by omega⟩, by first | trivial | rfl, by rw [e2]; first | done | trivial | rfl⟩
        · have he : ¬ iAt (ints l) ((mkK (mkB R) s - 1) * 2 + 1) = (s : Int) := by simpa using he
          have hj : lastIs l s = false := by
            rw [lastIs, ← iAt_ints hl, ← ei, decide_eq_false he, Bool.and_false]
          obtain ⟨e1, e2⟩ := hnew hj
          rw [u1, happ, ← e1]
          refine ⟨⟨hvc⟩, s + 1, ⟨hc⟩, ⟨by omega⟩, by first | trivial | rfl, by rw [e2]; first | done | trivial | rfl⟩
      · have h0 : ¬ 0 < mkK (mkB R) s := by have := of_decide_eq_false h0; omega
        have hj : lastIs l s = false := by rw [lastIs, decide_eq_false (show ¬ 0 < l.length by omega)]; rfl
        obtain ⟨e1, e2⟩ := hnew hj
        rw [u1, happ, ← e1]
        refine ⟨⟨hvc⟩, s + 1, ⟨hc⟩, ⟨by omega⟩, by first | trivial | rfl, by rw [e2]; first | done | trivial | rfl⟩
  · have hc := ge_of_dec hc
    have : s = m := by have := hs'.out; omega
    subst this
    exact ⟨by first | trivial | rfl, by first | trivial | rfl⟩
noncomputable def orcWi (xs : List Nat) (hs : List Int) (R : Nat → Int × Bool) : OrcV
  | [.agg ⟨[.string nm, .int .i64 f, .slice (some ⟨0, 0, none⟩) n _, .slice (some ⟨1, 0, none⟩) k _]⟩, .slice (some ⟨2, 0, none⟩) m _], [some (.row e1 1 true true true), some (.row e2 2 true true true), some (.row e3 2 true true true)] =>
    some (.agg (runA nm f 3 m 0 4 (mkK (mkB R) m) 0).toArray, [some (.row e1 1 true true true), some (.row e2 2 true true true), some (.row e3 2 true true true), fR (mkX R m), some (.row (ints (mkS (mkB R) m)) 2 true true true)], isRun xs hs n k e1 e2 ∧ e3 = rdc m R ∧ m ≤ 100000 ∧ ∀ i, i < m → (R i).1.natAbs < 2 ^ 24)
  | _, _ => none
theorem okWi (xs : List Nat) (hs : List Int) (R : Nat → Int × Bool) : OkV Try.prog 41 (orcWi xs hs R) := by
  intro args H ret H' vc h hv
  unfold orcWi at h
  split at h
  · cases h
    obtain ⟨⟨rfl, rfl, h1, h2, h3, h4⟩, rfl, h5, h6⟩ := hv
    exact wi_ok h5 h6
  · cases h
end
end Qq
end
section
/- A run in the other direction. -/
open Go Go.Vm Go.Proofs Sp
namespace Sp
noncomputable section
/-- Readings, of which the first s and the last s are exchanged. -/
noncomputable def rvR (n : Nat) (R : Nat → Int × Bool) (s : Nat) (k : Nat) : Int × Bool := if k < s ∨ n ≤ k + s then R (n - 1 - k) else R k
noncomputable def rvA (n : Nat) (R : Nat → Int × Bool) (k : Nat) : Int × Bool := R (n - 1 - k)
end
end Sp
namespace Qq
noncomputable section
noncomputable def lpRv (n c : Nat) (R : Nat → Int × Bool) : Lp where
  σ := Nat
  E s := slots 28 [(0, .slice (some ⟨0, 0, none⟩) n c), (2, .int .i64 (Int.ofNat s)), (3, .int .i64 ((n : Int) - 1 - s))]
  Hp s := [rdR n (rvR n R s)]
  I s := 2 * s ≤ n
  m s := n - s
noncomputable def hsRv (n c : Nat) (R : Nat → Int × Bool) : Hs Try.prog where
  op y := if [306, 310, 312, 314].contains y then some (hIa Try.prog) else if [307, 311].contains y then some (hLd Try.prog (zR R)) else if [313, 315].contains y then some (hSp Try.prog) else none
  lp _ := some (lpRv n c R)
  cl _ := keep 28 [0, 2, 3]
  au := au0 Try.prog
theorem rvs_t (n : Nat) (c : Nat) (R : Nat → Int × Bool) (K : Value → Heap → Prop) :
    (fnP Try.prog c0 (hsRv n c R) (46 : FuncId) [Value.slice (some { block := (0 : Nat), off := (0 : Nat) }) n c] [rdR n R] K) =
    ((∃ (s : Nat), Is ((2 : Nat) * s ≤ n) ∧ [Value.slice (some { block := (0 : Nat), off := (0 : Nat) }) n c, poi, Value.int IntKind.i64 (0 : Int), Value.int IntKind.i64 (IntKind.wrap IntKind.i64 ((↑n : Int) - (1 : Int))), poi, poi, poi, poi, poi, poi, poi, poi, poi, poi, poi, poi, poi, poi, poi, poi, poi, poi, poi, poi, poi, poi, poi, poi] = [Value.slice (some { block := (0 : Nat), off := (0 : Nat) }) n c, poi, Value.int IntKind.i64 (↑s : Int), Value.int IntKind.i64 ((↑n : Int) - (1 : Int) - (↑s : Int)), poi, poi, poi, poi, poi, poi, poi, poi, poi, poi, poi, poi, poi, poi, poi, poi, poi, poi, poi, poi, poi, poi, poi, poi] ∧ some (AObj.row (rdc n R) (2 : Nat) true true true) :: noH = some (AObj.row (rdc n (rvR n R s)) (2 : Nat) true true true) :: noH) ∧ ∀ (s : Nat), Is ((2 : Nat) * s ≤ n) → br (decide ((↑s : Int) < (↑n : Int) - (1 : Int) - (↑s : Int))) (Is ((0 : Int) ≤ (↑n : Int) - (1 : Int) - (↑s : Int) ∧ (↑n : Int) - (1 : Int) - (↑s : Int) < (↑n : Int)) ∧ Is ((if (0 : Nat) + Int.toNat ((↑n : Int) - (1 : Int) - (↑s : Int)) * (2 : Nat) + (2 : Nat) ≤ List.length (rdc n (rvR n R s)) then some (Value.agg (List.toArray (List.take (2 : Nat) (List.drop ((0 : Nat) + Int.toNat ((↑n : Int) - (1 : Int) - (↑s : Int)) * (2 : Nat)) (rdc n (rvR n R s)))))) else none) = some (Value.agg #[Value.int IntKind.i64 (rdV R ((0 : Nat) + Int.toNat ((↑n : Int) - (1 : Int) - (↑s : Int)) * (2 : Nat))), Value.bool (rdW R ((0 : Nat) + Int.toNat ((↑n : Int) - (1 : Int) - (↑s : Int)) * (2 : Nat)))])) ∧ Is ((0 : Int) ≤ (↑s : Int) ∧ (↑s : Int) < (↑n : Int)) ∧ Is ((if (0 : Nat) + Int.toNat (↑s : Int) * (2 : Nat) + (2 : Nat) ≤ List.length (rdc n (rvR n R s)) then some (Value.agg (List.toArray (List.take (2 : Nat) (List.drop ((0 : Nat) + Int.toNat (↑s : Int) * (2 : Nat)) (rdc n (rvR n R s)))))) else none) = some (Value.agg #[Value.int IntKind.i64 (rdV R ((0 : Nat) + Int.toNat (↑s : Int) * (2 : Nat))), Value.bool (rdW R ((0 : Nat) + Int.toNat (↑s : Int) * (2 : Nat)))])) ∧ Is ((0 : Int) ≤ (↑s : Int) ∧ (↑s : Int) < (↑n : Int)) ∧ Is ((0 : Nat) + Int.toNat (↑s : Int) * (2 : Nat) + List.length [Value.int IntKind.i64 (rdV R ((0 : Nat) + Int.toNat ((↑n : Int) - (1 : Int) - (↑s : Int)) * (2 : Nat))), Value.bool (rdW R ((0 : Nat) + Int.toNat ((↑n : Int) - (1 : Int) - (↑s : Int)) * (2 : Nat)))] ≤ List.length (rdc n (rvR n R s))) ∧ Is ((0 : Int) ≤ (↑n : Int) - (1 : Int) - (↑s : Int) ∧ (↑n : Int) - (1 : Int) - (↑s : Int) < (↑n : Int)) ∧ Is ((0 : Nat) + Int.toNat ((↑n : Int) - (1 : Int) - (↑s : Int)) * (2 : Nat) + List.length [Value.int IntKind.i64 (rdV R ((0 : Nat) + Int.toNat (↑s : Int) * (2 : Nat))), Value.bool (rdW R ((0 : Nat) + Int.toNat (↑s : Int) * (2 : Nat)))] ≤ List.length (putL (rdc n (rvR n R s)) ((0 : Nat) + Int.toNat (↑s : Int) * (2 : Nat)) [Value.int IntKind.i64 (rdV R ((0 : Nat) + Int.toNat ((↑n : Int) - (1 : Int) - (↑s : Int)) * (2 : Nat))), Value.bool (rdW R ((0 : Nat) + Int.toNat ((↑n : Int) - (1 : Int) - (↑s : Int)) * (2 : Nat)))])) ∧ ∃ (s' : Nat), Is ((2 : Nat) * s' ≤ n) ∧ Is (n - s' < n - s) ∧ [Value.slice (some { block := (0 : Nat), off := (0 : Nat) }) n c, poi, Value.int IntKind.i64 (IntKind.wrap IntKind.i64 ((↑s : Int) + (1 : Int))), Value.int IntKind.i64 (IntKind.wrap IntKind.i64 ((↑n : Int) - (1 : Int) - (↑s : Int) - (1 : Int))), poi, poi, poi, poi, poi, poi, poi, poi, poi, poi, poi, poi, poi, poi, poi, poi, poi, poi, poi, poi, poi, poi, poi, poi] = [Value.slice (some { block := (0 : Nat), off := (0 : Nat) }) n c, poi, Value.int IntKind.i64 (↑s' : Int), Value.int IntKind.i64 ((↑n : Int) - (1 : Int) - (↑s' : Int)), poi, poi, poi, poi, poi, poi, poi, poi, poi, poi, poi, poi, poi, poi, poi, poi, poi, poi, poi, poi, poi, poi, poi, poi] ∧ some (AObj.row (putL (putL (rdc n (rvR n R s)) ((0 : Nat) + Int.toNat (↑s : Int) * (2 : Nat)) [Value.int IntKind.i64 (rdV R ((0 : Nat) + Int.toNat ((↑n : Int) - (1 : Int) - (↑s : Int)) * (2 : Nat))), Value.bool (rdW R ((0 : Nat) + Int.toNat ((↑n : Int) - (1 : Int) - (↑s : Int)) * (2 : Nat)))]) ((0 : Nat) + Int.toNat ((↑n : Int) - (1 : Int) - (↑s : Int)) * (2 : Nat)) [Value.int IntKind.i64 (rdV R ((0 : Nat) + Int.toNat (↑s : Int) * (2 : Nat))), Value.bool (rdW R ((0 : Nat) + Int.toNat (↑s : Int) * (2 : Nat)))]) (2 : Nat) true true (true && List.all [Value.int IntKind.i64 (rdV R ((0 : Nat) + Int.toNat ((↑n : Int) - (1 : Int) - (↑s : Int)) * (2 : Nat))), Value.bool (rdW R ((0 : Nat) + Int.toNat ((↑n : Int) - (1 : Int) - (↑s : Int)) * (2 : Nat)))] atom && List.all [Value.int IntKind.i64 (rdV R ((0 : Nat) + Int.toNat (↑s : Int) * (2 : Nat))), Value.bool (rdW R ((0 : Nat) + Int.toNat (↑s : Int) * (2 : Nat)))] atom)) :: noH = some (AObj.row (rdc n (rvR n R s')) (2 : Nat) true true true) :: noH) (K undef (some (AObj.row (rdc n (rvR n R s)) (2 : Nat) true true true) :: noH))) := by kernel_rfl
theorem rvR_put {n s : Nat} {R : Nat → Int × Bool} (h : (s : Int) < (n : Int) - 1 - s) : rdc n (upR (upR (rvR n R s) s (R (n - 1 - s))) (n - 1 - s) (R s)) = rdc n (rvR n R (s + 1)) := by
  refine rdc_congr fun i hi => ?_
  simp only [upR, rvR]
  by_cases h1 : i = n - 1 - s
  · rw [if_pos h1, if_pos (by omega), h1, show n - 1 - (n - 1 - s) = s by omega]
  · rw [if_neg h1]
    by_cases h2 : i = s
    · rw [if_pos h2, if_pos (by omega), h2]
    · rw [if_neg h2]
      by_cases h3 : i < s ∨ n ≤ i + s
      · rw [if_pos h3, if_pos (by omega)]
      · rw [if_neg h3, if_neg (by omega)]
set_option maxRecDepth 100000 in
theorem rvs_ok {n c : Nat} {R : Nat → Int × Bool} (h9 : n ≤ 100000) : SmallRes Try.prog 46 [.slice (some ⟨0, 0, none⟩) n c] [rdR n R] undef [rdR n (rvA n R)] := by
  refine fnP_res hm c0_ok (hs := hsRv n c R) ?_
  rw [rvs_t]
  have e0 : rdc n (rvR n R 0) = rdc n R := rdc_congr fun i hi => by rw [rvR, if_neg (by omega)]
  refine ⟨⟨(0 : Nat), ⟨by omega⟩, ?_, by rw [e0]; first | done | trivial | rfl⟩, fun s hs' => br_of (fun hc => ?_) (fun hc => ?_)⟩
  · rw [wrap_eq (by omega) (by omega), show ((n : Int) - 1 - ((0 : Nat) : Int)) = (n : Int) - 1 by omega]; first | done | trivial | rfl
  · have hc : (s : Int) < (n : Int) - 1 - s := of_decide_eq_true hc
    have ej : (n : Int) - 1 - (s : Int) = ((n - 1 - s : Nat) : Int) := by omega
    have ej2 : IntKind.wrap .i64 ((n : Int) - 1 - (s : Int) - 1) = (n : Int) - 1 - ((s + 1 : Nat) : Int) := by rw [wrap_eq (by omega) (by omega)]; omega
    rw [ej2, up1 (show s < n by omega) (by omega)]
    rw [ej]
    simp only [Nat.zero_add, Int.toNat_natCast, rdV_at, rdW_at]
    have g1 : rvR n R s s = R s := by rw [rvR, if_neg (by omega)]
    have g2 : rvR n R s (n - 1 - s) = R (n - 1 - s) := by rw [rvR, if_neg (by omega)]
    have t1 := rdc_take (R := rvR n R s) (show s < n by omega)
    have t2 := rdc_take (R := rvR n R s) (show n - 1 - s < n by omega)
    rw [g1] at t1
    rw [g2] at t2
    have p1 : putL (rdc n (rvR n R s)) (s * 2) [.int .i64 (R (n - 1 - s)).1, .bool (R (n - 1 - s)).2] = rdc n (upR (rvR n R s) s (R (n - 1 - s))) := rdc_put (by omega)
    have p2 : putL (rdc n (upR (rvR n R s) s (R (n - 1 - s)))) ((n - 1 - s) * 2) [.int .i64 (R s).1, .bool (R s).2] = rdc n (upR (upR (rvR n R s) s (R (n - 1 - s))) (n - 1 - s) (R s)) := rdc_put (by omega)
    rw [p1, p2, rvR_put hc]
    refine ⟨⟨by omega, by omega⟩, ⟨t2⟩, ⟨by omega, by omega⟩, ⟨t1⟩, ⟨by omega, by omega⟩, ⟨by rw [rdc_len]; simp only [List.length_cons, List.length_nil]; omega⟩, ⟨by omega, by omega⟩, ⟨by rw [rdc_len]; simp only [List.length_cons, List.length_nil]; omega⟩, s + 1, ⟨by omega⟩, ⟨by omega⟩, by first | trivial | rfl, by first | trivial | rfl⟩
  · have hc : ¬ (s : Int) < (n : Int) - 1 - s := of_decide_eq_false hc
    have h1 := hs'.out
    have e : rdc n (rvR n R s) = rdc n (rvA n R) := rdc_congr fun i hi => by
      rw [rvR, rvA]
      split
      · rfl
      · rw [show n - 1 - i = i by omega]
    rw [e]
    exact ⟨by first | trivial | rfl, by first | trivial | rfl⟩
noncomputable def orcRv (R : Nat → Int × Bool) : OrcV
  | [.slice (some ⟨0, 0, none⟩) n _], [some (.row e1 2 true true true)] => some (undef, [rdR n (rvA n R)], e1 = rdc n R ∧ n ≤ 100000)
  | _, _ => none
theorem okRv (R : Nat → Int × Bool) : OkV Try.prog 46 (orcRv R) := by
  intro args H ret H' vc h hv
  unfold orcRv at h
  split at h
  · cases h
    obtain ⟨rfl, h1⟩ := hv
    exact rvs_ok h1
  · cases h
/- Reversed. -/
noncomputable def hsTu (xs : List Nat) (hs : List Int) (n : Nat) : Hs Try.prog where
  au := auCalls [(33, hCa Try.prog 33 (orcCrP xs hs) (okCrP xs hs)), (38, hCa Try.prog 38 (orcRr xs hs) (okRr xs hs)), (46, hCa Try.prog 46 (orcRv (rdF xs (knB hs))) (okRv (rdF xs (knB hs)))), (41, hCa Try.prog 41 (orcWi xs hs (rvA n (rdF xs (knB hs)))) (okWi xs hs (rvA n (rdF xs (knB hs)))))]
theorem tu_t (nm : ByteArray) (f : Int) (n : Nat) (c : Nat) (k : Nat) (d : Nat) (xs : List Nat) (hs : List Int) (K : Value → Heap → Prop) :
    (fnP Try.prog c0 (hsTu xs hs n) (13 : FuncId) [Value.agg (List.toArray (runA nm f (0 : Nat) n c (1 : Nat) k d))] (hp2r xs hs true true true true []) K) =
    (Is (isRun xs hs n k (flts xs) (ints hs)) ∧ br (runE nm f xs n hs != (0 : Int)) (K (Value.tuple #[Value.agg #[Value.string { data := #[] }, Value.int IntKind.i64 (0 : Int), Value.slice none (0 : Nat) (0 : Nat), Value.slice none (0 : Nat) (0 : Nat)], Value.int IntKind.i64 (runE nm f xs n hs)]) (some (AObj.row (flts xs) (1 : Nat) true true true) :: some (AObj.row (ints hs) (2 : Nat) true true true) :: noH)) (Is (isRun xs hs n k (flts xs) (ints hs) ∧ fi (List.map sE xs) = (0 : Int) ∧ hchk (↑n : Int) hs (-1 : Int) = (0 : Int)) ∧ Is (rdc n (rdF xs (knB hs)) = rdc n (rdF xs (knB hs)) ∧ n ≤ (100000 : Nat)) ∧ Is (isRun xs hs n k (flts xs) (ints hs) ∧ rdc n (rvA n (rdF xs (knB hs))) = rdc n (rvA n (rdF xs (knB hs))) ∧ n ≤ (100000 : Nat) ∧ ∀ (i : Nat), i < n → Int.natAbs (Prod.fst (rvA n (rdF xs (knB hs)) i)) < (2 : Nat) ^ (24 : Nat)) ∧ K (Value.tuple #[Value.agg #[Value.string nm, Value.int IntKind.i64 f, Value.slice (some { block := (2 : Nat), off := (0 : Nat) }) n (0 : Nat), Value.slice (some { block := (3 : Nat), off := (0 : Nat) }) (mkK (mkB (rvA n (rdF xs (knB hs)))) n) (0 : Nat)], Value.int IntKind.i64 (0 : Int)]) (some (AObj.row (flts xs) (1 : Nat) true true true) :: some (AObj.row (ints hs) (2 : Nat) true true true) :: some (AObj.row (flts (mkX (rvA n (rdF xs (knB hs))) n)) (1 : Nat) true true true) :: some (AObj.row (ints (mkS (mkB (rvA n (rdF xs (knB hs)))) n)) (2 : Nat) true true true) :: noH))) := by kernel_rfl
theorem rdF_few {xs : List Nat} {P : Int → Bool} {i : Nat} (hx : fi (xs.map sE) = 0) (hi : i < xs.length) : (rdF xs P i).1.natAbs ≤ 16384 := by
  rw [rdF]
  split
  · exact (Fl.smp (smps hx hi)).few
  · exact Nat.zero_le _
noncomputable def wiR (R : Nat → Int × Bool) (n : Nat) : Heap := [fR (mkX R n), some (.row (ints (mkS (mkB R) n)) 2 true true true)]
noncomputable def orcTu (xs : List Nat) (hs : List Int) : OrcV
  | [.agg ⟨[.string nm, .int .i64 f, .slice (some ⟨0, 0, none⟩) n _, .slice (some ⟨1, 0, none⟩) k _]⟩], [some (.row e1 1 true true true), some (.row e2 2 true true true)] =>
    some (.tuple #[.agg (runA nm f 2 n 0 3 (mkK (mkB (rvA n (rdF xs (knB hs)))) n) 0).toArray, .int .i64 0], some (.row e1 1 true true true) :: some (.row e2 2 true true true) :: wiR (rvA n (rdF xs (knB hs))) n, isRun xs hs n k e1 e2 ∧ runE nm f xs n hs = 0)
  | _, _ => none
theorem okTu (xs : List Nat) (hs : List Int) : OkV Try.prog 13 (orcTu xs hs) := by
  intro args H ret H' vc h hv
  unfold orcTu at h
  split at h
  · rename_i nm f n c k d e1 e2
    cases h
    obtain ⟨hi, hr⟩ := hv
    obtain ⟨rfl, rfl, h1, h2, h3, h4⟩ := hi
    refine fnP_res hm c0_ok (hs := hsTu xs hs n) ?_
    show fnP Try.prog c0 (hsTu xs hs n) 13 [.agg (runA nm f 0 n c 1 k d).toArray] (hp2r xs hs true true true true []) _
    rw [tu_t, hr]
    obtain ⟨_, _, _, _, hx, hh, _⟩ := run_zero hr
    have hi : isRun xs hs n k (flts xs) (ints hs) := ⟨rfl, rfl, h1, h2, h3, h4⟩
    exact ⟨⟨hi⟩, br_of (fun h => by cases h) (fun _ => ⟨⟨hi, hx, hh⟩, ⟨rfl, h2⟩, ⟨hi, rfl, h2, fun i hlt => Nat.lt_of_le_of_lt (rdF_few hx (by omega)) (by decide)⟩, by first | trivial | rfl, by first | trivial | rfl⟩)⟩
  · cases h
end
end Qq
end
section
/- A run with other values: scaled. -/
open Go Go.Vm Go.Proofs Sp
namespace Sp
noncomputable section
/-- Readings, of which the first s known ones are changed. -/
noncomputable def chR (R : Nat → Int × Bool) (g : Nat → Int → Int) (s : Nat) (k : Nat) : Int × Bool := if (decide (k < s) && (R k).2) = true then (g k (R k).1, true) else R k
def ngI (_ : Nat) (v : Int) : Int := -v
end
end Sp
namespace Qq
noncomputable section
theorem rn1_t (a : Int) (K : Value → Heap → Prop) :
    (fnP Try.prog c0 h0 (52 : FuncId) [Value.int IntKind.i64 a, Value.int IntKind.i64 (1 : Int)] [] K) =
    (Is ((2 : Int) ≠ (0 : Int)) ∧ br (decide (IntKind.wrap IntKind.i64 (IntKind.wrap IntKind.i64 ((2 : Int) * a) + (1 : Int)) < IntKind.wrap IntKind.i64 (IntKind.wrap IntKind.i64 (Int.tdiv (IntKind.wrap IntKind.i64 (IntKind.wrap IntKind.i64 ((2 : Int) * a) + (1 : Int))) (2 : Int)) * (2 : Int)))) (K (Value.int IntKind.i64 (IntKind.wrap IntKind.i64 (IntKind.wrap IntKind.i64 (Int.tdiv (IntKind.wrap IntKind.i64 (IntKind.wrap IntKind.i64 ((2 : Int) * a) + (1 : Int))) (2 : Int)) - (1 : Int)))) noH) (K (Value.int IntKind.i64 (IntKind.wrap IntKind.i64 (Int.tdiv (IntKind.wrap IntKind.i64 (IntKind.wrap IntKind.i64 ((2 : Int) * a) + (1 : Int))) (2 : Int)))) noH)) := by kernel_rfl
noncomputable def orcRn1 : OrcV
  | [.int .i64 a, .int .i64 b], [] => some (.int .i64 a, [], b = 1 ∧ a.natAbs ≤ 100000)
  | _, _ => none
theorem okRn1 : OkV Try.prog 52 orcRn1 := by
  intro args H ret H' vc h hv
  unfold orcRn1 at h
  split at h
  · rename_i a b
    cases h
    obtain ⟨rfl, hb⟩ := hv
    refine fnP_res hm c0_ok (hs := h0) ?_
    rw [rn1_t, wrap_eq (x := 2 * a) (by omega) (by omega), wrap_eq (x := 2 * a + 1) (by omega) (by omega)]
    have hq : (2 * a + 1).tdiv 2 = if 0 ≤ a then a else a + 1 := by
      split
      · rw [Int.tdiv_eq_ediv_of_nonneg (by omega)]; omega
      · have := Int.neg_tdiv (2 * a + 1) 2
        have h2 : (-(2 * a + 1)).tdiv 2 = -a - 1 := by rw [Int.tdiv_eq_ediv_of_nonneg (by omega)]; omega
        omega
    simp only [hq]
    by_cases h0 : 0 ≤ a
    · simp only [if_pos h0, wrap_eq (x := a) (by omega) (by omega), wrap_eq (x := a * 2) (by omega) (by omega)]
      exact ⟨⟨by decide⟩, br_of (fun h => by have := of_decide_eq_true h; omega) (fun _ => ⟨by first | trivial | rfl, by first | trivial | rfl⟩)⟩
    · have e1 : a + 1 - 1 = a := by omega
      simp only [if_neg h0, wrap_eq (x := a + 1) (by omega) (by omega), wrap_eq (x := (a + 1) * 2) (by omega) (by omega), e1, wrap_eq (x := a) (by omega) (by omega)]
      exact ⟨⟨by decide⟩, br_of (fun h => ⟨by first | trivial | rfl, by first | trivial | rfl⟩) (fun h => by have := of_decide_eq_false h; omega)⟩
  · cases h
noncomputable def hsSc1 : Hs Try.prog where
  au := auCalls [(52, hCa Try.prog 52 orcRn1 okRn1)]
noncomputable def bxI (a : Int) : Option AObj := some (.row [.int .i64 a] 0 false true true)
theorem sc1_t (i : Int) (v : Int) (p : Int) (q : Int) (K : Value → Heap → Prop) :
    (fnP Try.prog c0 hsSc1 (51 : FuncId) [Value.int IntKind.i64 i, Value.int IntKind.i64 v, Value.pointer (some { block := (0 : Nat), off := (0 : Nat) }), Value.pointer (some { block := (1 : Nat), off := (0 : Nat) })] [bxI p, bxI q] K) =
    (Is (q = (1 : Int) ∧ Int.natAbs (IntKind.wrap IntKind.i64 (v * p)) ≤ (100000 : Nat)) ∧ K (Value.int IntKind.i64 (IntKind.wrap IntKind.i64 (v * p))) (some (AObj.row [Value.int IntKind.i64 p] (0 : Nat) false true true) :: some (AObj.row [Value.int IntKind.i64 q] (0 : Nat) false true true) :: noH)) := by kernel_rfl
noncomputable def orcSc1 : OrcV
  | [.int .i64 _, .int .i64 v, .pointer (some ⟨0, 0, none⟩), .pointer (some ⟨1, 0, none⟩)], [some (.row [.int .i64 p] 0 false true true), some (.row [.int .i64 q] 0 false true true)] =>
    some (.int .i64 (-v), [bxI p, bxI q], p = -1 ∧ q = 1 ∧ v.natAbs ≤ 100000)
  | _, _ => none
theorem okSc1 : OkV Try.prog 51 orcSc1 := by
  intro args H ret H' vc h hv
  unfold orcSc1 at h
  split at h
  · rename_i i v p q
    cases h
    obtain ⟨rfl, rfl, hb⟩ := hv
    refine fnP_res hm c0_ok (hs := hsSc1) ?_
    show fnP Try.prog c0 hsSc1 51 _ [bxI (-1), bxI 1] _
    rw [sc1_t, show v * -1 = -v by omega, wrap_eq (x := -v) (by omega) (by omega)]
    exact ⟨⟨rfl, by omega⟩, by first | trivial | rfl, by first | trivial | rfl⟩
  · cases h
theorem lgS_t (a : Int) (K : Value → Heap → Prop) :
    (fnP Try.prog c0 h0 (67 : FuncId) [Value.int IntKind.i64 a] [] K) =
    (br (decide (a < (-16384 : Int))) (K (Value.bool true) noH) (K (Value.bool (decide ((16384 : Int) < a))) noH)) := by kernel_rfl
noncomputable def orcLgS : Orc
  | [.int .i64 a], [] => some (.bool (decide (a < -16384) || decide (16384 < a)), [])
  | _, _ => none
theorem okLgS0 : Ok Try.prog 67 orcLgS := by
  intro args H ret H' h
  unfold orcLgS at h
  split at h
  · cases h
    refine fnP_res hm c0_ok (hs := h0) ?_
    rw [lgS_t]
    refine br_of (fun h => ?_) (fun h => ?_)
    · rw [h]; exact ⟨by first | trivial | rfl, by first | trivial | rfl⟩
    · rw [h]; exact ⟨by first | trivial | rfl, by first | trivial | rfl⟩
  · cases h
noncomputable def cLg : CallF := ctx Try.prog [(67, orcLgS)]
theorem cLg_ok : CallOK Try.prog cLg := ctx_ok hm (all_cons okLgS0 all_nil)
noncomputable def cloN : Value := .func (.func 51) #[] #[.pointer (some ⟨2, 0, none⟩), .pointer (some ⟨3, 0, none⟩)]
noncomputable def exN  : Heap := [bxI (-1), bxI 1]
noncomputable def lpCN (nm : ByteArray) (f : Int) (n c k d : Nat) (xs : List Nat) (hs : List Int)  : Lp where
  σ := Nat
  E s := slots 41 [(1, cloN), (2, .pointer (some ⟨4, 0, none⟩)), (4, .pointer (some ⟨5, 0, none⟩)), (6, .slice (some ⟨6, 0, none⟩) n 0), (11, .slice (some ⟨6, 0, none⟩) n 0), (12, .int .i64 (Int.ofNat n)), (13, .int .i64 (Int.ofNat s))]
  Hp s := hp2r xs hs true true true true (exN  ++ [runO nm f n c k d, some (.row zrun 0 false true true), rdR n (chR (rdF xs (knB hs)) ngI s)])
  I s := s ≤ n
  m s := n - s
noncomputable def hsCN (nm : ByteArray) (f : Int) (n c k d : Nat) (xs : List Nat) (hs : List Int)  : Hs Try.prog where
  op y := if [401, 607, 702].contains y then some (hIa Try.prog) else if y = 402 then some (hLd Try.prog (zR (rdF xs (knB hs)))) else if y = 606 then some (hCa Try.prog 51 orcSc1 okSc1) else if y = 609 then some (hSp Try.prog) else if y = 704 then some (hLc Try.prog gI) else none
  lp _ := some (lpCN nm f n c k d xs hs )
  cl _ := keep 41 [1, 2, 4, 6, 11, 12, 13]
  au := auCalls [(38, hCa Try.prog 38 (orcRr xs hs) (okRr xs hs)), (41, hCa Try.prog 41 (orcWi xs hs (chR (rdF xs (knB hs)) ngI n)) (okWi xs hs (chR (rdF xs (knB hs)) ngI n)))]
theorem chN_t (nm : ByteArray) (f : Int) (n : Nat) (c : Nat) (k : Nat) (d : Nat) (xs : List Nat) (hs : List Int) (K : Value → Heap → Prop) :
    (fnP Try.prog cLg (hsCN nm f n c k d xs hs) (50 : FuncId) [Value.agg (List.toArray (runA nm f (0 : Nat) n c (1 : Nat) k d)), cloN] (hp2r xs hs true true true true exN) K) =
    (Is (isRun xs hs n k (flts xs) (ints hs) ∧ fi (List.map sE xs) = (0 : Int) ∧ hchk (↑n : Int) hs (-1 : Int) = (0 : Int)) ∧ (∃ (s : Nat), Is (s ≤ n) ∧ [poi, Value.func (Fn.func (51 : Nat)) #[] #[Value.pointer (some { block := (2 : Nat), off := (0 : Nat) }), Value.pointer (some { block := (3 : Nat), off := (0 : Nat) })], Value.pointer (some { block := (4 : Nat), off := (0 : Nat) }), poi, Value.pointer (some { block := (5 : Nat), off := (0 : Nat) }), poi, Value.slice (some { block := (6 : Nat), off := (0 : Nat) }) n (0 : Nat), poi, poi, poi, poi, Value.slice (some { block := (6 : Nat), off := (0 : Nat) }) n (0 : Nat), Value.int IntKind.i64 (↑n : Int), Value.int IntKind.i64 (0 : Int), poi, poi, poi, poi, poi, poi, poi, poi, poi, poi, poi, poi, poi, poi, poi, poi, poi, poi, poi, poi, poi, poi, poi, poi, poi, poi, poi] = [poi, Value.func (Fn.func (51 : Nat)) #[] #[Value.pointer (some { block := (2 : Nat), off := (0 : Nat) }), Value.pointer (some { block := (3 : Nat), off := (0 : Nat) })], Value.pointer (some { block := (4 : Nat), off := (0 : Nat) }), poi, Value.pointer (some { block := (5 : Nat), off := (0 : Nat) }), poi, Value.slice (some { block := (6 : Nat), off := (0 : Nat) }) n (0 : Nat), poi, poi, poi, poi, Value.slice (some { block := (6 : Nat), off := (0 : Nat) }) n (0 : Nat), Value.int IntKind.i64 (↑n : Int), Value.int IntKind.i64 (↑s : Int), poi, poi, poi, poi, poi, poi, poi, poi, poi, poi, poi, poi, poi, poi, poi, poi, poi, poi, poi, poi, poi, poi, poi, poi, poi, poi, poi] ∧ some (AObj.row (flts xs) (1 : Nat) true true true) :: some (AObj.row (ints hs) (2 : Nat) true true true) :: some (AObj.row [Value.int IntKind.i64 (-1 : Int)] (0 : Nat) false true true) :: some (AObj.row [Value.int IntKind.i64 (1 : Int)] (0 : Nat) false true true) :: some (AObj.row [Value.string nm, Value.int IntKind.i64 f, Value.slice (some { block := (0 : Nat), off := (0 : Nat) }) n c, Value.slice (some { block := (1 : Nat), off := (0 : Nat) }) k d] (0 : Nat) false true (List.all [Value.string nm, Value.int IntKind.i64 f, Value.slice (some { block := (0 : Nat), off := (0 : Nat) }) n c, Value.slice (some { block := (1 : Nat), off := (0 : Nat) }) k d] atom)) :: some (AObj.row [Value.string { data := #[] }, Value.int IntKind.i64 (0 : Int), Value.slice none (0 : Nat) (0 : Nat), Value.slice none (0 : Nat) (0 : Nat)] (0 : Nat) false true true) :: some (AObj.row (rdc n (rdF xs (knB hs))) (2 : Nat) true true true) :: noH = some (AObj.row (flts xs) (1 : Nat) true true true) :: some (AObj.row (ints hs) (2 : Nat) true true true) :: some (AObj.row [Value.int IntKind.i64 (-1 : Int)] (0 : Nat) false true true) :: some (AObj.row [Value.int IntKind.i64 (1 : Int)] (0 : Nat) false true true) :: some (AObj.row [Value.string nm, Value.int IntKind.i64 f, Value.slice (some { block := (0 : Nat), off := (0 : Nat) }) n c, Value.slice (some { block := (1 : Nat), off := (0 : Nat) }) k d] (0 : Nat) false true false) :: some (AObj.row [Value.string { data := #[] }, Value.int IntKind.i64 (0 : Int), Value.slice none (0 : Nat) (0 : Nat), Value.slice none (0 : Nat) (0 : Nat)] (0 : Nat) false true true) :: some (AObj.row (rdc n (chR (rdF xs (knB hs)) ngI s)) (2 : Nat) true true true) :: noH) ∧ ∀ (s : Nat), Is (s ≤ n) → br (decide ((↑s : Int) < (↑n : Int))) (Is ((0 : Int) ≤ (↑s : Int) ∧ (↑s : Int) < (↑n : Int)) ∧ Is ((if (0 : Nat) + Int.toNat (↑s : Int) * (2 : Nat) + (2 : Nat) ≤ List.length (rdc n (chR (rdF xs (knB hs)) ngI s)) then some (Value.agg (List.toArray (List.take (2 : Nat) (List.drop ((0 : Nat) + Int.toNat (↑s : Int) * (2 : Nat)) (rdc n (chR (rdF xs (knB hs)) ngI s)))))) else none) = some (Value.agg #[Value.int IntKind.i64 (rdV (rdF xs (knB hs)) ((0 : Nat) + Int.toNat (↑s : Int) * (2 : Nat))), Value.bool (rdW (rdF xs (knB hs)) ((0 : Nat) + Int.toNat (↑s : Int) * (2 : Nat)))])) ∧ br (!rdW (rdF xs (knB hs)) ((0 : Nat) + Int.toNat (↑s : Int) * (2 : Nat))) (∃ (s' : Nat), Is (s' ≤ n) ∧ Is (n - s' < n - s) ∧ [poi, Value.func (Fn.func (51 : Nat)) #[] #[Value.pointer (some { block := (2 : Nat), off := (0 : Nat) }), Value.pointer (some { block := (3 : Nat), off := (0 : Nat) })], Value.pointer (some { block := (4 : Nat), off := (0 : Nat) }), poi, Value.pointer (some { block := (5 : Nat), off := (0 : Nat) }), poi, Value.slice (some { block := (6 : Nat), off := (0 : Nat) }) n (0 : Nat), poi, poi, poi, poi, Value.slice (some { block := (6 : Nat), off := (0 : Nat) }) n (0 : Nat), Value.int IntKind.i64 (↑n : Int), Value.int IntKind.i64 (IntKind.wrap IntKind.i64 ((↑s : Int) + (1 : Int))), poi, poi, poi, poi, poi, poi, poi, poi, poi, poi, poi, poi, poi, poi, poi, poi, poi, poi, poi, poi, poi, poi, poi, poi, poi, poi, poi] = [poi, Value.func (Fn.func (51 : Nat)) #[] #[Value.pointer (some { block := (2 : Nat), off := (0 : Nat) }), Value.pointer (some { block := (3 : Nat), off := (0 : Nat) })], Value.pointer (some { block := (4 : Nat), off := (0 : Nat) }), poi, Value.pointer (some { block := (5 : Nat), off := (0 : Nat) }), poi, Value.slice (some { block := (6 : Nat), off := (0 : Nat) }) n (0 : Nat), poi, poi, poi, poi, Value.slice (some { block := (6 : Nat), off := (0 : Nat) }) n (0 : Nat), Value.int IntKind.i64 (↑n : Int), Value.int IntKind.i64 (↑s' : Int), poi, poi, poi, poi, poi, poi, poi, poi, poi, poi, poi, poi, poi, poi, poi, poi, poi, poi, poi, poi, poi, poi, poi, poi, poi, poi, poi] ∧ some (AObj.row (flts xs) (1 : Nat) true true true) :: some (AObj.row (ints hs) (2 : Nat) true true true) :: some (AObj.row [Value.int IntKind.i64 (-1 : Int)] (0 : Nat) false true true) :: some (AObj.row [Value.int IntKind.i64 (1 : Int)] (0 : Nat) false true true) :: some (AObj.row [Value.string nm, Value.int IntKind.i64 f, Value.slice (some { block := (0 : Nat), off := (0 : Nat) }) n c, Value.slice (some { block := (1 : Nat), off := (0 : Nat) }) k d] (0 : Nat) false true false) :: some (AObj.row [Value.string { data := #[] }, Value.int IntKind.i64 (0 : Int), Value.slice none (0 : Nat) (0 : Nat), Value.slice none (0 : Nat) (0 : Nat)] (0 : Nat) false true true) :: some (AObj.row (rdc n (chR (rdF xs (knB hs)) ngI s)) (2 : Nat) true true true) :: noH = some (AObj.row (flts xs) (1 : Nat) true true true) :: some (AObj.row (ints hs) (2 : Nat) true true true) :: some (AObj.row [Value.int IntKind.i64 (-1 : Int)] (0 : Nat) false true true) :: some (AObj.row [Value.int IntKind.i64 (1 : Int)] (0 : Nat) false true true) :: some (AObj.row [Value.string nm, Value.int IntKind.i64 f, Value.slice (some { block := (0 : Nat), off := (0 : Nat) }) n c, Value.slice (some { block := (1 : Nat), off := (0 : Nat) }) k d] (0 : Nat) false true false) :: some (AObj.row [Value.string { data := #[] }, Value.int IntKind.i64 (0 : Int), Value.slice none (0 : Nat) (0 : Nat), Value.slice none (0 : Nat) (0 : Nat)] (0 : Nat) false true true) :: some (AObj.row (rdc n (chR (rdF xs (knB hs)) ngI s')) (2 : Nat) true true true) :: noH) (Is ((-1 : Int) = (-1 : Int) ∧ (1 : Int) = (1 : Int) ∧ Int.natAbs (rdV (rdF xs (knB hs)) ((0 : Nat) + Int.toNat (↑s : Int) * (2 : Nat))) ≤ (100000 : Nat)) ∧ Is ((0 : Int) ≤ (↑s : Int) ∧ (↑s : Int) < (↑n : Int)) ∧ Is ((0 : Nat) + Int.toNat (↑s : Int) * (2 : Nat) + (0 : Nat) + List.length [Value.int IntKind.i64 (-rdV (rdF xs (knB hs)) ((0 : Nat) + Int.toNat (↑s : Int) * (2 : Nat)))] ≤ List.length (rdc n (chR (rdF xs (knB hs)) ngI s))) ∧ Is ((0 : Int) ≤ (↑s : Int) ∧ (↑s : Int) < (↑n : Int)) ∧ Is ((putL (rdc n (chR (rdF xs (knB hs)) ngI s)) ((0 : Nat) + Int.toNat (↑s : Int) * (2 : Nat) + (0 : Nat)) [Value.int IntKind.i64 (-rdV (rdF xs (knB hs)) ((0 : Nat) + Int.toNat (↑s : Int) * (2 : Nat)))])[(0 : Nat) + Int.toNat (↑s : Int) * (2 : Nat) + (0 : Nat)]? = some (Value.int IntKind.i64 (iAt (putL (rdc n (chR (rdF xs (knB hs)) ngI s)) ((0 : Nat) + Int.toNat (↑s : Int) * (2 : Nat) + (0 : Nat)) [Value.int IntKind.i64 (-rdV (rdF xs (knB hs)) ((0 : Nat) + Int.toNat (↑s : Int) * (2 : Nat)))]) ((0 : Nat) + Int.toNat (↑s : Int) * (2 : Nat) + (0 : Nat))))) ∧ br (decide (iAt (putL (rdc n (chR (rdF xs (knB hs)) ngI s)) ((0 : Nat) + Int.toNat (↑s : Int) * (2 : Nat) + (0 : Nat)) [Value.int IntKind.i64 (-rdV (rdF xs (knB hs)) ((0 : Nat) + Int.toNat (↑s : Int) * (2 : Nat)))]) ((0 : Nat) + Int.toNat (↑s : Int) * (2 : Nat) + (0 : Nat)) < (-16384 : Int)) || decide ((16384 : Int) < iAt (putL (rdc n (chR (rdF xs (knB hs)) ngI s)) ((0 : Nat) + Int.toNat (↑s : Int) * (2 : Nat) + (0 : Nat)) [Value.int IntKind.i64 (-rdV (rdF xs (knB hs)) ((0 : Nat) + Int.toNat (↑s : Int) * (2 : Nat)))]) ((0 : Nat) + Int.toNat (↑s : Int) * (2 : Nat) + (0 : Nat)))) (K (Value.tuple #[Value.agg #[Value.string { data := #[] }, Value.int IntKind.i64 (0 : Int), Value.slice none (0 : Nat) (0 : Nat), Value.slice none (0 : Nat) (0 : Nat)], Value.int IntKind.i64 (4 : Int)]) (some (AObj.row (flts xs) (1 : Nat) true true true) :: some (AObj.row (ints hs) (2 : Nat) true true true) :: some (AObj.row [Value.int IntKind.i64 (-1 : Int)] (0 : Nat) false true true) :: some (AObj.row [Value.int IntKind.i64 (1 : Int)] (0 : Nat) false true true) :: noH)) (∃ (s' : Nat), Is (s' ≤ n) ∧ Is (n - s' < n - s) ∧ [poi, Value.func (Fn.func (51 : Nat)) #[] #[Value.pointer (some { block := (2 : Nat), off := (0 : Nat) }), Value.pointer (some { block := (3 : Nat), off := (0 : Nat) })], Value.pointer (some { block := (4 : Nat), off := (0 : Nat) }), poi, Value.pointer (some { block := (5 : Nat), off := (0 : Nat) }), poi, Value.slice (some { block := (6 : Nat), off := (0 : Nat) }) n (0 : Nat), poi, poi, poi, poi, Value.slice (some { block := (6 : Nat), off := (0 : Nat) }) n (0 : Nat), Value.int IntKind.i64 (↑n : Int), Value.int IntKind.i64 (IntKind.wrap IntKind.i64 ((↑s : Int) + (1 : Int))), poi, poi, poi, poi, poi, poi, poi, poi, poi, poi, poi, poi, poi, poi, poi, poi, poi, poi, poi, poi, poi, poi, poi, poi, poi, poi, poi] = [poi, Value.func (Fn.func (51 : Nat)) #[] #[Value.pointer (some { block := (2 : Nat), off := (0 : Nat) }), Value.pointer (some { block := (3 : Nat), off := (0 : Nat) })], Value.pointer (some { block := (4 : Nat), off := (0 : Nat) }), poi, Value.pointer (some { block := (5 : Nat), off := (0 : Nat) }), poi, Value.slice (some { block := (6 : Nat), off := (0 : Nat) }) n (0 : Nat), poi, poi, poi, poi, Value.slice (some { block := (6 : Nat), off := (0 : Nat) }) n (0 : Nat), Value.int IntKind.i64 (↑n : Int), Value.int IntKind.i64 (↑s' : Int), poi, poi, poi, poi, poi, poi, poi, poi, poi, poi, poi, poi, poi, poi, poi, poi, poi, poi, poi, poi, poi, poi, poi, poi, poi, poi, poi] ∧ some (AObj.row (flts xs) (1 : Nat) true true true) :: some (AObj.row (ints hs) (2 : Nat) true true true) :: some (AObj.row [Value.int IntKind.i64 (-1 : Int)] (0 : Nat) false true true) :: some (AObj.row [Value.int IntKind.i64 (1 : Int)] (0 : Nat) false true true) :: some (AObj.row [Value.string nm, Value.int IntKind.i64 f, Value.slice (some { block := (0 : Nat), off := (0 : Nat) }) n c, Value.slice (some { block := (1 : Nat), off := (0 : Nat) }) k d] (0 : Nat) false true false) :: some (AObj.row [Value.string { data := #[] }, Value.int IntKind.i64 (0 : Int), Value.slice none (0 : Nat) (0 : Nat), Value.slice none (0 : Nat) (0 : Nat)] (0 : Nat) false true true) :: some (AObj.row (putL (rdc n (chR (rdF xs (knB hs)) ngI s)) ((0 : Nat) + Int.toNat (↑s : Int) * (2 : Nat) + (0 : Nat)) [Value.int IntKind.i64 (-rdV (rdF xs (knB hs)) ((0 : Nat) + Int.toNat (↑s : Int) * (2 : Nat)))]) (2 : Nat) true true (true && List.all [Value.int IntKind.i64 (-rdV (rdF xs (knB hs)) ((0 : Nat) + Int.toNat (↑s : Int) * (2 : Nat)))] atom)) :: noH = some (AObj.row (flts xs) (1 : Nat) true true true) :: some (AObj.row (ints hs) (2 : Nat) true true true) :: some (AObj.row [Value.int IntKind.i64 (-1 : Int)] (0 : Nat) false true true) :: some (AObj.row [Value.int IntKind.i64 (1 : Int)] (0 : Nat) false true true) :: some (AObj.row [Value.string nm, Value.int IntKind.i64 f, Value.slice (some { block := (0 : Nat), off := (0 : Nat) }) n c, Value.slice (some { block := (1 : Nat), off := (0 : Nat) }) k d] (0 : Nat) false true false) :: some (AObj.row [Value.string { data := #[] }, Value.int IntKind.i64 (0 : Int), Value.slice none (0 : Nat) (0 : Nat), Value.slice none (0 : Nat) (0 : Nat)] (0 : Nat) false true true) :: some (AObj.row (rdc n (chR (rdF xs (knB hs)) ngI s')) (2 : Nat) true true true) :: noH))) (Is (isRun xs hs n k (flts xs) (ints hs) ∧ rdc n (chR (rdF xs (knB hs)) ngI s) = rdc n (chR (rdF xs (knB hs)) ngI n) ∧ n ≤ (100000 : Nat) ∧ ∀ (i : Nat), i < n → Int.natAbs (Prod.fst (chR (rdF xs (knB hs)) ngI n i)) < (2 : Nat) ^ (24 : Nat)) ∧ K (Value.tuple #[Value.agg #[Value.string nm, Value.int IntKind.i64 f, Value.slice (some { block := (4 : Nat), off := (0 : Nat) }) n (0 : Nat), Value.slice (some { block := (5 : Nat), off := (0 : Nat) }) (mkK (mkB (chR (rdF xs (knB hs)) ngI n)) n) (0 : Nat)], Value.int IntKind.i64 (0 : Int)]) (some (AObj.row (flts xs) (1 : Nat) true true true) :: some (AObj.row (ints hs) (2 : Nat) true true true) :: some (AObj.row [Value.int IntKind.i64 (-1 : Int)] (0 : Nat) false true true) :: some (AObj.row [Value.int IntKind.i64 (1 : Int)] (0 : Nat) false true true) :: some (AObj.row (flts (mkX (chR (rdF xs (knB hs)) ngI n) n)) (1 : Nat) true true true) :: some (AObj.row (ints (mkS (mkB (chR (rdF xs (knB hs)) ngI n)) n)) (2 : Nat) true true true) :: noH))) := by kernel_rfl
theorem rdc_put1 {n i : Nat} {R : Nat → Int × Bool} {v : Int} (h : i < n) : putL (rdc n R) (i * 2) [.int .i64 v] = rdc n (upR R i (v, (R i).2)) := by
  rw [← rdc_put h]
  obtain ⟨t, h1, h2⟩ := rdc_cut (R := R) h
  have hl := rdc_len i R
  have e1 : List.take (i * 2) (rdc i R ++ (rC (R i) ++ t)) = rdc i R := by rw [← hl, List.take_left]
  have e2 : ∀ {k : Nat} {l : List Value}, i * 2 + k = (rdc i R ++ l).length → ∀ t', List.drop (i * 2 + k) (rdc i R ++ (l ++ t')) = t' := fun {k l} hk t' => by rw [hk, ← List.append_assoc, List.drop_left]
  rw [putL, putL, splice, splice, h1, e1]
  have e3 : List.drop (i * 2 + (rC (v, (R i).2)).length) (rdc i R ++ (rC (R i) ++ t)) = t := e2 (by rw [List.length_append, hl]; rfl) t
  have e4 : List.drop (i * 2 + [Value.int .i64 v].length) (rdc i R ++ (rC (R i) ++ t)) = .bool (R i).2 :: t := e2 (l := [.int .i64 (R i).1]) (by rw [List.length_append, hl]; rfl) (.bool (R i).2 :: t)
  rw [e3, e4]; rfl
theorem chR_skip {R : Nat → Int × Bool} {g : Nat → Int → Int} {s n : Nat} (h : (R s).2 = false) : rdc n (chR R g s) = rdc n (chR R g (s + 1)) := rdc_congr fun i _ => by
  rw [chR, chR]
  by_cases e : i = s
  · subst e; rw [h, Bool.and_false, Bool.and_false]
  · rw [show decide (i < s) = decide (i < s + 1) from decide_eq_decide.2 (by omega)]
theorem chR_at {R : Nat → Int × Bool} {g : Nat → Int → Int} {s : Nat} : chR R g s s = R s := by rw [chR, decide_eq_false (Nat.lt_irrefl s)]; rfl
theorem chR_step {R : Nat → Int × Bool} {g : Nat → Int → Int} {s n : Nat} (h : (R s).2 = true) : rdc n (upR (chR R g s) s (g s (R s).1, true)) = rdc n (chR R g (s + 1)) := rdc_congr fun i _ => by
  rw [upR, chR, chR]
  by_cases e : i = s
  · subst e; rw [if_pos rfl, h, decide_eq_true (Nat.lt_succ_self i)]; rfl
  · rw [if_neg e, show decide (i < s) = decide (i < s + 1) from decide_eq_decide.2 (by omega)]
theorem chR_few {R : Nat → Int × Bool} {g : Nat → Int → Int} {s i : Nat} (h : (R i).1.natAbs ≤ 16384) (hg : (R i).2 = true → (g i (R i).1).natAbs ≤ 16384) : (chR R g s i).1.natAbs ≤ 16384 := by
  rw [chR]
  split
  · rename_i e; exact hg (Bool.and_eq_true_iff.1 e).2
  · exact h
set_option maxRecDepth 100000 in
theorem chN_ok {nm : ByteArray} {f : Int} {n c k d : Nat} {xs : List Nat} {hs : List Int} (hi : isRun xs hs n k (flts xs) (ints hs)) (hx : fi (xs.map sE) = 0) (hh : hchk n hs (-1) = 0) (hg : ∀ i, i < n → (rdF xs (knB hs) i).2 = true → (ngI i (rdF xs (knB hs) i).1).natAbs ≤ 16384) :
    SmallRes Try.prog 50 [.agg (runA nm f 0 n c 1 k d).toArray, cloN] (hp2r xs hs true true true true (exN )) (.tuple #[.agg (runA nm f 4 n 0 5 (mkK (mkB (chR (rdF xs (knB hs)) ngI n)) n) 0).toArray, .int .i64 0]) (hp2r xs hs true true true true (exN  ++ wiR (chR (rdF xs (knB hs)) ngI n) n)) := by
  refine fnP_res hm cLg_ok (hs := hsCN nm f n c k d xs hs ) ?_
  rw [chN_t]
  have hi' := hi
  obtain ⟨_, _, hn, h9, _, _⟩ := hi'
  have few : ∀ i, i < n → (rdF xs (knB hs) i).1.natAbs ≤ 16384 := fun i h => rdF_few hx (by omega)
  have e0 : rdc n (chR (rdF xs (knB hs)) ngI 0) = rdc n (rdF xs (knB hs)) := rdc_congr fun i _ => by rw [chR, decide_eq_false (Nat.not_lt_zero i)]; rfl
  refine ⟨⟨hi, hx, hh⟩, ⟨(0 : Nat), ⟨Nat.zero_le _⟩, by first | trivial | rfl, by rw [e0]; first | done | trivial | rfl⟩, fun s hs' => br_of (fun hc => ?_) (fun hc => ?_)⟩
  · have hc := lt_of_dec hc
    simp only [Nat.zero_add, Nat.add_zero, Int.toNat_natCast, rdV_at, rdW_at]
    have t1 := rdc_take (R := chR (rdF xs (knB hs)) ngI s) hc
    rw [chR_at] at t1
    have fs := few s hc
    have gs := hg s hc
    refine ⟨⟨by omega, by omega⟩, ⟨t1⟩, br_of (fun hk => ?_) (fun hk => ?_)⟩
    · have hk : (rdF xs (knB hs) s).2 = false := by simpa using hk
      refine ⟨s + 1, ⟨hc⟩, ⟨by omega⟩, by rw [up1 hc (by omega)], by rw [chR_skip hk]⟩
    · have hk : (rdF xs (knB hs) s).2 = true := by simpa using hk
      have gs := gs hk
      have p1 : putL (rdc n (chR (rdF xs (knB hs)) ngI s)) (s * 2) [.int .i64 (-(rdF xs (knB hs) s).1)] = rdc n (chR (rdF xs (knB hs)) ngI (s + 1)) := by
        rw [rdc_put1 hc, chR_at, hk]
        exact chR_step hk
      have i1 := rdc_int (R := chR (rdF xs (knB hs)) ngI (s + 1)) hc
      have i2 : (chR (rdF xs (knB hs)) ngI (s + 1) s).1 = -(rdF xs (knB hs) s).1 := by rw [chR, hk, decide_eq_true (Nat.lt_succ_self s)]; rfl
      have i3 : iAt (rdc n (chR (rdF xs (knB hs)) ngI (s + 1))) (s * 2) = -(rdF xs (knB hs) s).1 := by rw [iAt, i1, i2]
      have gs : (-(rdF xs (knB hs) s).1).natAbs ≤ 16384 := gs
      rw [p1, i3]
      refine ⟨⟨⟨trivial, trivial, by omega⟩⟩, ⟨by omega, by omega⟩, ⟨by rw [rdc_len]; simp only [List.length_cons, List.length_nil]; omega⟩, ⟨by omega, by omega⟩, ⟨by rw [i1, i2]⟩, br_of (fun h => ?_) (fun _ => ⟨s + 1, ⟨hc⟩, ⟨by omega⟩, by rw [up1 hc (by omega)], by first | trivial | rfl⟩)⟩
      rw [decide_eq_false (by omega), decide_eq_false (by omega)] at h
      cases h
  · have hc := ge_of_dec hc
    have : s = n := by have := hs'.out; omega
    subst this
    exact ⟨⟨hi, rfl, h9, fun i hlt => Nat.lt_of_le_of_lt (chR_few (few i hlt) (hg i hlt)) (by decide)⟩, by first | trivial | rfl, by first | trivial | rfl⟩
noncomputable def orcChN (xs : List Nat) (hs : List Int) : OrcV
  | [.agg ⟨[.string nm, .int .i64 f, .slice (some ⟨0, 0, none⟩) n _, .slice (some ⟨1, 0, none⟩) k _]⟩, .func (.func 51) ⟨[]⟩ ⟨[.pointer (some ⟨2, 0, none⟩), .pointer (some ⟨3, 0, none⟩)]⟩], [some (.row e1 1 true true true), some (.row e2 2 true true true), some (.row [.int .i64 p] 0 false true true), some (.row [.int .i64 q] 0 false true true)] =>
    some (.tuple #[.agg (runA nm f 4 n 0 5 (mkK (mkB (chR (rdF xs (knB hs)) ngI n)) n) 0).toArray, .int .i64 0], some (.row e1 1 true true true) :: some (.row e2 2 true true true) :: bxI p :: bxI q :: wiR (chR (rdF xs (knB hs)) ngI n) n, isRun xs hs n k e1 e2 ∧ p = -1 ∧ q = 1 ∧ fi (xs.map sE) = 0 ∧ hchk n hs (-1) = 0)
  | _, _ => none
theorem okChN (xs : List Nat) (hs : List Int) : OkV Try.prog 50 (orcChN xs hs) := by
  intro args H ret H' vc h hv
  unfold orcChN at h
  split at h
  · cases h
    obtain ⟨⟨rfl, rfl, h1, h2, h3, h4⟩, rfl, rfl, h5, h6⟩ := hv
    exact chN_ok ⟨rfl, rfl, h1, h2, h3, h4⟩ h5 h6 (fun i hi _ => by rw [ngI, Int.natAbs_neg]; exact rdF_few h5 (by omega))
  · cases h

/- Scaled by -1. -/
noncomputable def hsSd (xs : List Nat) (hs : List Int) : Hs Try.prog where
  op y := if y = 107 then some (hCa Try.prog 31 (orcFiV [0, 0, 0]) (okFiV _)) else none
  au := auCalls [(33, hCa Try.prog 33 (orcCrP xs hs) (okCrP xs hs)), (50, hCa Try.prog 50 (orcChN xs hs) (okChN xs hs))]
theorem sd_t (nm : ByteArray) (f : Int) (n : Nat) (c : Nat) (k : Nat) (d : Nat) (xs : List Nat) (hs : List Int) (K : Value → Heap → Prop) :
    (fnP Try.prog cs2 (hsSd xs hs) (19 : FuncId) [Value.agg (List.toArray (runA nm f (0 : Nat) n c (1 : Nat) k d)), Value.int IntKind.i64 (-1 : Int), Value.int IntKind.i64 (1 : Int)] (hp2r xs hs true true true true []) K) =
    (Is (isRun xs hs n k (flts xs) (ints hs)) ∧ Is ([Value.int IntKind.i64 (runE nm f xs n hs), Value.int IntKind.i64 (0 : Int), Value.int IntKind.i64 (0 : Int)] = [Value.int IntKind.i64 (0 : Int), Value.int IntKind.i64 (0 : Int), Value.int IntKind.i64 (0 : Int)] ∧ (3 : Nat) = (3 : Nat) ∧ (3 : Nat) ≤ (100000 : Nat)) ∧ Is (isRun xs hs n k (flts xs) (ints hs) ∧ (-1 : Int) = (-1 : Int) ∧ (1 : Int) = (1 : Int) ∧ fi (List.map sE xs) = (0 : Int) ∧ hchk (↑n : Int) hs (-1 : Int) = (0 : Int)) ∧ K (Value.tuple #[Value.agg #[Value.string nm, Value.int IntKind.i64 f, Value.slice (some { block := (2 : Nat), off := (0 : Nat) }) n (0 : Nat), Value.slice (some { block := (3 : Nat), off := (0 : Nat) }) (mkK (mkB (chR (rdF xs (knB hs)) ngI n)) n) (0 : Nat)], Value.int IntKind.i64 (0 : Int)]) (some (AObj.row (flts xs) (1 : Nat) true true true) :: some (AObj.row (ints hs) (2 : Nat) true true true) :: some (AObj.row (flts (mkX (chR (rdF xs (knB hs)) ngI n) n)) (1 : Nat) true true true) :: some (AObj.row (ints (mkS (mkB (chR (rdF xs (knB hs)) ngI n)) n)) (2 : Nat) true true true) :: noH)) := by kernel_rfl
noncomputable def orcSd (xs : List Nat) (hs : List Int) : OrcV
  | [.agg ⟨[.string nm, .int .i64 f, .slice (some ⟨0, 0, none⟩) n _, .slice (some ⟨1, 0, none⟩) k _]⟩, .int .i64 p, .int .i64 q], [some (.row e1 1 true true true), some (.row e2 2 true true true)] =>
    some (.tuple #[.agg (runA nm f 2 n 0 3 (mkK (mkB (chR (rdF xs (knB hs)) ngI n)) n) 0).toArray, .int .i64 0], some (.row e1 1 true true true) :: some (.row e2 2 true true true) :: wiR (chR (rdF xs (knB hs)) ngI n) n, isRun xs hs n k e1 e2 ∧ runE nm f xs n hs = 0 ∧ p = -1 ∧ q = 1)
  | _, _ => none
theorem okSd (xs : List Nat) (hs : List Int) : OkV Try.prog 19 (orcSd xs hs) := by
  intro args H ret H' vc h hv
  unfold orcSd at h
  split at h
  · rename_i nm f n c k d p q e1 e2
    cases h
    obtain ⟨hi, hr, rfl, rfl⟩ := hv
    obtain ⟨rfl, rfl, h1, h2, h3, h4⟩ := hi
    refine fnP_res hm cs2_ok (hs := hsSd xs hs) ?_
    show fnP Try.prog cs2 (hsSd xs hs) 19 [.agg (runA nm f 0 n c 1 k d).toArray, _, _] (hp2r xs hs true true true true []) _
    rw [sd_t, hr]
    obtain ⟨_, _, _, _, hx, hh, _⟩ := run_zero hr
    have hi : isRun xs hs n k (flts xs) (ints hs) := ⟨rfl, rfl, h1, h2, h3, h4⟩
    exact ⟨⟨hi⟩, ⟨rfl, rfl, by decide⟩, ⟨hi, rfl, rfl, hx, hh⟩, by first | trivial | rfl, by first | trivial | rfl⟩
  · cases h
end
end Qq
end
section
/- A run that is made of readings: plain. -/
open Go Go.Vm Go.Proofs Sp
namespace Sp
def hlast : List Int → Int → Int
  | _ :: b :: r, _ => hlast r b
  | _, x => x
end Sp
namespace Qq
noncomputable section
theorem hchk_cons {n a b last : Int} {r : List Int} : hchk n (a :: b :: r) last = 0 ↔ (0 ≤ a ∧ a < b ∧ b ≤ n) ∧ last < a ∧ hchk n r b = 0 := by
  rw [hchk, sel_zero, fi_zero]
  refine ⟨fun h => ?_, fun h => ?_⟩
  · have h1 := (wh_zero (by decide)).1 (h.1 (wh (decide (a < 0) || (decide (b ≤ a) || decide (n < b))) 14) (by simp))
    have h2 := (wh_zero (by decide)).1 (h.1 (wh (decide (a ≤ last)) 11) (by simp))
    simp only [Bool.or_eq_false_iff, decide_eq_false_iff_not] at h1 h2
    exact ⟨by omega, by omega, h.2⟩
  · obtain ⟨⟨h1, h2, h3⟩, h4, h5⟩ := h
    refine ⟨fun x hx => ?_, h5⟩
    simp only [List.mem_cons, List.not_mem_nil, or_false] at hx
    rcases hx with rfl | rfl
    · exact (wh_zero (by decide)).2 (by simp only [Bool.or_eq_false_iff, decide_eq_false_iff_not]; omega)
    · exact (wh_zero (by decide)).2 (by simp only [decide_eq_false_iff_not]; omega)
theorem hchk_snoc {n a b : Int} : ∀ (s : Nat) {l : List Int} {last : Int}, l.length = s * 2 → (hchk n (l ++ [a, b]) last = 0 ↔ hchk n l last = 0 ∧ (0 ≤ a ∧ a < b ∧ b ≤ n) ∧ hlast l last < a)
  | 0, [], last, _ => by
    rw [List.nil_append, hchk_cons, hlast]
    · have h0 : hchk n [] b = 0 := rfl
      have h1 : hchk n [] last = 0 := rfl
      rw [h0, h1]
      simp
    · intro a b r h; cases h
  | s + 1, u :: v :: l, last, h => by
    rw [List.cons_append, List.cons_append, hchk_cons, hchk_cons, hlast, hchk_snoc s (l := l) (last := v) (by simp only [List.length_cons] at h; omega)]
    simp only [and_assoc]
  | s + 1, [x], _, h => by simp only [List.length_cons, List.length_nil] at h; omega
  | s + 1, [], _, h => by simp only [List.length_nil] at h; omega
  | 0, x :: l, _, h => by simp only [List.length_cons] at h; omega
theorem hlast_snoc {a b : Int} : ∀ (s : Nat) {l : List Int} {last : Int}, l.length = s * 2 → hlast (l ++ [a, b]) last = b
  | 0, [], last, _ => rfl
  | s + 1, u :: v :: l, last, h => by
    rw [List.cons_append, List.cons_append, hlast]
    exact hlast_snoc s (by simp only [List.length_cons] at h; omega)
  | s + 1, [x], _, h => by simp only [List.length_cons, List.length_nil] at h; omega
  | s + 1, [], _, h => by simp only [List.length_nil] at h; omega
  | 0, x :: l, _, h => by simp only [List.length_cons] at h; omega
theorem hchk_mono {n m : Int} (h : n ≤ m) : ∀ (s : Nat) {l : List Int} {last : Int}, l.length = s * 2 → hchk n l last = 0 → hchk m l last = 0
  | 0, [], _, _, _ => rfl
  | s + 1, u :: v :: l, last, hl, hc => by
    rw [hchk_cons] at hc ⊢
    exact ⟨by omega, hc.2.1, hchk_mono h s (by simp only [List.length_cons] at hl; omega) hc.2.2⟩
  | s + 1, [x], _, h, _ => by simp only [List.length_cons, List.length_nil] at h; omega
  | s + 1, [], _, h, _ => by simp only [List.length_nil] at h; omega
  | 0, x :: l, _, h, _ => by simp only [List.length_cons] at h; omega
/-- The last two of a list. -/
theorem last_two {k : Nat} {l : List Int} (h : l.length = k * 2) (h0 : 0 < l.length) : ∃ (l' : List Int) (a b : Int), l = l' ++ [a, b] ∧ l'.length = (k - 1) * 2 ∧ l.getD (l.length - 1) 0 = b ∧ ∀ x : Int, l.take (l.length - 1) ++ [x] = l' ++ [a, x] := by
  have e := (List.take_append_drop (l.length - 2) l).symm
  generalize hA : l.take (l.length - 2) = A at e
  generalize hB : l.drop (l.length - 2) = B at e
  have lA : A.length = l.length - 2 := by rw [← hA, List.length_take]; omega
  have lB : B.length = 2 := by rw [← hB, List.length_drop]; omega
  match B, lB with
  | [a, b], _ =>
    refine ⟨A, a, b, e, by omega, ?_, fun x => ?_⟩
    · rw [List.getD_eq_getElem?_getD, e, List.getElem?_append_right (by rw [List.length_append]; simp only [List.length_cons, List.length_nil]; omega)]
      have : (A ++ [a, b]).length - 1 - A.length = 1 := by rw [List.length_append]; simp only [List.length_cons, List.length_nil]; omega
      rw [this]; rfl
    · have e2 : l.length - 1 = (A ++ [a]).length := by rw [List.length_append]; simp only [List.length_cons, List.length_nil]; omega
      have e3 : l = (A ++ [a]) ++ [b] := by rw [e, List.append_assoc]; rfl
      rw [e2, e3, List.take_left, List.append_assoc]; rfl
theorem mkS_ok (B : Nat → Bool) : ∀ s : Nat, hchk s (mkS B s) (-1) = 0 ∧ hlast (mkS B s) (-1) ≤ s ∧ ∀ i : Nat, knB (mkS B s) i = (decide (s ≤ i) || B i)
  | 0 => by
    rw [mkS_zero]
    have e : hlast [] (-1) = -1 := rfl
    refine ⟨rfl, by rw [e]; omega, fun i => ?_⟩
    rw [decide_eq_true (Nat.zero_le i)]; rfl
  | s + 1 => by
    obtain ⟨h1, h2, h3⟩ := mkS_ok B s
    obtain ⟨l1, _⟩ := mkS_len B s
    have u : ((s + 1 : Nat) : Int) = (s : Int) + 1 := rfl
    have es : mkS B (s + 1) = if B s = true then mkS B s else if lastIs (mkS B s) s = true then (mkS B s).take ((mkS B s).length - 1) ++ [(s : Int) + 1] else mkS B s ++ [(s : Int), (s : Int) + 1] := rfl
    have hm := hchk_mono (show (s : Int) ≤ ((s + 1 : Nat) : Int) by omega) _ l1 h1
    rw [es]
    by_cases hb : B s = true
    · rw [if_pos hb]
      refine ⟨hm, by omega, fun i => ?_⟩
      rw [h3]
      by_cases e : i = s
      · subst e; rw [hb, Bool.or_true, Bool.or_true]
      · rw [show decide (s ≤ i) = decide (s + 1 ≤ i) from decide_eq_decide.2 (by omega)]
    · rw [if_neg hb]
      have hb : B s = false := by simpa using hb
      generalize mkS B s = l at *
      by_cases hj : lastIs l s = true
      · rw [if_pos hj]
        simp only [lastIs, Bool.and_eq_true, decide_eq_true_eq] at hj
        obtain ⟨l', a, b, e, el, eb, et⟩ := last_two l1 hj.1
        rw [hj.2] at eb
        subst eb
        rw [et]
        subst e
        obtain ⟨c1, c2, c3⟩ := (hchk_snoc _ el).1 hm
        refine ⟨(hchk_snoc _ el).2 ⟨c1, by omega, c3⟩, by rw [hlast_snoc _ el]; omega, fun i => ?_⟩
        have h3 := h3 i
        rw [knB_app _ _ el] at h3 ⊢
        simp only [knB, Bool.and_true] at h3 ⊢
        by_cases e : i = s
        · subst e
          rw [decide_eq_true (show a ≤ (i : Int) by omega), decide_eq_true (show (i : Int) < (i : Int) + 1 by omega), decide_eq_false (show ¬ i + 1 ≤ i by omega), hb]; simp
        · rw [show decide ((i : Int) < (s : Int) + 1) = decide ((i : Int) < (s : Int)) from decide_eq_decide.2 (by omega), h3, show decide (s ≤ i) = decide (s + 1 ≤ i) from decide_eq_decide.2 (by omega)]
      · rw [if_neg hj]
        have hlt : hlast l (-1) < s := by
          by_cases h0 : 0 < l.length
          · obtain ⟨l', a, b, e, el, eb, _⟩ := last_two l1 h0
            have : ¬ l.getD (l.length - 1) 0 = (s : Int) := fun h => hj (by rw [lastIs, decide_eq_true h0, decide_eq_true h]; rfl)
            rw [eb] at this
            rw [e, hlast_snoc _ el] at h2 ⊢
            omega
          · have : l = [] := List.eq_nil_of_length_eq_zero (by omega)
            subst this
            have e : hlast [] (-1) = -1 := rfl
            rw [e]; omega
        refine ⟨(hchk_snoc _ l1).2 ⟨hm, by omega, hlt⟩, by rw [hlast_snoc _ l1]; omega, fun i => ?_⟩
        have h3 := h3 i
        rw [knB_app _ _ l1, h3]
        simp only [knB, Bool.and_true]
        by_cases e : i = s
        · subst e
          rw [decide_eq_true (show (i : Int) ≤ (i : Int) by omega), decide_eq_true (show (i : Int) < (i : Int) + 1 by omega), decide_eq_false (show ¬ i + 1 ≤ i by omega), hb]; simp
        · have : (decide ((s : Int) ≤ (i : Int)) && decide ((i : Int) < (s : Int) + 1)) = false := by
            by_cases g : (s : Int) ≤ (i : Int)
            · rw [decide_eq_false (show ¬ (i : Int) < (s : Int) + 1 by omega), Bool.and_false]
            · rw [decide_eq_false g, Bool.false_and]
          rw [this, show decide (s ≤ i) = decide (s + 1 ≤ i) from decide_eq_decide.2 (by omega)]; simp
/-- Readings that a run of samples can keep. -/
structure RdOk (R : Nat → Int × Bool) (n : Nat) : Prop where
  few : ∀ i, i < n → (R i).1.natAbs ≤ 16384
  zero : ∀ i, i < n → (R i).2 = false → (R i).1 = 0
theorem mkX_at {R : Nat → Int × Bool} {n i : Nat} (h : i < n) : (mkX R n).getD i 0 = smO (R i).1 := by
  rw [mkX, List.getD_eq_getElem?_getD, List.getElem?_map, List.getElem?_range h]; rfl
theorem mkX_fi {R : Nat → Int × Bool} {n : Nat} (h : ∀ i, i < n → (R i).1.natAbs ≤ 16384) : fi ((mkX R n).map sE) = 0 := by
  refine fi_zero.2 fun x hx => ?_
  obtain ⟨y, hy, rfl⟩ := List.mem_map.1 hx
  obtain ⟨i, hi, rfl⟩ := List.mem_map.1 hy
  exact (Fl.lev_sm (h i (List.mem_range.1 hi))).2
theorem mkS_hchk (B : Nat → Bool) (n : Nat) : hchk n (mkS B n) (-1) = 0 := (mkS_ok B n).1
theorem mkS_kn {B : Nat → Bool} {n i : Nat} (h : i < n) : knB (mkS B n) i = B i := by
  rw [(mkS_ok B n).2.2, decide_eq_false (by omega), Bool.false_or]
theorem mk_back {R : Nat → Int × Bool} {n i : Nat} (h : RdOk R n) (hi : i < n) : rdF (mkX R n) (knB (mkS (mkB R) n)) i = R i := by
  rw [rdF, mkS_kn hi, mkX_at hi, (Fl.lev_sm (h.few i hi)).1]
  cases hb : mkB R i with
  | true => rw [if_pos rfl, ← hb]; rfl
  | false =>
    have hb : (R i).2 = false := hb
    rw [if_neg (by decide), ← hb]
    exact Prod.ext (h.zero i hi hb).symm rfl
theorem mk_isRun {R : Nat → Int × Bool} {n : Nat} (h9 : n ≤ 100000) : isRun (mkX R n) (mkS (mkB R) n) n (mkK (mkB R) n) (flts (mkX R n)) (ints (mkS (mkB R) n)) := by
  obtain ⟨l1, l2⟩ := mkS_len (mkB R) n
  exact ⟨rfl, rfl, mkX_len R n, h9, l1, by omega⟩
theorem nz_zero : nzB (smO 0) = false := by
  obtain ⟨h1, h2⟩ := Fl.lev_sm (n := 0) (by decide)
  rw [nzB, Fl.nz_lev (Fl.smp h2), h1]; rfl
theorem mk_runE {nm : ByteArray} {f : Int} {n : Nat} {R : Nat → Int × Bool} (h : RdOk R n) (h1 : nameB nm = true) (h2 : 0 ≤ f ∧ f ≤ 100000000) (h3 : n ≤ 4096) (h4 : f + n ≤ 100000000) : runE nm f (mkX R n) n (mkS (mkB R) n) = 0 := by
  have c1 : fi [wh (!nameB nm) 8, wi f 0 100000000, wh (decide ((4096 : Int) < n)) 5] = 0 := by
    rw [h1, wi_zero.2 h2, decide_eq_false (by omega)]; rfl
  have c2 : fi [fi ((mkX R n).map sE), wh (decide ((100000000 : Int) < f + n)) 4] = 0 := by
    rw [mkX_fi h.few, decide_eq_false (by omega)]; rfl
  have c3 : hzH (mkX R n) (mkS (mkB R) n) = true := by
    have hh := mkS_hchk (mkB R) n
    rw [← mkX_len R n] at hh
    refine (hz_iff _ _ (by rw [mkX_len] at hh ⊢; exact hh)).2 fun j hj hn => ?_
    rw [mkX_len] at hj
    rw [mkS_kn hj]
    rw [mkX_at hj] at hn
    cases hb : mkB R j with
    | true => rfl
    | false => rw [h.zero j hj hb, nz_zero] at hn; cases hn
  rw [runE, c1, c2, mkS_hchk, c3]; rfl
end
end Qq
end
