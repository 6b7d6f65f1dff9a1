/- Parts of the proof: RV, RW, RY. -/
import Derived.Test.YtaigknknfaeajaaGreatDoorZV
import Derived.Test.YtaigknknfaeajaaGreatDoorRG
section
/- A run with other values: scaled. -/
open Go Go.Vm Go.Proofs Sp
namespace Sp
noncomputable section
/-- Readings, of which the first s known ones are changed. -/
noncomputable def chR (R : Nat → Int × Bool) (g : Nat → Int → Int) (s : Nat) (k : Nat) : Int × Bool := if (decide (k < s) && (R k).2) = true then (g k (R k).1, true) else R k
def ngI (_ : Nat) (v : Int) : Int := -v
end
end Sp
namespace Qq
noncomputable section
theorem rn1_t (a : Int) (K : Value → Heap → Prop) :
    (fnP Tryz.prog c0 h0 (177 : FuncId) [Value.int IntKind.i64 a, Value.int IntKind.i64 (1 : Int)] [] K) =
    (Is ((2 : Int) ≠ (0 : Int)) ∧ br (decide (IntKind.wrap IntKind.i64 (IntKind.wrap IntKind.i64 ((2 : Int) * a) + (1 : Int)) < IntKind.wrap IntKind.i64 (IntKind.wrap IntKind.i64 (Int.tdiv (IntKind.wrap IntKind.i64 (IntKind.wrap IntKind.i64 ((2 : Int) * a) + (1 : Int))) (2 : Int)) * (2 : Int)))) (K (Value.int IntKind.i64 (IntKind.wrap IntKind.i64 (IntKind.wrap IntKind.i64 (Int.tdiv (IntKind.wrap IntKind.i64 (IntKind.wrap IntKind.i64 ((2 : Int) * a) + (1 : Int))) (2 : Int)) - (1 : Int)))) noH) (K (Value.int IntKind.i64 (IntKind.wrap IntKind.i64 (Int.tdiv (IntKind.wrap IntKind.i64 (IntKind.wrap IntKind.i64 ((2 : Int) * a) + (1 : Int))) (2 : Int)))) noH)) := by kernel_rfl
noncomputable def orcRn1 : OrcV
  | [.int .i64 a, .int .i64 b], [] => some (.int .i64 a, [], b = 1 ∧ a.natAbs ≤ 100000)
  | _, _ => none
theorem okRn1 : OkV Tryz.prog 177 orcRn1 := by
  intro args H ret H' vc h hv
  unfold orcRn1 at h
  split at h
  · rename_i a b
    cases h
    obtain ⟨rfl, hb⟩ := hv
    refine fnP_res hm c0_ok (hs := h0) ?_
    rw [rn1_t, wrap_eq (x := 2 * a) (by omega) (by omega), wrap_eq (x := 2 * a + 1) (by omega) (by omega)]
    have hq : (2 * a + 1).tdiv 2 = if 0 ≤ a then a else a + 1 := by
      split
      · rw [Int.tdiv_eq_ediv_of_nonneg (by omega)]; omega
      · have := Int.neg_tdiv (2 * a + 1) 2
        have h2 : (-(2 * a + 1)).tdiv 2 = -a - 1 := by rw [Int.tdiv_eq_ediv_of_nonneg (by omega)]; omega
        omega
    simp only [hq]
    by_cases h0 : 0 ≤ a
    · simp only [if_pos h0, wrap_eq (x := a) (by omega) (by omega), wrap_eq (x := a * 2) (by omega) (by omega)]
      exact ⟨⟨by decide⟩, br_of (fun h => by have := of_decide_eq_true h; omega) (fun _ => ⟨by first | trivial | rfl, by first | trivial | rfl⟩)⟩
    · have e1 : a + 1 - 1 = a := by omega
      simp only [if_neg h0, wrap_eq (x := a + 1) (by omega) (by omega), wrap_eq (x := (a + 1) * 2) (by omega) (by omega), e1, wrap_eq (x := a) (by omega) (by omega)]
      exact ⟨⟨by decide⟩, br_of (fun h => ⟨by first | trivial | rfl, by first | trivial | rfl⟩) (fun h => by have := of_decide_eq_false h; omega)⟩
  · cases h
noncomputable def hsSc1 : Hs Tryz.prog where
  au := auCalls [(177, hCa Tryz.prog 177 orcRn1 okRn1)]
noncomputable def bxI (a : Int) : Option AObj := some (.row [.int .i64 a] 0 false true true)
theorem sc1_t (i : Int) (v : Int) (p : Int) (q : Int) (K : Value → Heap → Prop) :
    (fnP Tryz.prog c0 hsSc1 (176 : FuncId) [Value.int IntKind.i64 i, Value.int IntKind.i64 v, Value.pointer (some { block := (0 : Nat), off := (0 : Nat) }), Value.pointer (some { block := (1 : Nat), off := (0 : Nat) })] [bxI p, bxI q] K) =
    (Is (q = (1 : Int) ∧ Int.natAbs (IntKind.wrap IntKind.i64 (v * p)) ≤ (100000 : Nat)) ∧ K (Value.int IntKind.i64 (IntKind.wrap IntKind.i64 (v * p))) (some (AObj.row [Value.int IntKind.i64 p] (0 : Nat) false true true) :: some (AObj.row [Value.int IntKind.i64 q] (0 : Nat) false true true) :: noH)) := by kernel_rfl
noncomputable def orcSc1 : OrcV
  | [.int .i64 _, .int .i64 v, .pointer (some ⟨0, 0, none⟩), .pointer (some ⟨1, 0, none⟩)], [some (.row [.int .i64 p] 0 false true true), some (.row [.int .i64 q] 0 false true true)] =>
    some (.int .i64 (-v), [bxI p, bxI q], p = -1 ∧ q = 1 ∧ v.natAbs ≤ 100000)
  | _, _ => none
theorem okSc1 : OkV Tryz.prog 176 orcSc1 := by
  intro args H ret H' vc h hv
  unfold orcSc1 at h
  split at h
  · rename_i i v p q
    cases h
    obtain ⟨rfl, rfl, hb⟩ := hv
    refine fnP_res hm c0_ok (hs := hsSc1) ?_
    show fnP Tryz.prog c0 hsSc1 176 _ [bxI (-1), bxI 1] _
    rw [sc1_t, show v * -1 = -v by omega, wrap_eq (x := -v) (by omega) (by omega)]
    exact ⟨⟨rfl, by omega⟩, by first | trivial | rfl, by first | trivial | rfl⟩
  · cases h
theorem lgS_t (a : Int) (K : Value → Heap → Prop) :
    (fnP Tryz.prog c0 h0 (218 : FuncId) [Value.int IntKind.i64 a] [] K) =
    (br (decide (a < (-16384 : Int))) (K (Value.bool true) noH) (K (Value.bool (decide ((16384 : Int) < a))) noH)) := by kernel_rfl
noncomputable def orcLgS : Orc
  | [.int .i64 a], [] => some (.bool (decide (a < -16384) || decide (16384 < a)), [])
  | _, _ => none
theorem okLgS0 : Ok Tryz.prog 218 orcLgS := by
  intro args H ret H' h
  unfold orcLgS at h
  split at h
  · cases h
    refine fnP_res hm c0_ok (hs := h0) ?_
    rw [lgS_t]
    refine br_of (fun h => ?_) (fun h => ?_)
    · rw [h]; exact ⟨by first | trivial | rfl, by first | trivial | rfl⟩
    · rw [h]; exact ⟨by first | trivial | rfl, by first | trivial | rfl⟩
  · cases h
noncomputable def cLg : CallF := ctx Tryz.prog [(218, orcLgS)]
theorem cLg_ok : CallOK Tryz.prog cLg := ctx_ok hm (all_cons okLgS0 all_nil)
noncomputable def cloN : Value := .func (.func 176) #[] #[.pointer (some ⟨2, 0, none⟩), .pointer (some ⟨3, 0, none⟩)]
noncomputable def exN  : Heap := [bxI (-1), bxI 1]
noncomputable def lpCN (nm : ByteArray) (f : Int) (n c k d : Nat) (xs : List Nat) (hs : List Int)  : Lp where
  σ := Nat
  E s := slots 41 [(1, cloN), (2, .pointer (some ⟨4, 0, none⟩)), (4, .pointer (some ⟨5, 0, none⟩)), (6, .slice (some ⟨6, 0, none⟩) n 0), (11, .slice (some ⟨6, 0, none⟩) n 0), (12, .int .i64 (Int.ofNat n)), (13, .int .i64 (Int.ofNat s))]
  Hp s := hp2r xs hs true true true true (exN  ++ [runO nm f n c k d, some (.row zrun 0 false true true), rdR n (chR (rdF xs (knB hs)) ngI s)])
  I s := s ≤ n
  m s := n - s
noncomputable def hsCN (nm : ByteArray) (f : Int) (n c k d : Nat) (xs : List Nat) (hs : List Int)  : Hs Tryz.prog where
  op y := if [401, 607, 702].contains y then some (hIa Tryz.prog) else if y = 402 then some (hLd Tryz.prog (zR (rdF xs (knB hs)))) else if y = 606 then some (hCa Tryz.prog 176 orcSc1 okSc1) else if y = 609 then some (hSp Tryz.prog) else if y = 704 then some (hLc Tryz.prog gI) else none
  lp _ := some (lpCN nm f n c k d xs hs )
  cl _ := keep 41 [1, 2, 4, 6, 11, 12, 13]
  au := auCalls [(170, hCa Tryz.prog 170 (orcRr xs hs) (okRr xs hs)), (172, hCa Tryz.prog 172 (orcWi xs hs (chR (rdF xs (knB hs)) ngI n)) (okWi xs hs (chR (rdF xs (knB hs)) ngI n)))]
theorem chN_t (nm : ByteArray) (f : Int) (n : Nat) (c : Nat) (k : Nat) (d : Nat) (xs : List Nat) (hs : List Int) (K : Value → Heap → Prop) :
    (fnP Tryz.prog cLg (hsCN nm f n c k d xs hs) (175 : FuncId) [Value.agg (List.toArray (runA nm f (0 : Nat) n c (1 : Nat) k d)), cloN] (hp2r xs hs true true true true exN) K) =
    (Is (isRun xs hs n k (flts xs) (ints hs) ∧ fi (List.map sE xs) = (0 : Int) ∧ hchk (↑n : Int) hs (-1 : Int) = (0 : Int)) ∧ (∃ (s : Nat), Is (s ≤ n) ∧ [poi, Value.func (Fn.func (176 : Nat)) #[] #[Value.pointer (some { block := (2 : Nat), off := (0 : Nat) }), Value.pointer (some { block := (3 : Nat), off := (0 : Nat) })], Value.pointer (some { block := (4 : Nat), off := (0 : Nat) }), poi, Value.pointer (some { block := (5 : Nat), off := (0 : Nat) }), poi, Value.slice (some { block := (6 : Nat), off := (0 : Nat) }) n (0 : Nat), poi, poi, poi, poi, Value.slice (some { block := (6 : Nat), off := (0 : Nat) }) n (0 : Nat), Value.int IntKind.i64 (↑n : Int), Value.int IntKind.i64 (0 : Int), poi, poi, poi, poi, poi, poi, poi, poi, poi, poi, poi, poi, poi, poi, poi, poi, poi, poi, poi, poi, poi, poi, poi, poi, poi, poi, poi] = [poi, Value.func (Fn.func (176 : Nat)) #[] #[Value.pointer (some { block := (2 : Nat), off := (0 : Nat) }), Value.pointer (some { block := (3 : Nat), off := (0 : Nat) })], Value.pointer (some { block := (4 : Nat), off := (0 : Nat) }), poi, Value.pointer (some { block := (5 : Nat), off := (0 : Nat) }), poi, Value.slice (some { block := (6 : Nat), off := (0 : Nat) }) n (0 : Nat), poi, poi, poi, poi, Value.slice (some { block := (6 : Nat), off := (0 : Nat) }) n (0 : Nat), Value.int IntKind.i64 (↑n : Int), Value.int IntKind.i64 (↑s : Int), poi, poi, poi, poi, poi, poi, poi, poi, poi, poi, poi, poi, poi, poi, poi, poi, poi, poi, poi, poi, poi, poi, poi, poi, poi, poi, poi] ∧ some (AObj.row (flts xs) (1 : Nat) true true true) :: some (AObj.row (ints hs) (2 : Nat) true true true) :: some (AObj.row [Value.int IntKind.i64 (-1 : Int)] (0 : Nat) false true true) :: some (AObj.row [Value.int IntKind.i64 (1 : Int)] (0 : Nat) false true true) :: some (AObj.row [Value.string nm, Value.int IntKind.i64 f, Value.slice (some { block := (0 : Nat), off := (0 : Nat) }) n c, Value.slice (some { block := (1 : Nat), off := (0 : Nat) }) k d] (0 : Nat) false true (List.all [Value.string nm, Value.int IntKind.i64 f, Value.slice (some { block := (0 : Nat), off := (0 : Nat) }) n c, Value.slice (some { block := (1 : Nat), off := (0 : Nat) }) k d] atom)) :: some (AObj.row [Value.string { data := #[] }, Value.int IntKind.i64 (0 : Int), Value.slice none (0 : Nat) (0 : Nat), Value.slice none (0 : Nat) (0 : Nat)] (0 : Nat) false true true) :: some (AObj.row (rdc n (rdF xs (knB hs))) (2 : Nat) true true true) :: noH = some (AObj.row (flts xs) (1 : Nat) true true true) :: some (AObj.row (ints hs) (2 : Nat) true true true) :: some (AObj.row [Value.int IntKind.i64 (-1 : Int)] (0 : Nat) false true true) :: some (AObj.row [Value.int IntKind.i64 (1 : Int)] (0 : Nat) false true true) :: some (AObj.row [Value.string nm, Value.int IntKind.i64 f, Value.slice (some { block := (0 : Nat), off := (0 : Nat) }) n c, Value.slice (some { block := (1 : Nat), off := (0 : Nat) }) k d] (0 : Nat) false true false) :: some (AObj.row [Value.string { data := #[] }, Value.int IntKind.i64 (0 : Int), Value.slice none (0 : Nat) (0 : Nat), Value.slice none (0 : Nat) (0 : Nat)] (0 : Nat) false true true) :: some (AObj.row (rdc n (chR (rdF xs (knB hs)) ngI s)) (2 : Nat) true true true) :: noH) ∧ ∀ (s : Nat), Is (s ≤ n) → br (decide ((↑s : Int) < (↑n : Int))) (Is ((0 : Int) ≤ (↑s : Int) ∧ (↑s : Int) < (↑n : Int)) ∧ Is ((if (0 : Nat) + Int.toNat (↑s : Int) * (2 : Nat) + (2 : Nat) ≤ List.length (rdc n (chR (rdF xs (knB hs)) ngI s)) then some (Value.agg (List.toArray (List.take (2 : Nat) (List.drop ((0 : Nat) + Int.toNat (↑s : Int) * (2 : Nat)) (rdc n (chR (rdF xs (knB hs)) ngI s)))))) else none) = some (Value.agg #[Value.int IntKind.i64 (rdV (rdF xs (knB hs)) ((0 : Nat) + Int.toNat (↑s : Int) * (2 : Nat))), Value.bool (rdW (rdF xs (knB hs)) ((0 : Nat) + Int.toNat (↑s : Int) * (2 : Nat)))])) ∧ br (!rdW (rdF xs (knB hs)) ((0 : Nat) + Int.toNat (↑s : Int) * (2 : Nat))) (∃ (s' : Nat), Is (s' ≤ n) ∧ Is (n - s' < n - s) ∧ [poi, Value.func (Fn.func (176 : Nat)) #[] #[Value.pointer (some { block := (2 : Nat), off := (0 : Nat) }), Value.pointer (some { block := (3 : Nat), off := (0 : Nat) })], Value.pointer (some { block := (4 : Nat), off := (0 : Nat) }), poi, Value.pointer (some { block := (5 : Nat), off := (0 : Nat) }), poi, Value.slice (some { block := (6 : Nat), off := (0 : Nat) }) n (0 : Nat), poi, poi, poi, poi, Value.slice (some { block := (6 : Nat), off := (0 : Nat) }) n (0 : Nat), Value.int IntKind.i64 (↑n : Int), Value.int IntKind.i64 (IntKind.wrap IntKind.i64 ((↑s : Int) + (1 : Int))), poi, poi, poi, poi, poi, poi, poi, poi, poi, poi, poi, poi, poi, poi, poi, poi, poi, poi, poi, poi, poi, poi, poi, poi, poi, poi, poi] = [poi, Value.func (Fn.func (176 : Nat)) #[] #[Value.pointer (some { block := (2 : Nat), off := (0 : Nat) }), Value.pointer (some { block := (3 : Nat), off := (0 : Nat) })], Value.pointer (some { block := (4 : Nat), off := (0 : Nat) }), poi, Value.pointer (some { block := (5 : Nat), off := (0 : Nat) }), poi, Value.slice (some { block := (6 : Nat), off := (0 : Nat) }) n (0 : Nat), poi, poi, poi, poi, Value.slice (some { block := (6 : Nat), off := (0 : Nat) }) n (0 : Nat), Value.int IntKind.i64 (↑n : Int), Value.int IntKind.i64 (↑s' : Int), poi, poi, poi, poi, poi, poi, poi, poi, poi, poi, poi, poi, poi, poi, poi, poi, poi, poi, poi, poi, poi, poi, poi, poi, poi, poi, poi] ∧ some (AObj.row (flts xs) (1 : Nat) true true true) :: some (AObj.row (ints hs) (2 : Nat) true true true) :: some (AObj.row [Value.int IntKind.i64 (-1 : Int)] (0 : Nat) false true true) :: some (AObj.row [Value.int IntKind.i64 (1 : Int)] (0 : Nat) false true true) :: some (AObj.row [Value.string nm, Value.int IntKind.i64 f, Value.slice (some { block := (0 : Nat), off := (0 : Nat) }) n c, Value.slice (some { block := (1 : Nat), off := (0 : Nat) }) k d] (0 : Nat) false true false) :: some (AObj.row [Value.string { data := #[] }, Value.int IntKind.i64 (0 : Int), Value.slice none (0 : Nat) (0 : Nat), Value.slice none (0 : Nat) (0 : Nat)] (0 : Nat) false true true) :: some (AObj.row (rdc n (chR (rdF xs (knB hs)) ngI s)) (2 : Nat) true true true) :: noH = some (AObj.row (flts xs) (1 : Nat) true true true) :: some (AObj.row (ints hs) (2 : Nat) true true true) :: some (AObj.row [Value.int IntKind.i64 (-1 : Int)] (0 : Nat) false true true) :: some (AObj.row [Value.int IntKind.i64 (1 : Int)] (0 : Nat) false true true) :: some (AObj.row [Value.string nm, Value.int IntKind.i64 f, Value.slice (some { block := (0 : Nat), off := (0 : Nat) }) n c, Value.slice (some { block := (1 : Nat), off := (0 : Nat) }) k d] (0 : Nat) false true false) :: some (AObj.row [Value.string { data := #[] }, Value.int IntKind.i64 (0 : Int), Value.slice none (0 : Nat) (0 : Nat), Value.slice none (0 : Nat) (0 : Nat)] (0 : Nat) false true true) :: some (AObj.row (rdc n (chR (rdF xs (knB hs)) ngI s')) (2 : Nat) true true true) :: noH) (Is ((-1 : Int) = (-1 : Int) ∧ (1 : Int) = (1 : Int) ∧ Int.natAbs (rdV (rdF xs (knB hs)) ((0 : Nat) + Int.toNat (↑s : Int) * (2 : Nat))) ≤ (100000 : Nat)) ∧ Is ((0 : Int) ≤ (↑s : Int) ∧ (↑s : Int) < (↑n : Int)) ∧ Is ((0 : Nat) + Int.toNat (↑s : Int) * (2 : Nat) + (0 : Nat) + List.length [Value.int IntKind.i64 (-rdV (rdF xs (knB hs)) ((0 : Nat) + Int.toNat (↑s : Int) * (2 : Nat)))] ≤ List.length (rdc n (chR (rdF xs (knB hs)) ngI s))) ∧ Is ((0 : Int) ≤ (↑s : Int) ∧ (↑s : Int) < (↑n : Int)) ∧ Is ((putL (rdc n (chR (rdF xs (knB hs)) ngI s)) ((0 : Nat) + Int.toNat (↑s : Int) * (2 : Nat) + (0 : Nat)) [Value.int IntKind.i64 (-rdV (rdF xs (knB hs)) ((0 : Nat) + Int.toNat (↑s : Int) * (2 : Nat)))])[(0 : Nat) + Int.toNat (↑s : Int) * (2 : Nat) + (0 : Nat)]? = some (Value.int IntKind.i64 (iAt (putL (rdc n (chR (rdF xs (knB hs)) ngI s)) ((0 : Nat) + Int.toNat (↑s : Int) * (2 : Nat) + (0 : Nat)) [Value.int IntKind.i64 (-rdV (rdF xs (knB hs)) ((0 : Nat) + Int.toNat (↑s : Int) * (2 : Nat)))]) ((0 : Nat) + Int.toNat (↑s : Int) * (2 : Nat) + (0 : Nat))))) ∧ br (decide (iAt (putL (rdc n (chR (rdF xs (knB hs)) ngI s)) ((0 : Nat) + Int.toNat (↑s : Int) * (2 : Nat) + (0 : Nat)) [Value.int IntKind.i64 (-rdV (rdF xs (knB hs)) ((0 : Nat) + Int.toNat (↑s : Int) * (2 : Nat)))]) ((0 : Nat) + Int.toNat (↑s : Int) * (2 : Nat) + (0 : Nat)) < (-16384 : Int)) || decide ((16384 : Int) < iAt (putL (rdc n (chR (rdF xs (knB hs)) ngI s)) ((0 : Nat) + Int.toNat (↑s : Int) * (2 : Nat) + (0 : Nat)) [Value.int IntKind.i64 (-rdV (rdF xs (knB hs)) ((0 : Nat) + Int.toNat (↑s : Int) * (2 : Nat)))]) ((0 : Nat) + Int.toNat (↑s : Int) * (2 : Nat) + (0 : Nat)))) (K (Value.tuple #[Value.agg #[Value.string { data := #[] }, Value.int IntKind.i64 (0 : Int), Value.slice none (0 : Nat) (0 : Nat), Value.slice none (0 : Nat) (0 : Nat)], Value.int IntKind.i64 (4 : Int)]) (some (AObj.row (flts xs) (1 : Nat) true true true) :: some (AObj.row (ints hs) (2 : Nat) true true true) :: some (AObj.row [Value.int IntKind.i64 (-1 : Int)] (0 : Nat) false true true) :: some (AObj.row [Value.int IntKind.i64 (1 : Int)] (0 : Nat) false true true) :: noH)) (∃ (s' : Nat), Is (s' ≤ n) ∧ Is (n - s' < n - s) ∧ [poi, Value.func (Fn.func (176 : Nat)) #[] #[Value.pointer (some { block := (2 : Nat), off := (0 : Nat) }), Value.pointer (some { block := (3 : Nat), off := (0 : Nat) })], Value.pointer (some { block := (4 : Nat), off := (0 : Nat) }), poi, Value.pointer (some { block := (5 : Nat), off := (0 : Nat) }), poi, Value.slice (some { block := (6 : Nat), off := (0 : Nat) }) n (0 : Nat), poi, poi, poi, poi, Value.slice (some { block := (6 : Nat), off := (0 : Nat) }) n (0 : Nat), Value.int IntKind.i64 (↑n : Int), Value.int IntKind.i64 (IntKind.wrap IntKind.i64 ((↑s : Int) + (1 : Int))), poi, poi, poi, poi, poi, poi, poi, poi, poi, poi, poi, poi, poi, poi, poi, poi, poi, poi, poi, poi, poi, poi, poi, poi, poi, poi, poi] = [poi, Value.func (Fn.func (176 : Nat)) #[] #[Value.pointer (some { block := (2 : Nat), off := (0 : Nat) }), Value.pointer (some { block := (3 : Nat), off := (0 : Nat) })], Value.pointer (some { block := (4 : Nat), off := (0 : Nat) }), poi, Value.pointer (some { block := (5 : Nat), off := (0 : Nat) }), poi, Value.slice (some { block := (6 : Nat), off := (0 : Nat) }) n (0 : Nat), poi, poi, poi, poi, Value.slice (some { block := (6 : Nat), off := (0 : Nat) }) n (0 : Nat), Value.int IntKind.i64 (↑n : Int), Value.int IntKind.i64 (↑s' : Int), poi, poi, poi, poi, poi, poi, poi, poi, poi, poi, poi, poi, poi, poi, poi, poi, poi, poi, poi, poi, poi, poi, poi, poi, poi, poi, poi] ∧ some (AObj.row (flts xs) (1 : Nat) true true true) :: some (AObj.row (ints hs) (2 : Nat) true true true) :: some (AObj.row [Value.int IntKind.i64 (-1 : Int)] (0 : Nat) false true true) :: some (AObj.row [Value.int IntKind.i64 (1 : Int)] (0 : Nat) false true true) :: some (AObj.row [Value.string nm, Value.int IntKind.i64 f, Value.slice (some { block := (0 : Nat), off := (0 : Nat) }) n c, Value.slice (some { block := (1 : Nat), off := (0 : Nat) }) k d] (0 : Nat) false true false) :: some (AObj.row [Value.string { data := #[] }, Value.int IntKind.i64 (0 : Int), Value.slice none (0 : Nat) (0 : Nat), Value.slice none (0 : Nat) (0 : Nat)] (0 : Nat) false true true) :: some (AObj.row (putL (rdc n (chR (rdF xs (knB hs)) ngI s)) ((0 : Nat) + Int.toNat (↑s : Int) * (2 : Nat) + (0 : Nat)) [Value.int IntKind.i64 (-rdV (rdF xs (knB hs)) ((0 : Nat) + Int.toNat (↑s : Int) * (2 : Nat)))]) (2 : Nat) true true (true && List.all [Value.int IntKind.i64 (-rdV (rdF xs (knB hs)) ((0 : Nat) + Int.toNat (↑s : Int) * (2 : Nat)))] atom)) :: noH = some (AObj.row (flts xs) (1 : Nat) true true true) :: some (AObj.row (ints hs) (2 : Nat) true true true) :: some (AObj.row [Value.int IntKind.i64 (-1 : Int)] (0 : Nat) false true true) :: some (AObj.row [Value.int IntKind.i64 (1 : Int)] (0 : Nat) false true true) :: some (AObj.row [Value.string nm, Value.int IntKind.i64 f, Value.slice (some { block := (0 : Nat), off := (0 : Nat) }) n c, Value.slice (some { block := (1 : Nat), off := (0 : Nat) }) k d] (0 : Nat) false true false) :: some (AObj.row [Value.string { data := #[] }, Value.int IntKind.i64 (0 : Int), Value.slice none (0 : Nat) (0 : Nat), Value.slice none (0 : Nat) (0 : Nat)] (0 : Nat) false true true) :: some (AObj.row (rdc n (chR (rdF xs (knB hs)) ngI s')) (2 : Nat) true true true) :: noH))) (Is (isRun xs hs n k (flts xs) (ints hs) ∧ rdc n (chR (rdF xs (knB hs)) ngI s) = rdc n (chR (rdF xs (knB hs)) ngI n) ∧ n ≤ (100000 : Nat) ∧ ∀ (i : Nat), i < n → Int.natAbs (Prod.fst (chR (rdF xs (knB hs)) ngI n i)) < (2 : Nat) ^ (24 : Nat)) ∧ K (Value.tuple #[Value.agg #[Value.string nm, Value.int IntKind.i64 f, Value.slice (some { block := (4 : Nat), off := (0 : Nat) }) n (0 : Nat), Value.slice (some { block := (5 : Nat), off := (0 : Nat) }) (mkK (mkB (chR (rdF xs (knB hs)) ngI n)) n) (0 : Nat)], Value.int IntKind.i64 (0 : Int)]) (some (AObj.row (flts xs) (1 : Nat) true true true) :: some (AObj.row (ints hs) (2 : Nat) true true true) :: some (AObj.row [Value.int IntKind.i64 (-1 : Int)] (0 : Nat) false true true) :: some (AObj.row [Value.int IntKind.i64 (1 : Int)] (0 : Nat) false true true) :: some (AObj.row (flts (mkX (chR (rdF xs (knB hs)) ngI n) n)) (1 : Nat) true true true) :: some (AObj.row (ints (mkS (mkB (chR (rdF xs (knB hs)) ngI n)) n)) (2 : Nat) true true true) :: noH))) := by kernel_rfl
theorem rdc_put1 {n i : Nat} {R : Nat → Int × Bool} {v : Int} (h : i < n) : putL (rdc n R) (i * 2) [.int .i64 v] = rdc n (upR R i (v, (R i).2)) := by
  rw [← rdc_put h]
  obtain ⟨t, h1, h2⟩ := rdc_cut (R := R) h
  have hl := rdc_len i R
  have e1 : List.take (i * 2) (rdc i R ++ (rC (R i) ++ t)) = rdc i R := by rw [← hl, List.take_left]
  have e2 : ∀ {k : Nat} {l : List Value}, i * 2 + k = (rdc i R ++ l).length → ∀ t', List.drop (i * 2 + k) (rdc i R ++ (l ++ t')) = t' := fun {k l} hk t' => by rw [hk, ← List.append_assoc, List.drop_left]
  rw [putL, putL, splice, splice, h1, e1]
  have e3 : List.drop (i * 2 + (rC (v, (R i).2)).length) (rdc i R ++ (rC (R i) ++ t)) = t := e2 (by rw [List.length_append, hl]; rfl) t
  have e4 : List.drop (i * 2 + [Value.int .i64 v].length) (rdc i R ++ (rC (R i) ++ t)) = .bool (R i).2 :: t := e2 (l := [.int .i64 (R i).1]) (by rw [List.length_append, hl]; rfl) (.bool (R i).2 :: t)
  rw [e3, e4]; rfl
theorem chR_skip {R : Nat → Int × Bool} {g : Nat → Int → Int} {s n : Nat} (h : (R s).2 = false) : rdc n (chR R g s) = rdc n (chR R g (s + 1)) := rdc_congr fun i _ => by
  rw [chR, chR]
  by_cases e : i = s
  · subst e; rw [h, Bool.and_false, Bool.and_false]
  · rw [show decide (i < s) = decide (i < s + 1) from decide_eq_decide.2 (by omega)]
theorem chR_at {R : Nat → Int × Bool} {g : Nat → Int → Int} {s : Nat} : chR R g s s = R s := by rw [chR, decide_eq_false (Nat.lt_irrefl s)]; rfl
theorem chR_step {R : Nat → Int × Bool} {g : Nat → Int → Int} {s n : Nat} (h : (R s).2 = true) : rdc n (upR (chR R g s) s (g s (R s).1, true)) = rdc n (chR R g (s + 1)) := rdc_congr fun i _ => by
  rw [upR, chR, chR]
  by_cases e : i = s
  · subst e; rw [if_pos rfl, h, decide_eq_true (Nat.lt_succ_self i)]; rfl
  · rw [if_neg e, show decide (i < s) = decide (i < s + 1) from decide_eq_decide.2 (by omega)]
theorem chR_few {R : Nat → Int × Bool} {g : Nat → Int → Int} {s i : Nat} (h : (R i).1.natAbs ≤ 16384) (hg : (R i).2 = true → (g i (R i).1).natAbs ≤ 16384) : (chR R g s i).1.natAbs ≤ 16384 := by
  rw [chR]
  split
  · rename_i e; exact hg (Bool.and_eq_true_iff.1 e).2
  · exact h
set_option maxRecDepth 100000 in
theorem chN_ok {nm : ByteArray} {f : Int} {n c k d : Nat} {xs : List Nat} {hs : List Int} (hi : isRun xs hs n k (flts xs) (ints hs)) (hx : fi (xs.map sE) = 0) (hh : hchk n hs (-1) = 0) (hg : ∀ i, i < n → (rdF xs (knB hs) i).2 = true → (ngI i (rdF xs (knB hs) i).1).natAbs ≤ 16384) :
    SmallRes Tryz.prog 175 [.agg (runA nm f 0 n c 1 k d).toArray, cloN] (hp2r xs hs true true true true (exN )) (.tuple #[.agg (runA nm f 4 n 0 5 (mkK (mkB (chR (rdF xs (knB hs)) ngI n)) n) 0).toArray, .int .i64 0]) (hp2r xs hs true true true true (exN  ++ wiR (chR (rdF xs (knB hs)) ngI n) n)) := by
  refine fnP_res hm cLg_ok (hs := hsCN nm f n c k d xs hs ) ?_
  rw [chN_t]
  have hi' := hi
  obtain ⟨_, _, hn, h9, _, _⟩ := hi'
  have few : ∀ i, i < n → (rdF xs (knB hs) i).1.natAbs ≤ 16384 := fun i h => rdF_few hx (by omega)
  have e0 : rdc n (chR (rdF xs (knB hs)) ngI 0) = rdc n (rdF xs (knB hs)) := rdc_congr fun i _ => by rw [chR, decide_eq_false (Nat.not_lt_zero i)]; rfl
  refine ⟨⟨hi, hx, hh⟩, ⟨(0 : Nat), ⟨Nat.zero_le _⟩, by first | trivial | rfl, by rw [e0]; first | done | trivial | rfl⟩, fun s hs' => br_of (fun hc => ?_) (fun hc => ?_)⟩
  · have hc := lt_of_dec hc
    simp only [Nat.zero_add, Nat.add_zero, Int.toNat_natCast, rdV_at, rdW_at]
    have t1 := rdc_take (R := chR (rdF xs (knB hs)) ngI s) hc
    rw [chR_at] at t1
    have fs := few s hc
    have gs := hg s hc
    refine ⟨⟨by omega, by omega⟩, ⟨t1⟩, br_of (fun hk => ?_) (fun hk => ?_)⟩
    · have hk : (rdF xs (knB hs) s).2 = false := by simpa using hk
      refine ⟨s + 1, ⟨hc⟩, ⟨by omega⟩, by rw [up1 hc (by omega)], by rw [chR_skip hk]⟩
    · have hk : (rdF xs (knB hs) s).2 = true := by simpa using hk
      have gs := gs hk
      have p1 : putL (rdc n (chR (rdF xs (knB hs)) ngI s)) (s * 2) [.int .i64 (-(rdF xs (knB hs) s).1)] = rdc n (chR (rdF xs (knB hs)) ngI (s + 1)) := by
        rw [rdc_put1 hc, chR_at, hk]
        exact chR_step hk
      have i1 := rdc_int (R := chR (rdF xs (knB hs)) ngI (s + 1)) hc
      have i2 : (chR (rdF xs (knB hs)) ngI (s + 1) s).1 = -(rdF xs (knB hs) s).1 := by rw [chR, hk, decide_eq_true (Nat.lt_succ_self s)]; rfl
      have i3 : iAt (rdc n (chR (rdF xs (knB hs)) ngI (s + 1))) (s * 2) = -(rdF xs (knB hs) s).1 := by rw [iAt, i1, i2]
      have gs : (-(rdF xs (knB hs) s).1).natAbs ≤ 16384 := gs
      rw [p1, i3]
      refine ⟨⟨⟨trivial, trivial, by omega⟩⟩, ⟨by omega, by omega⟩, ⟨by rw [rdc_len]; simp only [List.length_cons, List.length_nil]; omega⟩, ⟨by omega, by omega⟩, ⟨by rw [i1, i2]⟩, br_of (fun h => ?_) (fun _ => ⟨s + 1, ⟨hc⟩, ⟨by omega⟩, by rw [up1 hc (by omega)], by first | trivial | rfl⟩)⟩
      rw [decide_eq_false (by omega), decide_eq_false (by omega)] at h
      cases h
  · have hc := ge_of_dec hc
    have : s = n := by have := hs'.out; omega
    subst this
    exact ⟨⟨hi, rfl, h9, fun i hlt => Nat.lt_of_le_of_lt (chR_few (few i hlt) (hg i hlt)) (by decide)⟩, by first | trivial | rfl, by first | trivial | rfl⟩
noncomputable def orcChN (xs : List Nat) (hs : List Int) : OrcV
  | [.agg ⟨[.string nm, .int .i64 f, .slice (some ⟨0, 0, none⟩) n _, .slice (some ⟨1, 0, none⟩) k _]⟩, .func (.func 176) ⟨[]⟩ ⟨[.pointer (some ⟨2, 0, none⟩), .pointer (some ⟨3, 0, none⟩)]⟩], [some (.row e1 1 true true true), some (.row e2 2 true true true), some (.row [.int .i64 p] 0 false true true), some (.row [.int .i64 q] 0 false true true)] =>
    some (.tuple #[.agg (runA nm f 4 n 0 5 (mkK (mkB (chR (rdF xs (knB hs)) ngI n)) n) 0).toArray, .int .i64 0], some (.row e1 1 true true true) :: some (.row e2 2 true true true) :: bxI p :: bxI q :: wiR (chR (rdF xs (knB hs)) ngI n) n, isRun xs hs n k e1 e2 ∧ p = -1 ∧ q = 1 ∧ fi (xs.map sE) = 0 ∧ hchk n hs (-1) = 0)
  | _, _ => none
theorem okChN (xs : List Nat) (hs : List Int) : OkV Tryz.prog 175 (orcChN xs hs) := by
  intro args H ret H' vc h hv
  unfold orcChN at h
  split at h
  · cases h
    obtain ⟨⟨rfl, rfl, h1, h2, h3, h4⟩, rfl, rfl, h5, h6⟩ := hv
    exact chN_ok ⟨rfl, rfl, h1, h2, h3, h4⟩ h5 h6 (fun i hi _ => by rw [ngI, Int.natAbs_neg]; exact rdF_few h5 (by omega))
  · cases h

/- Scaled by -1. -/
noncomputable def hsSd (xs : List Nat) (hs : List Int) : Hs Tryz.prog where
  op y := if y = 107 then some (hCa Tryz.prog 173 (orcFiV [0, 0, 0]) (okFiV _)) else none
  au := auCalls [(108, hCa Tryz.prog 108 (orcCrP xs hs) (okCrP xs hs)), (175, hCa Tryz.prog 175 (orcChN xs hs) (okChN xs hs))]
theorem sd_t (nm : ByteArray) (f : Int) (n : Nat) (c : Nat) (k : Nat) (d : Nat) (xs : List Nat) (hs : List Int) (K : Value → Heap → Prop) :
    (fnP Tryz.prog cs2 (hsSd xs hs) (95 : FuncId) [Value.agg (List.toArray (runA nm f (0 : Nat) n c (1 : Nat) k d)), Value.int IntKind.i64 (-1 : Int), Value.int IntKind.i64 (1 : Int)] (hp2r xs hs true true true true []) K) =
    (Is (isRun xs hs n k (flts xs) (ints hs)) ∧ Is ([Value.int IntKind.i64 (runE nm f xs n hs), Value.int IntKind.i64 (0 : Int), Value.int IntKind.i64 (0 : Int)] = [Value.int IntKind.i64 (0 : Int), Value.int IntKind.i64 (0 : Int), Value.int IntKind.i64 (0 : Int)] ∧ (3 : Nat) = (3 : Nat) ∧ (3 : Nat) ≤ (100000 : Nat)) ∧ Is (isRun xs hs n k (flts xs) (ints hs) ∧ (-1 : Int) = (-1 : Int) ∧ (1 : Int) = (1 : Int) ∧ fi (List.map sE xs) = (0 : Int) ∧ hchk (↑n : Int) hs (-1 : Int) = (0 : Int)) ∧ K (Value.tuple #[Value.agg #[Value.string nm, Value.int IntKind.i64 f, Value.slice (some { block := (2 : Nat), off := (0 : Nat) }) n (0 : Nat), Value.slice (some { block := (3 : Nat), off := (0 : Nat) }) (mkK (mkB (chR (rdF xs (knB hs)) ngI n)) n) (0 : Nat)], Value.int IntKind.i64 (0 : Int)]) (some (AObj.row (flts xs) (1 : Nat) true true true) :: some (AObj.row (ints hs) (2 : Nat) true true true) :: some (AObj.row (flts (mkX (chR (rdF xs (knB hs)) ngI n) n)) (1 : Nat) true true true) :: some (AObj.row (ints (mkS (mkB (chR (rdF xs (knB hs)) ngI n)) n)) (2 : Nat) true true true) :: noH)) := by kernel_rfl
noncomputable def orcSd (xs : List Nat) (hs : List Int) : OrcV
  | [.agg ⟨[.string nm, .int .i64 f, .slice (some ⟨0, 0, none⟩) n _, .slice (some ⟨1, 0, none⟩) k _]⟩, .int .i64 p, .int .i64 q], [some (.row e1 1 true true true), some (.row e2 2 true true true)] =>
    some (.tuple #[.agg (runA nm f 2 n 0 3 (mkK (mkB (chR (rdF xs (knB hs)) ngI n)) n) 0).toArray, .int .i64 0], some (.row e1 1 true true true) :: some (.row e2 2 true true true) :: wiR (chR (rdF xs (knB hs)) ngI n) n, isRun xs hs n k e1 e2 ∧ runE nm f xs n hs = 0 ∧ p = -1 ∧ q = 1)
  | _, _ => none
theorem okSd (xs : List Nat) (hs : List Int) : OkV Tryz.prog 95 (orcSd xs hs) := by
  intro args H ret H' vc h hv
  unfold orcSd at h
  split at h
  · rename_i nm f n c k d p q e1 e2
    cases h
    obtain ⟨hi, hr, rfl, rfl⟩ := hv
    obtain ⟨rfl, rfl, h1, h2, h3, h4⟩ := hi
    refine fnP_res hm cs2_ok (hs := hsSd xs hs) ?_
    show fnP Tryz.prog cs2 (hsSd xs hs) 95 [.agg (runA nm f 0 n c 1 k d).toArray, _, _] (hp2r xs hs true true true true []) _
    rw [sd_t, hr]
    obtain ⟨_, _, _, _, hx, hh, _⟩ := run_zero hr
    have hi : isRun xs hs n k (flts xs) (ints hs) := ⟨rfl, rfl, h1, h2, h3, h4⟩
    exact ⟨⟨hi⟩, ⟨rfl, rfl, by decide⟩, ⟨hi, rfl, rfl, hx, hh⟩, by first | trivial | rfl, by first | trivial | rfl⟩
  · cases h
end
end Qq
end
section
/- Sums of runs. -/
open Go Go.Vm Go.Proofs Sp
namespace Sp
noncomputable section
noncomputable def adI (R : Nat → Int × Bool) (i : Nat) (v : Int) : Int := v + (R i).1
noncomputable def zRV (R : Nat → Int × Bool) (off : Nat) : Value := .int .i64 (rdV R off)
/-- Readings, of which the first s are left out where others are not known. -/
noncomputable def mzR (R Q : Nat → Int × Bool) (s : Nat) (k : Nat) : Int × Bool := if (decide (k < s) && !(Q k).2) = true then (0, false) else R k
end
end Sp
namespace Qq
noncomputable section
theorem ak_t (nm : ByteArray) (nm2 : ByteArray) (f : Int) (f2 : Int) (n : Nat) (c : Nat) (k : Nat) (d : Nat) (n2 : Nat) (c2 : Nat) (k2 : Nat) (d2 : Nat) (xs : List Nat) (xs2 : List Nat) (hs : List Int) (hs2 : List Int) (K : Value → Heap → Prop) :
    (fnP Tryz.prog c0 h0 (178 : FuncId) [Value.agg (List.toArray (runA nm f (0 : Nat) n c (1 : Nat) k d)), Value.agg (List.toArray (runA nm2 f2 (2 : Nat) n2 c2 (3 : Nat) k2 d2))] (hp2r xs hs true true true true (hp2r xs2 hs2 true true true true [])) K) =
    (br (f == f2) (K (Value.bool ((↑n : Int) == (↑n2 : Int))) (some (AObj.row (flts xs) (1 : Nat) true true true) :: some (AObj.row (ints hs) (2 : Nat) true true true) :: some (AObj.row (flts xs2) (1 : Nat) true true true) :: some (AObj.row (ints hs2) (2 : Nat) true true true) :: noH)) (K (Value.bool false) (some (AObj.row (flts xs) (1 : Nat) true true true) :: some (AObj.row (ints hs) (2 : Nat) true true true) :: some (AObj.row (flts xs2) (1 : Nat) true true true) :: some (AObj.row (ints hs2) (2 : Nat) true true true) :: noH))) := by kernel_rfl
noncomputable def orcAk (xs xs2 : List Nat) (hs hs2 : List Int) : OrcV
  | [.agg ⟨[.string _, .int .i64 f, .slice (some ⟨0, 0, none⟩) n _, .slice (some ⟨1, 0, none⟩) _ _]⟩, .agg ⟨[.string _, .int .i64 f2, .slice (some ⟨2, 0, none⟩) n2 _, .slice (some ⟨3, 0, none⟩) _ _]⟩], [some (.row e1 1 true true true), some (.row e2 2 true true true), some (.row e3 1 true true true), some (.row e4 2 true true true)] =>
    some (.bool true, [some (.row e1 1 true true true), some (.row e2 2 true true true), some (.row e3 1 true true true), some (.row e4 2 true true true)], e1 = flts xs ∧ e2 = ints hs ∧ e3 = flts xs2 ∧ e4 = ints hs2 ∧ f2 = f ∧ n2 = n)
  | _, _ => none
theorem okAk (xs xs2 : List Nat) (hs hs2 : List Int) : OkV Tryz.prog 178 (orcAk xs xs2 hs hs2) := by
  intro args H ret H' vc h hv
  unfold orcAk at h
  split at h
  · rename_i nm f n c k d nm2 f2 n2 c2 k2 d2 e1 e2 e3 e4
    cases h
    obtain ⟨rfl, rfl, rfl, rfl, rfl, rfl⟩ := hv
    refine fnP_res hm c0_ok (hs := h0) ?_
    show fnP Tryz.prog c0 h0 178 [.agg (runA nm _ 0 _ c 1 k d).toArray, .agg (runA nm2 _ 2 _ c2 3 k2 d2).toArray] (hp2r xs hs true true true true (hp2r xs2 hs2 true true true true [])) _
    rw [ak_t]
    refine br_of (fun h => ?_) (fun h => ?_)
    · rw [beq_self_eq_true]; exact ⟨by first | trivial | rfl, by first | trivial | rfl⟩
    · rw [beq_self_eq_true] at h; cases h
  · cases h
noncomputable def hsAd1 (R : Nat → Int × Bool) : Hs Tryz.prog where
  op y := if y = 103 then some (hIa Tryz.prog) else if y = 105 then some (hLd Tryz.prog (zRV R)) else none
noncomputable def lsS (m e : Nat) : Option AObj := some (.row [.slice (some ⟨1, 0, none⟩) m e] 0 false true false)
theorem ad1_t (i : Int) (v : Int) (R : Nat → Int × Bool) (m : Nat) (e : Nat) (K : Value → Heap → Prop) :
    (fnP Tryz.prog c0 (hsAd1 R) (179 : FuncId) [Value.int IntKind.i64 i, Value.int IntKind.i64 v, Value.pointer (some { block := (0 : Nat), off := (0 : Nat) })] [lsS m e, rdR m R] K) =
    (Is ((0 : Int) ≤ i ∧ i < (↑m : Int)) ∧ Is ((rdc m R)[(0 : Nat) + Int.toNat i * (2 : Nat) + (0 : Nat)]? = some (Value.int IntKind.i64 (rdV R ((0 : Nat) + Int.toNat i * (2 : Nat) + (0 : Nat))))) ∧ K (Value.int IntKind.i64 (IntKind.wrap IntKind.i64 (v + rdV R ((0 : Nat) + Int.toNat i * (2 : Nat) + (0 : Nat))))) (some (AObj.row [Value.slice (some { block := (1 : Nat), off := (0 : Nat) }) m e] (0 : Nat) false true false) :: some (AObj.row (rdc m R) (2 : Nat) true true true) :: noH)) := by kernel_rfl
noncomputable def orcAd1 (R : Nat → Int × Bool) : OrcV
  | [.int .i64 i, .int .i64 v, .pointer (some ⟨0, 0, none⟩)], [some (.row [.slice (some ⟨1, 0, none⟩) m e] 0 false true false), some (.row e1 2 true true true)] =>
    some (.int .i64 (v + rdV R (i.toNat * 2)), [lsS m e, some (.row e1 2 true true true)], e1 = rdc m R ∧ (0 ≤ i ∧ i < m) ∧ v.natAbs ≤ 100000 ∧ (rdV R (i.toNat * 2)).natAbs ≤ 100000)
  | _, _ => none
theorem okAd1 (R : Nat → Int × Bool) : OkV Tryz.prog 179 (orcAd1 R) := by
  intro args H ret H' vc h hv
  unfold orcAd1 at h
  split at h
  · rename_i i v m e e1
    cases h
    obtain ⟨rfl, hi, h1, h2⟩ := hv
    refine fnP_res hm c0_ok (hs := hsAd1 R) ?_
    show fnP Tryz.prog c0 (hsAd1 R) 179 _ [lsS m e, rdR m R] _
    rw [ad1_t]
    simp only [Nat.zero_add, Nat.add_zero]
    have e2 : IntKind.wrap .i64 (v + rdV R (i.toNat * 2)) = v + rdV R (i.toNat * 2) := wrap_eq (by omega) (by omega)
    refine ⟨⟨hi⟩, ⟨?_⟩, by rw [e2], by first | trivial | rfl⟩
    rw [rdV_at]
    exact rdc_int (by omega)
  · cases h
noncomputable def cloS : Value := .func (.func 179) #[] #[.pointer (some ⟨2, 0, none⟩)]
noncomputable def exS (R2 : Nat → Int × Bool) (m e : Nat) : Heap := [some (.row [.slice (some ⟨3, 0, none⟩) m e] 0 false true false), rdR m R2]
noncomputable def lpCS (nm : ByteArray) (f : Int) (n c k d : Nat) (xs : List Nat) (hs : List Int) (R2 : Nat → Int × Bool) (m e : Nat) : Lp where
  σ := Nat
  E s := slots 41 [(1, cloS), (2, .pointer (some ⟨4, 0, none⟩)), (4, .pointer (some ⟨5, 0, none⟩)), (6, .slice (some ⟨6, 0, none⟩) n 0), (11, .slice (some ⟨6, 0, none⟩) n 0), (12, .int .i64 (Int.ofNat n)), (13, .int .i64 (Int.ofNat s))]
  Hp s := hp2r xs hs true true true true (exS R2 m e ++ [runO nm f n c k d, some (.row zrun 0 false true true), rdR n (chR (rdF xs (knB hs)) (adI R2) s)])
  I s := s ≤ n
  m s := n - s
noncomputable def hsCS (nm : ByteArray) (f : Int) (n c k d : Nat) (xs : List Nat) (hs : List Int) (R2 : Nat → Int × Bool) (m e : Nat) : Hs Tryz.prog where
  op y := if [401, 607, 702].contains y then some (hIa Tryz.prog) else if y = 402 then some (hLd Tryz.prog (zR (rdF xs (knB hs)))) else if y = 606 then some (hCa Tryz.prog 179 (orcAd1 R2) (okAd1 R2)) else if y = 609 then some (hSp Tryz.prog) else if y = 704 then some (hLc Tryz.prog gI) else none
  lp _ := some (lpCS nm f n c k d xs hs R2 m e)
  cl _ := keep 41 [1, 2, 4, 6, 11, 12, 13]
  au := auCalls [(170, hCa Tryz.prog 170 (orcRr xs hs) (okRr xs hs)), (172, hCa Tryz.prog 172 (orcWi xs hs (chR (rdF xs (knB hs)) (adI R2) n)) (okWi xs hs (chR (rdF xs (knB hs)) (adI R2) n)))]
theorem chS_t (nm : ByteArray) (f : Int) (n : Nat) (c : Nat) (k : Nat) (d : Nat) (xs : List Nat) (hs : List Int) (R2 : Nat → Int × Bool) (m : Nat) (e : Nat) (K : Value → Heap → Prop) :
    (fnP Tryz.prog cLg (hsCS nm f n c k d xs hs R2 m e) (175 : FuncId) [Value.agg (List.toArray (runA nm f (0 : Nat) n c (1 : Nat) k d)), cloS] (hp2r xs hs true true true true (exS R2 m e)) K) =
    (Is (isRun xs hs n k (flts xs) (ints hs) ∧ fi (List.map sE xs) = (0 : Int) ∧ hchk (↑n : Int) hs (-1 : Int) = (0 : Int)) ∧ (∃ (s : Nat), Is (s ≤ n) ∧ [poi, Value.func (Fn.func (179 : Nat)) #[] #[Value.pointer (some { block := (2 : Nat), off := (0 : Nat) })], Value.pointer (some { block := (4 : Nat), off := (0 : Nat) }), poi, Value.pointer (some { block := (5 : Nat), off := (0 : Nat) }), poi, Value.slice (some { block := (6 : Nat), off := (0 : Nat) }) n (0 : Nat), poi, poi, poi, poi, Value.slice (some { block := (6 : Nat), off := (0 : Nat) }) n (0 : Nat), Value.int IntKind.i64 (↑n : Int), Value.int IntKind.i64 (0 : Int), poi, poi, poi, poi, poi, poi, poi, poi, poi, poi, poi, poi, poi, poi, poi, poi, poi, poi, poi, poi, poi, poi, poi, poi, poi, poi, poi] = [poi, Value.func (Fn.func (179 : Nat)) #[] #[Value.pointer (some { block := (2 : Nat), off := (0 : Nat) })], Value.pointer (some { block := (4 : Nat), off := (0 : Nat) }), poi, Value.pointer (some { block := (5 : Nat), off := (0 : Nat) }), poi, Value.slice (some { block := (6 : Nat), off := (0 : Nat) }) n (0 : Nat), poi, poi, poi, poi, Value.slice (some { block := (6 : Nat), off := (0 : Nat) }) n (0 : Nat), Value.int IntKind.i64 (↑n : Int), Value.int IntKind.i64 (↑s : Int), poi, poi, poi, poi, poi, poi, poi, poi, poi, poi, poi, poi, poi, poi, poi, poi, poi, poi, poi, poi, poi, poi, poi, poi, poi, poi, poi] ∧ some (AObj.row (flts xs) (1 : Nat) true true true) :: some (AObj.row (ints hs) (2 : Nat) true true true) :: some (AObj.row [Value.slice (some { block := (3 : Nat), off := (0 : Nat) }) m e] (0 : Nat) false true false) :: some (AObj.row (rdc m R2) (2 : Nat) true true true) :: some (AObj.row [Value.string nm, Value.int IntKind.i64 f, Value.slice (some { block := (0 : Nat), off := (0 : Nat) }) n c, Value.slice (some { block := (1 : Nat), off := (0 : Nat) }) k d] (0 : Nat) false true (List.all [Value.string nm, Value.int IntKind.i64 f, Value.slice (some { block := (0 : Nat), off := (0 : Nat) }) n c, Value.slice (some { block := (1 : Nat), off := (0 : Nat) }) k d] atom)) :: some (AObj.row [Value.string { data := #[] }, Value.int IntKind.i64 (0 : Int), Value.slice none (0 : Nat) (0 : Nat), Value.slice none (0 : Nat) (0 : Nat)] (0 : Nat) false true true) :: some (AObj.row (rdc n (rdF xs (knB hs))) (2 : Nat) true true true) :: noH = some (AObj.row (flts xs) (1 : Nat) true true true) :: some (AObj.row (ints hs) (2 : Nat) true true true) :: some (AObj.row [Value.slice (some { block := (3 : Nat), off := (0 : Nat) }) m e] (0 : Nat) false true false) :: some (AObj.row (rdc m R2) (2 : Nat) true true true) :: some (AObj.row [Value.string nm, Value.int IntKind.i64 f, Value.slice (some { block := (0 : Nat), off := (0 : Nat) }) n c, Value.slice (some { block := (1 : Nat), off := (0 : Nat) }) k d] (0 : Nat) false true false) :: some (AObj.row [Value.string { data := #[] }, Value.int IntKind.i64 (0 : Int), Value.slice none (0 : Nat) (0 : Nat), Value.slice none (0 : Nat) (0 : Nat)] (0 : Nat) false true true) :: some (AObj.row (rdc n (chR (rdF xs (knB hs)) (adI R2) s)) (2 : Nat) true true true) :: noH) ∧ ∀ (s : Nat), Is (s ≤ n) → br (decide ((↑s : Int) < (↑n : Int))) (Is ((0 : Int) ≤ (↑s : Int) ∧ (↑s : Int) < (↑n : Int)) ∧ Is ((if (0 : Nat) + Int.toNat (↑s : Int) * (2 : Nat) + (2 : Nat) ≤ List.length (rdc n (chR (rdF xs (knB hs)) (adI R2) s)) then some (Value.agg (List.toArray (List.take (2 : Nat) (List.drop ((0 : Nat) + Int.toNat (↑s : Int) * (2 : Nat)) (rdc n (chR (rdF xs (knB hs)) (adI R2) s)))))) else none) = some (Value.agg #[Value.int IntKind.i64 (rdV (rdF xs (knB hs)) ((0 : Nat) + Int.toNat (↑s : Int) * (2 : Nat))), Value.bool (rdW (rdF xs (knB hs)) ((0 : Nat) + Int.toNat (↑s : Int) * (2 : Nat)))])) ∧ br (!rdW (rdF xs (knB hs)) ((0 : Nat) + Int.toNat (↑s : Int) * (2 : Nat))) (∃ (s' : Nat), Is (s' ≤ n) ∧ Is (n - s' < n - s) ∧ [poi, Value.func (Fn.func (179 : Nat)) #[] #[Value.pointer (some { block := (2 : Nat), off := (0 : Nat) })], Value.pointer (some { block := (4 : Nat), off := (0 : Nat) }), poi, Value.pointer (some { block := (5 : Nat), off := (0 : Nat) }), poi, Value.slice (some { block := (6 : Nat), off := (0 : Nat) }) n (0 : Nat), poi, poi, poi, poi, Value.slice (some { block := (6 : Nat), off := (0 : Nat) }) n (0 : Nat), Value.int IntKind.i64 (↑n : Int), Value.int IntKind.i64 (IntKind.wrap IntKind.i64 ((↑s : Int) + (1 : Int))), poi, poi, poi, poi, poi, poi, poi, poi, poi, poi, poi, poi, poi, poi, poi, poi, poi, poi, poi, poi, poi, poi, poi, poi, poi, poi, poi] = [poi, Value.func (Fn.func (179 : Nat)) #[] #[Value.pointer (some { block := (2 : Nat), off := (0 : Nat) })], Value.pointer (some { block := (4 : Nat), off := (0 : Nat) }), poi, Value.pointer (some { block := (5 : Nat), off := (0 : Nat) }), poi, Value.slice (some { block := (6 : Nat), off := (0 : Nat) }) n (0 : Nat), poi, poi, poi, poi, Value.slice (some { block := (6 : Nat), off := (0 : Nat) }) n (0 : Nat), Value.int IntKind.i64 (↑n : Int), Value.int IntKind.i64 (↑s' : Int), poi, poi, poi, poi, poi, poi, poi, poi, poi, poi, poi, poi, poi, poi, poi, poi, poi, poi, poi, poi, poi, poi, poi, poi, poi, poi, poi] ∧ some (AObj.row (flts xs) (1 : Nat) true true true) :: some (AObj.row (ints hs) (2 : Nat) true true true) :: some (AObj.row [Value.slice (some { block := (3 : Nat), off := (0 : Nat) }) m e] (0 : Nat) false true false) :: some (AObj.row (rdc m R2) (2 : Nat) true true true) :: some (AObj.row [Value.string nm, Value.int IntKind.i64 f, Value.slice (some { block := (0 : Nat), off := (0 : Nat) }) n c, Value.slice (some { block := (1 : Nat), off := (0 : Nat) }) k d] (0 : Nat) false true false) :: some (AObj.row [Value.string { data := #[] }, Value.int IntKind.i64 (0 : Int), Value.slice none (0 : Nat) (0 : Nat), Value.slice none (0 : Nat) (0 : Nat)] (0 : Nat) false true true) :: some (AObj.row (rdc n (chR (rdF xs (knB hs)) (adI R2) s)) (2 : Nat) true true true) :: noH = some (AObj.row (flts xs) (1 : Nat) true true true) :: some (AObj.row (ints hs) (2 : Nat) true true true) :: some (AObj.row [Value.slice (some { block := (3 : Nat), off := (0 : Nat) }) m e] (0 : Nat) false true false) :: some (AObj.row (rdc m R2) (2 : Nat) true true true) :: some (AObj.row [Value.string nm, Value.int IntKind.i64 f, Value.slice (some { block := (0 : Nat), off := (0 : Nat) }) n c, Value.slice (some { block := (1 : Nat), off := (0 : Nat) }) k d] (0 : Nat) false true false) :: some (AObj.row [Value.string { data := #[] }, Value.int IntKind.i64 (0 : Int), Value.slice none (0 : Nat) (0 : Nat), Value.slice none (0 : Nat) (0 : Nat)] (0 : Nat) false true true) :: some (AObj.row (rdc n (chR (rdF xs (knB hs)) (adI R2) s')) (2 : Nat) true true true) :: noH) (Is (rdc m R2 = rdc m R2 ∧ ((0 : Int) ≤ (↑s : Int) ∧ (↑s : Int) < (↑m : Int)) ∧ Int.natAbs (rdV (rdF xs (knB hs)) ((0 : Nat) + Int.toNat (↑s : Int) * (2 : Nat))) ≤ (100000 : Nat) ∧ Int.natAbs (rdV R2 (Int.toNat (↑s : Int) * (2 : Nat))) ≤ (100000 : Nat)) ∧ Is ((0 : Int) ≤ (↑s : Int) ∧ (↑s : Int) < (↑n : Int)) ∧ Is ((0 : Nat) + Int.toNat (↑s : Int) * (2 : Nat) + (0 : Nat) + List.length [Value.int IntKind.i64 (rdV (rdF xs (knB hs)) ((0 : Nat) + Int.toNat (↑s : Int) * (2 : Nat)) + rdV R2 (Int.toNat (↑s : Int) * (2 : Nat)))] ≤ List.length (rdc n (chR (rdF xs (knB hs)) (adI R2) s))) ∧ Is ((0 : Int) ≤ (↑s : Int) ∧ (↑s : Int) < (↑n : Int)) ∧ Is ((putL (rdc n (chR (rdF xs (knB hs)) (adI R2) s)) ((0 : Nat) + Int.toNat (↑s : Int) * (2 : Nat) + (0 : Nat)) [Value.int IntKind.i64 (rdV (rdF xs (knB hs)) ((0 : Nat) + Int.toNat (↑s : Int) * (2 : Nat)) + rdV R2 (Int.toNat (↑s : Int) * (2 : Nat)))])[(0 : Nat) + Int.toNat (↑s : Int) * (2 : Nat) + (0 : Nat)]? = some (Value.int IntKind.i64 (iAt (putL (rdc n (chR (rdF xs (knB hs)) (adI R2) s)) ((0 : Nat) + Int.toNat (↑s : Int) * (2 : Nat) + (0 : Nat)) [Value.int IntKind.i64 (rdV (rdF xs (knB hs)) ((0 : Nat) + Int.toNat (↑s : Int) * (2 : Nat)) + rdV R2 (Int.toNat (↑s : Int) * (2 : Nat)))]) ((0 : Nat) + Int.toNat (↑s : Int) * (2 : Nat) + (0 : Nat))))) ∧ br (decide (iAt (putL (rdc n (chR (rdF xs (knB hs)) (adI R2) s)) ((0 : Nat) + Int.toNat (↑s : Int) * (2 : Nat) + (0 : Nat)) [Value.int IntKind.i64 (rdV (rdF xs (knB hs)) ((0 : Nat) + Int.toNat (↑s : Int) * (2 : Nat)) + rdV R2 (Int.toNat (↑s : Int) * (2 : Nat)))]) ((0 : Nat) + Int.toNat (↑s : Int) * (2 : Nat) + (0 : Nat)) < (-16384 : Int)) || decide ((16384 : Int) < iAt (putL (rdc n (chR (rdF xs (knB hs)) (adI R2) s)) ((0 : Nat) + Int.toNat (↑s : Int) * (2 : Nat) + (0 : Nat)) [Value.int IntKind.i64 (rdV (rdF xs (knB hs)) ((0 : Nat) + Int.toNat (↑s : Int) * (2 : Nat)) + rdV R2 (Int.toNat (↑s : Int) * (2 : Nat)))]) ((0 : Nat) + Int.toNat (↑s : Int) * (2 : Nat) + (0 : Nat)))) (K (Value.tuple #[Value.agg #[Value.string { data := #[] }, Value.int IntKind.i64 (0 : Int), Value.slice none (0 : Nat) (0 : Nat), Value.slice none (0 : Nat) (0 : Nat)], Value.int IntKind.i64 (4 : Int)]) (some (AObj.row (flts xs) (1 : Nat) true true true) :: some (AObj.row (ints hs) (2 : Nat) true true true) :: some (AObj.row [Value.slice (some { block := (3 : Nat), off := (0 : Nat) }) m e] (0 : Nat) false true false) :: some (AObj.row (rdc m R2) (2 : Nat) true true true) :: noH)) (∃ (s' : Nat), Is (s' ≤ n) ∧ Is (n - s' < n - s) ∧ [poi, Value.func (Fn.func (179 : Nat)) #[] #[Value.pointer (some { block := (2 : Nat), off := (0 : Nat) })], Value.pointer (some { block := (4 : Nat), off := (0 : Nat) }), poi, Value.pointer (some { block := (5 : Nat), off := (0 : Nat) }), poi, Value.slice (some { block := (6 : Nat), off := (0 : Nat) }) n (0 : Nat), poi, poi, poi, poi, Value.slice (some { block := (6 : Nat), off := (0 : Nat) }) n (0 : Nat), Value.int IntKind.i64 (↑n : Int), Value.int IntKind.i64 (IntKind.wrap IntKind.i64 ((↑s : Int) + (1 : Int))), poi, poi, poi, poi, poi, poi, poi, poi, poi, poi, poi, poi, poi, poi, poi, poi, poi, poi, poi, poi, poi, poi, poi, poi, poi, poi, poi] = [poi, Value.func (Fn.func (179 : Nat)) #[] #[Value.pointer (some { block := (2 : Nat), off := (0 : Nat) })], Value.pointer (some { block := (4 : Nat), off := (0 : Nat) }), poi, Value.pointer (some { block := (5 : Nat), off := (0 : Nat) }), poi, Value.slice (some { block := (6 : Nat), off := (0 : Nat) }) n (0 : Nat), poi, poi, poi, poi, Value.slice (some { block := (6 : Nat), off := (0 : Nat) }) n (0 : Nat), Value.int IntKind.i64 (↑n : Int), Value.int IntKind.i64 (↑s' : Int), poi, poi, poi, poi, poi, poi, poi, poi, poi, poi, poi, poi, poi, poi, poi, poi, poi, poi, poi, poi, poi, poi, poi, poi, poi, poi, poi] ∧ some (AObj.row (flts xs) (1 : Nat) true true true) :: some (AObj.row (ints hs) (2 : Nat) true true true) :: some (AObj.row [Value.slice (some { block := (3 : Nat), off := (0 : Nat) }) m e] (0 : Nat) false true false) :: some (AObj.row (rdc m R2) (2 : Nat) true true true) :: some (AObj.row [Value.string nm, Value.int IntKind.i64 f, Value.slice (some { block := (0 : Nat), off := (0 : Nat) }) n c, Value.slice (some { block := (1 : Nat), off := (0 : Nat) }) k d] (0 : Nat) false true false) :: some (AObj.row [Value.string { data := #[] }, Value.int IntKind.i64 (0 : Int), Value.slice none (0 : Nat) (0 : Nat), Value.slice none (0 : Nat) (0 : Nat)] (0 : Nat) false true true) :: some (AObj.row (putL (rdc n (chR (rdF xs (knB hs)) (adI R2) s)) ((0 : Nat) + Int.toNat (↑s : Int) * (2 : Nat) + (0 : Nat)) [Value.int IntKind.i64 (rdV (rdF xs (knB hs)) ((0 : Nat) + Int.toNat (↑s : Int) * (2 : Nat)) + rdV R2 (Int.toNat (↑s : Int) * (2 : Nat)))]) (2 : Nat) true true (true && List.all [Value.int IntKind.i64 (rdV (rdF xs (knB hs)) ((0 : Nat) + Int.toNat (↑s : Int) * (2 : Nat)) + rdV R2 (Int.toNat (↑s : Int) * (2 : Nat)))] atom)) :: noH = some (AObj.row (flts xs) (1 : Nat) true true true) :: some (AObj.row (ints hs) (2 : Nat) true true true) :: some (AObj.row [Value.slice (some { block := (3 : Nat), off := (0 : Nat) }) m e] (0 : Nat) false true false) :: some (AObj.row (rdc m R2) (2 : Nat) true true true) :: some (AObj.row [Value.string nm, Value.int IntKind.i64 f, Value.slice (some { block := (0 : Nat), off := (0 : Nat) }) n c, Value.slice (some { block := (1 : Nat), off := (0 : Nat) }) k d] (0 : Nat) false true false) :: some (AObj.row [Value.string { data := #[] }, Value.int IntKind.i64 (0 : Int), Value.slice none (0 : Nat) (0 : Nat), Value.slice none (0 : Nat) (0 : Nat)] (0 : Nat) false true true) :: some (AObj.row (rdc n (chR (rdF xs (knB hs)) (adI R2) s')) (2 : Nat) true true true) :: noH))) (Is (isRun xs hs n k (flts xs) (ints hs) ∧ rdc n (chR (rdF xs (knB hs)) (adI R2) s) = rdc n (chR (rdF xs (knB hs)) (adI R2) n) ∧ n ≤ (100000 : Nat) ∧ ∀ (i : Nat), i < n → Int.natAbs (Prod.fst (chR (rdF xs (knB hs)) (adI R2) n i)) < (2 : Nat) ^ (24 : Nat)) ∧ K (Value.tuple #[Value.agg #[Value.string nm, Value.int IntKind.i64 f, Value.slice (some { block := (4 : Nat), off := (0 : Nat) }) n (0 : Nat), Value.slice (some { block := (5 : Nat), off := (0 : Nat) }) (mkK (mkB (chR (rdF xs (knB hs)) (adI R2) n)) n) (0 : Nat)], Value.int IntKind.i64 (0 : Int)]) (some (AObj.row (flts xs) (1 : Nat) true true true) :: some (AObj.row (ints hs) (2 : Nat) true true true) :: some (AObj.row [Value.slice (some { block := (3 : Nat), off := (0 : Nat) }) m e] (0 : Nat) false true false) :: some (AObj.row (rdc m R2) (2 : Nat) true true true) :: some (AObj.row (flts (mkX (chR (rdF xs (knB hs)) (adI R2) n) n)) (1 : Nat) true true true) :: some (AObj.row (ints (mkS (mkB (chR (rdF xs (knB hs)) (adI R2) n)) n)) (2 : Nat) true true true) :: noH))) := by kernel_rfl
set_option maxRecDepth 100000 in
theorem chS_ok {nm : ByteArray} {f : Int} {n c k d : Nat} {xs : List Nat} {hs : List Int} {R2 : Nat → Int × Bool} {m e : Nat} (hi : isRun xs hs n k (flts xs) (ints hs)) (hx : fi (xs.map sE) = 0) (hh : hchk n hs (-1) = 0) (hg : ∀ i, i < n → (rdF xs (knB hs) i).2 = true → ((adI R2) i (rdF xs (knB hs) i).1).natAbs ≤ 16384) (hm2 : n ≤ m) (h2 : ∀ i, i < m → (R2 i).1.natAbs ≤ 16384) :
    SmallRes Tryz.prog 175 [.agg (runA nm f 0 n c 1 k d).toArray, cloS] (hp2r xs hs true true true true (exS R2 m e)) (.tuple #[.agg (runA nm f 4 n 0 5 (mkK (mkB (chR (rdF xs (knB hs)) (adI R2) n)) n) 0).toArray, .int .i64 0]) (hp2r xs hs true true true true (exS R2 m e ++ wiR (chR (rdF xs (knB hs)) (adI R2) n) n)) := by
  refine fnP_res hm cLg_ok (hs := hsCS nm f n c k d xs hs R2 m e) ?_
  rw [chS_t]
  have hi' := hi
  obtain ⟨_, _, hn, h9, _, _⟩ := hi'
  have few : ∀ i, i < n → (rdF xs (knB hs) i).1.natAbs ≤ 16384 := fun i h => rdF_few hx (by omega)
  have e0 : rdc n (chR (rdF xs (knB hs)) (adI R2) 0) = rdc n (rdF xs (knB hs)) := rdc_congr fun i _ => by rw [chR, decide_eq_false (Nat.not_lt_zero i)]; rfl
  refine ⟨⟨hi, hx, hh⟩, ⟨(0 : Nat), ⟨Nat.zero_le _⟩, by first | trivial | rfl, by rw [e0]; first | done | trivial | rfl⟩, fun s hs' => br_of (fun hc => ?_) (fun hc => ?_)⟩
  · have hc := lt_of_dec hc
    simp only [Nat.zero_add, Nat.add_zero, Int.toNat_natCast, rdV_at, rdW_at]
    have t1 := rdc_take (R := chR (rdF xs (knB hs)) (adI R2) s) hc
    rw [chR_at] at t1
    have fs := few s hc
    have gs := hg s hc
    refine ⟨⟨by omega, by omega⟩, ⟨t1⟩, br_of (fun hk => ?_) (fun hk => ?_)⟩
    · have hk : (rdF xs (knB hs) s).2 = false := by simpa using hk
      refine ⟨s + 1, ⟨hc⟩, ⟨by omega⟩, by rw [up1 hc (by omega)], by rw [chR_skip hk]⟩
    · have hk : (rdF xs (knB hs) s).2 = true := by simpa using hk
      have gs := gs hk
      have p1 : putL (rdc n (chR (rdF xs (knB hs)) (adI R2) s)) (s * 2) [.int .i64 ((rdF xs (knB hs) s).1 + (R2 s).1)] = rdc n (chR (rdF xs (knB hs)) (adI R2) (s + 1)) := by
        rw [rdc_put1 hc, chR_at, hk]
        exact chR_step hk
      have i1 := rdc_int (R := chR (rdF xs (knB hs)) (adI R2) (s + 1)) hc
      have i2 : (chR (rdF xs (knB hs)) (adI R2) (s + 1) s).1 = (rdF xs (knB hs) s).1 + (R2 s).1 := by rw [chR, hk, decide_eq_true (Nat.lt_succ_self s)]; rfl
      have i3 : iAt (rdc n (chR (rdF xs (knB hs)) (adI R2) (s + 1))) (s * 2) = (rdF xs (knB hs) s).1 + (R2 s).1 := by rw [iAt, i1, i2]
      have gs : ((rdF xs (knB hs) s).1 + (R2 s).1).natAbs ≤ 16384 := gs
      rw [p1, i3]
      refine ⟨⟨⟨trivial, ⟨by omega, by omega⟩, by omega, by have := h2 s (by omega); omega⟩⟩, ⟨by omega, by omega⟩, ⟨by rw [rdc_len]; simp only [List.length_cons, List.length_nil]; omega⟩, ⟨by omega, by omega⟩, ⟨by rw [i1, i2]⟩, br_of (fun h => ?_) (fun _ => ⟨s + 1, ⟨hc⟩, ⟨by omega⟩, by rw [up1 hc (by omega)], by first | trivial | rfl⟩)⟩
      rw [decide_eq_false (by omega), decide_eq_false (by omega)] at h
      cases h
  · have hc := ge_of_dec hc
    have : s = n := by have := hs'.out; omega
    subst this
    exact ⟨⟨hi, rfl, h9, fun i hlt => Nat.lt_of_le_of_lt (chR_few (few i hlt) (hg i hlt)) (by decide)⟩, by first | trivial | rfl, by first | trivial | rfl⟩
noncomputable def orcChS (xs : List Nat) (hs : List Int) (R2 : Nat → Int × Bool) : OrcV
  | [.agg ⟨[.string nm, .int .i64 f, .slice (some ⟨0, 0, none⟩) n _, .slice (some ⟨1, 0, none⟩) k _]⟩, .func (.func 179) ⟨[]⟩ ⟨[.pointer (some ⟨2, 0, none⟩)]⟩], [some (.row e1 1 true true true), some (.row e2 2 true true true), some (.row [.slice (some ⟨3, 0, none⟩) m e] 0 false true false), some (.row e3 2 true true true)] =>
    some (.tuple #[.agg (runA nm f 4 n 0 5 (mkK (mkB (chR (rdF xs (knB hs)) (adI R2) n)) n) 0).toArray, .int .i64 0], some (.row e1 1 true true true) :: some (.row e2 2 true true true) :: some (.row [.slice (some ⟨3, 0, none⟩) m e] 0 false true false) :: some (.row e3 2 true true true) :: wiR (chR (rdF xs (knB hs)) (adI R2) n) n,
      isRun xs hs n k e1 e2 ∧ e3 = rdc m R2 ∧ fi (xs.map sE) = 0 ∧ hchk n hs (-1) = 0 ∧ (∀ i, i < n → (rdF xs (knB hs) i).2 = true → (adI R2 i (rdF xs (knB hs) i).1).natAbs ≤ 16384) ∧ n ≤ m ∧ ∀ i, i < m → (R2 i).1.natAbs ≤ 16384)
  | _, _ => none
theorem okChS (xs : List Nat) (hs : List Int) (R2 : Nat → Int × Bool) : OkV Tryz.prog 175 (orcChS xs hs R2) := by
  intro args H ret H' vc h hv
  unfold orcChS at h
  split at h
  · cases h
    obtain ⟨⟨rfl, rfl, h1, h2, h3, h4⟩, rfl, h5, h6, h7, h8, h9⟩ := hv
    exact chS_ok ⟨rfl, rfl, h1, h2, h3, h4⟩ h5 h6 h7 h8 h9
  · cases h
/- The sum. -/
noncomputable def lpSm (nm nm2 : ByteArray) (f f2 : Int) (n c k d n2 c2 k2 d2 : Nat) (xs xs2 : List Nat) (hs hs2 : List Int) : Lp where
  σ := Nat
  E s := slots 52 [(2, .pointer (some ⟨4, 0, none⟩)), (3, .pointer (some ⟨5, 0, none⟩)), (4, .pointer (some ⟨6, 0, none⟩)), (7, .pointer (some ⟨7, 0, none⟩)), (8, .slice (some ⟨9, 0, none⟩) n 0), (30, .slice (some ⟨8, 0, none⟩) n2 0), (31, .int .i64 (Int.ofNat n2)), (32, .int .i64 (Int.ofNat s))]
  Hp s := hp2r xs hs true true true true (hp2r xs2 hs2 true true true true [runO nm f n c k d, some (.row (runA nm2 f2 2 n2 c2 3 k2 d2) 0 false true false), some (.row zrun 0 false true true), some (.row [.slice (some ⟨8, 0, none⟩) n2 0] 0 false true false), rdR n2 (rdF xs2 (knB hs2)), rdR n (mzR (rdF xs (knB hs)) (rdF xs2 (knB hs2)) s)])
  I s := s ≤ n2
  m s := n2 - s
noncomputable def hsSmm (nm nm2 : ByteArray) (f f2 : Int) (n c k d n2 c2 k2 d2 : Nat) (xs xs2 : List Nat) (hs hs2 : List Int) : Hs Tryz.prog where
  op y := if y = 101 then some (hCa Tryz.prog 108 (orcCrP xs hs) (okCrP xs hs)) else if y = 103 then some (hCa Tryz.prog 108 (orcCrP xs2 hs2) (okCrP xs2 hs2)) else if y = 105 then some (hCa Tryz.prog 173 (orcFiV [0, 0]) (okFiV _))
    else if y = 601 then some (hCa Tryz.prog 170 (orcRr xs2 hs2) (okRr xs2 hs2)) else if y = 701 then some (hCa Tryz.prog 170 (orcRr xs hs) (okRr xs hs)) else if [1001, 1203].contains y then some (hIa Tryz.prog) else if y = 1002 then some (hLd Tryz.prog (zR (rdF xs2 (knB hs2)))) else if y = 1204 then some (hSp Tryz.prog) else none
  lp _ := some (lpSm nm nm2 f f2 n c k d n2 c2 k2 d2 xs xs2 hs hs2)
  cl _ := keep 52 [2, 3, 4, 7, 8, 30, 31, 32]
  au := auCalls [(178, hCa Tryz.prog 178 (orcAk xs xs2 hs hs2) (okAk xs xs2 hs hs2)), (172, hCa Tryz.prog 172 (orcWi xs hs (mzR (rdF xs (knB hs)) (rdF xs2 (knB hs2)) n)) (okWi xs hs (mzR (rdF xs (knB hs)) (rdF xs2 (knB hs2)) n))),
    (175, hCa Tryz.prog 175 (orcChS (mkX (mzR (rdF xs (knB hs)) (rdF xs2 (knB hs2)) n) n) (mkS (mkB (mzR (rdF xs (knB hs)) (rdF xs2 (knB hs2)) n)) n) (rdF xs2 (knB hs2))) (okChS (mkX (mzR (rdF xs (knB hs)) (rdF xs2 (knB hs2)) n) n) (mkS (mkB (mzR (rdF xs (knB hs)) (rdF xs2 (knB hs2)) n)) n) (rdF xs2 (knB hs2))))]
theorem smm_t (nm : ByteArray) (nm2 : ByteArray) (f : Int) (f2 : Int) (n : Nat) (c : Nat) (k : Nat) (d : Nat) (n2 : Nat) (c2 : Nat) (k2 : Nat) (d2 : Nat) (xs : List Nat) (xs2 : List Nat) (hs : List Int) (hs2 : List Int) (K : Value → Heap → Prop) :
    (fnP Tryz.prog cs2 (hsSmm nm nm2 f f2 n c k d n2 c2 k2 d2 xs xs2 hs hs2) (96 : FuncId) [Value.agg (List.toArray (runA nm f (0 : Nat) n c (1 : Nat) k d)), Value.agg (List.toArray (runA nm2 f2 (2 : Nat) n2 c2 (3 : Nat) k2 d2))] (hp2r xs hs true true true true (hp2r xs2 hs2 true true true true [])) K) =
    (Is (isRun xs hs n k (flts xs) (ints hs)) ∧ Is (isRun xs2 hs2 n2 k2 (flts xs2) (ints hs2)) ∧ Is ([Value.int IntKind.i64 (runE nm f xs n hs), Value.int IntKind.i64 (runE nm2 f2 xs2 n2 hs2)] = [Value.int IntKind.i64 (0 : Int), Value.int IntKind.i64 (0 : Int)] ∧ (2 : Nat) = (2 : Nat) ∧ (2 : Nat) ≤ (100000 : Nat)) ∧ Is (flts xs = flts xs ∧ ints hs = ints hs ∧ flts xs2 = flts xs2 ∧ ints hs2 = ints hs2 ∧ f2 = f ∧ n2 = n) ∧ Is (isRun xs2 hs2 n2 k2 (flts xs2) (ints hs2) ∧ fi (List.map sE xs2) = (0 : Int) ∧ hchk (↑n2 : Int) hs2 (-1 : Int) = (0 : Int)) ∧ Is (isRun xs hs n k (flts xs) (ints hs) ∧ fi (List.map sE xs) = (0 : Int) ∧ hchk (↑n : Int) hs (-1 : Int) = (0 : Int)) ∧ (∃ (s : Nat), Is (s ≤ n2) ∧ [poi, poi, Value.pointer (some { block := (4 : Nat), off := (0 : Nat) }), Value.pointer (some { block := (5 : Nat), off := (0 : Nat) }), Value.pointer (some { block := (6 : Nat), off := (0 : Nat) }), poi, poi, Value.pointer (some { block := (7 : Nat), off := (0 : Nat) }), Value.slice (some { block := (9 : Nat), off := (0 : Nat) }) n (0 : Nat), poi, poi, poi, poi, poi, poi, poi, poi, poi, poi, poi, poi, poi, poi, poi, poi, poi, poi, poi, poi, poi, Value.slice (some { block := (8 : Nat), off := (0 : Nat) }) n2 (0 : Nat), Value.int IntKind.i64 (↑n2 : Int), Value.int IntKind.i64 (0 : Int), poi, poi, poi, poi, poi, poi, poi, poi, poi, poi, poi, poi, poi, poi, poi, poi, poi, poi, poi] = [poi, poi, Value.pointer (some { block := (4 : Nat), off := (0 : Nat) }), Value.pointer (some { block := (5 : Nat), off := (0 : Nat) }), Value.pointer (some { block := (6 : Nat), off := (0 : Nat) }), poi, poi, Value.pointer (some { block := (7 : Nat), off := (0 : Nat) }), Value.slice (some { block := (9 : Nat), off := (0 : Nat) }) n (0 : Nat), poi, poi, poi, poi, poi, poi, poi, poi, poi, poi, poi, poi, poi, poi, poi, poi, poi, poi, poi, poi, poi, Value.slice (some { block := (8 : Nat), off := (0 : Nat) }) n2 (0 : Nat), Value.int IntKind.i64 (↑n2 : Int), Value.int IntKind.i64 (↑s : Int), poi, poi, poi, poi, poi, poi, poi, poi, poi, poi, poi, poi, poi, poi, poi, poi, poi, poi, poi] ∧ some (AObj.row (flts xs) (1 : Nat) true true true) :: some (AObj.row (ints hs) (2 : Nat) true true true) :: some (AObj.row (flts xs2) (1 : Nat) true true true) :: some (AObj.row (ints hs2) (2 : Nat) true true true) :: some (AObj.row [Value.string nm, Value.int IntKind.i64 f, Value.slice (some { block := (0 : Nat), off := (0 : Nat) }) n c, Value.slice (some { block := (1 : Nat), off := (0 : Nat) }) k d] (0 : Nat) false true (List.all [Value.string nm, Value.int IntKind.i64 f, Value.slice (some { block := (0 : Nat), off := (0 : Nat) }) n c, Value.slice (some { block := (1 : Nat), off := (0 : Nat) }) k d] atom)) :: some (AObj.row [Value.string nm2, Value.int IntKind.i64 f2, Value.slice (some { block := (2 : Nat), off := (0 : Nat) }) n2 c2, Value.slice (some { block := (3 : Nat), off := (0 : Nat) }) k2 d2] (0 : Nat) false true (List.all [Value.string nm2, Value.int IntKind.i64 f2, Value.slice (some { block := (2 : Nat), off := (0 : Nat) }) n2 c2, Value.slice (some { block := (3 : Nat), off := (0 : Nat) }) k2 d2] atom)) :: some (AObj.row [Value.string { data := #[] }, Value.int IntKind.i64 (0 : Int), Value.slice none (0 : Nat) (0 : Nat), Value.slice none (0 : Nat) (0 : Nat)] (0 : Nat) false true true) :: some (AObj.row [Value.slice (some { block := (8 : Nat), off := (0 : Nat) }) n2 (0 : Nat)] (0 : Nat) false true (true && List.all [Value.slice (some { block := List.length (some (AObj.row (flts xs) (1 : Nat) true true true) :: some (AObj.row (ints hs) (2 : Nat) true true true) :: some (AObj.row (flts xs2) (1 : Nat) true true true) :: some (AObj.row (ints hs2) (2 : Nat) true true true) :: some (AObj.row [Value.string nm, Value.int IntKind.i64 f, Value.slice (some { block := (0 : Nat), off := (0 : Nat) }) n c, Value.slice (some { block := (1 : Nat), off := (0 : Nat) }) k d] (0 : Nat) false true (List.all [Value.string nm, Value.int IntKind.i64 f, Value.slice (some { block := (0 : Nat), off := (0 : Nat) }) n c, Value.slice (some { block := (1 : Nat), off := (0 : Nat) }) k d] atom)) :: some (AObj.row [Value.string nm2, Value.int IntKind.i64 f2, Value.slice (some { block := (2 : Nat), off := (0 : Nat) }) n2 c2, Value.slice (some { block := (3 : Nat), off := (0 : Nat) }) k2 d2] (0 : Nat) false true (List.all [Value.string nm2, Value.int IntKind.i64 f2, Value.slice (some { block := (2 : Nat), off := (0 : Nat) }) n2 c2, Value.slice (some { block := (3 : Nat), off := (0 : Nat) }) k2 d2] atom)) :: some (AObj.row [Value.string { data := #[] }, Value.int IntKind.i64 (0 : Int), Value.slice none (0 : Nat) (0 : Nat), Value.slice none (0 : Nat) (0 : Nat)] (0 : Nat) false true true) :: some (AObj.row [Value.int IntKind.i64 (runE nm f xs n hs), Value.int IntKind.i64 (runE nm2 f2 xs2 n2 hs2)] (1 : Nat) false true true) :: noH) + (0 : Nat), off := (0 : Nat) }) n2 (0 : Nat)] atom)) :: some (AObj.row (rdc n2 (rdF xs2 (knB hs2))) (2 : Nat) true true true) :: some (AObj.row (rdc n (rdF xs (knB hs))) (2 : Nat) true true true) :: noH = some (AObj.row (flts xs) (1 : Nat) true true true) :: some (AObj.row (ints hs) (2 : Nat) true true true) :: some (AObj.row (flts xs2) (1 : Nat) true true true) :: some (AObj.row (ints hs2) (2 : Nat) true true true) :: some (AObj.row [Value.string nm, Value.int IntKind.i64 f, Value.slice (some { block := (0 : Nat), off := (0 : Nat) }) n c, Value.slice (some { block := (1 : Nat), off := (0 : Nat) }) k d] (0 : Nat) false true false) :: some (AObj.row [Value.string nm2, Value.int IntKind.i64 f2, Value.slice (some { block := (2 : Nat), off := (0 : Nat) }) n2 c2, Value.slice (some { block := (3 : Nat), off := (0 : Nat) }) k2 d2] (0 : Nat) false true false) :: some (AObj.row [Value.string { data := #[] }, Value.int IntKind.i64 (0 : Int), Value.slice none (0 : Nat) (0 : Nat), Value.slice none (0 : Nat) (0 : Nat)] (0 : Nat) false true true) :: some (AObj.row [Value.slice (some { block := (8 : Nat), off := (0 : Nat) }) n2 (0 : Nat)] (0 : Nat) false true false) :: some (AObj.row (rdc n2 (rdF xs2 (knB hs2))) (2 : Nat) true true true) :: some (AObj.row (rdc n (mzR (rdF xs (knB hs)) (rdF xs2 (knB hs2)) s)) (2 : Nat) true true true) :: noH) ∧ ∀ (s : Nat), Is (s ≤ n2) → br (decide ((↑s : Int) < (↑n2 : Int))) (Is ((0 : Int) ≤ (↑s : Int) ∧ (↑s : Int) < (↑n2 : Int)) ∧ Is ((if (0 : Nat) + Int.toNat (↑s : Int) * (2 : Nat) + (2 : Nat) ≤ List.length (rdc n2 (rdF xs2 (knB hs2))) then some (Value.agg (List.toArray (List.take (2 : Nat) (List.drop ((0 : Nat) + Int.toNat (↑s : Int) * (2 : Nat)) (rdc n2 (rdF xs2 (knB hs2))))))) else none) = some (Value.agg #[Value.int IntKind.i64 (rdV (rdF xs2 (knB hs2)) ((0 : Nat) + Int.toNat (↑s : Int) * (2 : Nat))), Value.bool (rdW (rdF xs2 (knB hs2)) ((0 : Nat) + Int.toNat (↑s : Int) * (2 : Nat)))])) ∧ br (!rdW (rdF xs2 (knB hs2)) ((0 : Nat) + Int.toNat (↑s : Int) * (2 : Nat))) (Is ((0 : Int) ≤ (↑s : Int) ∧ (↑s : Int) < (↑n : Int)) ∧ Is ((0 : Nat) + Int.toNat (↑s : Int) * (2 : Nat) + List.length [Value.int IntKind.i64 (0 : Int), Value.bool false] ≤ List.length (rdc n (mzR (rdF xs (knB hs)) (rdF xs2 (knB hs2)) s))) ∧ ∃ (s' : Nat), Is (s' ≤ n2) ∧ Is (n2 - s' < n2 - s) ∧ [poi, poi, Value.pointer (some { block := (4 : Nat), off := (0 : Nat) }), Value.pointer (some { block := (5 : Nat), off := (0 : Nat) }), Value.pointer (some { block := (6 : Nat), off := (0 : Nat) }), poi, poi, Value.pointer (some { block := (7 : Nat), off := (0 : Nat) }), Value.slice (some { block := (9 : Nat), off := (0 : Nat) }) n (0 : Nat), poi, poi, poi, poi, poi, poi, poi, poi, poi, poi, poi, poi, poi, poi, poi, poi, poi, poi, poi, poi, poi, Value.slice (some { block := (8 : Nat), off := (0 : Nat) }) n2 (0 : Nat), Value.int IntKind.i64 (↑n2 : Int), Value.int IntKind.i64 (IntKind.wrap IntKind.i64 ((↑s : Int) + (1 : Int))), poi, poi, poi, poi, poi, poi, poi, poi, poi, poi, poi, poi, poi, poi, poi, poi, poi, poi, poi] = [poi, poi, Value.pointer (some { block := (4 : Nat), off := (0 : Nat) }), Value.pointer (some { block := (5 : Nat), off := (0 : Nat) }), Value.pointer (some { block := (6 : Nat), off := (0 : Nat) }), poi, poi, Value.pointer (some { block := (7 : Nat), off := (0 : Nat) }), Value.slice (some { block := (9 : Nat), off := (0 : Nat) }) n (0 : Nat), poi, poi, poi, poi, poi, poi, poi, poi, poi, poi, poi, poi, poi, poi, poi, poi, poi, poi, poi, poi, poi, Value.slice (some { block := (8 : Nat), off := (0 : Nat) }) n2 (0 : Nat), Value.int IntKind.i64 (↑n2 : Int), Value.int IntKind.i64 (↑s' : Int), poi, poi, poi, poi, poi, poi, poi, poi, poi, poi, poi, poi, poi, poi, poi, poi, poi, poi, poi] ∧ some (AObj.row (flts xs) (1 : Nat) true true true) :: some (AObj.row (ints hs) (2 : Nat) true true true) :: some (AObj.row (flts xs2) (1 : Nat) true true true) :: some (AObj.row (ints hs2) (2 : Nat) true true true) :: some (AObj.row [Value.string nm, Value.int IntKind.i64 f, Value.slice (some { block := (0 : Nat), off := (0 : Nat) }) n c, Value.slice (some { block := (1 : Nat), off := (0 : Nat) }) k d] (0 : Nat) false true false) :: some (AObj.row [Value.string nm2, Value.int IntKind.i64 f2, Value.slice (some { block := (2 : Nat), off := (0 : Nat) }) n2 c2, Value.slice (some { block := (3 : Nat), off := (0 : Nat) }) k2 d2] (0 : Nat) false true false) :: some (AObj.row [Value.string { data := #[] }, Value.int IntKind.i64 (0 : Int), Value.slice none (0 : Nat) (0 : Nat), Value.slice none (0 : Nat) (0 : Nat)] (0 : Nat) false true true) :: some (AObj.row [Value.slice (some { block := (8 : Nat), off := (0 : Nat) }) n2 (0 : Nat)] (0 : Nat) false true false) :: some (AObj.row (rdc n2 (rdF xs2 (knB hs2))) (2 : Nat) true true true) :: some (AObj.row (putL (rdc n (mzR (rdF xs (knB hs)) (rdF xs2 (knB hs2)) s)) ((0 : Nat) + Int.toNat (↑s : Int) * (2 : Nat)) [Value.int IntKind.i64 (0 : Int), Value.bool false]) (2 : Nat) true true (true && List.all [Value.int IntKind.i64 (0 : Int), Value.bool false] atom)) :: noH = some (AObj.row (flts xs) (1 : Nat) true true true) :: some (AObj.row (ints hs) (2 : Nat) true true true) :: some (AObj.row (flts xs2) (1 : Nat) true true true) :: some (AObj.row (ints hs2) (2 : Nat) true true true) :: some (AObj.row [Value.string nm, Value.int IntKind.i64 f, Value.slice (some { block := (0 : Nat), off := (0 : Nat) }) n c, Value.slice (some { block := (1 : Nat), off := (0 : Nat) }) k d] (0 : Nat) false true false) :: some (AObj.row [Value.string nm2, Value.int IntKind.i64 f2, Value.slice (some { block := (2 : Nat), off := (0 : Nat) }) n2 c2, Value.slice (some { block := (3 : Nat), off := (0 : Nat) }) k2 d2] (0 : Nat) false true false) :: some (AObj.row [Value.string { data := #[] }, Value.int IntKind.i64 (0 : Int), Value.slice none (0 : Nat) (0 : Nat), Value.slice none (0 : Nat) (0 : Nat)] (0 : Nat) false true true) :: some (AObj.row [Value.slice (some { block := (8 : Nat), off := (0 : Nat) }) n2 (0 : Nat)] (0 : Nat) false true false) :: some (AObj.row (rdc n2 (rdF xs2 (knB hs2))) (2 : Nat) true true true) :: some (AObj.row (rdc n (mzR (rdF xs (knB hs)) (rdF xs2 (knB hs2)) s')) (2 : Nat) true true true) :: noH) (∃ (s' : Nat), Is (s' ≤ n2) ∧ Is (n2 - s' < n2 - s) ∧ [poi, poi, Value.pointer (some { block := (4 : Nat), off := (0 : Nat) }), Value.pointer (some { block := (5 : Nat), off := (0 : Nat) }), Value.pointer (some { block := (6 : Nat), off := (0 : Nat) }), poi, poi, Value.pointer (some { block := (7 : Nat), off := (0 : Nat) }), Value.slice (some { block := (9 : Nat), off := (0 : Nat) }) n (0 : Nat), poi, poi, poi, poi, poi, poi, poi, poi, poi, poi, poi, poi, poi, poi, poi, poi, poi, poi, poi, poi, poi, Value.slice (some { block := (8 : Nat), off := (0 : Nat) }) n2 (0 : Nat), Value.int IntKind.i64 (↑n2 : Int), Value.int IntKind.i64 (IntKind.wrap IntKind.i64 ((↑s : Int) + (1 : Int))), poi, poi, poi, poi, poi, poi, poi, poi, poi, poi, poi, poi, poi, poi, poi, poi, poi, poi, poi] = [poi, poi, Value.pointer (some { block := (4 : Nat), off := (0 : Nat) }), Value.pointer (some { block := (5 : Nat), off := (0 : Nat) }), Value.pointer (some { block := (6 : Nat), off := (0 : Nat) }), poi, poi, Value.pointer (some { block := (7 : Nat), off := (0 : Nat) }), Value.slice (some { block := (9 : Nat), off := (0 : Nat) }) n (0 : Nat), poi, poi, poi, poi, poi, poi, poi, poi, poi, poi, poi, poi, poi, poi, poi, poi, poi, poi, poi, poi, poi, Value.slice (some { block := (8 : Nat), off := (0 : Nat) }) n2 (0 : Nat), Value.int IntKind.i64 (↑n2 : Int), Value.int IntKind.i64 (↑s' : Int), poi, poi, poi, poi, poi, poi, poi, poi, poi, poi, poi, poi, poi, poi, poi, poi, poi, poi, poi] ∧ some (AObj.row (flts xs) (1 : Nat) true true true) :: some (AObj.row (ints hs) (2 : Nat) true true true) :: some (AObj.row (flts xs2) (1 : Nat) true true true) :: some (AObj.row (ints hs2) (2 : Nat) true true true) :: some (AObj.row [Value.string nm, Value.int IntKind.i64 f, Value.slice (some { block := (0 : Nat), off := (0 : Nat) }) n c, Value.slice (some { block := (1 : Nat), off := (0 : Nat) }) k d] (0 : Nat) false true false) :: some (AObj.row [Value.string nm2, Value.int IntKind.i64 f2, Value.slice (some { block := (2 : Nat), off := (0 : Nat) }) n2 c2, Value.slice (some { block := (3 : Nat), off := (0 : Nat) }) k2 d2] (0 : Nat) false true false) :: some (AObj.row [Value.string { data := #[] }, Value.int IntKind.i64 (0 : Int), Value.slice none (0 : Nat) (0 : Nat), Value.slice none (0 : Nat) (0 : Nat)] (0 : Nat) false true true) :: some (AObj.row [Value.slice (some { block := (8 : Nat), off := (0 : Nat) }) n2 (0 : Nat)] (0 : Nat) false true false) :: some (AObj.row (rdc n2 (rdF xs2 (knB hs2))) (2 : Nat) true true true) :: some (AObj.row (rdc n (mzR (rdF xs (knB hs)) (rdF xs2 (knB hs2)) s)) (2 : Nat) true true true) :: noH = some (AObj.row (flts xs) (1 : Nat) true true true) :: some (AObj.row (ints hs) (2 : Nat) true true true) :: some (AObj.row (flts xs2) (1 : Nat) true true true) :: some (AObj.row (ints hs2) (2 : Nat) true true true) :: some (AObj.row [Value.string nm, Value.int IntKind.i64 f, Value.slice (some { block := (0 : Nat), off := (0 : Nat) }) n c, Value.slice (some { block := (1 : Nat), off := (0 : Nat) }) k d] (0 : Nat) false true false) :: some (AObj.row [Value.string nm2, Value.int IntKind.i64 f2, Value.slice (some { block := (2 : Nat), off := (0 : Nat) }) n2 c2, Value.slice (some { block := (3 : Nat), off := (0 : Nat) }) k2 d2] (0 : Nat) false true false) :: some (AObj.row [Value.string { data := #[] }, Value.int IntKind.i64 (0 : Int), Value.slice none (0 : Nat) (0 : Nat), Value.slice none (0 : Nat) (0 : Nat)] (0 : Nat) false true true) :: some (AObj.row [Value.slice (some { block := (8 : Nat), off := (0 : Nat) }) n2 (0 : Nat)] (0 : Nat) false true false) :: some (AObj.row (rdc n2 (rdF xs2 (knB hs2))) (2 : Nat) true true true) :: some (AObj.row (rdc n (mzR (rdF xs (knB hs)) (rdF xs2 (knB hs2)) s')) (2 : Nat) true true true) :: noH)) (Is (isRun xs hs n k (flts xs) (ints hs) ∧ rdc n (mzR (rdF xs (knB hs)) (rdF xs2 (knB hs2)) s) = rdc n (mzR (rdF xs (knB hs)) (rdF xs2 (knB hs2)) n) ∧ n ≤ (100000 : Nat) ∧ ∀ (i : Nat), i < n → Int.natAbs (Prod.fst (mzR (rdF xs (knB hs)) (rdF xs2 (knB hs2)) n i)) < (2 : Nat) ^ (24 : Nat)) ∧ Is (isRun (mkX (mzR (rdF xs (knB hs)) (rdF xs2 (knB hs2)) n) n) (mkS (mkB (mzR (rdF xs (knB hs)) (rdF xs2 (knB hs2)) n)) n) n (mkK (mkB (mzR (rdF xs (knB hs)) (rdF xs2 (knB hs2)) n)) n) (flts (mkX (mzR (rdF xs (knB hs)) (rdF xs2 (knB hs2)) n) n)) (ints (mkS (mkB (mzR (rdF xs (knB hs)) (rdF xs2 (knB hs2)) n)) n)) ∧ rdc n2 (rdF xs2 (knB hs2)) = rdc n2 (rdF xs2 (knB hs2)) ∧ fi (List.map sE (mkX (mzR (rdF xs (knB hs)) (rdF xs2 (knB hs2)) n) n)) = (0 : Int) ∧ hchk (↑n : Int) (mkS (mkB (mzR (rdF xs (knB hs)) (rdF xs2 (knB hs2)) n)) n) (-1 : Int) = (0 : Int) ∧ (∀ (i : Nat), i < n → Prod.snd (rdF (mkX (mzR (rdF xs (knB hs)) (rdF xs2 (knB hs2)) n) n) (knB (mkS (mkB (mzR (rdF xs (knB hs)) (rdF xs2 (knB hs2)) n)) n)) i) = true → Int.natAbs (adI (rdF xs2 (knB hs2)) i (Prod.fst (rdF (mkX (mzR (rdF xs (knB hs)) (rdF xs2 (knB hs2)) n) n) (knB (mkS (mkB (mzR (rdF xs (knB hs)) (rdF xs2 (knB hs2)) n)) n)) i))) ≤ (16384 : Nat)) ∧ n ≤ n2 ∧ ∀ (i : Nat), i < n2 → Int.natAbs (Prod.fst (rdF xs2 (knB hs2) i)) ≤ (16384 : Nat)) ∧ K (Value.tuple #[Value.agg #[Value.string nm, Value.int IntKind.i64 f, Value.slice (some { block := (4 : Nat), off := (0 : Nat) }) n (0 : Nat), Value.slice (some { block := (5 : Nat), off := (0 : Nat) }) (mkK (mkB (chR (rdF (mkX (mzR (rdF xs (knB hs)) (rdF xs2 (knB hs2)) n) n) (knB (mkS (mkB (mzR (rdF xs (knB hs)) (rdF xs2 (knB hs2)) n)) n))) (adI (rdF xs2 (knB hs2))) n)) n) (0 : Nat)], Value.int IntKind.i64 (0 : Int)]) (some (AObj.row (flts xs) (1 : Nat) true true true) :: some (AObj.row (ints hs) (2 : Nat) true true true) :: some (AObj.row (flts xs2) (1 : Nat) true true true) :: some (AObj.row (ints hs2) (2 : Nat) true true true) :: some (AObj.row (flts (mkX (chR (rdF (mkX (mzR (rdF xs (knB hs)) (rdF xs2 (knB hs2)) n) n) (knB (mkS (mkB (mzR (rdF xs (knB hs)) (rdF xs2 (knB hs2)) n)) n))) (adI (rdF xs2 (knB hs2))) n) n)) (1 : Nat) true true true) :: some (AObj.row (ints (mkS (mkB (chR (rdF (mkX (mzR (rdF xs (knB hs)) (rdF xs2 (knB hs2)) n) n) (knB (mkS (mkB (mzR (rdF xs (knB hs)) (rdF xs2 (knB hs2)) n)) n))) (adI (rdF xs2 (knB hs2))) n)) n)) (2 : Nat) true true true) :: noH))) := by kernel_rfl
theorem mzR_few {R Q : Nat → Int × Bool} {s i : Nat} (h : (R i).1.natAbs ≤ 16384) : (mzR R Q s i).1.natAbs ≤ 16384 := by
  rw [mzR]
  split
  · exact Nat.zero_le _
  · exact h
theorem mzR_ok {R Q : Nat → Int × Bool} {n s : Nat} (h : RdOk R n) : RdOk (mzR R Q s) n := ⟨fun i hi => mzR_few (h.few i hi), fun i hi hb => by
  rw [mzR] at hb ⊢
  split
  · rfl
  · rename_i e; rw [if_neg e] at hb; exact h.zero i hi hb⟩
theorem mzR_skip {R Q : Nat → Int × Bool} {n s : Nat} (h : (Q s).2 = true) : rdc n (mzR R Q s) = rdc n (mzR R Q (s + 1)) := rdc_congr fun i _ => by
  rw [mzR, mzR]
  by_cases e : i = s
  · subst e; rw [h, Bool.not_true, Bool.and_false, Bool.and_false]
  · rw [show decide (i < s) = decide (i < s + 1) from decide_eq_decide.2 (by omega)]
theorem mzR_put {R Q : Nat → Int × Bool} {n s : Nat} (h : (Q s).2 = false) : rdc n (upR (mzR R Q s) s (0, false)) = rdc n (mzR R Q (s + 1)) := rdc_congr fun i _ => by
  rw [upR, mzR, mzR]
  by_cases e : i = s
  · subst e; rw [if_pos rfl, h, decide_eq_true (Nat.lt_succ_self i)]; rfl
  · rw [if_neg e, show decide (i < s) = decide (i < s + 1) from decide_eq_decide.2 (by omega)]
theorem rdF_ok {xs : List Nat} {P : Int → Bool} {n : Nat} (hx : fi (xs.map sE) = 0) (hn : xs.length = n) : RdOk (rdF xs P) n := ⟨fun i hi => rdF_few hx (by omega), fun i hi hb => by
  rw [rdF] at hb ⊢
  split
  · rename_i e; rw [if_pos e] at hb; cases hb
  · rfl⟩
/-- The sum of readings. -/
noncomputable def suR (R Q : Nat → Int × Bool) (n : Nat) : Nat → Int × Bool := chR (rdF (mkX (mzR R Q n) n) (knB (mkS (mkB (mzR R Q n)) n))) (adI Q) n
set_option maxRecDepth 100000 in
theorem smm_ok {nm nm2 : ByteArray} {f : Int} {n c k d c2 k2 d2 : Nat} {xs xs2 : List Nat} {hs hs2 : List Int} (hi : isRun xs hs n k (flts xs) (ints hs)) (hi2 : isRun xs2 hs2 n k2 (flts xs2) (ints hs2)) (hr : runE nm f xs n hs = 0) (hr2 : runE nm2 f xs2 n hs2 = 0)
    (hg : ∀ i, i < n → (rdF xs (knB hs) i).2 = true → (rdF xs2 (knB hs2) i).2 = true → ((rdF xs (knB hs) i).1 + (rdF xs2 (knB hs2) i).1).natAbs ≤ 16384) :
    SmallRes Tryz.prog 96 [.agg (runA nm f 0 n c 1 k d).toArray, .agg (runA nm2 f 2 n c2 3 k2 d2).toArray] (hp2r xs hs true true true true (hp2r xs2 hs2 true true true true [])) (.tuple #[.agg (runA nm f 4 n 0 5 (mkK (mkB (suR (rdF xs (knB hs)) (rdF xs2 (knB hs2)) n)) n) 0).toArray, .int .i64 0]) (hp2r xs hs true true true true (hp2r xs2 hs2 true true true true (wiR (suR (rdF xs (knB hs)) (rdF xs2 (knB hs2)) n) n))) := by
  refine fnP_res hm cs2_ok (hs := hsSmm nm nm2 f f n c k d n c2 k2 d2 xs xs2 hs hs2) ?_
  rw [smm_t, hr, hr2]
  obtain ⟨_, _, hn4, _, hx, hh, _⟩ := run_zero hr
  obtain ⟨_, _, _, _, hx2, hh2, _⟩ := run_zero hr2
  have h9 : n ≤ 100000 := hi.2.2.2.1
  have ok1 := rdF_ok (P := knB hs) hx hi.2.2.1
  have ok2 := rdF_ok (P := knB hs2) hx2 hi2.2.2.1
  generalize hR : rdF xs (knB hs) = R at *
  generalize hQ : rdF xs2 (knB hs2) = Q at *
  have e0 : rdc n (mzR R Q 0) = rdc n R := rdc_congr fun i _ => by rw [mzR, decide_eq_false (Nat.not_lt_zero i)]; rfl
  refine ⟨⟨hi⟩, ⟨hi2⟩, ⟨rfl, rfl, by decide⟩, ⟨rfl, rfl, rfl, rfl, rfl, rfl⟩, ⟨hi2, hx2, hh2⟩, ⟨hi, hx, hh⟩, ⟨(0 : Nat), ⟨Nat.zero_le _⟩, by first | trivial | rfl, by rw [e0]; first | done | trivial | rfl⟩, fun s hs' => br_of (fun hc => ?_) (fun hc => ?_)⟩
  · have hc := lt_of_dec hc
    simp only [Nat.zero_add, Int.toNat_natCast, rdV_at, rdW_at]
    have t1 := rdc_take (R := Q) hc
    refine ⟨⟨by omega, by omega⟩, ⟨t1⟩, br_of (fun hk => ?_) (fun hk => ?_)⟩
    · have hk : (Q s).2 = false := by simpa using hk
      have p1 : putL (rdc n (mzR R Q s)) (s * 2) [.int .i64 0, .bool false] = rdc n (mzR R Q (s + 1)) := (rdc_put (v := (0, false)) hc).trans (mzR_put hk)
      rw [p1]
      refine ⟨⟨by omega, by omega⟩, ⟨by rw [rdc_len]; simp only [List.length_cons, List.length_nil]; omega⟩, s + 1, ⟨hc⟩, ⟨by omega⟩, by rw [up1 hc (by omega)], by first | trivial | rfl⟩
    · have hk : (Q s).2 = true := by simpa using hk
      refine ⟨s + 1, ⟨hc⟩, ⟨by omega⟩, by rw [up1 hc (by omega)], by rw [mzR_skip hk]⟩
  · have hc := ge_of_dec hc
    have : s = n := by have := hs'.out; omega
    subst this
    have ok3 := mzR_ok (Q := Q) (s := s) ok1
    refine ⟨⟨hi, rfl, h9, fun i hlt => Nat.lt_of_le_of_lt (ok3.few i hlt) (by decide)⟩, ⟨mk_isRun h9, rfl, mkX_fi ok3.few, mkS_hchk _ _, fun i hlt hb => ?_, Nat.le_refl _, ok2.few⟩, by first | trivial | rfl, by first | trivial | rfl⟩
    rw [mk_back ok3 hlt] at hb ⊢
    rw [mzR, decide_eq_true hlt, Bool.true_and] at hb ⊢
    cases hq : (Q i).2 with
    | false => rw [hq] at hb; cases hb
    | true =>
      rw [hq] at hb
      exact hg i hlt hb hq
end
end Qq
end
section
/- The law about spread: the small parts. -/
open Go Go.Vm Go.Proofs Sp
namespace Sp
noncomputable section
/-- How many of the first indices are known. -/
noncomputable def kcn (hs : List Int) : Nat → Nat
  | 0 => 0
  | i + 1 => if knB hs (i : Int) = true then kcn hs i + 1 else kcn hs i
end
end Sp
namespace Qq
noncomputable section
noncomputable def orcSu (xs xs2 : List Nat) (hs hs2 : List Int) : OrcV
  | [.agg ⟨[.string nm, .int .i64 f, .slice (some ⟨0, 0, none⟩) n _, .slice (some ⟨1, 0, none⟩) k _]⟩, .agg ⟨[.string nm2, .int .i64 f2, .slice (some ⟨2, 0, none⟩) n2 _, .slice (some ⟨3, 0, none⟩) k2 _]⟩], [some (.row e1 1 true true true), some (.row e2 2 true true true), some (.row e3 1 true true true), some (.row e4 2 true true true)] =>
    some (.tuple #[.agg (runA nm f 4 n 0 5 (mkK (mkB (suR (rdF xs (knB hs)) (rdF xs2 (knB hs2)) n)) n) 0).toArray, .int .i64 0], some (.row e1 1 true true true) :: some (.row e2 2 true true true) :: some (.row e3 1 true true true) :: some (.row e4 2 true true true) :: wiR (suR (rdF xs (knB hs)) (rdF xs2 (knB hs2)) n) n,
      isRun xs hs n k e1 e2 ∧ isRun xs2 hs2 n2 k2 e3 e4 ∧ f2 = f ∧ n2 = n ∧ runE nm f xs n hs = 0 ∧ runE nm2 f xs2 n hs2 = 0 ∧ ∀ i, i < n → (rdF xs (knB hs) i).2 = true → (rdF xs2 (knB hs2) i).2 = true → ((rdF xs (knB hs) i).1 + (rdF xs2 (knB hs2) i).1).natAbs ≤ 16384)
  | _, _ => none
theorem okSu (xs xs2 : List Nat) (hs hs2 : List Int) : OkV Tryz.prog 96 (orcSu xs xs2 hs hs2) := by
  intro args H ret H' vc h hv
  unfold orcSu at h
  split at h
  · cases h
    obtain ⟨⟨rfl, rfl, h1, h2, h3, h4⟩, ⟨rfl, rfl, h5, h6, h7, h8⟩, rfl, rfl, h9, h10, h11⟩ := hv
    exact smm_ok ⟨rfl, rfl, h1, h2, h3, h4⟩ ⟨rfl, rfl, h5, h6, h7, h8⟩ h9 h10 h11
  · cases h
/- The end of a run. -/
theorem en_t (nm : ByteArray) (f : Int) (n : Nat) (c : Nat) (k : Nat) (d : Nat) (xs : List Nat) (hs : List Int) (K : Value → Heap → Prop) :
    (fnP Tryz.prog c0 h0 (91 : FuncId) [Value.agg (List.toArray (runA nm f (0 : Nat) n c (1 : Nat) k d))] (hp2r xs hs false false false false []) K) =
    (K (Value.int IntKind.i64 (IntKind.wrap IntKind.i64 (f + (↑n : Int)))) (some (AObj.row (flts xs) (1 : Nat) false false true) :: some (AObj.row (ints hs) (2 : Nat) false false true) :: noH)) := by kernel_rfl
noncomputable def orcEn (xs : List Nat) (hs : List Int) : OrcV
  | [.agg ⟨[.string _, .int .i64 f, .slice (some ⟨0, 0, none⟩) n _, .slice (some ⟨1, 0, none⟩) _ _]⟩], [some (.row e1 1 false false true), some (.row e2 2 false false true)] =>
    some (.int .i64 (f + n), [some (.row e1 1 false false true), some (.row e2 2 false false true)], isRn1 xs hs e1 e2 ∧ 0 ≤ f ∧ f ≤ 100000000 ∧ n ≤ 100000)
  | _, _ => none
theorem okEn (xs : List Nat) (hs : List Int) : OkV Tryz.prog 91 (orcEn xs hs) := by
  intro args H ret H' vc h hv
  unfold orcEn at h
  split at h
  · rename_i nm f n c k d e1 e2
    cases h
    obtain ⟨⟨rfl, rfl⟩, f0, f1, hn⟩ := hv
    refine fnP_res hm c0_ok (hs := h0) ?_
    show fnP Tryz.prog c0 h0 91 [.agg (runA nm f 0 n c 1 k d).toArray] (hp2r xs hs false false false false []) _
    rw [en_t, wrap_eq (x := f + n) (by omega) (by omega)]
    exact ⟨by first | trivial | rfl, by first | trivial | rfl⟩
  · cases h
/- How many samples are known. -/
noncomputable def lpKc (nm : ByteArray) (f : Int) (n c k d : Nat) (xs : List Nat) (hs : List Int) : Lp where
  σ := Nat
  E s := slots 18 [(1, .pointer (some ⟨2, 0, none⟩)), (3, .int .i64 (Int.ofNat (kcn hs s))), (4, .int .i64 (Int.ofNat s))]
  Hp _ := hp2r xs hs false false false false [runO nm f n c k d]
  I s := s ≤ n
  m s := n - s
noncomputable def hsKc (nm : ByteArray) (f : Int) (n c k d : Nat) (xs : List Nat) (hs : List Int) : Hs Tryz.prog where
  lp _ := some (lpKc nm f n c k d xs hs)
  cl _ := keep 18 [1, 3, 4]
  au := auCalls [(93, hCa Tryz.prog 93 (orcKn xs hs) (okKn xs hs))]
theorem kc_t (nm : ByteArray) (f : Int) (n : Nat) (c : Nat) (k : Nat) (d : Nat) (xs : List Nat) (hs : List Int) (K : Value → Heap → Prop) :
    (fnP Tryz.prog c0 (hsKc nm f n c k d xs hs) (92 : FuncId) [Value.agg (List.toArray (runA nm f (0 : Nat) n c (1 : Nat) k d))] (hp2r xs hs false false false false []) K) =
    ((∃ (s : Nat), Is (s ≤ n) ∧ [poi, Value.pointer (some { block := (2 : Nat), off := (0 : Nat) }), poi, Value.int IntKind.i64 (0 : Int), Value.int IntKind.i64 (0 : Int), poi, poi, poi, poi, poi, poi, poi, poi, poi, poi, poi, poi, poi] = [poi, Value.pointer (some { block := (2 : Nat), off := (0 : Nat) }), poi, Value.int IntKind.i64 (↑(kcn hs s) : Int), Value.int IntKind.i64 (↑s : Int), poi, poi, poi, poi, poi, poi, poi, poi, poi, poi, poi, poi, poi] ∧ some (AObj.row (flts xs) (1 : Nat) false false true) :: some (AObj.row (ints hs) (2 : Nat) false false true) :: some (AObj.row [Value.string nm, Value.int IntKind.i64 f, Value.slice (some { block := (0 : Nat), off := (0 : Nat) }) n c, Value.slice (some { block := (1 : Nat), off := (0 : Nat) }) k d] (0 : Nat) false true (List.all [Value.string nm, Value.int IntKind.i64 f, Value.slice (some { block := (0 : Nat), off := (0 : Nat) }) n c, Value.slice (some { block := (1 : Nat), off := (0 : Nat) }) k d] atom)) :: noH = some (AObj.row (flts xs) (1 : Nat) false false true) :: some (AObj.row (ints hs) (2 : Nat) false false true) :: some (AObj.row [Value.string nm, Value.int IntKind.i64 f, Value.slice (some { block := (0 : Nat), off := (0 : Nat) }) n c, Value.slice (some { block := (1 : Nat), off := (0 : Nat) }) k d] (0 : Nat) false true false) :: noH) ∧ ∀ (s : Nat), Is (s ≤ n) → br (decide ((↑s : Int) < (↑n : Int))) (Is (isRn0 xs hs k (flts xs) (ints hs)) ∧ br (knB hs (↑s : Int)) (∃ (s' : Nat), Is (s' ≤ n) ∧ Is (n - s' < n - s) ∧ [poi, Value.pointer (some { block := (2 : Nat), off := (0 : Nat) }), poi, Value.int IntKind.i64 (IntKind.wrap IntKind.i64 ((↑(kcn hs s) : Int) + (1 : Int))), Value.int IntKind.i64 (IntKind.wrap IntKind.i64 ((↑s : Int) + (1 : Int))), poi, poi, poi, poi, poi, poi, poi, poi, poi, poi, poi, poi, poi] = [poi, Value.pointer (some { block := (2 : Nat), off := (0 : Nat) }), poi, Value.int IntKind.i64 (↑(kcn hs s') : Int), Value.int IntKind.i64 (↑s' : Int), poi, poi, poi, poi, poi, poi, poi, poi, poi, poi, poi, poi, poi] ∧ some (AObj.row (flts xs) (1 : Nat) false false true) :: some (AObj.row (ints hs) (2 : Nat) false false true) :: some (AObj.row [Value.string nm, Value.int IntKind.i64 f, Value.slice (some { block := (0 : Nat), off := (0 : Nat) }) n c, Value.slice (some { block := (1 : Nat), off := (0 : Nat) }) k d] (0 : Nat) false true false) :: noH = some (AObj.row (flts xs) (1 : Nat) false false true) :: some (AObj.row (ints hs) (2 : Nat) false false true) :: some (AObj.row [Value.string nm, Value.int IntKind.i64 f, Value.slice (some { block := (0 : Nat), off := (0 : Nat) }) n c, Value.slice (some { block := (1 : Nat), off := (0 : Nat) }) k d] (0 : Nat) false true false) :: noH) (∃ (s' : Nat), Is (s' ≤ n) ∧ Is (n - s' < n - s) ∧ [poi, Value.pointer (some { block := (2 : Nat), off := (0 : Nat) }), poi, Value.int IntKind.i64 (↑(kcn hs s) : Int), Value.int IntKind.i64 (IntKind.wrap IntKind.i64 ((↑s : Int) + (1 : Int))), poi, poi, poi, poi, poi, poi, poi, poi, poi, poi, poi, poi, poi] = [poi, Value.pointer (some { block := (2 : Nat), off := (0 : Nat) }), poi, Value.int IntKind.i64 (↑(kcn hs s') : Int), Value.int IntKind.i64 (↑s' : Int), poi, poi, poi, poi, poi, poi, poi, poi, poi, poi, poi, poi, poi] ∧ some (AObj.row (flts xs) (1 : Nat) false false true) :: some (AObj.row (ints hs) (2 : Nat) false false true) :: some (AObj.row [Value.string nm, Value.int IntKind.i64 f, Value.slice (some { block := (0 : Nat), off := (0 : Nat) }) n c, Value.slice (some { block := (1 : Nat), off := (0 : Nat) }) k d] (0 : Nat) false true false) :: noH = some (AObj.row (flts xs) (1 : Nat) false false true) :: some (AObj.row (ints hs) (2 : Nat) false false true) :: some (AObj.row [Value.string nm, Value.int IntKind.i64 f, Value.slice (some { block := (0 : Nat), off := (0 : Nat) }) n c, Value.slice (some { block := (1 : Nat), off := (0 : Nat) }) k d] (0 : Nat) false true false) :: noH)) (K (Value.int IntKind.i64 (↑(kcn hs s) : Int)) (some (AObj.row (flts xs) (1 : Nat) false false true) :: some (AObj.row (ints hs) (2 : Nat) false false true) :: noH))) := by kernel_rfl
theorem kcn_le (hs : List Int) : ∀ i, kcn hs i ≤ i
  | 0 => Nat.le_refl 0
  | i + 1 => by
    have := kcn_le hs i
    rw [kcn]; split <;> omega
set_option maxRecDepth 100000 in
theorem kc_ok {nm : ByteArray} {f : Int} {n c k d : Nat} {xs : List Nat} {hs : List Int} (hr : isRun xs hs n k (flts xs) (ints hs)) :
    SmallRes Tryz.prog 92 [.agg (runA nm f 0 n c 1 k d).toArray] (hp2r xs hs false false false false []) (.int .i64 (kcn hs n : Int)) (hp2r xs hs false false false false []) := by
  refine fnP_res hm c0_ok (hs := hsKc nm f n c k d xs hs) ?_
  rw [kc_t]
  obtain ⟨_, _, h1, h2, h3, h4⟩ := hr
  have k0 : kcn hs 0 = 0 := by rw [kcn]
  refine ⟨⟨(0 : Nat), ⟨Nat.zero_le _⟩, by rw [k0]; first | done | trivial | rfl, by first | trivial | rfl⟩, fun s hs' => br_of (fun hc => ?_) (fun hc => ?_)⟩
  · have hc := lt_of_dec hc
    have hle := kcn_le hs s
    refine ⟨⟨rfl, rfl, h3, h4⟩, br_of (fun hk => ⟨s + 1, ⟨hc⟩, ⟨by omega⟩, ?_, by first | trivial | rfl⟩) (fun hk => ⟨s + 1, ⟨hc⟩, ⟨by omega⟩, ?_, by first | trivial | rfl⟩)⟩
    · have e : kcn hs (s + 1) = kcn hs s + 1 := by rw [kcn, if_pos hk]
      rw [e, up1 hc (by omega), up1 (n := 100000) (s := kcn hs s) (by omega) (by omega)]
    · have e : kcn hs (s + 1) = kcn hs s := by rw [kcn, hk]; rfl
      rw [e, up1 hc (by omega)]
  · have hc := ge_of_dec hc
    have : s = n := by have := hs'.out; omega
    subst this
    exact ⟨by first | trivial | rfl, by first | trivial | rfl⟩
noncomputable def orcKc (xs : List Nat) (hs : List Int) : OrcV
  | [.agg ⟨[.string _nm, .int .i64 _f, .slice (some ⟨0, 0, none⟩) n _, .slice (some ⟨1, 0, none⟩) k _]⟩], [some (.row e1 1 false false true), some (.row e2 2 false false true)] =>
    some (.int .i64 (kcn hs n : Int), [some (.row e1 1 false false true), some (.row e2 2 false false true)], isRun xs hs n k e1 e2)
  | _, _ => none
theorem okKc (xs : List Nat) (hs : List Int) : OkV Tryz.prog 92 (orcKc xs hs) := by
  intro args H ret H' vc h hv
  unfold orcKc at h
  split at h
  · cases h
    obtain ⟨rfl, rfl, h1, h2, h3, h4⟩ := hv
    exact kc_ok ⟨rfl, rfl, h1, h2, h3, h4⟩
  · cases h
end
end Qq
end
