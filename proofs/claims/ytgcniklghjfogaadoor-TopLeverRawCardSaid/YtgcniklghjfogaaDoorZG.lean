/- Parts of the proof: RF, VmAN, RJ, RK, VmAE, RL, LA, FlC, FlE. -/
import Derived.Test.YtgcniklghjfogaaDoorZF
import Derived.Test.YtgcniklghjfogaaDoorZK
import Derived.Test.YtgcniklghjfogaaDoorZD
import Derived.Test.YtgcniklghjfogaaDoorZA
import Derived.Test.YtgcniklghjfogaaDoorZC
section
/- Moments of a run. -/
open Go Go.Vm Go.Proofs Sp
namespace Sp
noncomputable section
noncomputable def addM (m : Int × Int × Int) (v : Int) : Int × Int × Int := (m.1 + 1, m.2.1 + v, m.2.2 + v * v)
/-- The moments of so many samples from an index on. -/
noncomputable def mo (xs : List Nat) (hs : List Int) (a : Nat) : Nat → Int × Int × Int
  | 0 => (0, 0, 0)
  | i + 1 => if knB hs ((a + i : Nat) : Int) = true then addM (mo xs hs a i) (lev (xs.getD (a + i) 0)) else mo xs hs a i
end
end Sp
namespace Qq
noncomputable section
noncomputable def isFl (e : List Value) : Prop := ∃ xs, e = flts xs
noncomputable def moC (m : Int × Int × Int) : List Value := [.int .i64 m.1, .int .i64 m.2.1, .int .i64 m.2.2]
/- The reference. -/
/- Copies; short runs. -/
noncomputable def orcSlR : OrcV
  | [.slice (some ⟨0, 0, none⟩) n _], [some (.row e1 1 false false true)] => some (.bool (decide (n ≤ 40) || n == 4097), [some (.row e1 1 false false true)], isFl e1)
  | _, _ => none
/-- What a run that is checked says. -/
theorem run_zero {nm : ByteArray} {f : Int} {xs : List Nat} {n : Nat} {hs : List Int} (h : runE nm f xs n hs = 0) :
    nameB nm = true ∧ (0 ≤ f ∧ f ≤ 100000000) ∧ n ≤ 4096 ∧ f + n ≤ 100000000 ∧ fi (xs.map sE) = 0 ∧ hchk n hs (-1) = 0 ∧ hzH xs hs = true := by
  obtain ⟨h1, h2⟩ := sel_zero.1 h
  obtain ⟨h3, h4⟩ := sel_zero.1 h2
  obtain ⟨h5, h6⟩ := sel_zero.1 h4
  have k1 := (wh_zero (by decide)).1 (fi_zero.1 h1 (wh (!nameB nm) 8) (by simp))
  have k2 := wi_zero.1 (fi_zero.1 h1 (wi f 0 100000000) (by simp))
  have k3 := of_decide_eq_false ((wh_zero (by decide)).1 (fi_zero.1 h1 (wh (decide ((4096 : Int) < n)) 5) (by simp)))
  have k4 := fi_zero.1 h3 (fi (xs.map sE)) (by simp)
  have k5 := of_decide_eq_false ((wh_zero (by decide)).1 (fi_zero.1 h3 (wh (decide ((100000000 : Int) < f + n)) 4) (by simp)))
  have k6 := (wh_zero (by decide)).1 h6
  exact ⟨by simpa using k1, k2, by omega, by omega, k4, h5, by simpa using k6⟩
theorem smps {xs : List Nat} (h : fi (xs.map sE) = 0) {j : Nat} (hj : j < xs.length) : sE (xs.getD j 0) = 0 := by
  refine fi_zero.1 h _ (List.mem_map.2 ⟨xs.getD j 0, ?_, rfl⟩)
  rw [List.getD_eq_getElem?_getD, List.getElem?_eq_getElem hj]
  exact List.getElem_mem _
theorem sq_bd {v : Int} (h : v.natAbs ≤ 16384) : 0 ≤ v * v ∧ v * v ≤ 268435456 := by
  have := sq_le (a := v) (M := 16384) (by omega) (by omega)
  exact ⟨by rw [← Int.natAbs_mul_self]; omega, by omega⟩
/-- Moments are bounded. -/
structure MoB (m : Int × Int × Int) (i : Nat) : Prop where
  c0 : 0 ≤ m.1
  c1 : m.1 ≤ i
  s0 : -(16384 * (i : Int)) ≤ m.2.1
  s1 : m.2.1 ≤ 16384 * i
  q0 : 0 ≤ m.2.2
  q1 : m.2.2 ≤ 268435456 * i
theorem MoB.zero : MoB (0, 0, 0) 0 := ⟨by simp, by simp, by simp, by simp, by simp, by simp⟩
theorem MoB.more {m : Int × Int × Int} {i : Nat} (h : MoB m i) : MoB m (i + 1) := by
  obtain ⟨a, b, c, d, e, f⟩ := h
  exact ⟨a, by omega, by omega, by omega, e, by omega⟩
theorem MoB.add {m : Int × Int × Int} {i : Nat} {v : Int} (h : MoB m i) (hv : v.natAbs ≤ 16384) : MoB (addM m v) (i + 1) := by
  obtain ⟨a, b, c, d, e, f⟩ := h
  obtain ⟨q0, q1⟩ := sq_bd hv
  exact ⟨by simp only [addM]; omega, by simp only [addM]; omega, by simp only [addM]; omega, by simp only [addM]; omega, by simp only [addM]; omega, by simp only [addM]; omega⟩
/-- Each step is one of the machine's. -/
theorem MoB.wraps {m : Int × Int × Int} {i : Nat} {v : Int} (h : MoB m i) (hi : i ≤ 100000) (hv : v.natAbs ≤ 16384) :
    [Value.int .i64 (IntKind.wrap .i64 (m.1 + 1)), .int .i64 (IntKind.wrap .i64 (m.2.1 + v)), .int .i64 (IntKind.wrap .i64 (m.2.2 + IntKind.wrap .i64 (v * v)))] = moC (addM m v) := by
  obtain ⟨a, b, c, d, e, f⟩ := h
  obtain ⟨q0, q1⟩ := sq_bd hv
  rw [wrap_eq (x := m.1 + 1) (by omega) (by omega), wrap_eq (x := m.2.1 + v) (by omega) (by omega), wrap_eq (x := v * v) (by omega) (by omega), wrap_eq (x := m.2.2 + v * v) (by omega) (by omega)]
  rfl
theorem mo_bd {xs : List Nat} {hs : List Int} {a : Nat} (hx : fi (xs.map sE) = 0) : ∀ i, a + i ≤ xs.length → MoB (mo xs hs a i) i
  | 0, _ => .zero
  | i + 1, h => by
    have ih := mo_bd (hs := hs) (a := a) hx i (by omega)
    rw [mo]
    split
    · exact ih.add (Fl.smp (smps hx (j := a + i) (by omega))).few
    · exact ih.more
end
end Qq
end
section
/- Iterators whose states name the function that they call. -/
namespace Go.Vm
open Go.RowKit
noncomputable section
section
variable (P : Program) (call : CallF) (hz : Nat → Ys P) (Hc : Heap) (N : Nat) (el : Nat → List Value)
/-- An iterator's function. -/
def iterZ (f : FuncId) (cap : List Value) : Prop :=
  match P.funcs[f]? with
  | some fn =>
    match fn.body with
    | some c => ∀ l : Nat, codeY P call (hz l) l Hc N el c 0 false ((.func (.yield l) #[] #[] :: cap) ++ List.replicate (fn.ntmps - (cap.length + 1)) undef) Hc fun x i st e h =>
      match x with
      | .normal => finY P N fn.results.toList i st e h
      | .ret => finY P N fn.results.toList i st e h
      | _ => False
    | none => False
  | none => False
end
section
variable {P : Program} {call : CallF} {hz : Nat → Ys P} {Hc : Heap} {N : Nat} {el : Nat → List Value}
theorem iterZ_ok (hm : P.follows .mixedOrders = true) (hc : CallOK P call) {f : FuncId} {cap : List Value} (h : iterZ P call hz Hc N el f cap) : IterRes P f cap Hc N el := by
  unfold iterZ at h
  split at h
  · rename_i fn hfn
    split at h
    · rename_i c hbody
      intro F A ψ w cap' hh hw hs hb hl n l J Jx W hk hJ hJx hy hJ0
      have hh' : HRel F (fun id => id < Hc.length) ψ Hc w := ⟨fun id o ho => by
        obtain ⟨a, b, c⟩ := hh.live id o ho
        exact ⟨hb id a, b, fun hv => ⟨(c hv).1, (c hv).2.mono (fun id ha => ⟨hb id ha, rfl⟩) rfl⟩⟩, hh.inj, hh.fr, hh.own, fun id hid => ⟨hb id (hh.old id hid).1, (hh.old id hid).2⟩⟩
      have hbase : Base F w ψ Hc := ⟨by
        refine ⟨hh'.live, hh'.inj, hh'.fr, hh'.own, hh'.old⟩, hw, hs⟩
      have hlen : ((.func (.yield l) #[] #[] :: cap') : List Value).toArray.size = cap.length + 1 := by simpa using hl.len
      refine callsIn_any (ro := none) (m := n) (callsIn_of_wp_marks (F := fen none) (n := n) hfn hbody trivial ?_)
      have hlr : LR (fun id => id < Hc.length) ψ (.func (.yield l) #[] #[] :: cap) (.func (.yield l) #[] #[] :: cap') := ⟨by simp [hl.len], fun i => by
        cases i with
        | zero => exact .func _ #[] #[] #[] #[] rfl rfl (fun i => by simp [Array.getD]; exact .poison _) (fun i => by simp [Array.getD]; exact .poison _)
        | succ i => exact (hl.at_ i).mono fun id ha => ⟨hb id ha, rfl⟩⟩
      refine codeY_ok hm hc c _ _ _ _ _ (h l) n F w ψ J Jx hbase hJ hJx hy ⟨W, fun _ => False, fun id => id < Hc.length, ψ, []⟩ _ ψ _ W _ ⟨rfl, rfl, rfl, rfl, hk, fun _ => hJ0, fun h => by cases h⟩ ⟨fun t => ?_, ?_, rfl, hbase.at_ hk⟩ (fun id h => h) fun x i st e h' F' A' ψ' a' w' k00 k0 k1 k2 => ?_
      · have hrep : LR (fun id => id < Hc.length) ψ (List.replicate (fn.ntmps - (cap.length + 1)) undef) (List.replicate (fn.ntmps - (cap.length + 1)) undef) := ⟨rfl, fun i => by
          by_cases hi : i < fn.ntmps - (cap.length + 1)
          · simp only [List.getD_eq_getElem?_getD, List.getElem?_replicate, hi, if_true, Option.getD_some]; exact .refl_undef
          · simp only [List.getD_eq_getElem?_getD, List.getElem?_replicate, hi, if_false, Option.getD_none]; exact .poison _⟩
        have := (hlr.append hrep).at_ t
        rw [hlen]
        have e2 : ((.func (.yield l) #[] #[] :: cap' : List Value).toArray ++ Array.replicate (fn.ntmps - (cap.length + 1)) undef).getD t undef = ((.func (.yield l) #[] #[] :: cap' : List Value) ++ List.replicate (fn.ntmps - (cap.length + 1)) undef).getD t undef := by
          simp [Array.getD_eq_getD_getElem?, List.getD_eq_getElem?_getD, ← List.toArray_replicate]
        rw [e2]; exact this
      · have := hl.len; simp; omega
      · have hd : a'.defers = [] := by rw [k1.defers, k00.ds]
        have fin : finY P N fn.results.toList i st e h' → LeavesInM (fen none) n P fn a'.tmps (fun e W' => (∃ v, e = .returned v) ∧ (J N W' ∨ ∃ i, i < N ∧ Jx i W')) a'.defers .returning w' := by
          intro hfin
          rw [hd]
          unfold finY at hfin
          split at hfin
          · rename_i vs hvs
            obtain ⟨us, r1, r2⟩ := results_rel _ _ hvs k1
            have hres' : (results fn a'.tmps).run P w' = .ok (if h : us.toArray.size = 1 then us.toArray[0] else .tuple us.toArray) w' := by
              unfold results
              rw [Array.mapM_eq_mapM_toList]
              simp only [Sem.run_bind, Sem.run_map]
              rw [r1 _ (fun _ => rfl) (fun _ _ => rfl)]
              rfl
            refine ⟨_, hres', ⟨_, rfl⟩, ?_⟩
            have hbel := k00.below k1.heap
            cases st with
            | true => exact .inr ⟨i, hfin.out, hJx i _ _ (k00.Jx rfl) hbel⟩
            | false =>
              have := hfin.out
              subst this
              exact .inl (hJ i _ _ (k00.J rfl) hbel)
          · exact hfin.elim
        cases x with
        | normal => exact fin k0
        | ret => exact fin k0
        | exit id => exact k0.elim
    · exact h.elim
  · exact h.elim
end
end
end Go.Vm
end
section
/- Windows of a run: the program's iterator. -/
open Go Go.Vm Go.Proofs Sp
namespace Sp
noncomputable section
/-- The index of moments: the variance, rounded. -/
noncomputable def rnd (a b : Int) : Int := (2 * a + b) / (2 * b)
noncomputable def ixM (m : Int × Int × Int) (z : Int) : Int := if m.1 = z then rnd (m.1 * m.2.2 - m.2.1 * m.2.1) (m.1 * m.1) else -1
noncomputable def wnM (xs : List Nat) (hs : List Int) (z i : Nat) : Int × Int × Int := mo xs hs (i * z) z
end
end Sp
namespace Qq
noncomputable section
noncomputable def hcN (nm : ByteArray) (f : Int) (n c k d : Nat) (xs : List Nat) (hs : List Int) (z : Nat) : Heap := [some (.row [.int .i64 (z : Int)] 0 false false true), some (.row (runA nm f 2 n c 3 k d) 0 false false false), some (.row (flts xs) 1 true false true), some (.row (ints hs) 2 true false true)]
noncomputable def elN (xs : List Nat) (hs : List Int) (z i : Nat) : List Value := [.int .i64 ((i * z : Nat) : Int), .agg (moC (wnM xs hs z i)).toArray]
noncomputable def lyN (nm : ByteArray) (f : Int) (n c k d : Nat) (xs : List Nat) (hs : List Int) (z l : Nat) : Ly where
  σ := Nat
  E i := slots 43 [(0, .func (.yield l) #[] #[]), (1, .pointer (some ⟨0, 0, none⟩)), (2, .pointer (some ⟨1, 0, none⟩)), (4, .int .i64 ((i * z : Nat) : Int))]
  Hp _ := hcN nm f n c k d xs hs z
  I i := i ≤ n / z
  m i := n / z - i
  gi i := i
noncomputable def lqN (nm : ByteArray) (f : Int) (n c k d : Nat) (xs : List Nat) (hs : List Int) (z l w : Nat) : Lp where
  σ := Nat
  E j := slots 43 [(0, .func (.yield l) #[] #[]), (1, .pointer (some ⟨0, 0, none⟩)), (2, .pointer (some ⟨1, 0, none⟩)), (4, .int .i64 ((w * z : Nat) : Int)), (5, .pointer (some ⟨4, 0, none⟩)), (17, .int .i64 (z : Int)), (18, .int .i64 (Int.ofNat j))]
  Hp j := [some (.row [.int .i64 (z : Int)] 0 false false true), some (.row (runA nm f 2 n c 3 k d) 0 false false false), some (.row (flts xs) 1 true false true), some (.row (ints hs) 2 true false true), some (.row (moC (mo xs hs (w * z) j)) 0 false true true)]
  I j := j ≤ z
  m j := z - j
noncomputable def hsN (nm : ByteArray) (f : Int) (n c k d : Nat) (xs : List Nat) (hs : List Int) (z l : Nat) : Ys Tryd.prog where
  op y := if y = 806 then some (hIa Tryd.prog) else if y = 807 then some (hLd Tryd.prog (xF xs)) else none
  ys := [10]
  ly _ := some (lyN nm f n c k d xs hs z l)
  lq _ := some ⟨Nat, lqN nm f n c k d xs hs z l⟩
  cl y := if y = 1 then keep 43 [0, 1, 2, 4] else keep 43 [0, 1, 2, 4, 5, 17, 18]
  au := auCalls [(60, hCa Tryd.prog 60 (orcHd xs hs) (okHd xs hs)), (62, hCa Tryd.prog 62 orcLev okLev)]
noncomputable def cpN : List Value := [.pointer (some ⟨0, 0, none⟩), .pointer (some ⟨1, 0, none⟩)]
theorem itN_t (nm : ByteArray) (f : Int) (n : Nat) (c : Nat) (k : Nat) (d : Nat) (xs : List Nat) (hs : List Int) (z : Nat) (_K : Prop) :
    (iterZ Tryd.prog c0 (hsN nm f n c k d xs hs z) (hcN nm f n c k d xs hs z) (n / z) (elN xs hs z) (59 : FuncId) cpN) =
    (∀ (l : Nat), (false = false ∧ ∃ (s : Nat), Is (s ≤ n / z) ∧ Is ((0 : Nat) = s) ∧ [Value.func (Fn.yield l) #[] #[], Value.pointer (some { block := (0 : Nat), off := (0 : Nat) }), Value.pointer (some { block := (1 : Nat), off := (0 : Nat) }), poi, Value.int IntKind.i64 (0 : Int), poi, poi, poi, poi, poi, poi, poi, poi, poi, poi, poi, poi, poi, poi, poi, poi, poi, poi, poi, poi, poi, poi, poi, poi, poi, poi, poi, poi, poi, poi, poi, poi, poi, poi, poi, poi, poi, poi] = [Value.func (Fn.yield l) #[] #[], Value.pointer (some { block := (0 : Nat), off := (0 : Nat) }), Value.pointer (some { block := (1 : Nat), off := (0 : Nat) }), poi, Value.int IntKind.i64 (↑(s * z) : Int), poi, poi, poi, poi, poi, poi, poi, poi, poi, poi, poi, poi, poi, poi, poi, poi, poi, poi, poi, poi, poi, poi, poi, poi, poi, poi, poi, poi, poi, poi, poi, poi, poi, poi, poi, poi, poi, poi] ∧ some (AObj.row [Value.int IntKind.i64 (↑z : Int)] (0 : Nat) false false true) :: some (AObj.row [Value.string nm, Value.int IntKind.i64 f, Value.slice (some { block := (2 : Nat), off := (0 : Nat) }) n c, Value.slice (some { block := (3 : Nat), off := (0 : Nat) }) k d] (0 : Nat) false false false) :: some (AObj.row (flts xs) (1 : Nat) true false true) :: some (AObj.row (ints hs) (2 : Nat) true false true) :: noH = some (AObj.row [Value.int IntKind.i64 (↑z : Int)] (0 : Nat) false false true) :: some (AObj.row [Value.string nm, Value.int IntKind.i64 f, Value.slice (some { block := (2 : Nat), off := (0 : Nat) }) n c, Value.slice (some { block := (3 : Nat), off := (0 : Nat) }) k d] (0 : Nat) false false false) :: some (AObj.row (flts xs) (1 : Nat) true false true) :: some (AObj.row (ints hs) (2 : Nat) true false true) :: noH) ∧ ∀ (s : Nat), Is (s ≤ n / z) → br (decide (IntKind.wrap IntKind.i64 ((↑(s * z) : Int) + (↑z : Int)) ≤ (↑n : Int))) (∃ (p : Nat), (∃ (s_1 : Nat), Is (s_1 ≤ z) ∧ [Value.func (Fn.yield l) #[] #[], Value.pointer (some { block := (0 : Nat), off := (0 : Nat) }), Value.pointer (some { block := (1 : Nat), off := (0 : Nat) }), poi, Value.int IntKind.i64 (↑(s * z) : Int), Value.pointer (some { block := (4 : Nat), off := (0 : Nat) }), poi, poi, poi, poi, poi, poi, poi, poi, poi, poi, poi, Value.int IntKind.i64 (↑z : Int), Value.int IntKind.i64 (0 : Int), poi, poi, poi, poi, poi, poi, poi, poi, poi, poi, poi, poi, poi, poi, poi, poi, poi, poi, poi, poi, poi, poi, poi, poi] = [Value.func (Fn.yield l) #[] #[], Value.pointer (some { block := (0 : Nat), off := (0 : Nat) }), Value.pointer (some { block := (1 : Nat), off := (0 : Nat) }), poi, Value.int IntKind.i64 (↑(p * z) : Int), Value.pointer (some { block := (4 : Nat), off := (0 : Nat) }), poi, poi, poi, poi, poi, poi, poi, poi, poi, poi, poi, Value.int IntKind.i64 (↑z : Int), Value.int IntKind.i64 (↑s_1 : Int), poi, poi, poi, poi, poi, poi, poi, poi, poi, poi, poi, poi, poi, poi, poi, poi, poi, poi, poi, poi, poi, poi, poi, poi] ∧ some (AObj.row [Value.int IntKind.i64 (↑z : Int)] (0 : Nat) false false true) :: some (AObj.row [Value.string nm, Value.int IntKind.i64 f, Value.slice (some { block := (2 : Nat), off := (0 : Nat) }) n c, Value.slice (some { block := (3 : Nat), off := (0 : Nat) }) k d] (0 : Nat) false false false) :: some (AObj.row (flts xs) (1 : Nat) true false true) :: some (AObj.row (ints hs) (2 : Nat) true false true) :: some (AObj.row [Value.int IntKind.i64 (0 : Int), Value.int IntKind.i64 (0 : Int), Value.int IntKind.i64 (0 : Int)] (0 : Nat) false true true) :: noH = some (AObj.row [Value.int IntKind.i64 (↑z : Int)] (0 : Nat) false false true) :: some (AObj.row [Value.string nm, Value.int IntKind.i64 f, Value.slice (some { block := (2 : Nat), off := (0 : Nat) }) n c, Value.slice (some { block := (3 : Nat), off := (0 : Nat) }) k d] (0 : Nat) false false false) :: some (AObj.row (flts xs) (1 : Nat) true false true) :: some (AObj.row (ints hs) (2 : Nat) true false true) :: some (AObj.row [Value.int IntKind.i64 (Prod.fst (mo xs hs (p * z) s_1)), Value.int IntKind.i64 (Prod.fst (Prod.snd (mo xs hs (p * z) s_1))), Value.int IntKind.i64 (Prod.snd (Prod.snd (mo xs hs (p * z) s_1)))] (0 : Nat) false true true) :: noH) ∧ ∀ (s_1 : Nat), Is (s_1 ≤ z) → br (decide ((↑s_1 : Int) < (↑z : Int))) (Is (isRn0 xs hs k (flts xs) (ints hs) ∧ false = false) ∧ br (!!knB hs (IntKind.wrap IntKind.i64 ((↑(p * z) : Int) + (↑s_1 : Int)))) (Is ((0 : Int) ≤ IntKind.wrap IntKind.i64 ((↑(p * z) : Int) + (↑s_1 : Int)) ∧ IntKind.wrap IntKind.i64 ((↑(p * z) : Int) + (↑s_1 : Int)) < (↑n : Int)) ∧ Is ((flts xs)[(0 : Nat) + Int.toNat (IntKind.wrap IntKind.i64 ((↑(p * z) : Int) + (↑s_1 : Int))) * (1 : Nat)]? = some (Value.float FloatKind.f32 (List.getD xs ((0 : Nat) + Int.toNat (IntKind.wrap IntKind.i64 ((↑(p * z) : Int) + (↑s_1 : Int))) * (1 : Nat)) (0 : Nat)))) ∧ Is (sE (List.getD xs ((0 : Nat) + Int.toNat (IntKind.wrap IntKind.i64 ((↑(p * z) : Int) + (↑s_1 : Int))) * (1 : Nat)) (0 : Nat)) = (0 : Int)) ∧ ∃ (s' : Nat), Is (s' ≤ z) ∧ Is (z - s' < z - s_1) ∧ [Value.func (Fn.yield l) #[] #[], Value.pointer (some { block := (0 : Nat), off := (0 : Nat) }), Value.pointer (some { block := (1 : Nat), off := (0 : Nat) }), poi, Value.int IntKind.i64 (↑(p * z) : Int), Value.pointer (some { block := (4 : Nat), off := (0 : Nat) }), poi, poi, poi, poi, poi, poi, poi, poi, poi, poi, poi, Value.int IntKind.i64 (↑z : Int), Value.int IntKind.i64 (IntKind.wrap IntKind.i64 ((↑s_1 : Int) + (1 : Int))), poi, poi, poi, poi, poi, poi, poi, poi, poi, poi, poi, poi, poi, poi, poi, poi, poi, poi, poi, poi, poi, poi, poi, poi] = [Value.func (Fn.yield l) #[] #[], Value.pointer (some { block := (0 : Nat), off := (0 : Nat) }), Value.pointer (some { block := (1 : Nat), off := (0 : Nat) }), poi, Value.int IntKind.i64 (↑(p * z) : Int), Value.pointer (some { block := (4 : Nat), off := (0 : Nat) }), poi, poi, poi, poi, poi, poi, poi, poi, poi, poi, poi, Value.int IntKind.i64 (↑z : Int), Value.int IntKind.i64 (↑s' : Int), poi, poi, poi, poi, poi, poi, poi, poi, poi, poi, poi, poi, poi, poi, poi, poi, poi, poi, poi, poi, poi, poi, poi, poi] ∧ some (AObj.row [Value.int IntKind.i64 (↑z : Int)] (0 : Nat) false false true) :: some (AObj.row [Value.string nm, Value.int IntKind.i64 f, Value.slice (some { block := (2 : Nat), off := (0 : Nat) }) n c, Value.slice (some { block := (3 : Nat), off := (0 : Nat) }) k d] (0 : Nat) false false false) :: some (AObj.row (flts xs) (1 : Nat) true false true) :: some (AObj.row (ints hs) (2 : Nat) true false true) :: some (AObj.row [Value.int IntKind.i64 (IntKind.wrap IntKind.i64 (Prod.fst (mo xs hs (p * z) s_1) + (1 : Int))), Value.int IntKind.i64 (IntKind.wrap IntKind.i64 (Prod.fst (Prod.snd (mo xs hs (p * z) s_1)) + lev (List.getD xs ((0 : Nat) + Int.toNat (IntKind.wrap IntKind.i64 ((↑(p * z) : Int) + (↑s_1 : Int))) * (1 : Nat)) (0 : Nat)))), Value.int IntKind.i64 (IntKind.wrap IntKind.i64 (Prod.snd (Prod.snd (mo xs hs (p * z) s_1)) + IntKind.wrap IntKind.i64 (lev (List.getD xs ((0 : Nat) + Int.toNat (IntKind.wrap IntKind.i64 ((↑(p * z) : Int) + (↑s_1 : Int))) * (1 : Nat)) (0 : Nat)) * lev (List.getD xs ((0 : Nat) + Int.toNat (IntKind.wrap IntKind.i64 ((↑(p * z) : Int) + (↑s_1 : Int))) * (1 : Nat)) (0 : Nat)))))] (0 : Nat) false true (true && List.all [Value.int IntKind.i64 (IntKind.wrap IntKind.i64 (Prod.fst (mo xs hs (p * z) s_1) + (1 : Int))), Value.int IntKind.i64 (IntKind.wrap IntKind.i64 (Prod.fst (Prod.snd (mo xs hs (p * z) s_1)) + lev (List.getD xs ((0 : Nat) + Int.toNat (IntKind.wrap IntKind.i64 ((↑(p * z) : Int) + (↑s_1 : Int))) * (1 : Nat)) (0 : Nat)))), Value.int IntKind.i64 (IntKind.wrap IntKind.i64 (Prod.snd (Prod.snd (mo xs hs (p * z) s_1)) + IntKind.wrap IntKind.i64 (lev (List.getD xs ((0 : Nat) + Int.toNat (IntKind.wrap IntKind.i64 ((↑(p * z) : Int) + (↑s_1 : Int))) * (1 : Nat)) (0 : Nat)) * lev (List.getD xs ((0 : Nat) + Int.toNat (IntKind.wrap IntKind.i64 ((↑(p * z) : Int) + (↑s_1 : Int))) * (1 : Nat)) (0 : Nat)))))] atom)) :: noH = some (AObj.row [Value.int IntKind.i64 (↑z : Int)] (0 : Nat) false false true) :: some (AObj.row [Value.string nm, Value.int IntKind.i64 f, Value.slice (some { block := (2 : Nat), off := (0 : Nat) }) n c, Value.slice (some { block := (3 : Nat), off := (0 : Nat) }) k d] (0 : Nat) false false false) :: some (AObj.row (flts xs) (1 : Nat) true false true) :: some (AObj.row (ints hs) (2 : Nat) true false true) :: some (AObj.row [Value.int IntKind.i64 (Prod.fst (mo xs hs (p * z) s')), Value.int IntKind.i64 (Prod.fst (Prod.snd (mo xs hs (p * z) s'))), Value.int IntKind.i64 (Prod.snd (Prod.snd (mo xs hs (p * z) s')))] (0 : Nat) false true true) :: noH) (∃ (s' : Nat), Is (s' ≤ z) ∧ Is (z - s' < z - s_1) ∧ [Value.func (Fn.yield l) #[] #[], Value.pointer (some { block := (0 : Nat), off := (0 : Nat) }), Value.pointer (some { block := (1 : Nat), off := (0 : Nat) }), poi, Value.int IntKind.i64 (↑(p * z) : Int), Value.pointer (some { block := (4 : Nat), off := (0 : Nat) }), poi, poi, poi, poi, poi, poi, poi, poi, poi, poi, poi, Value.int IntKind.i64 (↑z : Int), Value.int IntKind.i64 (IntKind.wrap IntKind.i64 ((↑s_1 : Int) + (1 : Int))), poi, poi, poi, poi, poi, poi, poi, poi, poi, poi, poi, poi, poi, poi, poi, poi, poi, poi, poi, poi, poi, poi, poi, poi] = [Value.func (Fn.yield l) #[] #[], Value.pointer (some { block := (0 : Nat), off := (0 : Nat) }), Value.pointer (some { block := (1 : Nat), off := (0 : Nat) }), poi, Value.int IntKind.i64 (↑(p * z) : Int), Value.pointer (some { block := (4 : Nat), off := (0 : Nat) }), poi, poi, poi, poi, poi, poi, poi, poi, poi, poi, poi, Value.int IntKind.i64 (↑z : Int), Value.int IntKind.i64 (↑s' : Int), poi, poi, poi, poi, poi, poi, poi, poi, poi, poi, poi, poi, poi, poi, poi, poi, poi, poi, poi, poi, poi, poi, poi, poi] ∧ some (AObj.row [Value.int IntKind.i64 (↑z : Int)] (0 : Nat) false false true) :: some (AObj.row [Value.string nm, Value.int IntKind.i64 f, Value.slice (some { block := (2 : Nat), off := (0 : Nat) }) n c, Value.slice (some { block := (3 : Nat), off := (0 : Nat) }) k d] (0 : Nat) false false false) :: some (AObj.row (flts xs) (1 : Nat) true false true) :: some (AObj.row (ints hs) (2 : Nat) true false true) :: some (AObj.row [Value.int IntKind.i64 (Prod.fst (mo xs hs (p * z) s_1)), Value.int IntKind.i64 (Prod.fst (Prod.snd (mo xs hs (p * z) s_1))), Value.int IntKind.i64 (Prod.snd (Prod.snd (mo xs hs (p * z) s_1)))] (0 : Nat) false true true) :: noH = some (AObj.row [Value.int IntKind.i64 (↑z : Int)] (0 : Nat) false false true) :: some (AObj.row [Value.string nm, Value.int IntKind.i64 f, Value.slice (some { block := (2 : Nat), off := (0 : Nat) }) n c, Value.slice (some { block := (3 : Nat), off := (0 : Nat) }) k d] (0 : Nat) false false false) :: some (AObj.row (flts xs) (1 : Nat) true false true) :: some (AObj.row (ints hs) (2 : Nat) true false true) :: some (AObj.row [Value.int IntKind.i64 (Prod.fst (mo xs hs (p * z) s')), Value.int IntKind.i64 (Prod.fst (Prod.snd (mo xs hs (p * z) s'))), Value.int IntKind.i64 (Prod.snd (Prod.snd (mo xs hs (p * z) s')))] (0 : Nat) false true true) :: noH)) (Is (s < n / z) ∧ l = l ∧ [Value.int IntKind.i64 (↑(p * z) : Int), Value.agg #[Value.int IntKind.i64 (Prod.fst (mo xs hs (p * z) s_1)), Value.int IntKind.i64 (Prod.fst (Prod.snd (mo xs hs (p * z) s_1))), Value.int IntKind.i64 (Prod.snd (Prod.snd (mo xs hs (p * z) s_1)))]] = [Value.int IntKind.i64 (↑(s * z) : Int), Value.agg #[Value.int IntKind.i64 (Prod.fst (wnM xs hs z s)), Value.int IntKind.i64 (Prod.fst (Prod.snd (wnM xs hs z s))), Value.int IntKind.i64 (Prod.snd (Prod.snd (wnM xs hs z s)))]] ∧ (false = false ∧ ∃ (s' : Nat), Is (s' ≤ n / z) ∧ Is (n / z - s' < n / z - s) ∧ Is (s + (1 : Nat) = s') ∧ [Value.func (Fn.yield l) #[] #[], Value.pointer (some { block := (0 : Nat), off := (0 : Nat) }), Value.pointer (some { block := (1 : Nat), off := (0 : Nat) }), poi, Value.int IntKind.i64 (IntKind.wrap IntKind.i64 ((↑(p * z) : Int) + (↑z : Int))), poi, poi, poi, poi, poi, poi, poi, poi, poi, poi, poi, poi, poi, poi, poi, poi, poi, poi, poi, poi, poi, poi, poi, poi, poi, poi, poi, poi, poi, poi, poi, poi, poi, poi, poi, poi, poi, poi] = [Value.func (Fn.yield l) #[] #[], Value.pointer (some { block := (0 : Nat), off := (0 : Nat) }), Value.pointer (some { block := (1 : Nat), off := (0 : Nat) }), poi, Value.int IntKind.i64 (↑(s' * z) : Int), poi, poi, poi, poi, poi, poi, poi, poi, poi, poi, poi, poi, poi, poi, poi, poi, poi, poi, poi, poi, poi, poi, poi, poi, poi, poi, poi, poi, poi, poi, poi, poi, poi, poi, poi, poi, poi, poi] ∧ some (AObj.row [Value.int IntKind.i64 (↑z : Int)] (0 : Nat) false false true) :: some (AObj.row [Value.string nm, Value.int IntKind.i64 f, Value.slice (some { block := (2 : Nat), off := (0 : Nat) }) n c, Value.slice (some { block := (3 : Nat), off := (0 : Nat) }) k d] (0 : Nat) false false false) :: some (AObj.row (flts xs) (1 : Nat) true false true) :: some (AObj.row (ints hs) (2 : Nat) true false true) :: noH = some (AObj.row [Value.int IntKind.i64 (↑z : Int)] (0 : Nat) false false true) :: some (AObj.row [Value.string nm, Value.int IntKind.i64 f, Value.slice (some { block := (2 : Nat), off := (0 : Nat) }) n c, Value.slice (some { block := (3 : Nat), off := (0 : Nat) }) k d] (0 : Nat) false false false) :: some (AObj.row (flts xs) (1 : Nat) true false true) :: some (AObj.row (ints hs) (2 : Nat) true false true) :: noH) ∧ Is (s < n / z))) (Is (s = n / z))) := by kernel_rfl
theorem win_in {n z i : Nat} (_hz : 0 < z) (h : i < n / z) : (i + 1) * z ≤ n := by
  have := Nat.mul_le_of_le_div z (i + 1) n h
  omega
theorem win_out {n z i : Nat} (hz : 0 < z) (h : i ≤ n / z) (h2 : ¬ i * z + z ≤ n) : i = n / z := by
  rcases Nat.lt_or_ge i (n / z) with h' | h'
  · have := win_in hz h'
    rw [Nat.add_mul] at this
    omega
  · omega
set_option maxRecDepth 100000 in
theorem itN_ok {nm : ByteArray} {f : Int} {n c k d : Nat} {xs : List Nat} {hs : List Int} {z : Nat} (hr : runE nm f xs n hs = 0) (hn : xs.length = n) (hk : hs.length = k * 2) (hk9 : k ≤ 100000) (z0 : 0 < z) (z1 : z ≤ 256) :
    IterRes Tryd.prog 59 cpN (hcN nm f n c k d xs hs z) (n / z) (elN xs hs z) :=
  iterZ_ok (hz := hsN nm f n c k d xs hs z) hm c0_ok (by
    rw [itN_t nm f n c k d xs hs z True]
    obtain ⟨_, _, hn4, _, hx, _, _⟩ := run_zero hr
    refine fun l => ⟨⟨rfl, (0 : Nat), ⟨Nat.zero_le _⟩, ⟨rfl⟩, by (rw [Nat.zero_mul]) <;> first | trivial | rfl, by first | trivial | rfl⟩, fun i hi => ?_⟩
    have hi := hi.out
    have hin : i * z ≤ n := Nat.le_trans (Nat.mul_le_mul_right z hi) (Nat.div_mul_le_self n z)
    rw [wrap_eq (x := ((i * z : Nat) : Int) + (z : Int)) (by omega) (by omega)]
    refine br_of (fun hc => ?_) (fun hc => ⟨win_out z0 hi (by have := of_decide_eq_false hc; omega)⟩)
    have hc : i * z + z ≤ n := by have := of_decide_eq_true hc; omega
    have hlt : i < n / z := by
      rw [Nat.lt_iff_add_one_le, Nat.le_div_iff_mul_le z0, Nat.add_mul]; omega
    refine ⟨i, ⟨(0 : Nat), ⟨Nat.zero_le _⟩, by first | trivial | rfl, by first | trivial | rfl⟩, fun j hj => br_of (fun hjc => ?_) (fun hjc => ?_)⟩
    · have hjc := lt_of_dec hjc
      have hb := mo_bd (hs := hs) (a := i * z) hx j (by omega)
      have hsm := smps hx (show i * z + j < xs.length by omega)
      have w3 : IntKind.wrap .i64 (((i * z : Nat) : Int) + (j : Int)) = ((i * z + j : Nat) : Int) := by rw [wrap_eq (by omega) (by omega)]; omega
      simp only [Nat.mul_one, Nat.zero_add, Int.toNat_natCast, w3]
      refine ⟨⟨⟨rfl, rfl, hk, hk9⟩, by first | trivial | rfl⟩, br_of (fun hkn => ⟨⟨by omega, by omega⟩, ⟨flts_at (by omega)⟩, ⟨hsm⟩, j + 1, ⟨hjc⟩, ⟨by omega⟩, ?_, ?_⟩) (fun hkn => ⟨j + 1, ⟨hjc⟩, ⟨by omega⟩, ?_, ?_⟩)⟩
      · rw [up1 hjc (by omega)]
      · have hkn : knB hs ((i * z + j : Nat) : Int) = true := by simpa using hkn
        rw [hb.wraps (by omega) (Fl.smp hsm).few, mo, if_pos hkn]
        first | done | trivial | rfl
      · rw [up1 hjc (by omega)]
      · have hkn : ¬ knB hs ((i * z + j : Nat) : Int) = true := by simpa using hkn
        rw [mo, if_neg hkn]
    · have hjz : j = z := by
        have := ge_of_dec hjc
        have := hj.out
        omega
      subst hjz
      have w4 : IntKind.wrap .i64 (((i * j : Nat) : Int) + (j : Int)) = (((i + 1) * j : Nat) : Int) := by
        rw [wrap_eq (by omega) (by omega), Nat.add_mul, Nat.one_mul, Int.natCast_add]
      refine ⟨⟨hlt⟩, by first | trivial | rfl, by first | trivial | rfl, ⟨by first | trivial | rfl, i + 1, ⟨hlt⟩, ⟨by omega⟩, ⟨rfl⟩, ?_, by first | trivial | rfl⟩, ⟨hlt⟩⟩
      rw [w4])
end
end Qq
end
section
/- Indices of windows: the program, and the reference. -/
open Go Go.Vm Go.Proofs Sp
namespace Sp
noncomputable section
noncomputable def ixL (xs : List Nat) (hs : List Int) (z m : Nat) : List Int := (List.range m).map fun i => ixM (wnM xs hs z i) z
end
end Sp
namespace Qq
noncomputable section
noncomputable def hsRnd : Hs Tryd.prog where
  au := auCalls [(63, hCa Tryd.prog 63 orcFl okFlP)]
theorem rndP_t (a : Int) (b : Int) (K : Value → Heap → Prop) :
    (fnP Tryd.prog c0 hsRnd (48 : FuncId) [Value.int IntKind.i64 a, Value.int IntKind.i64 b] [] K) =
    (Is ((0 : Int) < IntKind.wrap IntKind.i64 ((2 : Int) * b) ∧ IntKind.wrap IntKind.i64 ((2 : Int) * b) ≤ (4000000000000000000 : Int) ∧ (-4000000000000000000 : Int) ≤ IntKind.wrap IntKind.i64 (IntKind.wrap IntKind.i64 ((2 : Int) * a) + b) ∧ IntKind.wrap IntKind.i64 (IntKind.wrap IntKind.i64 ((2 : Int) * a) + b) ≤ (4000000000000000000 : Int)) ∧ K (Value.int IntKind.i64 (IntKind.wrap IntKind.i64 (IntKind.wrap IntKind.i64 ((2 : Int) * a) + b) / IntKind.wrap IntKind.i64 ((2 : Int) * b))) noH) := by kernel_rfl
noncomputable def orcRnd : OrcV
  | [.int .i64 a, .int .i64 b], [] => some (.int .i64 (rnd a b), [], 0 < b ∧ b ≤ 1000000000 ∧ -1000000000000000000 ≤ a ∧ a ≤ 1000000000000000000)
  | _, _ => none
theorem okRnd : OkV Tryd.prog 48 orcRnd := by
  intro args H ret H' vc h hv
  unfold orcRnd at h
  split at h
  · rename_i a b
    cases h
    obtain ⟨b0, b1, a0, a1⟩ := hv
    refine fnP_res hm c0_ok (hs := hsRnd) ?_
    rw [rndP_t, wrap_eq (x := 2 * a) (by omega) (by omega), wrap_eq (x := 2 * b) (by omega) (by omega), wrap_eq (x := 2 * a + b) (by omega) (by omega)]
    exact ⟨⟨by omega, by omega, by omega, by omega⟩, by first | trivial | rfl, by first | trivial | rfl⟩
  · cases h
noncomputable def itI (nm : ByteArray) (f : Int) (n c k d : Nat) (xs : List Nat) (hs : List Int) (z : Nat) : It Tryd.prog where
  gf := 59
  fn cap H := some (n / z, elN xs hs z, (cap = cpN ∧ H = hcN nm f n c k d xs hs z) ∧ runE nm f xs n hs = 0 ∧ xs.length = n ∧ hs.length = k * 2 ∧ k ≤ 100000 ∧ 0 < z ∧ z ≤ 256)
  ok := by
    intro cap H N el vc h hv
    cases h
    obtain ⟨⟨rfl, rfl⟩, h1, h2, h3, h4, h5, h6⟩ := hv
    exact itN_ok h1 h2 h3 h4 h5 h6
noncomputable def rfI (nm : ByteArray) (f : Int) (n c k d : Nat) (xs : List Nat) (hs : List Int) (z : Nat) : Rf Tryd.prog where
  it := itI nm f n c k d xs hs z
  k := 6
  E := slots 28 [(3, .pointer (some ⟨2, 0, none⟩)), (5, .pointer (some ⟨3, 0, none⟩)), (11, .func (.func 59) #[] #[.pointer (some ⟨4, 0, none⟩), .pointer (some ⟨5, 0, none⟩)])]
  Hp i := hp2r xs hs true false true false [some (.row [.int .i64 (z : Int)] 0 false true true), some (.row [.slice (some ⟨6, 0, none⟩) i 0] 0 false true false),
    some (.row [.int .i64 (z : Int)] 0 false false true), some (.row (runA nm f 0 n c 1 k d) 0 false false false), some (.row (ints (ixL xs hs z i)) 1 true true true)]
noncomputable def hsInx (nm : ByteArray) (f : Int) (n c k d : Nat) (xs : List Nat) (hs : List Int) (z : Nat) : Hs Tryd.prog where
  op y := if y = 703 then some (hAp Tryd.prog) else none
  rf _ := some (rfI nm f n c k d xs hs z)
  cl _ := keep 28 [3, 5, 11]
  nl _ := [.cell 3 0 1]
  au := auCalls [(48, hCa Tryd.prog 48 orcRnd okRnd)]
theorem inx_t (nm : ByteArray) (f : Int) (n : Nat) (c : Nat) (k : Nat) (d : Nat) (xs : List Nat) (hs : List Int) (z : Nat) (K : Value → Heap → Prop) :
    (fnP Tryd.prog c0 (hsInx nm f n c k d xs hs z) (36 : FuncId) [Value.agg (List.toArray (runA nm f (0 : Nat) n c (1 : Nat) k d)), Value.int IntKind.i64 (↑z : Int)] (hp2r xs hs true false true false []) K) =
    ([poi, poi, poi, Value.pointer (some { block := (2 : Nat), off := (0 : Nat) }), poi, Value.pointer (some { block := (3 : Nat), off := (0 : Nat) }), poi, poi, poi, poi, poi, Value.func (Fn.func (59 : Nat)) #[] #[Value.pointer (some { block := (4 : Nat), off := (0 : Nat) }), Value.pointer (some { block := (5 : Nat), off := (0 : Nat) })], poi, poi, poi, poi, poi, poi, poi, poi, poi, poi, poi, poi, poi, poi, poi, poi] = [poi, poi, poi, Value.pointer (some { block := (2 : Nat), off := (0 : Nat) }), poi, Value.pointer (some { block := (3 : Nat), off := (0 : Nat) }), poi, poi, poi, poi, poi, Value.func (Fn.func (59 : Nat)) #[] #[Value.pointer (some { block := (4 : Nat), off := (0 : Nat) }), Value.pointer (some { block := (5 : Nat), off := (0 : Nat) })], poi, poi, poi, poi, poi, poi, poi, poi, poi, poi, poi, poi, poi, poi, poi, poi] ∧ some (AObj.row (flts xs) (1 : Nat) true false true) :: some (AObj.row (ints hs) (2 : Nat) true false true) :: some (AObj.row [Value.int IntKind.i64 (↑z : Int)] (0 : Nat) false true (List.all [Value.int IntKind.i64 (↑z : Int)] atom)) :: some (AObj.row [Value.slice (some { block := List.length (some (AObj.row (flts xs) (1 : Nat) true false true) :: some (AObj.row (ints hs) (2 : Nat) true false true) :: some (AObj.row [Value.int IntKind.i64 (↑z : Int)] (0 : Nat) false true (List.all [Value.int IntKind.i64 (↑z : Int)] atom)) :: some (AObj.row [Value.slice none (0 : Nat) (0 : Nat)] (0 : Nat) false true true) :: some (AObj.row [Value.int IntKind.i64 (↑z : Int)] (0 : Nat) false true (List.all [Value.int IntKind.i64 (↑z : Int)] atom)) :: some (AObj.row [Value.string nm, Value.int IntKind.i64 f, Value.slice (some { block := (0 : Nat), off := (0 : Nat) }) n c, Value.slice (some { block := (1 : Nat), off := (0 : Nat) }) k d] (0 : Nat) false true (List.all [Value.string nm, Value.int IntKind.i64 f, Value.slice (some { block := (0 : Nat), off := (0 : Nat) }) n c, Value.slice (some { block := (1 : Nat), off := (0 : Nat) }) k d] atom)) :: noH), off := (0 : Nat) }) (0 : Nat) (0 : Nat)] (0 : Nat) false true false) :: some (AObj.row [Value.int IntKind.i64 (↑z : Int)] (0 : Nat) false false (List.all [Value.int IntKind.i64 (↑z : Int)] atom)) :: some (AObj.row [Value.string nm, Value.int IntKind.i64 f, Value.slice (some { block := (0 : Nat), off := (0 : Nat) }) n c, Value.slice (some { block := (1 : Nat), off := (0 : Nat) }) k d] (0 : Nat) false false (List.all [Value.string nm, Value.int IntKind.i64 f, Value.slice (some { block := (0 : Nat), off := (0 : Nat) }) n c, Value.slice (some { block := (1 : Nat), off := (0 : Nat) }) k d] atom)) :: some (AObj.row [] (1 : Nat) true true true) :: noH = some (AObj.row (flts xs) (1 : Nat) true false true) :: some (AObj.row (ints hs) (2 : Nat) true false true) :: some (AObj.row [Value.int IntKind.i64 (↑z : Int)] (0 : Nat) false true true) :: some (AObj.row [Value.slice (some { block := (6 : Nat), off := (0 : Nat) }) (0 : Nat) (0 : Nat)] (0 : Nat) false true false) :: some (AObj.row [Value.int IntKind.i64 (↑z : Int)] (0 : Nat) false false true) :: some (AObj.row [Value.string nm, Value.int IntKind.i64 f, Value.slice (some { block := (0 : Nat), off := (0 : Nat) }) n c, Value.slice (some { block := (1 : Nat), off := (0 : Nat) }) k d] (0 : Nat) false false false) :: some (AObj.row [] (1 : Nat) true true true) :: noH ∧ [poi, poi, poi, Value.pointer (some { block := (2 : Nat), off := (0 : Nat) }), poi, Value.pointer (some { block := (3 : Nat), off := (0 : Nat) }), poi, poi, poi, poi, poi, Value.func (Fn.func (59 : Nat)) #[] #[Value.pointer (some { block := (4 : Nat), off := (0 : Nat) }), Value.pointer (some { block := (5 : Nat), off := (0 : Nat) })], poi, poi, poi, poi, poi, poi, poi, poi, poi, poi, poi, poi, poi, poi, poi, poi] = [poi, poi, poi, Value.pointer (some { block := (2 : Nat), off := (0 : Nat) }), poi, Value.pointer (some { block := (3 : Nat), off := (0 : Nat) }), poi, poi, poi, poi, poi, Value.func (Fn.func (59 : Nat)) #[] #[Value.pointer (some { block := (4 : Nat), off := (0 : Nat) }), Value.pointer (some { block := (5 : Nat), off := (0 : Nat) })], poi, poi, poi, poi, poi, poi, poi, poi, poi, poi, poi, poi, poi, poi, poi, poi] ∧ Is (([Value.pointer (some { block := (0 : Nat), off := (0 : Nat) }), Value.pointer (some { block := (1 : Nat), off := (0 : Nat) })] = [Value.pointer (some { block := (0 : Nat), off := (0 : Nat) }), Value.pointer (some { block := (1 : Nat), off := (0 : Nat) })] ∧ some (AObj.row [Value.int IntKind.i64 (↑z : Int)] (0 : Nat) false false true) :: some (AObj.row [Value.string nm, Value.int IntKind.i64 f, Value.slice (some { block := (2 : Nat), off := (0 : Nat) }) n c, Value.slice (some { block := (3 : Nat), off := (0 : Nat) }) k d] (0 : Nat) false false false) :: some (AObj.row (flts xs) (1 : Nat) true false true) :: some (AObj.row (ints hs) (2 : Nat) true false true) :: noH = some (AObj.row [Value.int IntKind.i64 (↑z : Int)] (0 : Nat) false false true) :: some (AObj.row [Value.string nm, Value.int IntKind.i64 f, Value.slice (some { block := (2 : Nat), off := (0 : Nat) }) n c, Value.slice (some { block := (3 : Nat), off := (0 : Nat) }) k d] (0 : Nat) false false false) :: some (AObj.row (flts xs) (1 : Nat) true false true) :: some (AObj.row (ints hs) (2 : Nat) true false true) :: noH) ∧ runE nm f xs n hs = (0 : Int) ∧ List.length xs = n ∧ List.length hs = k * (2 : Nat) ∧ k ≤ (100000 : Nat) ∧ (0 : Nat) < z ∧ z ≤ (256 : Nat)) ∧ Is True ∧ (∀ (i : Nat), Is True → Is (i < n / z) → br (Prod.fst (wnM xs hs z i) == (↑z : Int)) (Is ((0 : Int) < IntKind.wrap IntKind.i64 (Prod.fst (wnM xs hs z i) * Prod.fst (wnM xs hs z i)) ∧ IntKind.wrap IntKind.i64 (Prod.fst (wnM xs hs z i) * Prod.fst (wnM xs hs z i)) ≤ (1000000000 : Int) ∧ (-1000000000000000000 : Int) ≤ IntKind.wrap IntKind.i64 (IntKind.wrap IntKind.i64 (Prod.fst (wnM xs hs z i) * Prod.snd (Prod.snd (wnM xs hs z i))) - IntKind.wrap IntKind.i64 (Prod.fst (Prod.snd (wnM xs hs z i)) * Prod.fst (Prod.snd (wnM xs hs z i)))) ∧ IntKind.wrap IntKind.i64 (IntKind.wrap IntKind.i64 (Prod.fst (wnM xs hs z i) * Prod.snd (Prod.snd (wnM xs hs z i))) - IntKind.wrap IntKind.i64 (Prod.fst (Prod.snd (wnM xs hs z i)) * Prod.fst (Prod.snd (wnM xs hs z i)))) ≤ (1000000000000000000 : Int)) ∧ Is (List.length (ints (ixL xs hs z i)) = i * (1 : Nat) ∧ (i + (1 : Nat)) * (8 : Nat) ≤ (140737488355328 : Nat) ∧ i + (1 : Nat) ≤ (9223372036854775807 : Nat)) ∧ some (AObj.row (flts xs) (1 : Nat) true false true) :: some (AObj.row (ints hs) (2 : Nat) true false true) :: some (AObj.row [Value.int IntKind.i64 (↑z : Int)] (0 : Nat) false true true) :: some (AObj.row [Value.slice (some { block := (6 : Nat), off := (0 : Nat) }) (i + (1 : Nat)) (0 : Nat)] (0 : Nat) false true (false && List.all [Value.slice (some { block := List.length (some (AObj.row (flts xs) (1 : Nat) true false true) :: some (AObj.row (ints hs) (2 : Nat) true false true) :: some (AObj.row [Value.int IntKind.i64 (↑z : Int)] (0 : Nat) false true true) :: some (AObj.row [Value.slice (some { block := (6 : Nat), off := (0 : Nat) }) i (0 : Nat)] (0 : Nat) false true false) :: some (AObj.row [Value.int IntKind.i64 (↑z : Int)] (0 : Nat) false false true) :: some (AObj.row [Value.string nm, Value.int IntKind.i64 f, Value.slice (some { block := (0 : Nat), off := (0 : Nat) }) n c, Value.slice (some { block := (1 : Nat), off := (0 : Nat) }) k d] (0 : Nat) false false false) :: some (AObj.row (ints (ixL xs hs z i)) (1 : Nat) true true true) :: some (AObj.row [Value.int IntKind.i64 (Prod.fst (wnM xs hs z i)), Value.int IntKind.i64 (Prod.fst (Prod.snd (wnM xs hs z i))), Value.int IntKind.i64 (Prod.snd (Prod.snd (wnM xs hs z i)))] (0 : Nat) false true (true && List.all [Value.int IntKind.i64 (Prod.fst (wnM xs hs z i)), Value.int IntKind.i64 (Prod.fst (Prod.snd (wnM xs hs z i))), Value.int IntKind.i64 (Prod.snd (Prod.snd (wnM xs hs z i)))] atom)) :: some (AObj.row [Value.int IntKind.i64 (rnd (IntKind.wrap IntKind.i64 (IntKind.wrap IntKind.i64 (Prod.fst (wnM xs hs z i) * Prod.snd (Prod.snd (wnM xs hs z i))) - IntKind.wrap IntKind.i64 (Prod.fst (Prod.snd (wnM xs hs z i)) * Prod.fst (Prod.snd (wnM xs hs z i))))) (IntKind.wrap IntKind.i64 (Prod.fst (wnM xs hs z i) * Prod.fst (wnM xs hs z i))))] (1 : Nat) false true (List.all [Value.int IntKind.i64 (rnd (IntKind.wrap IntKind.i64 (IntKind.wrap IntKind.i64 (Prod.fst (wnM xs hs z i) * Prod.snd (Prod.snd (wnM xs hs z i))) - IntKind.wrap IntKind.i64 (Prod.fst (Prod.snd (wnM xs hs z i)) * Prod.fst (Prod.snd (wnM xs hs z i))))) (IntKind.wrap IntKind.i64 (Prod.fst (wnM xs hs z i) * Prod.fst (wnM xs hs z i))))] atom)) :: noH), off := (0 : Nat) }) (i + (1 : Nat)) (0 : Nat)] atom)) :: some (AObj.row [Value.int IntKind.i64 (↑z : Int)] (0 : Nat) false false true) :: some (AObj.row [Value.string nm, Value.int IntKind.i64 f, Value.slice (some { block := (0 : Nat), off := (0 : Nat) }) n c, Value.slice (some { block := (1 : Nat), off := (0 : Nat) }) k d] (0 : Nat) false false false) :: some (AObj.row (ints (ixL xs hs z i) ++ [Value.int IntKind.i64 (rnd (IntKind.wrap IntKind.i64 (IntKind.wrap IntKind.i64 (Prod.fst (wnM xs hs z i) * Prod.snd (Prod.snd (wnM xs hs z i))) - IntKind.wrap IntKind.i64 (Prod.fst (Prod.snd (wnM xs hs z i)) * Prod.fst (Prod.snd (wnM xs hs z i))))) (IntKind.wrap IntKind.i64 (Prod.fst (wnM xs hs z i) * Prod.fst (wnM xs hs z i))))]) (1 : Nat) true true (List.all [Value.int IntKind.i64 (rnd (IntKind.wrap IntKind.i64 (IntKind.wrap IntKind.i64 (Prod.fst (wnM xs hs z i) * Prod.snd (Prod.snd (wnM xs hs z i))) - IntKind.wrap IntKind.i64 (Prod.fst (Prod.snd (wnM xs hs z i)) * Prod.fst (Prod.snd (wnM xs hs z i))))) (IntKind.wrap IntKind.i64 (Prod.fst (wnM xs hs z i) * Prod.fst (wnM xs hs z i))))] atom)) :: noH = some (AObj.row (flts xs) (1 : Nat) true false true) :: some (AObj.row (ints hs) (2 : Nat) true false true) :: some (AObj.row [Value.int IntKind.i64 (↑z : Int)] (0 : Nat) false true true) :: some (AObj.row [Value.slice (some { block := (6 : Nat), off := (0 : Nat) }) (i + (1 : Nat)) (0 : Nat)] (0 : Nat) false true false) :: some (AObj.row [Value.int IntKind.i64 (↑z : Int)] (0 : Nat) false false true) :: some (AObj.row [Value.string nm, Value.int IntKind.i64 f, Value.slice (some { block := (0 : Nat), off := (0 : Nat) }) n c, Value.slice (some { block := (1 : Nat), off := (0 : Nat) }) k d] (0 : Nat) false false false) :: some (AObj.row (ints (ixL xs hs z (i + (1 : Nat)))) (1 : Nat) true true true) :: noH ∧ Is True) (Is (List.length (ints (ixL xs hs z i)) = i * (1 : Nat) ∧ (i + (1 : Nat)) * (8 : Nat) ≤ (140737488355328 : Nat) ∧ i + (1 : Nat) ≤ (9223372036854775807 : Nat)) ∧ some (AObj.row (flts xs) (1 : Nat) true false true) :: some (AObj.row (ints hs) (2 : Nat) true false true) :: some (AObj.row [Value.int IntKind.i64 (↑z : Int)] (0 : Nat) false true true) :: some (AObj.row [Value.slice (some { block := (6 : Nat), off := (0 : Nat) }) (i + (1 : Nat)) (0 : Nat)] (0 : Nat) false true (false && List.all [Value.slice (some { block := List.length (some (AObj.row (flts xs) (1 : Nat) true false true) :: some (AObj.row (ints hs) (2 : Nat) true false true) :: some (AObj.row [Value.int IntKind.i64 (↑z : Int)] (0 : Nat) false true true) :: some (AObj.row [Value.slice (some { block := (6 : Nat), off := (0 : Nat) }) i (0 : Nat)] (0 : Nat) false true false) :: some (AObj.row [Value.int IntKind.i64 (↑z : Int)] (0 : Nat) false false true) :: some (AObj.row [Value.string nm, Value.int IntKind.i64 f, Value.slice (some { block := (0 : Nat), off := (0 : Nat) }) n c, Value.slice (some { block := (1 : Nat), off := (0 : Nat) }) k d] (0 : Nat) false false false) :: some (AObj.row (ints (ixL xs hs z i)) (1 : Nat) true true true) :: some (AObj.row [Value.int IntKind.i64 (Prod.fst (wnM xs hs z i)), Value.int IntKind.i64 (Prod.fst (Prod.snd (wnM xs hs z i))), Value.int IntKind.i64 (Prod.snd (Prod.snd (wnM xs hs z i)))] (0 : Nat) false true (true && List.all [Value.int IntKind.i64 (Prod.fst (wnM xs hs z i)), Value.int IntKind.i64 (Prod.fst (Prod.snd (wnM xs hs z i))), Value.int IntKind.i64 (Prod.snd (Prod.snd (wnM xs hs z i)))] atom)) :: some (AObj.row [Value.int IntKind.i64 (-1 : Int)] (1 : Nat) false true (List.all [Value.int IntKind.i64 (-1 : Int)] atom)) :: noH), off := (0 : Nat) }) (i + (1 : Nat)) (0 : Nat)] atom)) :: some (AObj.row [Value.int IntKind.i64 (↑z : Int)] (0 : Nat) false false true) :: some (AObj.row [Value.string nm, Value.int IntKind.i64 f, Value.slice (some { block := (0 : Nat), off := (0 : Nat) }) n c, Value.slice (some { block := (1 : Nat), off := (0 : Nat) }) k d] (0 : Nat) false false false) :: some (AObj.row (ints (ixL xs hs z i) ++ [Value.int IntKind.i64 (-1 : Int)]) (1 : Nat) true true (List.all [Value.int IntKind.i64 (-1 : Int)] atom)) :: noH = some (AObj.row (flts xs) (1 : Nat) true false true) :: some (AObj.row (ints hs) (2 : Nat) true false true) :: some (AObj.row [Value.int IntKind.i64 (↑z : Int)] (0 : Nat) false true true) :: some (AObj.row [Value.slice (some { block := (6 : Nat), off := (0 : Nat) }) (i + (1 : Nat)) (0 : Nat)] (0 : Nat) false true false) :: some (AObj.row [Value.int IntKind.i64 (↑z : Int)] (0 : Nat) false false true) :: some (AObj.row [Value.string nm, Value.int IntKind.i64 f, Value.slice (some { block := (0 : Nat), off := (0 : Nat) }) n c, Value.slice (some { block := (1 : Nat), off := (0 : Nat) }) k d] (0 : Nat) false false false) :: some (AObj.row (ints (ixL xs hs z (i + (1 : Nat)))) (1 : Nat) true true true) :: noH ∧ Is True)) ∧ (Is True → K (Value.slice (some { block := (2 : Nat), off := (0 : Nat) }) (n / z) (0 : Nat)) (some (AObj.row (flts xs) (1 : Nat) true false true) :: some (AObj.row (ints hs) (2 : Nat) true false true) :: some (AObj.row (ints (ixL xs hs z (n / z))) (1 : Nat) true true true) :: noH)) ∧ ∀ (_s : Empty), Is False → False) := by kernel_rfl
/- The reference. -/
theorem abs_mulR {a b A B : Int} (a0 : -A ≤ a) (a1 : a ≤ A) (b0 : -B ≤ b) (b1 : b ≤ B) : -(A * B) ≤ a * b ∧ a * b ≤ A * B := by
  have hA : 0 ≤ A := by omega
  have := bmul hA (show 0 ≤ B by omega) a0 a1 b0 b1
  exact this
/-- The variance of a window's moments: no product leaves the machine's numbers. -/
theorem MoB.var {m : Int × Int × Int} {z : Nat} (h : MoB m z) (hz : z ≤ 256) :
    IntKind.wrap .i64 (m.1 * m.1) = m.1 * m.1 ∧ m.1 * m.1 ≤ 65536 ∧ IntKind.wrap .i64 (IntKind.wrap .i64 (m.1 * m.2.2) - IntKind.wrap .i64 (m.2.1 * m.2.1)) = m.1 * m.2.2 - m.2.1 * m.2.1 ∧
      -1000000000000000000 ≤ m.1 * m.2.2 - m.2.1 * m.2.1 ∧ m.1 * m.2.2 - m.2.1 * m.2.1 ≤ 1000000000000000000 := by
  obtain ⟨a, b, c, d, e, f⟩ := h
  have p1 := mul_in (a := m.1) (b := m.1) (A := 256) (B := 256) a (by omega) a (by omega)
  have p2 := mul_in (a := m.1) (b := m.2.2) (A := 256) (B := 68719476736) a (by omega) e (by omega)
  have p3 := abs_mulR (a := m.2.1) (b := m.2.1) (A := 4194304) (B := 4194304) (by omega) (by omega) (by omega) (by omega)
  refine ⟨wrap_eq (by omega) (by omega), by omega, ?_, by omega, by omega⟩
  rw [wrap_eq (x := m.1 * m.2.2) (by omega) (by omega), wrap_eq (x := m.2.1 * m.2.1) (by omega) (by omega), wrap_eq (by omega) (by omega)]
theorem ixL_len (xs : List Nat) (hs : List Int) (z m : Nat) : (ixL xs hs z m).length = m := by rw [ixL, List.length_map, List.length_range]
theorem ixL_more (xs : List Nat) (hs : List Int) (z m : Nat) : ixL xs hs z (m + 1) = ixL xs hs z m ++ [ixM (wnM xs hs z m) z] := by
  rw [ixL, List.range_succ, List.map_append]; rfl
set_option maxRecDepth 100000 in
theorem inx_ok {nm : ByteArray} {f : Int} {n c k d : Nat} {xs : List Nat} {hs : List Int} {z : Nat} (hr : runE nm f xs n hs = 0) (hn : xs.length = n) (hk : hs.length = k * 2) (hk9 : k ≤ 100000) (z0 : 0 < z) (z1 : z ≤ 256) :
    SmallRes Tryd.prog 36 [.agg (runA nm f 0 n c 1 k d).toArray, .int .i64 (z : Int)] (hp2r xs hs true false true false []) (.slice (some ⟨2, 0, none⟩) (n / z) 0) (hp2r xs hs true false true false [some (.row (ints (ixL xs hs z (n / z))) 1 true true true)]) := by
  refine fnP_res hm c0_ok (hs := hsInx nm f n c k d xs hs z) ?_
  rw [inx_t]
  obtain ⟨_, _, hn4, _, hx, _, _⟩ := run_zero hr
  refine ⟨by first | trivial | rfl, by first | trivial | rfl, by first | trivial | rfl, ⟨⟨by first | trivial | rfl, by first | trivial | rfl⟩, hr, hn, hk, hk9, z0, z1⟩, ⟨trivial⟩, fun i _ hi => ?_, fun _ => ⟨by first | trivial | rfl, by first | trivial | rfl⟩, fun s => s.elim⟩
  have hi := hi.out
  have hw := win_in z0 hi
  rw [Nat.add_mul] at hw
  have hb : MoB (wnM xs hs z i) z := mo_bd (hs := hs) (a := i * z) hx z (by omega)
  obtain ⟨v1, v2, v3, v4, v5⟩ := hb.var z1
  have hdz : n / z ≤ n := Nat.div_le_self n z
  refine br_of (fun hc => ⟨⟨?_, by omega, by omega, by omega⟩, ⟨by rw [ints_len, ixL_len, Nat.mul_one], by omega, by omega⟩, ?_, ⟨trivial⟩⟩) (fun hc => ⟨⟨by rw [ints_len, ixL_len, Nat.mul_one], by omega, by omega⟩, ?_, ⟨trivial⟩⟩)
  · have hc : (wnM xs hs z i).1 = (z : Int) := by simpa using hc
    rw [v1, hc]
    exact Int.mul_pos (by omega) (by omega)
  · have hc : (wnM xs hs z i).1 = (z : Int) := by simpa using hc
    rw [ixL_more, ixM, if_pos hc, v1, v3, ← ints_app]
    first | done | trivial | rfl
  · have hc : ¬ (wnM xs hs z i).1 = (z : Int) := by simpa using hc
    rw [ixL_more, ixM, if_neg hc, ← ints_app]
    first | done | trivial | rfl
noncomputable def orcInx (xs : List Nat) (hs : List Int) (z : Nat) : OrcV
  | [.agg ⟨[.string nm, .int .i64 f, .slice (some ⟨0, 0, none⟩) n _, .slice (some ⟨1, 0, none⟩) k _]⟩, .int .i64 y], [some (.row e1 1 true true true), some (.row e2 2 true true true)] =>
    some (.slice (some ⟨2, 0, none⟩) (n / z) 0, [some (.row e1 1 true true true), some (.row e2 2 true true true), some (.row (ints (ixL xs hs z (n / z))) 1 true true true)], isRun xs hs n k e1 e2 ∧ runE nm f xs n hs = 0 ∧ y = (z : Int) ∧ 0 < z ∧ z ≤ 256)
  | _, _ => none
theorem okInx (xs : List Nat) (hs : List Int) (z : Nat) : OkV Tryd.prog 36 (orcInx xs hs z) := by
  intro args H ret H' vc h hv
  unfold orcInx at h
  split at h
  · rename_i nm f n c k d y e1 e2
    cases h
    obtain ⟨⟨rfl, rfl, h1, h2, h3, h4⟩, h5, rfl, h6, h7⟩ := hv
    exact regain (H := hp2r xs hs true true true true []) [0, 1] (inx_ok (c := c) (d := d) h5 h1 h3 h4 h6 h7) (by rfl) (by rfl)
  · cases h
end
end Qq
end
section
/- A nil list that is handed back, taken as a list like any other. -/
namespace Go.Vm
noncomputable section
theorem SmallRes.nil {P : Program} {f : FuncId} {args : List Value} {H H' : Heap} {rest : List Value} (h : SmallRes P f args H (.tuple (.slice none 0 0 :: rest).toArray) H') (es : Nat) :
    SmallRes P f args H (.tuple (.slice (some ⟨H'.length, 0, none⟩) 0 0 :: rest).toArray) (wr H' H'.length (lo es)) := by
  intro F A ψ w args' hh hb hA hψ hl
  refine (h F A ψ w args' hh hb hA hψ hl).mono ?_
  rintro e w' ⟨v', A', ψ', rfl, k1, k2, k3⟩
  have hn : ¬ A' H'.length := fun h => by have := k2 _ h; omega
  have hag := mono_new (ψ := ψ') (g := ⟨0, 0, 0, es⟩) hn
  refine ⟨v', _, _, rfl, k1.void hn es true true true, fun id hid => ?_, ?_⟩
  · obtain ⟨l1, l2⟩ := len_wr H' H'.length (lo es)
    rcases hid with h | rfl
    · have := k2 id h
      exact Nat.lt_of_lt_of_le this l1
    · exact l2
  · cases k3 with
    | atom _ h => cases h
    | tuple xs ys hs hk =>
      refine .tuple _ _ (by simpa using hs) fun i => ?_
      match i with
      | 0 => exact emp_list rfl (hk 0) (.inr rfl)
      | i + 1 =>
        have := (hk (i + 1)).mono hag
        exact this
end
end Go.Vm
end
section
/- Indices, the worst window: the program, and the reference. -/
open Go Go.Vm Go.Proofs Sp
namespace Sp
noncomputable section
noncomputable def cwE (nm : ByteArray) (f : Int) (xs : List Nat) (n : Nat) (hs : List Int) (y : Int) : Int := fi [runE nm f xs n hs, wi y 2 256]
noncomputable def iL (nm : ByteArray) (f : Int) (xs : List Nat) (n : Nat) (hs : List Int) (y : Int) : List Int := if cwE nm f xs n hs y = 0 then ixL xs hs y.toNat (n / y.toNat) else []
end
end Sp
namespace Qq
noncomputable section
noncomputable def hsCw (xs : List Nat) (hs : List Int) : Hs Tryd.prog where
  au := auCalls [(45, hCa Tryd.prog 45 (orcCrP xs hs) (okCrP xs hs))]
theorem cw_t (nm : ByteArray) (f : Int) (n : Nat) (c : Nat) (k : Nat) (d : Nat) (xs : List Nat) (hs : List Int) (y : Int) (K : Value → Heap → Prop) :
    (fnP Tryd.prog c2 (hsCw xs hs) (35 : FuncId) [Value.agg (List.toArray (runA nm f (0 : Nat) n c (1 : Nat) k d)), Value.int IntKind.i64 y] (hp2r xs hs true true true true []) K) =
    (Is (isRun xs hs n k (flts xs) (ints hs)) ∧ K (Value.int IntKind.i64 (fi [runE nm f xs n hs, wi y (2 : Int) (256 : Int)])) (some (AObj.row (flts xs) (1 : Nat) true true true) :: some (AObj.row (ints hs) (2 : Nat) true true true) :: noH)) := by kernel_rfl
noncomputable def orcCw (xs : List Nat) (hs : List Int) : OrcV
  | [.agg ⟨[.string nm, .int .i64 f, .slice (some ⟨0, 0, none⟩) n _, .slice (some ⟨1, 0, none⟩) k _]⟩, .int .i64 y], [some (.row e1 1 true true true), some (.row e2 2 true true true)] =>
    some (.int .i64 (cwE nm f xs n hs y), [some (.row e1 1 true true true), some (.row e2 2 true true true)], isRun xs hs n k e1 e2)
  | _, _ => none
theorem okCw (xs : List Nat) (hs : List Int) : OkV Tryd.prog 35 (orcCw xs hs) := by
  intro args H ret H' vc h hv
  unfold orcCw at h
  split at h
  · rename_i nm f n c k d y e1 e2
    cases h
    obtain ⟨rfl, rfl, h1, h2, h3, h4⟩ := hv
    refine fnP_res hm c2_ok (hs := hsCw xs hs) ?_
    show fnP Tryd.prog c2 (hsCw xs hs) 35 [.agg (runA nm f 0 n c 1 k d).toArray, _] (hp2r xs hs true true true true []) _
    rw [cw_t]
    exact ⟨⟨rfl, rfl, h1, h2, h3, h4⟩, by first | trivial | rfl, by first | trivial | rfl⟩
  · cases h
noncomputable def hsId (xs : List Nat) (hs : List Int) (y : Int) : Hs Tryd.prog where
  au := auCalls [(35, hCa Tryd.prog 35 (orcCw xs hs) (okCw xs hs)), (36, hCa Tryd.prog 36 (orcInx xs hs y.toNat) (okInx xs hs y.toNat))]
theorem id_t (nm : ByteArray) (f : Int) (n : Nat) (c : Nat) (k : Nat) (d : Nat) (xs : List Nat) (hs : List Int) (y : Int) (K : Value → Heap → Prop) :
    (fnP Tryd.prog c2 (hsId xs hs y) (16 : FuncId) [Value.agg (List.toArray (runA nm f (0 : Nat) n c (1 : Nat) k d)), Value.int IntKind.i64 y] (hp2r xs hs true true true true []) K) =
    (Is (isRun xs hs n k (flts xs) (ints hs)) ∧ br (cwE nm f xs n hs y != (0 : Int)) (K (Value.tuple #[Value.slice none (0 : Nat) (0 : Nat), Value.int IntKind.i64 (cwE nm f xs n hs y)]) (some (AObj.row (flts xs) (1 : Nat) true true true) :: some (AObj.row (ints hs) (2 : Nat) true true true) :: noH)) (Is (isRun xs hs n k (flts xs) (ints hs) ∧ runE nm f xs n hs = (0 : Int) ∧ y = (↑(Int.toNat y) : Int) ∧ (0 : Nat) < Int.toNat y ∧ Int.toNat y ≤ (256 : Nat)) ∧ K (Value.tuple #[Value.slice (some { block := (2 : Nat), off := (0 : Nat) }) (n / Int.toNat y) (0 : Nat), Value.int IntKind.i64 (0 : Int)]) (some (AObj.row (flts xs) (1 : Nat) true true true) :: some (AObj.row (ints hs) (2 : Nat) true true true) :: some (AObj.row (ints (ixL xs hs (Int.toNat y) (n / Int.toNat y))) (1 : Nat) true true true) :: noH))) := by kernel_rfl
/- The first index of a value. -/
/- The worst window. -/
theorem cw_zero {nm : ByteArray} {f : Int} {xs : List Nat} {n : Nat} {hs : List Int} {y : Int} (h : cwE nm f xs n hs y = 0) : runE nm f xs n hs = 0 ∧ y = (y.toNat : Int) ∧ 0 < y.toNat ∧ y.toNat ≤ 256 := by
  have h1 := fi_zero.1 h (runE nm f xs n hs) (by simp)
  have h2 := wi_zero.1 (fi_zero.1 h (wi y 2 256) (by simp))
  exact ⟨h1, by omega, by omega, by omega⟩
theorem iL_some {nm : ByteArray} {f : Int} {xs : List Nat} {n : Nat} {hs : List Int} {y : Int} (h : cwE nm f xs n hs y = 0) : iL nm f xs n hs y = ixL xs hs y.toNat (n / y.toNat) := if_pos h
theorem iL_none {nm : ByteArray} {f : Int} {xs : List Nat} {n : Nat} {hs : List Int} {y : Int} (h : ¬ cwE nm f xs n hs y = 0) : iL nm f xs n hs y = [] := if_neg h
theorem id_ok {nm : ByteArray} {f : Int} {n c k d : Nat} {xs : List Nat} {hs : List Int} {y : Int} (hr : isRun xs hs n k (flts xs) (ints hs)) :
    SmallRes Tryd.prog 16 [.agg (runA nm f 0 n c 1 k d).toArray, .int .i64 y] (hp2r xs hs true true true true []) (.tuple #[.slice (some ⟨2, 0, none⟩) (iL nm f xs n hs y).length 0, .int .i64 (cwE nm f xs n hs y)]) (hp2r xs hs true true true true [oneR (iL nm f xs n hs y)]) := by
  by_cases h0 : cwE nm f xs n hs y = 0
  · obtain ⟨h1, h2, h3, h4⟩ := cw_zero h0
    rw [iL_some h0, ixL_len, h0]
    refine fnP_res hm c2_ok (hs := hsId xs hs y) ?_
    rw [id_t]
    exact ⟨⟨hr⟩, br_of (fun h => by rw [h0] at h; cases h) (fun _ => ⟨⟨hr, h1, h2, h3, h4⟩, by first | trivial | rfl, by first | trivial | rfl⟩)⟩
  · rw [iL_none h0]
    refine SmallRes.nil (H' := hp2r xs hs true true true true []) (rest := [.int .i64 (cwE nm f xs n hs y)]) ?_ 1
    refine fnP_res hm c2_ok (hs := hsId xs hs y) ?_
    rw [id_t]
    exact ⟨⟨hr⟩, br_of (fun _ => ⟨by first | trivial | rfl, by first | trivial | rfl⟩) (fun h => absurd (by simpa using h) h0)⟩
noncomputable def orcIdV (xs : List Nat) (hs : List Int) : OrcV
  | [.agg ⟨[.string nm, .int .i64 f, .slice (some ⟨0, 0, none⟩) n _, .slice (some ⟨1, 0, none⟩) k _]⟩, .int .i64 y], [some (.row e1 1 true true true), some (.row e2 2 true true true)] =>
    some (.tuple #[.slice (some ⟨2, 0, none⟩) (iL nm f xs n hs y).length 0, .int .i64 (cwE nm f xs n hs y)], [some (.row e1 1 true true true), some (.row e2 2 true true true), oneR (iL nm f xs n hs y)], isRun xs hs n k e1 e2)
  | _, _ => none
theorem okIdV (xs : List Nat) (hs : List Int) : OkV Tryd.prog 16 (orcIdV xs hs) := by
  intro args H ret H' vc h hv
  unfold orcIdV at h
  split at h
  · cases h
    obtain ⟨rfl, rfl, h1⟩ := hv
    exact id_ok ⟨rfl, rfl, h1⟩
  · cases h
/-! ### The worst window -/
end
end Qq
end
section
/- The index of a signal, plain. -/
open Go Go.Vm Go.Proofs Sp
namespace Qq
noncomputable section
/-- The sum of the first numbers. -/
def su (g : Nat → Int) : Nat → Int
  | 0 => 0
  | i + 1 => su g i + g i
theorem su_ext {g h : Nat → Int} : ∀ {n : Nat}, (∀ i, i < n → g i = h i) → su g n = su h n
  | 0, _ => rfl
  | n + 1, e => by rw [su, su, su_ext (fun i hi => e i (by omega)), e n (by omega)]
theorem su_first (g : Nat → Int) : ∀ n, su g (n + 1) = g 0 + su (fun i => g (i + 1)) n
  | 0 => by simp [su]
  | n + 1 => by rw [su, su_first g n, su]; omega
theorem su_rev : ∀ (n : Nat) (g : Nat → Int), su (fun i => g (n - 1 - i)) n = su g n
  | 0, _ => rfl
  | n + 1, g => by
    rw [su_first g n, su, ← su_rev n (fun i => g (i + 1))]
    have e : su (fun i => g (n + 1 - 1 - i)) n = su (fun i => g (n - 1 - i + 1)) n := su_ext (fun i hi => by
      show g _ = g _
      congr 1; omega)
    rw [e]
    show _ + g (n + 1 - 1 - n) = _
    rw [show n + 1 - 1 - n = 0 by omega]; omega
theorem su_neg (g : Nat → Int) : ∀ n, su (fun i => -g i) n = -su g n
  | 0 => rfl
  | n + 1 => by rw [su, su_neg g n, su]; omega
theorem su_add (g : Nat → Int) (o : Int) : ∀ n : Nat, su (fun i => g i + o) n = su g n + n * o
  | 0 => by simp [su]
  | n + 1 => by
    rw [su, su_add g o n, su]
    have : ((n + 1 : Nat) : Int) * o = n * o + o := by rw [Int.natCast_add, Int.add_mul]; simp
    omega
theorem su_sq (g : Nat → Int) (o : Int) : ∀ n : Nat, su (fun i => (g i + o) * (g i + o)) n = su (fun i => g i * g i) n + 2 * (o * su g n) + n * (o * o)
  | 0 => by simp [su]
  | n + 1 => by
    rw [su, su_sq g o n, su, su]
    have e1 : ((n + 1 : Nat) : Int) * (o * o) = n * (o * o) + o * o := by rw [Int.natCast_add, Int.add_mul]; simp
    have e2 : (g n + o) * (g n + o) = g n * g n + 2 * (o * g n) + o * o := by
      rw [Int.add_mul, Int.mul_add, Int.mul_add, Int.mul_comm (g n) o]; omega
    have e3 : o * (su g n + g n) = o * su g n + o * g n := Int.mul_add _ _ _
    omega
/-- The index of so many numbers as one window. -/
def ixG (g : Nat → Int) (n : Nat) : Int := rnd ((n : Int) * su (fun i => g i * g i) n - su g n * su g n) ((n : Int) * n)
theorem ixG_ext {g h : Nat → Int} {n : Nat} (e : ∀ i, i < n → g i = h i) : ixG g n = ixG h n := by
  rw [ixG, ixG, su_ext e, su_ext (g := fun i => g i * g i) (h := fun i => h i * h i) (fun i hi => by simp only [e i hi])]
/-- An offset changes nothing. -/
theorem ixG_add (g : Nat → Int) (o : Int) (n : Nat) : ixG (fun i => g i + o) n = ixG g n := by
  rw [ixG, ixG, su_add, su_sq]
  congr 1
  generalize su g n = a
  generalize su (fun i => g i * g i) n = b
  rw [Int.mul_add, Int.mul_add, Int.add_mul, Int.mul_add, Int.mul_add, Int.mul_comm a (n * o)]
  have e1 : (n : Int) * (2 * (o * a)) = 2 * ((n * o) * a) := by rw [← Int.mul_assoc, ← Int.mul_assoc, Int.mul_comm (n : Int) 2, Int.mul_assoc, Int.mul_assoc, Int.mul_assoc]
  have e2 : (n : Int) * (n * (o * o)) = (n * o) * (n * o) := by
    rw [Int.mul_assoc, Int.mul_left_comm o n o]
  omega
/-- Nor do the direction and the sign. -/
theorem ixG_turn (g : Nat → Int) (n : Nat) : ixG (fun i => -g (n - 1 - i)) n = ixG g n := by
  rw [ixG, ixG]
  have e1 : su (fun i => -g (n - 1 - i)) n = -su g n := by rw [su_neg (fun i => g (n - 1 - i)), su_rev n g]
  have e2 : su (fun i => -g (n - 1 - i) * -g (n - 1 - i)) n = su (fun i => g i * g i) n := by
    rw [← su_rev n (fun i => g i * g i)]
    exact su_ext (fun i _ => by simp only [Int.neg_mul_neg])
  rw [e1, e2, Int.neg_mul_neg]
/-- What both directions tell of an offset. -/
theorem su_both (g : Nat → Int) (o : Int) (n : Nat) : su (fun i => g i + o) n + su (fun i => -g (n - 1 - i) + o) n = 2 * (n * o) := by
  rw [su_add, su_add (fun i => -g (n - 1 - i)), su_neg (fun i => g (n - 1 - i)), su_rev n g]; omega
theorem rnd_whole {o b : Int} (h : 0 < b) : rnd (o * b) b = o := by
  rw [rnd]
  have e : 2 * (o * b) + b = b + o * (2 * b) := by rw [← Int.mul_assoc, ← Int.mul_assoc, Int.mul_comm 2 o]; omega
  rw [e, Int.add_mul_ediv_right _ _ (by omega), Int.ediv_eq_zero_of_lt (by omega) (by omega), Int.zero_add]
theorem mo_none (xs : List Nat) : ∀ i, mo xs [] 0 i = ((i : Int), su (fun j => lev (xs.getD j 0)) i, su (fun j => lev (xs.getD j 0) * lev (xs.getD j 0)) i)
  | 0 => rfl
  | i + 1 => by
    have e : knB [] ((0 + i : Nat) : Int) = true := rfl
    rw [mo, if_pos e, mo_none xs i, addM, su, su, Nat.zero_add]
    rfl
theorem ixM_all (xs : List Nat) (n : Nat) : ixM (wnM xs [] n 0) (n : Int) = ixG (fun j => lev (xs.getD j 0)) n := by
  rw [wnM, Nat.zero_mul, mo_none, ixM, if_pos rfl]; rfl
end
end Qq
end
section
/- Samples that are made of integers. -/
open Go
namespace Sp
noncomputable section
/-- The sample of an integer. -/
def smO (n : Int) : Nat := fDiv (fOf n) 1098907648
end
end Sp
namespace Fl
open Ieee Sp
theorem shl_div {m a b : Nat} (h : b ≤ a) : m <<< a / 2 ^ b = m * 2 ^ (a - b) ∧ m <<< a % 2 ^ b = 0 := by
  have e : m <<< a = m * 2 ^ (a - b) * 2 ^ b := by rw [Nat.shiftLeft_eq, Nat.mul_assoc, ← Nat.pow_add, Nat.sub_add_cancel h]
  rw [e]
  exact ⟨Nat.mul_div_cancel _ (Nat.pow_pos (by decide)), Nat.mul_mod_left _ _⟩
theorem pow4 {m a b c : Nat} (h : a + c + 1 + 4 = b) : 2 * (m * 2 ^ a) * 2 ^ c * 16 = m * 2 ^ b := by
  subst h
  simp only [Nat.pow_add, Nat.pow_one]
  have e : (2 : Nat) ^ 4 = 16 := rfl
  rw [e]
  generalize 2 ^ a = x
  generalize 2 ^ c = y
  grind
theorem read_16 : single.read 1098907648 = .number false (2 ^ 23) (-19) := by decide +kernel
theorem log_23 : (2 ^ 23).log2 = 23 := by decide +kernel
theorem Has.div16 {x : Nat} (h : IsF x) : ∃ r t, (single.read x).quotient 25 (single.read 1098907648) = some r ∧ Has r (-200) t ∧ t * 16 = val x := by
  obtain ⟨s, m, i, h1, h2, h3, h4⟩ := h
  rw [h1, read_16]
  have hl : m.log2 ≤ 23 := by
    by_cases h0 : m = 0
    · subst h0; decide
    · exact Nat.le_of_lt_succ ((Nat.log2_lt h0).2 h2)
  have hv : val x = sg s (m * 2 ^ (i + 400).toNat) := by rw [val, h1]
  rw [hv]
  obtain ⟨q1, q2⟩ := shl_div (m := m) (a := 25 + 23 - m.log2) (b := 23) (by omega)
  have e0 : (2 ^ 23 : Nat) ≠ 0 := by decide
  have hq : Datum.quotient 25 (.number s m i) (.number false (2 ^ 23) (-19)) = some (.number s (2 * (m * 2 ^ (25 + 23 - m.log2 - 23))) (i - -19 - ((25 + 23 - m.log2 : Nat) : Int) - 1)) := by
    simp only [Datum.quotient, if_neg e0, log_23, q1, q2, Bool.xor_false]
    rfl
  refine ⟨_, _, hq, ⟨_, _, _, rfl, by omega, rfl⟩, ?_⟩
  have e16 : (16 : Int) = ((16 : Nat) : Int) := rfl
  rw [e16, ← sg_mul]
  refine congrArg (sg s) ?_
  generalize hA : (i - -19 - ((25 + 23 - m.log2 : Nat) : Int) - 1 + 400).toNat = c
  generalize hB : (i + 400).toNat = b
  exact pow4 (by omega)
theorem pow_at {a b : Nat} (h : a + b = 400) : (2 : Nat) ^ a * 2 ^ b = one := by
  rw [← Nat.pow_add, h, one_nat]
theorem one_split {a b k : Nat} (h : a + b = 400) (hk : 2 ^ b = k) : ((2 ^ a : Nat) : Int) * (k : Int) = (one : Int) := by
  rw [← pow_at h, hk, Int.natCast_mul]
theorem rep_pow {n t : Int} {K : Nat} (h : n.natAbs < 2 ^ 24) (h1 : 24 + K ≤ 500) (h2 : 251 ≤ K) (ht : t = n * ((2 ^ K : Nat) : Int)) : Rep t := by
  have h3 := pow_up h1
  rw [ht]
  refine ⟨?_, n.natAbs, K, ?_, h, h2⟩
  · rw [Int.natAbs_mul, Int.natAbs_natCast]
    exact Nat.lt_of_lt_of_le (Nat.mul_lt_mul_of_pos_right h (Nat.pow_pos (by decide))) (by rw [← Nat.pow_add]; exact h3)
  · rw [Int.natAbs_mul, Int.natAbs_natCast]
theorem sm_ok {n : Int} (h : n.natAbs < 2 ^ 24) : fDivOk (fOf n) 1098907648 ∧ IsF (smO n) ∧ val (smO n) * 16 = n * (one : Int) := by
  obtain ⟨f1, f2⟩ := of_val h
  obtain ⟨r, t, e1, h1, e2⟩ := Has.div16 f1
  rw [f2] at e2
  have es : single.div (fOf n) 1098907648 = some (single.write r) := by
    have e3 : single.div (fOf n) 1098907648 = ((single.read (fOf n)).quotient 25 (single.read 1098907648)).map single.write := rfl
    rw [e3, e1]; rfl
  have ht : t = n * ((2 ^ 396 : Nat) : Int) := by
    have e4 : ((2 ^ 396 : Nat) : Int) * 16 = (one : Int) := one_split (a := 396) (b := 4) (k := 16) rfl rfl
    rw [← e4, ← Int.mul_assoc] at e2
    omega
  have hr : Rep t := rep_pow h (by decide) (by decide) ht
  have hw := has_fin (h1.write (by decide) hr)
  have em : smO n = single.write r := by rw [smO, fDiv, fmt32, es]; rfl
  exact ⟨by rw [fDivOk, fmt32, es]; rfl, by rw [em]; exact hw.1, by rw [em, hw.2, e2]⟩
theorem lev_sm {n : Int} (h : n.natAbs ≤ 16384) : lev (smO n) = n ∧ sE (smO n) = 0 := by
  obtain ⟨_, f1, e1⟩ := sm_ok (n := n) (by omega)
  have hp := one_pos
  have hb : (val (smO n)).natAbs ≤ 1024 * one := by
    have e := congrArg Int.natAbs e1
    rw [Int.natAbs_mul, Int.natAbs_mul] at e
    have e2 : (one : Int).natAbs = one := Int.natAbs_natCast one
    rw [e2, show Int.natAbs 16 = 16 from rfl] at e
    have := Nat.mul_le_mul_right one h
    omega
  obtain ⟨m1, m2, m3⟩ := mul_16 f1 hb
  rw [e1] at m3
  obtain ⟨i1, _, s, i3, i4⟩ := int_ok m2 (by
    rw [m3, Int.natAbs_mul, show Int.natAbs (one : Int) = one from Int.natAbs_natCast one]
    exact Nat.mul_le_mul_right one (by omega))
  have hl : lev (smO n) = n := by
    rw [lev, i4]
    rw [m3] at i3 ⊢
    rw [Int.natAbs_mul, show Int.natAbs (one : Int) = one from Int.natAbs_natCast one] at i3 ⊢
    rw [Nat.mul_div_cancel _ hp]
    rw [sg_mul] at i3
    exact Int.eq_of_mul_eq_mul_right (by omega) i3
  refine ⟨hl, ?_⟩
  obtain ⟨f2, e2⟩ := of_val (n := n) (by omega)
  rw [sE_fin f1, hl]
  refine (Qq.wh_zero (by decide)).2 ?_
  have q1 : fLt (smO n) 3296722944 = false := by
    rw [lt_val f1 fin_m1024.1, fin_m1024.2]; exact decide_eq_false (by omega)
  have q2 : fGt (smO n) 1149239296 = false := by
    rw [gt_val f1 fin_1024.1, fin_1024.2]; exact decide_eq_false (by omega)
  have q3 : fNe (fMul (smO n) 1098907648) (fOf n) = false := by
    rw [ne_val m2 f2, m3, e2]; exact decide_eq_false (by simp)
  rw [q1, q2, q3]; rfl
end Fl
end
section
/- The sum of two samples. -/
open Go
namespace Fl
open Ieee Sp
theorem smp_of {z : Nat} {n : Int} (f1 : IsF z) (e1 : val z * 16 = n * (one : Int)) (h : n.natAbs ≤ 16384) : lev z = n ∧ sE z = 0 := by
  have hp := one_pos
  have hb : (val z).natAbs ≤ 1024 * one := by
    have e := congrArg Int.natAbs e1
    rw [Int.natAbs_mul, Int.natAbs_mul] at e
    have e2 : (one : Int).natAbs = one := Int.natAbs_natCast one
    rw [e2, show Int.natAbs 16 = 16 from rfl] at e
    have := Nat.mul_le_mul_right one h
    omega
  obtain ⟨m1, m2, m3⟩ := mul_16 f1 hb
  rw [e1] at m3
  obtain ⟨i1, _, s, i3, i4⟩ := int_ok m2 (by
    rw [m3, Int.natAbs_mul, show Int.natAbs (one : Int) = one from Int.natAbs_natCast one]
    exact Nat.mul_le_mul_right one (by omega))
  have hl : lev z = n := by
    rw [lev, i4]
    rw [m3] at i3 ⊢
    rw [Int.natAbs_mul, show Int.natAbs (one : Int) = one from Int.natAbs_natCast one] at i3 ⊢
    rw [Nat.mul_div_cancel _ hp]
    rw [sg_mul] at i3
    exact Int.eq_of_mul_eq_mul_right (by omega) i3
  refine ⟨hl, ?_⟩
  obtain ⟨f2, e2⟩ := of_val (n := n) (by omega)
  rw [sE_fin f1, hl]
  refine (Qq.wh_zero (by decide)).2 ?_
  have q1 : fLt z 3296722944 = false := by
    rw [lt_val f1 fin_m1024.1, fin_m1024.2]; exact decide_eq_false (by omega)
  have q2 : fGt z 1149239296 = false := by
    rw [gt_val f1 fin_1024.1, fin_1024.2]; exact decide_eq_false (by omega)
  have q3 : fNe (fMul z 1098907648) (fOf n) = false := by
    rw [ne_val m2 f2, m3, e2]; exact decide_eq_false (by simp)
  rw [q1, q2, q3]; rfl
theorem add_ok {x y : Nat} (hx : Smp x) (hy : Smp y) (h : (lev x + lev y).natAbs ≤ 16384) : fAddOk x y ∧ lev (fAdd x y) = lev x + lev y ∧ sE (fAdd x y) = 0 := by
  obtain ⟨r, e1, h1⟩ := Has.sum (lo := -149) (by decide) hx.fin.has hy.fin.has
  have es : single.add x y = some (single.write r) := by
    have e3 : single.add x y = ((single.read x).sum (single.read y)).map single.write := rfl
    rw [e3, e1]; rfl
  have hv : (val x + val y) * 16 = (lev x + lev y) * (one : Int) := by rw [Int.add_mul, Int.add_mul, hx.v, hy.v]
  have ht : val x + val y = (lev x + lev y) * ((2 ^ 396 : Nat) : Int) := by
    have e4 : ((2 ^ 396 : Nat) : Int) * 16 = (one : Int) := one_split (a := 396) (b := 4) (k := 16) rfl rfl
    rw [← e4, ← Int.mul_assoc] at hv
    omega
  have hr : Rep (val x + val y) := rep_pow (by omega) (by decide) (by decide) ht
  have hw := has_fin (h1.write (by decide) hr)
  have em : fAdd x y = single.write r := by rw [fAdd, fmt32, es]; rfl
  have hz := smp_of (z := fAdd x y) (n := lev x + lev y) (by rw [em]; exact hw.1) (by rw [em, hw.2, hv]) h
  exact ⟨by rw [fAddOk, fmt32, es]; rfl, hz.1, hz.2⟩
theorem fin_10 : IsF 1092616192 ∧ val 1092616192 = 10 * (one : Int) :=
  has_fin (lo := -149) ⟨false, 10 * 2 ^ 20, -20, by decide +kernel, by decide, by decide +kernel⟩
theorem fin_m10 : IsF 3240099840 ∧ val 3240099840 = -(10 * (one : Int)) :=
  has_fin (lo := -149) ⟨true, 10 * 2 ^ 20, -20, by decide +kernel, by decide, by decide +kernel⟩
/-- A sample of at most 10. -/
theorem lev_10 {x : Nat} (h : Smp x) (h1 : fGt x 1092616192 = false) (h2 : fLt x 3240099840 = false) : (lev x).natAbs ≤ 160 := by
  rw [gt_val h.fin fin_10.1, fin_10.2] at h1
  rw [lt_val h.fin fin_m10.1, fin_m10.2] at h2
  have h1 := of_decide_eq_false h1
  have h2 := of_decide_eq_false h2
  have hv := h.v
  have hp := one_pos
  have a : lev x * (one : Int) ≤ 160 * (one : Int) := by omega
  have b : -160 * (one : Int) ≤ lev x * (one : Int) := by omega
  have a2 := Int.le_of_mul_le_mul_right a (by omega)
  have b2 := Int.le_of_mul_le_mul_right b (by omega)
  omega
/-- Two samples differ if their integers do. -/
theorem ne_lev {x y : Nat} (hx : Smp x) (hy : Smp y) : fNe x y = decide (lev x ≠ lev y) := by
  rw [ne_val hx.fin hy.fin]
  have hp := one_pos
  have h1 := hx.v
  have h2 := hy.v
  refine decide_eq_decide.2 (not_congr ⟨fun e => ?_, fun e => ?_⟩)
  · rw [e, h2] at h1
    exact (Int.eq_of_mul_eq_mul_right (by omega) h1).symm
  · rw [e, ← h2] at h1
    omega
end Fl
end
