/- Indices of windows: the program, and the reference. -/
import Derived.Test.YtaigknknfaeajaaGreatDoorRJ
import Derived.Test.YtaigknknfaeajaaGreatDoorZA
open Go Go.Vm Go.Proofs Sp
namespace Sp
noncomputable section
noncomputable def ixL (xs : List Nat) (hs : List Int) (z m : Nat) : List Int := (List.range m).map fun i => ixM (wnM xs hs z i) z
end
end Sp
namespace Qq
noncomputable section
noncomputable def hsRnd : Hs Tryz.prog where
  au := auCalls [(208, hCa Tryz.prog 208 orcFl okFlP)]
theorem rndP_t (a : Int) (b : Int) (K : Value → Heap → Prop) :
    (fnP Tryz.prog c0 hsRnd (201 : FuncId) [Value.int IntKind.i64 a, Value.int IntKind.i64 b] [] K) =
    (Is ((0 : Int) < IntKind.wrap IntKind.i64 ((2 : Int) * b) ∧ IntKind.wrap IntKind.i64 ((2 : Int) * b) ≤ (4000000000000000000 : Int) ∧ (-4000000000000000000 : Int) ≤ IntKind.wrap IntKind.i64 (IntKind.wrap IntKind.i64 ((2 : Int) * a) + b) ∧ IntKind.wrap IntKind.i64 (IntKind.wrap IntKind.i64 ((2 : Int) * a) + b) ≤ (4000000000000000000 : Int)) ∧ K (Value.int IntKind.i64 (IntKind.wrap IntKind.i64 (IntKind.wrap IntKind.i64 ((2 : Int) * a) + b) / IntKind.wrap IntKind.i64 ((2 : Int) * b))) noH) := by kernel_rfl
noncomputable def orcRnd : OrcV
  | [.int .i64 a, .int .i64 b], [] => some (.int .i64 (rnd a b), [], 0 < b ∧ b ≤ 1000000000 ∧ -1000000000000000000 ≤ a ∧ a ≤ 1000000000000000000)
  | _, _ => none
theorem okRnd : OkV Tryz.prog 201 orcRnd := by
  intro args H ret H' vc h hv
  unfold orcRnd at h
  split at h
  · rename_i a b
    cases h
    obtain ⟨b0, b1, a0, a1⟩ := hv
    refine fnP_res hm c0_ok (hs := hsRnd) ?_
    rw [rndP_t, wrap_eq (x := 2 * a) (by omega) (by omega), wrap_eq (x := 2 * b) (by omega) (by omega), wrap_eq (x := 2 * a + b) (by omega) (by omega)]
    exact ⟨⟨by omega, by omega, by omega, by omega⟩, by first | trivial | rfl, by first | trivial | rfl⟩
  · cases h
noncomputable def itI (nm : ByteArray) (f : Int) (n c k d : Nat) (xs : List Nat) (hs : List Int) (z : Nat) : It Tryz.prog where
  gf := 238
  fn cap H := some (n / z, elN xs hs z, (cap = cpN ∧ H = hcN nm f n c k d xs hs z) ∧ runE nm f xs n hs = 0 ∧ xs.length = n ∧ hs.length = k * 2 ∧ k ≤ 100000 ∧ 0 < z ∧ z ≤ 256)
  ok := by
    intro cap H N el vc h hv
    cases h
    obtain ⟨⟨rfl, rfl⟩, h1, h2, h3, h4, h5, h6⟩ := hv
    exact itN_ok h1 h2 h3 h4 h5 h6
noncomputable def rfI (nm : ByteArray) (f : Int) (n c k d : Nat) (xs : List Nat) (hs : List Int) (z : Nat) : Rf Tryz.prog where
  it := itI nm f n c k d xs hs z
  k := 6
  E := slots 28 [(3, .pointer (some ⟨2, 0, none⟩)), (5, .pointer (some ⟨3, 0, none⟩)), (11, .func (.func 238) #[] #[.pointer (some ⟨4, 0, none⟩), .pointer (some ⟨5, 0, none⟩)])]
  Hp i := hp2r xs hs true false true false [some (.row [.int .i64 (z : Int)] 0 false true true), some (.row [.slice (some ⟨6, 0, none⟩) i 0] 0 false true false),
    some (.row [.int .i64 (z : Int)] 0 false false true), some (.row (runA nm f 0 n c 1 k d) 0 false false false), some (.row (ints (ixL xs hs z i)) 1 true true true)]
noncomputable def hsInx (nm : ByteArray) (f : Int) (n c k d : Nat) (xs : List Nat) (hs : List Int) (z : Nat) : Hs Tryz.prog where
  op y := if y = 703 then some (hAp Tryz.prog) else none
  rf _ := some (rfI nm f n c k d xs hs z)
  cl _ := keep 28 [3, 5, 11]
  nl _ := [.cell 3 0 1]
  au := auCalls [(201, hCa Tryz.prog 201 orcRnd okRnd)]
theorem inx_t (nm : ByteArray) (f : Int) (n : Nat) (c : Nat) (k : Nat) (d : Nat) (xs : List Nat) (hs : List Int) (z : Nat) (K : Value → Heap → Prop) :
    (fnP Tryz.prog c0 (hsInx nm f n c k d xs hs z) (119 : FuncId) [Value.agg (List.toArray (runA nm f (0 : Nat) n c (1 : Nat) k d)), Value.int IntKind.i64 (↑z : Int)] (hp2r xs hs true false true false []) K) =
    ([poi, poi, poi, Value.pointer (some { block := (2 : Nat), off := (0 : Nat) }), poi, Value.pointer (some { block := (3 : Nat), off := (0 : Nat) }), poi, poi, poi, poi, poi, Value.func (Fn.func (238 : Nat)) #[] #[Value.pointer (some { block := (4 : Nat), off := (0 : Nat) }), Value.pointer (some { block := (5 : Nat), off := (0 : Nat) })], poi, poi, poi, poi, poi, poi, poi, poi, poi, poi, poi, poi, poi, poi, poi, poi] = [poi, poi, poi, Value.pointer (some { block := (2 : Nat), off := (0 : Nat) }), poi, Value.pointer (some { block := (3 : Nat), off := (0 : Nat) }), poi, poi, poi, poi, poi, Value.func (Fn.func (238 : Nat)) #[] #[Value.pointer (some { block := (4 : Nat), off := (0 : Nat) }), Value.pointer (some { block := (5 : Nat), off := (0 : Nat) })], poi, poi, poi, poi, poi, poi, poi, poi, poi, poi, poi, poi, poi, poi, poi, poi] ∧ some (AObj.row (flts xs) (1 : Nat) true false true) :: some (AObj.row (ints hs) (2 : Nat) true false true) :: some (AObj.row [Value.int IntKind.i64 (↑z : Int)] (0 : Nat) false true (List.all [Value.int IntKind.i64 (↑z : Int)] atom)) :: some (AObj.row [Value.slice (some { block := List.length (some (AObj.row (flts xs) (1 : Nat) true false true) :: some (AObj.row (ints hs) (2 : Nat) true false true) :: some (AObj.row [Value.int IntKind.i64 (↑z : Int)] (0 : Nat) false true (List.all [Value.int IntKind.i64 (↑z : Int)] atom)) :: some (AObj.row [Value.slice none (0 : Nat) (0 : Nat)] (0 : Nat) false true true) :: some (AObj.row [Value.int IntKind.i64 (↑z : Int)] (0 : Nat) false true (List.all [Value.int IntKind.i64 (↑z : Int)] atom)) :: some (AObj.row [Value.string nm, Value.int IntKind.i64 f, Value.slice (some { block := (0 : Nat), off := (0 : Nat) }) n c, Value.slice (some { block := (1 : Nat), off := (0 : Nat) }) k d] (0 : Nat) false true (List.all [Value.string nm, Value.int IntKind.i64 f, Value.slice (some { block := (0 : Nat), off := (0 : Nat) }) n c, Value.slice (some { block := (1 : Nat), off := (0 : Nat) }) k d] atom)) :: noH), off := (0 : Nat) }) (0 : Nat) (0 : Nat)] (0 : Nat) false true false) :: some (AObj.row [Value.int IntKind.i64 (↑z : Int)] (0 : Nat) false false (List.all [Value.int IntKind.i64 (↑z : Int)] atom)) :: some (AObj.row [Value.string nm, Value.int IntKind.i64 f, Value.slice (some { block := (0 : Nat), off := (0 : Nat) }) n c, Value.slice (some { block := (1 : Nat), off := (0 : Nat) }) k d] (0 : Nat) false false (List.all [Value.string nm, Value.int IntKind.i64 f, Value.slice (some { block := (0 : Nat), off := (0 : Nat) }) n c, Value.slice (some { block := (1 : Nat), off := (0 : Nat) }) k d] atom)) :: some (AObj.row [] (1 : Nat) true true true) :: noH = some (AObj.row (flts xs) (1 : Nat) true false true) :: some (AObj.row (ints hs) (2 : Nat) true false true) :: some (AObj.row [Value.int IntKind.i64 (↑z : Int)] (0 : Nat) false true true) :: some (AObj.row [Value.slice (some { block := (6 : Nat), off := (0 : Nat) }) (0 : Nat) (0 : Nat)] (0 : Nat) false true false) :: some (AObj.row [Value.int IntKind.i64 (↑z : Int)] (0 : Nat) false false true) :: some (AObj.row [Value.string nm, Value.int IntKind.i64 f, Value.slice (some { block := (0 : Nat), off := (0 : Nat) }) n c, Value.slice (some { block := (1 : Nat), off := (0 : Nat) }) k d] (0 : Nat) false false false) :: some (AObj.row [] (1 : Nat) true true true) :: noH ∧ [poi, poi, poi, Value.pointer (some { block := (2 : Nat), off := (0 : Nat) }), poi, Value.pointer (some { block := (3 : Nat), off := (0 : Nat) }), poi, poi, poi, poi, poi, Value.func (Fn.func (238 : Nat)) #[] #[Value.pointer (some { block := (4 : Nat), off := (0 : Nat) }), Value.pointer (some { block := (5 : Nat), off := (0 : Nat) })], poi, poi, poi, poi, poi, poi, poi, poi, poi, poi, poi, poi, poi, poi, poi, poi] = [poi, poi, poi, Value.pointer (some { block := (2 : Nat), off := (0 : Nat) }), poi, Value.pointer (some { block := (3 : Nat), off := (0 : Nat) }), poi, poi, poi, poi, poi, Value.func (Fn.func (238 : Nat)) #[] #[Value.pointer (some { block := (4 : Nat), off := (0 : Nat) }), Value.pointer (some { block := (5 : Nat), off := (0 : Nat) })], poi, poi, poi, poi, poi, poi, poi, poi, poi, poi, poi, poi, poi, poi, poi, poi] ∧ Is (([Value.pointer (some { block := (0 : Nat), off := (0 : Nat) }), Value.pointer (some { block := (1 : Nat), off := (0 : Nat) })] = [Value.pointer (some { block := (0 : Nat), off := (0 : Nat) }), Value.pointer (some { block := (1 : Nat), off := (0 : Nat) })] ∧ some (AObj.row [Value.int IntKind.i64 (↑z : Int)] (0 : Nat) false false true) :: some (AObj.row [Value.string nm, Value.int IntKind.i64 f, Value.slice (some { block := (2 : Nat), off := (0 : Nat) }) n c, Value.slice (some { block := (3 : Nat), off := (0 : Nat) }) k d] (0 : Nat) false false false) :: some (AObj.row (flts xs) (1 : Nat) true false true) :: some (AObj.row (ints hs) (2 : Nat) true false true) :: noH = some (AObj.row [Value.int IntKind.i64 (↑z : Int)] (0 : Nat) false false true) :: some (AObj.row [Value.string nm, Value.int IntKind.i64 f, Value.slice (some { block := (2 : Nat), off := (0 : Nat) }) n c, Value.slice (some { block := (3 : Nat), off := (0 : Nat) }) k d] (0 : Nat) false false false) :: some (AObj.row (flts xs) (1 : Nat) true false true) :: some (AObj.row (ints hs) (2 : Nat) true false true) :: noH) ∧ runE nm f xs n hs = (0 : Int) ∧ List.length xs = n ∧ List.length hs = k * (2 : Nat) ∧ k ≤ (100000 : Nat) ∧ (0 : Nat) < z ∧ z ≤ (256 : Nat)) ∧ Is True ∧ (∀ (i : Nat), Is True → Is (i < n / z) → br (Prod.fst (wnM xs hs z i) == (↑z : Int)) (Is ((0 : Int) < IntKind.wrap IntKind.i64 (Prod.fst (wnM xs hs z i) * Prod.fst (wnM xs hs z i)) ∧ IntKind.wrap IntKind.i64 (Prod.fst (wnM xs hs z i) * Prod.fst (wnM xs hs z i)) ≤ (1000000000 : Int) ∧ (-1000000000000000000 : Int) ≤ IntKind.wrap IntKind.i64 (IntKind.wrap IntKind.i64 (Prod.fst (wnM xs hs z i) * Prod.snd (Prod.snd (wnM xs hs z i))) - IntKind.wrap IntKind.i64 (Prod.fst (Prod.snd (wnM xs hs z i)) * Prod.fst (Prod.snd (wnM xs hs z i)))) ∧ IntKind.wrap IntKind.i64 (IntKind.wrap IntKind.i64 (Prod.fst (wnM xs hs z i) * Prod.snd (Prod.snd (wnM xs hs z i))) - IntKind.wrap IntKind.i64 (Prod.fst (Prod.snd (wnM xs hs z i)) * Prod.fst (Prod.snd (wnM xs hs z i)))) ≤ (1000000000000000000 : Int)) ∧ Is (List.length (ints (ixL xs hs z i)) = i * (1 : Nat) ∧ (i + (1 : Nat)) * (8 : Nat) ≤ (140737488355328 : Nat) ∧ i + (1 : Nat) ≤ (9223372036854775807 : Nat)) ∧ some (AObj.row (flts xs) (1 : Nat) true false true) :: some (AObj.row (ints hs) (2 : Nat) true false true) :: some (AObj.row [Value.int IntKind.i64 (↑z : Int)] (0 : Nat) false true true) :: some (AObj.row [Value.slice (some { block := (6 : Nat), off := (0 : Nat) }) (i + (1 : Nat)) (0 : Nat)] (0 : Nat) false true (false && List.all [Value.slice (some { block := List.length (some (AObj.row (flts xs) (1 : Nat) true false true) :: some (AObj.row (ints hs) (2 : Nat) true false true) :: some (AObj.row [Value.int IntKind.i64 (↑z : Int)] (0 : Nat) false true true) :: some (AObj.row [Value.slice (some { block := (6 : Nat), off := (0 : Nat) }) i (0 : Nat)] (0 : Nat) false true false) :: some (AObj.row [Value.int IntKind.i64 (↑z : Int)] (0 : Nat) false false true) :: some (AObj.row [Value.string nm, Value.int IntKind.i64 f, Value.slice (some { block := (0 : Nat), off := (0 : Nat) }) n c, Value.slice (some { block := (1 : Nat), off := (0 : Nat) }) k d] (0 : Nat) false false false) :: some (AObj.row (ints (ixL xs hs z i)) (1 : Nat) true true true) :: some (AObj.row [Value.int IntKind.i64 (Prod.fst (wnM xs hs z i)), Value.int IntKind.i64 (Prod.fst (Prod.snd (wnM xs hs z i))), Value.int IntKind.i64 (Prod.snd (Prod.snd (wnM xs hs z i)))] (0 : Nat) false true (true && List.all [Value.int IntKind.i64 (Prod.fst (wnM xs hs z i)), Value.int IntKind.i64 (Prod.fst (Prod.snd (wnM xs hs z i))), Value.int IntKind.i64 (Prod.snd (Prod.snd (wnM xs hs z i)))] atom)) :: some (AObj.row [Value.int IntKind.i64 (rnd (IntKind.wrap IntKind.i64 (IntKind.wrap IntKind.i64 (Prod.fst (wnM xs hs z i) * Prod.snd (Prod.snd (wnM xs hs z i))) - IntKind.wrap IntKind.i64 (Prod.fst (Prod.snd (wnM xs hs z i)) * Prod.fst (Prod.snd (wnM xs hs z i))))) (IntKind.wrap IntKind.i64 (Prod.fst (wnM xs hs z i) * Prod.fst (wnM xs hs z i))))] (1 : Nat) false true (List.all [Value.int IntKind.i64 (rnd (IntKind.wrap IntKind.i64 (IntKind.wrap IntKind.i64 (Prod.fst (wnM xs hs z i) * Prod.snd (Prod.snd (wnM xs hs z i))) - IntKind.wrap IntKind.i64 (Prod.fst (Prod.snd (wnM xs hs z i)) * Prod.fst (Prod.snd (wnM xs hs z i))))) (IntKind.wrap IntKind.i64 (Prod.fst (wnM xs hs z i) * Prod.fst (wnM xs hs z i))))] atom)) :: noH), off := (0 : Nat) }) (i + (1 : Nat)) (0 : Nat)] atom)) :: some (AObj.row [Value.int IntKind.i64 (↑z : Int)] (0 : Nat) false false true) :: some (AObj.row [Value.string nm, Value.int IntKind.i64 f, Value.slice (some { block := (0 : Nat), off := (0 : Nat) }) n c, Value.slice (some { block := (1 : Nat), off := (0 : Nat) }) k d] (0 : Nat) false false false) :: some (AObj.row (ints (ixL xs hs z i) ++ [Value.int IntKind.i64 (rnd (IntKind.wrap IntKind.i64 (IntKind.wrap IntKind.i64 (Prod.fst (wnM xs hs z i) * Prod.snd (Prod.snd (wnM xs hs z i))) - IntKind.wrap IntKind.i64 (Prod.fst (Prod.snd (wnM xs hs z i)) * Prod.fst (Prod.snd (wnM xs hs z i))))) (IntKind.wrap IntKind.i64 (Prod.fst (wnM xs hs z i) * Prod.fst (wnM xs hs z i))))]) (1 : Nat) true true (List.all [Value.int IntKind.i64 (rnd (IntKind.wrap IntKind.i64 (IntKind.wrap IntKind.i64 (Prod.fst (wnM xs hs z i) * Prod.snd (Prod.snd (wnM xs hs z i))) - IntKind.wrap IntKind.i64 (Prod.fst (Prod.snd (wnM xs hs z i)) * Prod.fst (Prod.snd (wnM xs hs z i))))) (IntKind.wrap IntKind.i64 (Prod.fst (wnM xs hs z i) * Prod.fst (wnM xs hs z i))))] atom)) :: noH = some (AObj.row (flts xs) (1 : Nat) true false true) :: some (AObj.row (ints hs) (2 : Nat) true false true) :: some (AObj.row [Value.int IntKind.i64 (↑z : Int)] (0 : Nat) false true true) :: some (AObj.row [Value.slice (some { block := (6 : Nat), off := (0 : Nat) }) (i + (1 : Nat)) (0 : Nat)] (0 : Nat) false true false) :: some (AObj.row [Value.int IntKind.i64 (↑z : Int)] (0 : Nat) false false true) :: some (AObj.row [Value.string nm, Value.int IntKind.i64 f, Value.slice (some { block := (0 : Nat), off := (0 : Nat) }) n c, Value.slice (some { block := (1 : Nat), off := (0 : Nat) }) k d] (0 : Nat) false false false) :: some (AObj.row (ints (ixL xs hs z (i + (1 : Nat)))) (1 : Nat) true true true) :: noH ∧ Is True) (Is (List.length (ints (ixL xs hs z i)) = i * (1 : Nat) ∧ (i + (1 : Nat)) * (8 : Nat) ≤ (140737488355328 : Nat) ∧ i + (1 : Nat) ≤ (9223372036854775807 : Nat)) ∧ some (AObj.row (flts xs) (1 : Nat) true false true) :: some (AObj.row (ints hs) (2 : Nat) true false true) :: some (AObj.row [Value.int IntKind.i64 (↑z : Int)] (0 : Nat) false true true) :: some (AObj.row [Value.slice (some { block := (6 : Nat), off := (0 : Nat) }) (i + (1 : Nat)) (0 : Nat)] (0 : Nat) false true (false && List.all [Value.slice (some { block := List.length (some (AObj.row (flts xs) (1 : Nat) true false true) :: some (AObj.row (ints hs) (2 : Nat) true false true) :: some (AObj.row [Value.int IntKind.i64 (↑z : Int)] (0 : Nat) false true true) :: some (AObj.row [Value.slice (some { block := (6 : Nat), off := (0 : Nat) }) i (0 : Nat)] (0 : Nat) false true false) :: some (AObj.row [Value.int IntKind.i64 (↑z : Int)] (0 : Nat) false false true) :: some (AObj.row [Value.string nm, Value.int IntKind.i64 f, Value.slice (some { block := (0 : Nat), off := (0 : Nat) }) n c, Value.slice (some { block := (1 : Nat), off := (0 : Nat) }) k d] (0 : Nat) false false false) :: some (AObj.row (ints (ixL xs hs z i)) (1 : Nat) true true true) :: some (AObj.row [Value.int IntKind.i64 (Prod.fst (wnM xs hs z i)), Value.int IntKind.i64 (Prod.fst (Prod.snd (wnM xs hs z i))), Value.int IntKind.i64 (Prod.snd (Prod.snd (wnM xs hs z i)))] (0 : Nat) false true (true && List.all [Value.int IntKind.i64 (Prod.fst (wnM xs hs z i)), Value.int IntKind.i64 (Prod.fst (Prod.snd (wnM xs hs z i))), Value.int IntKind.i64 (Prod.snd (Prod.snd (wnM xs hs z i)))] atom)) :: some (AObj.row [Value.int IntKind.i64 (-1 : Int)] (1 : Nat) false true (List.all [Value.int IntKind.i64 (-1 : Int)] atom)) :: noH), off := (0 : Nat) }) (i + (1 : Nat)) (0 : Nat)] atom)) :: some (AObj.row [Value.int IntKind.i64 (↑z : Int)] (0 : Nat) false false true) :: some (AObj.row [Value.string nm, Value.int IntKind.i64 f, Value.slice (some { block := (0 : Nat), off := (0 : Nat) }) n c, Value.slice (some { block := (1 : Nat), off := (0 : Nat) }) k d] (0 : Nat) false false false) :: some (AObj.row (ints (ixL xs hs z i) ++ [Value.int IntKind.i64 (-1 : Int)]) (1 : Nat) true true (List.all [Value.int IntKind.i64 (-1 : Int)] atom)) :: noH = some (AObj.row (flts xs) (1 : Nat) true false true) :: some (AObj.row (ints hs) (2 : Nat) true false true) :: some (AObj.row [Value.int IntKind.i64 (↑z : Int)] (0 : Nat) false true true) :: some (AObj.row [Value.slice (some { block := (6 : Nat), off := (0 : Nat) }) (i + (1 : Nat)) (0 : Nat)] (0 : Nat) false true false) :: some (AObj.row [Value.int IntKind.i64 (↑z : Int)] (0 : Nat) false false true) :: some (AObj.row [Value.string nm, Value.int IntKind.i64 f, Value.slice (some { block := (0 : Nat), off := (0 : Nat) }) n c, Value.slice (some { block := (1 : Nat), off := (0 : Nat) }) k d] (0 : Nat) false false false) :: some (AObj.row (ints (ixL xs hs z (i + (1 : Nat)))) (1 : Nat) true true true) :: noH ∧ Is True)) ∧ (Is True → K (Value.slice (some { block := (2 : Nat), off := (0 : Nat) }) (n / z) (0 : Nat)) (some (AObj.row (flts xs) (1 : Nat) true false true) :: some (AObj.row (ints hs) (2 : Nat) true false true) :: some (AObj.row (ints (ixL xs hs z (n / z))) (1 : Nat) true true true) :: noH)) ∧ ∀ (_s : Empty), Is False → False) := by kernel_rfl
/- The reference. -/
theorem abs_mulR {a b A B : Int} (a0 : -A ≤ a) (a1 : a ≤ A) (b0 : -B ≤ b) (b1 : b ≤ B) : -(A * B) ≤ a * b ∧ a * b ≤ A * B := by
  have hA : 0 ≤ A := by omega
  have := bmul hA (show 0 ≤ B by omega) a0 a1 b0 b1
  exact this
/-- The variance of a window's moments: no product leaves the machine's numbers. -/
theorem MoB.var {m : Int × Int × Int} {z : Nat} (h : MoB m z) (hz : z ≤ 256) :
    IntKind.wrap .i64 (m.1 * m.1) = m.1 * m.1 ∧ m.1 * m.1 ≤ 65536 ∧ IntKind.wrap .i64 (IntKind.wrap .i64 (m.1 * m.2.2) - IntKind.wrap .i64 (m.2.1 * m.2.1)) = m.1 * m.2.2 - m.2.1 * m.2.1 ∧
      -1000000000000000000 ≤ m.1 * m.2.2 - m.2.1 * m.2.1 ∧ m.1 * m.2.2 - m.2.1 * m.2.1 ≤ 1000000000000000000 := by
  obtain ⟨a, b, c, d, e, f⟩ := h
  have p1 := mul_in (a := m.1) (b := m.1) (A := 256) (B := 256) a (by omega) a (by omega)
  have p2 := mul_in (a := m.1) (b := m.2.2) (A := 256) (B := 68719476736) a (by omega) e (by omega)
  have p3 := abs_mulR (a := m.2.1) (b := m.2.1) (A := 4194304) (B := 4194304) (by omega) (by omega) (by omega) (by omega)
  refine ⟨wrap_eq (by omega) (by omega), by omega, ?_, by omega, by omega⟩
  rw [wrap_eq (x := m.1 * m.2.2) (by omega) (by omega), wrap_eq (x := m.2.1 * m.2.1) (by omega) (by omega), wrap_eq (by omega) (by omega)]
theorem ixL_len (xs : List Nat) (hs : List Int) (z m : Nat) : (ixL xs hs z m).length = m := by rw [ixL, List.length_map, List.length_range]
theorem ixL_more (xs : List Nat) (hs : List Int) (z m : Nat) : ixL xs hs z (m + 1) = ixL xs hs z m ++ [ixM (wnM xs hs z m) z] := by
  rw [ixL, List.range_succ, List.map_append]; rfl
theorem win_le {n z i : Nat} (h : i ≤ n / z) : i * z ≤ n := Nat.le_trans (Nat.mul_le_mul_right z h) (Nat.div_mul_le_self n z)
set_option maxRecDepth 100000 in
theorem inx_ok {nm : ByteArray} {f : Int} {n c k d : Nat} {xs : List Nat} {hs : List Int} {z : Nat} (hr : runE nm f xs n hs = 0) (hn : xs.length = n) (hk : hs.length = k * 2) (hk9 : k ≤ 100000) (z0 : 0 < z) (z1 : z ≤ 256) :
    SmallRes Tryz.prog 119 [.agg (runA nm f 0 n c 1 k d).toArray, .int .i64 (z : Int)] (hp2r xs hs true false true false []) (.slice (some ⟨2, 0, none⟩) (n / z) 0) (hp2r xs hs true false true false [some (.row (ints (ixL xs hs z (n / z))) 1 true true true)]) := by
  refine fnP_res hm c0_ok (hs := hsInx nm f n c k d xs hs z) ?_
  rw [inx_t]
  obtain ⟨_, _, hn4, _, hx, _, _⟩ := run_zero hr
  refine ⟨by first | trivial | rfl, by first | trivial | rfl, by first | trivial | rfl, ⟨⟨by first | trivial | rfl, by first | trivial | rfl⟩, hr, hn, hk, hk9, z0, z1⟩, ⟨trivial⟩, fun i _ hi => ?_, fun _ => ⟨by first | trivial | rfl, by first | trivial | rfl⟩, fun s => s.elim⟩
  have hi := hi.out
  have hw := win_in z0 hi
  rw [Nat.add_mul] at hw
  have hb : MoB (wnM xs hs z i) z := mo_bd (hs := hs) (a := i * z) hx z (by omega)
  obtain ⟨v1, v2, v3, v4, v5⟩ := hb.var z1
  have hdz : n / z ≤ n := Nat.div_le_self n z
  refine br_of (fun hc => ⟨⟨?_, by omega, by omega, by omega⟩, ⟨by rw [ints_len, ixL_len, Nat.mul_one], by omega, by omega⟩, ?_, ⟨trivial⟩⟩) (fun hc => ⟨⟨by rw [ints_len, ixL_len, Nat.mul_one], by omega, by omega⟩, ?_, ⟨trivial⟩⟩)
  · have hc : (wnM xs hs z i).1 = (z : Int) := by simpa using hc
    rw [v1, hc]
    exact Int.mul_pos (by omega) (by omega)
  · have hc : (wnM xs hs z i).1 = (z : Int) := by simpa using hc
    rw [ixL_more, ixM, if_pos hc, v1, v3, ← ints_app]
    first | done | trivial | rfl
  · have hc : ¬ (wnM xs hs z i).1 = (z : Int) := by simpa using hc
    rw [ixL_more, ixM, if_neg hc, ← ints_app]
    first | done | trivial | rfl
noncomputable def orcInx (xs : List Nat) (hs : List Int) (z : Nat) : OrcV
  | [.agg ⟨[.string nm, .int .i64 f, .slice (some ⟨0, 0, none⟩) n _, .slice (some ⟨1, 0, none⟩) k _]⟩, .int .i64 y], [some (.row e1 1 true true true), some (.row e2 2 true true true)] =>
    some (.slice (some ⟨2, 0, none⟩) (n / z) 0, [some (.row e1 1 true true true), some (.row e2 2 true true true), some (.row (ints (ixL xs hs z (n / z))) 1 true true true)], isRun xs hs n k e1 e2 ∧ runE nm f xs n hs = 0 ∧ y = (z : Int) ∧ 0 < z ∧ z ≤ 256)
  | _, _ => none
theorem okInx (xs : List Nat) (hs : List Int) (z : Nat) : OkV Tryz.prog 119 (orcInx xs hs z) := by
  intro args H ret H' vc h hv
  unfold orcInx at h
  split at h
  · rename_i nm f n c k d y e1 e2
    cases h
    obtain ⟨⟨rfl, rfl, h1, h2, h3, h4⟩, h5, rfl, h6, h7⟩ := hv
    exact regain (H := hp2r xs hs true true true true []) [0, 1] (inx_ok (c := c) (d := d) h5 h1 h3 h4 h6 h7) (by rfl) (by rfl)
  · cases h
theorem moP_win (xs : List Nat) (hs : List Int) (f : Int) (z i : Nat) : moP xs hs f (f + ((i * z : Nat) : Int)) (f + (((i + 1) * z : Nat) : Int)) = wnM xs hs z i := by
  have e1 : (f + ((i * z : Nat) : Int) - f).toNat = i * z := by omega
  have e2 : (f + (((i + 1) * z : Nat) : Int) - f).toNat = i * z + z := by rw [Nat.add_mul]; omega
  rw [moP, e1, e2, wnM, show i * z + z - i * z = z by omega]
end
end Qq
