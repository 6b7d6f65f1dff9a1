/- Parts of the proof: PE, PF, QLR, QXP, QFF, QHH, PG. -/
import Derived.Test.YtmbeobnpkcoapaaGreatZAF
import Derived.Test.YtmbeobnpkcoapaaGreatZAC
import Derived.Test.YtmbeobnpkcoapaaGreatZAE
section
/- The best plan, walked. -/
open Go Go.Vm Go.Proofs Sp
namespace Sp
noncomputable section
noncomputable def deP : List Value → List Int
  | .int _ x :: r => x :: deP r
  | _ => []
/-- The cells of an office. -/
def isOf (nm : Nat → ByteArray) (D : Nat → Int) (v : Int) (N s K : Nat) (e g : List Value) : Prop := e = seC nm D v N ∧ g = shC D s K
noncomputable def upB (sn : Bool) (V w ck : Int) : Bool := !((sn && !(btr w 0 V 0)) || ck != 0)
/-- Whether one is seen, and the best value, behind so many plans. -/
noncomputable def bSt (w ck : Nat → Int) : Nat → Bool × Int
  | 0 => (false, 0)
  | i + 1 => if upB (bSt w ck i).1 (bSt w ck i).2 (w i) (ck i) = true then (true, w i) else bSt w ck i
noncomputable def bSn (w ck : Nat → Int) (i : Nat) : Bool := (bSt w ck i).1
noncomputable def bVa (w ck : Nat → Int) (i : Nat) : Int := (bSt w ck i).2
noncomputable def bPl (w ck : Nat → Int) (f : Nat → List Int) : Nat → Nat → Int
  | 0, _ => 0
  | i + 1, j => if upB (bSt w ck i).1 (bSt w ck i).2 (w i) (ck i) = true then (f i).getD j 0 else bPl w ck f i j
noncomputable def pf11 (i : Nat) : List Int := [q110 i]
noncomputable def pw11 (v : Int) (i : Nat) : Int := v * cnP (pf11 i)
noncomputable def pc11 (D : Nat → Int) (i : Nat) : Int := ckE D 0 1 1 (pf11 i)
noncomputable def pf10 (i : Nat) : List Int := [q100 i]
noncomputable def pw10 (v : Int) (i : Nat) : Int := v * cnP (pf10 i)
noncomputable def pc10 (D : Nat → Int) (i : Nat) : Int := ckE D 1 1 0 (pf10 i)
noncomputable def pf22 (i : Nat) : List Int := [q220 i, q221 i]
noncomputable def pw22 (v : Int) (i : Nat) : Int := v * cnP (pf22 i)
noncomputable def pc22 (D : Nat → Int) (i : Nat) : Int := ckE D 0 2 2 (pf22 i)
noncomputable def pf21 (i : Nat) : List Int := [q210 i, q211 i]
noncomputable def pw21 (v : Int) (i : Nat) : Int := v * cnP (pf21 i)
noncomputable def pc21 (D : Nat → Int) (i : Nat) : Int := ckE D 1 2 1 (pf21 i)
noncomputable def pf33 (i : Nat) : List Int := [q330 i, q331 i, q332 i]
noncomputable def pw33 (v : Int) (i : Nat) : Int := v * cnP (pf33 i)
noncomputable def pc33 (D : Nat → Int) (i : Nat) : Int := ckE D 0 3 3 (pf33 i)
noncomputable def pf32 (i : Nat) : List Int := [q320 i, q321 i, q322 i]
noncomputable def pw32 (v : Int) (i : Nat) : Int := v * cnP (pf32 i)
noncomputable def pc32 (D : Nat → Int) (i : Nat) : Int := ckE D 1 3 2 (pf32 i)
end
end Sp
namespace Qq
noncomputable section
section
variable (nm : Nat → ByteArray) (D : Nat → Int) (v : Int) (s : Nat)
noncomputable def orcToC : OrcV
  | [.agg ⟨[.slice (some ⟨0, 0, none⟩) N _, .slice (some ⟨1, 0, none⟩) K _]⟩, .slice (some ⟨2, 0, none⟩) M _], [some (.row e 5 true false true), some (.row g 4 true false true), some (.row p 1 false false true)] =>
    some (.agg #[.int .i64 (v * cnP (deP p)), .int .i64 0], [some (.row e 5 true false true), some (.row g 4 true false true), some (.row p 1 false false true)], (isOf nm D v N s K e g ∧ p = ints (deP p) ∧ M = N) ∧ plOk (deP p) N K ∧ 0 ≤ v ∧ v ≤ 1000)
  | _, _ => none
theorem okToC : OkV Tryz.prog 30 (orcToC nm D v s) := by
  intro args H ret H' vc h hv
  unfold orcToC at h
  split at h
  · rename_i N a K b M c e g p
    cases h
    obtain ⟨⟨⟨rfl, rfl⟩, e3, rfl⟩, h1, h2⟩ := hv
    revert e3 h1
    generalize deP p = P
    rintro rfl h1
    exact to_ok h1 h2
  · cases h
noncomputable def orcCpC : OrcV
  | [.agg ⟨[.slice (some ⟨0, 0, none⟩) N _, .slice (some ⟨1, 0, none⟩) K _]⟩, .slice (some ⟨2, 0, none⟩) M _], [some (.row e 5 true false true), some (.row g 4 true false true), some (.row p 1 false false true)] =>
    some (.int .i64 (ckE D s N K (deP p)), [some (.row e 5 true false true), some (.row g 4 true false true), some (.row p 1 false false true)], (isOf nm D v N s K e g ∧ p = ints (deP p) ∧ M = N) ∧ plOk (deP p) N K)
  | _, _ => none
theorem okCpC : OkV Tryz.prog 32 (orcCpC nm D v s) := by
  intro args H ret H' vc h hv
  unfold orcCpC at h
  split at h
  · rename_i N a K b M c e g p
    cases h
    obtain ⟨⟨⟨rfl, rfl⟩, e3, rfl⟩, h1⟩ := hv
    revert e3 h1
    generalize deP p = P
    rintro rfl h1
    exact cpl_ok h1
  · cases h
noncomputable def orcOfC : OrcV
  | [.agg ⟨[.slice (some ⟨0, 0, none⟩) N _, .slice (some ⟨1, 0, none⟩) K _]⟩], [some (.row e 5 true false true), some (.row g 4 true false true)] =>
    some (.int .i64 0, [some (.row e 5 true false true), some (.row g 4 true false true)], isOf nm D v N s K e g ∧ OfOk nm D v N s K)
  | _, _ => none
theorem okOfC : OkV Tryz.prog 28 (orcOfC nm D v s) := by
  intro args H ret H' vc h hv
  unfold orcOfC at h
  split at h
  · cases h
    obtain ⟨⟨rfl, rfl⟩, h1⟩ := hv
    exact of_ok h1
  · cases h
end
noncomputable def itC11 : ItL Tryz.prog where
  gf := 60
  fn cap H := match cap, H with
    | [.pointer (some ⟨0, 0, none⟩), .pointer (some ⟨1, 0, none⟩)], [some (.row [.int .i64 n] 0 false false true), some (.row [.slice (some ⟨2, 0, none⟩) 1 _, .slice (some ⟨3, 0, none⟩) 1 _] 0 false false false), some (.row _ 5 true false true), some (.row _ 4 true false true)] => some (2, 1, pl11, n = 1)
    | _, _ => none
  ok := by
    intro cap H N len pl vc h hv
    split at h
    · cases h
      cases hv
      exact it11_ok _ _ _ _
    · cases h
noncomputable def hp11 (e g : List Value) (D : Nat → Int) (v : Int) (a b i : Nat) : Heap := [some (.row e 5 true false true), some (.row g 4 true false true), bxO 1 1 a b 0 1, b2 0 0,
  some (.row [.int .i64 (bVa (pw11 v) (pc11 D) i), .int .i64 0, .slice (some ⟨5, 0, none⟩) 1 1] 0 false true false), some (.row [.int .i64 (bPl (pw11 v) (pc11 D) pf11 i 0)] 1 false true true), some (.row [.bool (bSn (pw11 v) (pc11 D) i)] 0 false true true), some (.row [.int .i64 1] 0 false false true), some (.row [.slice (some ⟨0, 0, none⟩) 1 a, .slice (some ⟨1, 0, none⟩) 1 b] 0 false false false)]
noncomputable def rl11 (e g : List Value) (D : Nat → Int) (v : Int) (a b : Nat) : Rl Tryz.prog where
  it := itC11
  k := 9
  E := slots 59 [(1, .pointer (some ⟨2, 0, none⟩)), (3, .pointer (some ⟨3, 0, none⟩)), (6, .pointer (some ⟨4, 0, none⟩)), (7, .pointer (some ⟨6, 0, none⟩)), (25, .func (.func 60) #[] #[.pointer (some ⟨7, 0, none⟩), .pointer (some ⟨8, 0, none⟩)])]
  Hp := hp11 e g D v a b
noncomputable def hsP11 (e g : List Value) (nm : Nat → ByteArray) (D : Nat → Int) (v : Int) (a b : Nat) : Hs Tryz.prog where
  rl y := if y = 8 then some (rl11 e g D v a b) else none
  cl _ := keep 59 [1, 3, 6, 7, 25]
  sm := true
  au := auCalls [(28, hCa Tryz.prog 28 (orcOfC nm D v 0) (okOfC nm D v 0)), (31, hCa Tryz.prog 31 orcBt okBt), (30, hCa Tryz.prog 30 (orcToC nm D v 0) (okToC nm D v 0)), (32, hCa Tryz.prog 32 (orcCpC nm D v 0) (okCpC nm D v 0))]
theorem pn11_t (e : List Value) (g : List Value) (nm : Nat → ByteArray) (D : Nat → Int) (v : Int) (a : Nat) (b : Nat) (K0 : Value → Heap → Prop) :
    (fnP Tryz.prog c0 (hsP11 e g nm D v a b) (10 : FuncId) [off3 (1 : Nat) (1 : Nat) a b (0 : Nat) (1 : Nat)] [some (AObj.row e (5 : Nat) true false true), some (AObj.row g (4 : Nat) true false true)] K0) =
    (let z0 : AObj := AObj.row [Value.slice (some ⟨0, 0, none⟩) 1 a, Value.slice (some ⟨1, 0, none⟩) 1 b] 0 false false false; let z1 : AObj := AObj.row [Value.slice (some ⟨0, 0, none⟩) 1 a, Value.slice (some ⟨1, 0, none⟩) 1 b] 0 false true false; let z2 : AObj := AObj.row [Value.int .i64 0, Value.int .i64 0] 0 false true true; (Is (isOf nm D v 1 0 1 e g ∧ OfOk nm D v 1 0 1) ∧ [poi, Value.pointer (some ⟨2, 0, none⟩), poi, Value.pointer (some ⟨3, 0, none⟩), poi, poi, Value.pointer (some ⟨4, 0, none⟩), Value.pointer (some ⟨6, 0, none⟩), poi, poi, poi, poi, poi, poi, poi, poi, poi, poi, poi, poi, poi, poi, poi, poi, poi, Value.func (Fn.func 60) #[] #[Value.pointer (some ⟨7, 0, none⟩), Value.pointer (some ⟨8, 0, none⟩)], poi, poi, poi, poi, poi, poi, poi, poi, poi, poi, poi, poi, poi, poi, poi, poi, poi, poi, poi, poi, poi, poi, poi, poi, poi, poi, poi, poi, poi, poi, poi, poi, poi] = [poi, Value.pointer (some ⟨2, 0, none⟩), poi, Value.pointer (some ⟨3, 0, none⟩), poi, poi, Value.pointer (some ⟨4, 0, none⟩), Value.pointer (some ⟨6, 0, none⟩), poi, poi, poi, poi, poi, poi, poi, poi, poi, poi, poi, poi, poi, poi, poi, poi, poi, Value.func (Fn.func 60) #[] #[Value.pointer (some ⟨7, 0, none⟩), Value.pointer (some ⟨8, 0, none⟩)], poi, poi, poi, poi, poi, poi, poi, poi, poi, poi, poi, poi, poi, poi, poi, poi, poi, poi, poi, poi, poi, poi, poi, poi, poi, poi, poi, poi, poi, poi, poi, poi, poi] ∧ some (AObj.row e 5 true false true) :: some (AObj.row g 4 true false true) :: some z1 :: some z2 :: some (AObj.row [Value.int .i64 0, Value.int .i64 0, Value.slice (some ⟨5, 0, none⟩) 1 1] 0 false true false) :: some (AObj.row [Value.int .i64 0] 1 false true true) :: some (AObj.row [Value.bool false] 0 false true true) :: some (AObj.row [Value.int .i64 1] 0 false false true) :: some z0 :: noH = some (AObj.row e 5 true false true) :: some (AObj.row g 4 true false true) :: some z1 :: some z2 :: some (AObj.row [Value.int .i64 (bVa (pw11 v) (pc11 D) 0), Value.int .i64 0, Value.slice (some ⟨5, 0, none⟩) 1 1] 0 false true false) :: some (AObj.row [Value.int .i64 (bPl (pw11 v) (pc11 D) pf11 0 0)] 1 false true true) :: some (AObj.row [Value.bool (bSn (pw11 v) (pc11 D) 0)] 0 false true true) :: some (AObj.row [Value.int .i64 1] 0 false false true) :: some z0 :: noH ∧ [poi, Value.pointer (some ⟨2, 0, none⟩), poi, Value.pointer (some ⟨3, 0, none⟩), poi, poi, Value.pointer (some ⟨4, 0, none⟩), Value.pointer (some ⟨6, 0, none⟩), poi, poi, poi, poi, poi, poi, poi, poi, poi, poi, poi, poi, poi, poi, poi, poi, poi, Value.func (Fn.func 60) #[] #[Value.pointer (some ⟨7, 0, none⟩), Value.pointer (some ⟨8, 0, none⟩)], poi, poi, poi, poi, poi, poi, poi, poi, poi, poi, poi, poi, poi, poi, poi, poi, poi, poi, poi, poi, poi, poi, poi, poi, poi, poi, poi, poi, poi, poi, poi, poi, poi] = [poi, Value.pointer (some ⟨2, 0, none⟩), poi, Value.pointer (some ⟨3, 0, none⟩), poi, poi, Value.pointer (some ⟨4, 0, none⟩), Value.pointer (some ⟨6, 0, none⟩), poi, poi, poi, poi, poi, poi, poi, poi, poi, poi, poi, poi, poi, poi, poi, poi, poi, Value.func (Fn.func 60) #[] #[Value.pointer (some ⟨7, 0, none⟩), Value.pointer (some ⟨8, 0, none⟩)], poi, poi, poi, poi, poi, poi, poi, poi, poi, poi, poi, poi, poi, poi, poi, poi, poi, poi, poi, poi, poi, poi, poi, poi, poi, poi, poi, poi, poi, poi, poi, poi, poi] ∧ Is ((1 : Int) = (1 : Int)) ∧ Is True ∧ (∀ (i : Nat), Is True → Is (i < 2) → (Nat.blt 0 9 = true ∧ some (AObj.row e 5 true false true) = some (AObj.row e 5 true false true) ∧ Nat.blt 1 9 = true ∧ some (AObj.row g 4 true false true) = some (AObj.row g 4 true false true) ∧ Nat.blt 7 9 = true ∧ some (AObj.row [Value.int .i64 1] 0 false false true) = some (AObj.row [Value.int .i64 1] 0 false false true) ∧ Nat.blt 8 9 = true ∧ some z0 = some z0 ∧ True) ∧ Is ((isOf nm D v 1 0 1 e g ∧ [Value.int .i64 (q110 i)] = [Value.int .i64 (q110 i)] ∧ 1 = 1) ∧ plOk [q110 i] 1 1 ∧ (0 : Int) ≤ v ∧ v ≤ (1000 : Int)) ∧ br (bSn (pw11 v) (pc11 D) i) (Is True ∧ br (!btr (v * cnP [q110 i]) (0 : Int) (bVa (pw11 v) (pc11 D) i) (0 : Int)) (some (AObj.row e 5 true false true) :: some (AObj.row g 4 true false true) :: some z1 :: some z2 :: some (AObj.row [Value.int .i64 (bVa (pw11 v) (pc11 D) i), Value.int .i64 0, Value.slice (some ⟨5, 0, none⟩) 1 1] 0 false true false) :: some (AObj.row [Value.int .i64 (bPl (pw11 v) (pc11 D) pf11 i 0)] 1 false true true) :: some (AObj.row [Value.bool (bSn (pw11 v) (pc11 D) i)] 0 false true true) :: some (AObj.row [Value.int .i64 1] 0 false false true) :: some z0 :: noH = some (AObj.row e 5 true false true) :: some (AObj.row g 4 true false true) :: some z1 :: some z2 :: some (AObj.row [Value.int .i64 (bVa (pw11 v) (pc11 D) (i + 1)), Value.int .i64 0, Value.slice (some ⟨5, 0, none⟩) 1 1] 0 false true false) :: some (AObj.row [Value.int .i64 (bPl (pw11 v) (pc11 D) pf11 (i + 1) 0)] 1 false true true) :: some (AObj.row [Value.bool (bSn (pw11 v) (pc11 D) (i + 1))] 0 false true true) :: some (AObj.row [Value.int .i64 1] 0 false false true) :: some z0 :: noH ∧ Is True) (Is ((isOf nm D v 1 0 1 e g ∧ [Value.int .i64 (q110 i)] = [Value.int .i64 (q110 i)] ∧ 1 = 1) ∧ plOk [q110 i] 1 1) ∧ br (ckE D 0 1 1 [q110 i] != (0 : Int)) (some (AObj.row e 5 true false true) :: some (AObj.row g 4 true false true) :: some z1 :: some z2 :: some (AObj.row [Value.int .i64 (bVa (pw11 v) (pc11 D) i), Value.int .i64 0, Value.slice (some ⟨5, 0, none⟩) 1 1] 0 false true false) :: some (AObj.row [Value.int .i64 (bPl (pw11 v) (pc11 D) pf11 i 0)] 1 false true true) :: some (AObj.row [Value.bool (bSn (pw11 v) (pc11 D) i)] 0 false true true) :: some (AObj.row [Value.int .i64 1] 0 false false true) :: some z0 :: noH = some (AObj.row e 5 true false true) :: some (AObj.row g 4 true false true) :: some z1 :: some z2 :: some (AObj.row [Value.int .i64 (bVa (pw11 v) (pc11 D) (i + 1)), Value.int .i64 0, Value.slice (some ⟨5, 0, none⟩) 1 1] 0 false true false) :: some (AObj.row [Value.int .i64 (bPl (pw11 v) (pc11 D) pf11 (i + 1) 0)] 1 false true true) :: some (AObj.row [Value.bool (bSn (pw11 v) (pc11 D) (i + 1))] 0 false true true) :: some (AObj.row [Value.int .i64 1] 0 false false true) :: some z0 :: noH ∧ Is True) (some (AObj.row e 5 true false true) :: some (AObj.row g 4 true false true) :: some z1 :: some z2 :: some (AObj.row [Value.int .i64 (v * cnP [q110 i]), Value.int .i64 0, Value.slice (some ⟨5, 0, none⟩) 1 1] 0 false true false) :: some (AObj.row [Value.int .i64 (q110 i)] 1 false true true) :: some (AObj.row [Value.bool true] 0 false true true) :: some (AObj.row [Value.int .i64 1] 0 false false true) :: some z0 :: noH = some (AObj.row e 5 true false true) :: some (AObj.row g 4 true false true) :: some z1 :: some z2 :: some (AObj.row [Value.int .i64 (bVa (pw11 v) (pc11 D) (i + 1)), Value.int .i64 0, Value.slice (some ⟨5, 0, none⟩) 1 1] 0 false true false) :: some (AObj.row [Value.int .i64 (bPl (pw11 v) (pc11 D) pf11 (i + 1) 0)] 1 false true true) :: some (AObj.row [Value.bool (bSn (pw11 v) (pc11 D) (i + 1))] 0 false true true) :: some (AObj.row [Value.int .i64 1] 0 false false true) :: some z0 :: noH ∧ Is True))) (Is ((isOf nm D v 1 0 1 e g ∧ [Value.int .i64 (q110 i)] = [Value.int .i64 (q110 i)] ∧ 1 = 1) ∧ plOk [q110 i] 1 1) ∧ br (ckE D 0 1 1 [q110 i] != (0 : Int)) (some (AObj.row e 5 true false true) :: some (AObj.row g 4 true false true) :: some z1 :: some z2 :: some (AObj.row [Value.int .i64 (bVa (pw11 v) (pc11 D) i), Value.int .i64 0, Value.slice (some ⟨5, 0, none⟩) 1 1] 0 false true false) :: some (AObj.row [Value.int .i64 (bPl (pw11 v) (pc11 D) pf11 i 0)] 1 false true true) :: some (AObj.row [Value.bool (bSn (pw11 v) (pc11 D) i)] 0 false true true) :: some (AObj.row [Value.int .i64 1] 0 false false true) :: some z0 :: noH = some (AObj.row e 5 true false true) :: some (AObj.row g 4 true false true) :: some z1 :: some z2 :: some (AObj.row [Value.int .i64 (bVa (pw11 v) (pc11 D) (i + 1)), Value.int .i64 0, Value.slice (some ⟨5, 0, none⟩) 1 1] 0 false true false) :: some (AObj.row [Value.int .i64 (bPl (pw11 v) (pc11 D) pf11 (i + 1) 0)] 1 false true true) :: some (AObj.row [Value.bool (bSn (pw11 v) (pc11 D) (i + 1))] 0 false true true) :: some (AObj.row [Value.int .i64 1] 0 false false true) :: some z0 :: noH ∧ Is True) (some (AObj.row e 5 true false true) :: some (AObj.row g 4 true false true) :: some z1 :: some z2 :: some (AObj.row [Value.int .i64 (v * cnP [q110 i]), Value.int .i64 0, Value.slice (some ⟨5, 0, none⟩) 1 1] 0 false true false) :: some (AObj.row [Value.int .i64 (q110 i)] 1 false true true) :: some (AObj.row [Value.bool true] 0 false true true) :: some (AObj.row [Value.int .i64 1] 0 false false true) :: some z0 :: noH = some (AObj.row e 5 true false true) :: some (AObj.row g 4 true false true) :: some z1 :: some z2 :: some (AObj.row [Value.int .i64 (bVa (pw11 v) (pc11 D) (i + 1)), Value.int .i64 0, Value.slice (some ⟨5, 0, none⟩) 1 1] 0 false true false) :: some (AObj.row [Value.int .i64 (bPl (pw11 v) (pc11 D) pf11 (i + 1) 0)] 1 false true true) :: some (AObj.row [Value.bool (bSn (pw11 v) (pc11 D) (i + 1))] 0 false true true) :: some (AObj.row [Value.int .i64 1] 0 false false true) :: some z0 :: noH ∧ Is True))) ∧ (Is True → (Nat.blt 0 9 = true ∧ some (AObj.row e 5 true false true) = some (AObj.row e 5 true false true) ∧ Nat.blt 1 9 = true ∧ some (AObj.row g 4 true false true) = some (AObj.row g 4 true false true) ∧ Nat.blt 7 9 = true ∧ some (AObj.row [Value.int .i64 1] 0 false false true) = some (AObj.row [Value.int .i64 1] 0 false false true) ∧ Nat.blt 8 9 = true ∧ some z0 = some z0 ∧ True) ∧ K0 (Value.tuple #[Value.slice (some ⟨2, 0, none⟩) 1 1, Value.agg #[Value.int .i64 (bVa (pw11 v) (pc11 D) 2), Value.int .i64 0], Value.int .i64 0]) (some (AObj.row e 5 true false true) :: some (AObj.row g 4 true false true) :: some (AObj.row [Value.int .i64 (bPl (pw11 v) (pc11 D) pf11 2 0)] 1 false true true) :: noH)) ∧ ∀ (s : Empty), Is False → True ∧ False)) := by kernel_rfl
noncomputable def itC10 : ItL Tryz.prog where
  gf := 60
  fn cap H := match cap, H with
    | [.pointer (some ⟨0, 0, none⟩), .pointer (some ⟨1, 0, none⟩)], [some (.row [.int .i64 n] 0 false false true), some (.row [.slice (some ⟨2, 0, none⟩) 1 _, .slice (some ⟨3, 0, none⟩) 0 _] 0 false false false), some (.row _ 5 true false true), some (.row _ 4 true false true)] => some (1, 1, pl10, n = 1)
    | _, _ => none
  ok := by
    intro cap H N len pl vc h hv
    split at h
    · cases h
      cases hv
      exact it10_ok _ _ _ _
    · cases h
noncomputable def hp10 (e g : List Value) (D : Nat → Int) (v : Int) (a b i : Nat) : Heap := [some (.row e 5 true false true), some (.row g 4 true false true), bxO 1 0 a b 0 1, b2 0 0,
  some (.row [.int .i64 (bVa (pw10 v) (pc10 D) i), .int .i64 0, .slice (some ⟨5, 0, none⟩) 1 1] 0 false true false), some (.row [.int .i64 (bPl (pw10 v) (pc10 D) pf10 i 0)] 1 false true true), some (.row [.bool (bSn (pw10 v) (pc10 D) i)] 0 false true true), some (.row [.int .i64 1] 0 false false true), some (.row [.slice (some ⟨0, 0, none⟩) 1 a, .slice (some ⟨1, 0, none⟩) 0 b] 0 false false false)]
noncomputable def rl10 (e g : List Value) (D : Nat → Int) (v : Int) (a b : Nat) : Rl Tryz.prog where
  it := itC10
  k := 9
  E := slots 59 [(1, .pointer (some ⟨2, 0, none⟩)), (3, .pointer (some ⟨3, 0, none⟩)), (6, .pointer (some ⟨4, 0, none⟩)), (7, .pointer (some ⟨6, 0, none⟩)), (25, .func (.func 60) #[] #[.pointer (some ⟨7, 0, none⟩), .pointer (some ⟨8, 0, none⟩)])]
  Hp := hp10 e g D v a b
noncomputable def hsP10 (e g : List Value) (nm : Nat → ByteArray) (D : Nat → Int) (v : Int) (a b : Nat) : Hs Tryz.prog where
  rl y := if y = 8 then some (rl10 e g D v a b) else none
  cl _ := keep 59 [1, 3, 6, 7, 25]
  sm := true
  au := auCalls [(28, hCa Tryz.prog 28 (orcOfC nm D v 1) (okOfC nm D v 1)), (31, hCa Tryz.prog 31 orcBt okBt), (30, hCa Tryz.prog 30 (orcToC nm D v 1) (okToC nm D v 1)), (32, hCa Tryz.prog 32 (orcCpC nm D v 1) (okCpC nm D v 1))]
theorem pn10_t (e : List Value) (g : List Value) (nm : Nat → ByteArray) (D : Nat → Int) (v : Int) (a : Nat) (b : Nat) (K0 : Value → Heap → Prop) :
    (fnP Tryz.prog c0 (hsP10 e g nm D v a b) (10 : FuncId) [off3 (1 : Nat) (0 : Nat) a b (0 : Nat) (1 : Nat)] [some (AObj.row e (5 : Nat) true false true), some (AObj.row g (4 : Nat) true false true)] K0) =
    (let z0 : AObj := AObj.row [Value.slice (some ⟨0, 0, none⟩) 1 a, Value.slice (some ⟨1, 0, none⟩) 0 b] 0 false false false; let z1 : AObj := AObj.row [Value.slice (some ⟨0, 0, none⟩) 1 a, Value.slice (some ⟨1, 0, none⟩) 0 b] 0 false true false; let z2 : AObj := AObj.row [Value.int .i64 0, Value.int .i64 0] 0 false true true; (Is (isOf nm D v 1 1 0 e g ∧ OfOk nm D v 1 1 0) ∧ [poi, Value.pointer (some ⟨2, 0, none⟩), poi, Value.pointer (some ⟨3, 0, none⟩), poi, poi, Value.pointer (some ⟨4, 0, none⟩), Value.pointer (some ⟨6, 0, none⟩), poi, poi, poi, poi, poi, poi, poi, poi, poi, poi, poi, poi, poi, poi, poi, poi, poi, Value.func (Fn.func 60) #[] #[Value.pointer (some ⟨7, 0, none⟩), Value.pointer (some ⟨8, 0, none⟩)], poi, poi, poi, poi, poi, poi, poi, poi, poi, poi, poi, poi, poi, poi, poi, poi, poi, poi, poi, poi, poi, poi, poi, poi, poi, poi, poi, poi, poi, poi, poi, poi, poi] = [poi, Value.pointer (some ⟨2, 0, none⟩), poi, Value.pointer (some ⟨3, 0, none⟩), poi, poi, Value.pointer (some ⟨4, 0, none⟩), Value.pointer (some ⟨6, 0, none⟩), poi, poi, poi, poi, poi, poi, poi, poi, poi, poi, poi, poi, poi, poi, poi, poi, poi, Value.func (Fn.func 60) #[] #[Value.pointer (some ⟨7, 0, none⟩), Value.pointer (some ⟨8, 0, none⟩)], poi, poi, poi, poi, poi, poi, poi, poi, poi, poi, poi, poi, poi, poi, poi, poi, poi, poi, poi, poi, poi, poi, poi, poi, poi, poi, poi, poi, poi, poi, poi, poi, poi] ∧ some (AObj.row e 5 true false true) :: some (AObj.row g 4 true false true) :: some z1 :: some z2 :: some (AObj.row [Value.int .i64 0, Value.int .i64 0, Value.slice (some ⟨5, 0, none⟩) 1 1] 0 false true false) :: some (AObj.row [Value.int .i64 0] 1 false true true) :: some (AObj.row [Value.bool false] 0 false true true) :: some (AObj.row [Value.int .i64 1] 0 false false true) :: some z0 :: noH = some (AObj.row e 5 true false true) :: some (AObj.row g 4 true false true) :: some z1 :: some z2 :: some (AObj.row [Value.int .i64 (bVa (pw10 v) (pc10 D) 0), Value.int .i64 0, Value.slice (some ⟨5, 0, none⟩) 1 1] 0 false true false) :: some (AObj.row [Value.int .i64 (bPl (pw10 v) (pc10 D) pf10 0 0)] 1 false true true) :: some (AObj.row [Value.bool (bSn (pw10 v) (pc10 D) 0)] 0 false true true) :: some (AObj.row [Value.int .i64 1] 0 false false true) :: some z0 :: noH ∧ [poi, Value.pointer (some ⟨2, 0, none⟩), poi, Value.pointer (some ⟨3, 0, none⟩), poi, poi, Value.pointer (some ⟨4, 0, none⟩), Value.pointer (some ⟨6, 0, none⟩), poi, poi, poi, poi, poi, poi, poi, poi, poi, poi, poi, poi, poi, poi, poi, poi, poi, Value.func (Fn.func 60) #[] #[Value.pointer (some ⟨7, 0, none⟩), Value.pointer (some ⟨8, 0, none⟩)], poi, poi, poi, poi, poi, poi, poi, poi, poi, poi, poi, poi, poi, poi, poi, poi, poi, poi, poi, poi, poi, poi, poi, poi, poi, poi, poi, poi, poi, poi, poi, poi, poi] = [poi, Value.pointer (some ⟨2, 0, none⟩), poi, Value.pointer (some ⟨3, 0, none⟩), poi, poi, Value.pointer (some ⟨4, 0, none⟩), Value.pointer (some ⟨6, 0, none⟩), poi, poi, poi, poi, poi, poi, poi, poi, poi, poi, poi, poi, poi, poi, poi, poi, poi, Value.func (Fn.func 60) #[] #[Value.pointer (some ⟨7, 0, none⟩), Value.pointer (some ⟨8, 0, none⟩)], poi, poi, poi, poi, poi, poi, poi, poi, poi, poi, poi, poi, poi, poi, poi, poi, poi, poi, poi, poi, poi, poi, poi, poi, poi, poi, poi, poi, poi, poi, poi, poi, poi] ∧ Is ((1 : Int) = (1 : Int)) ∧ Is True ∧ (∀ (i : Nat), Is True → Is (i < 1) → (Nat.blt 0 9 = true ∧ some (AObj.row e 5 true false true) = some (AObj.row e 5 true false true) ∧ Nat.blt 1 9 = true ∧ some (AObj.row g 4 true false true) = some (AObj.row g 4 true false true) ∧ Nat.blt 7 9 = true ∧ some (AObj.row [Value.int .i64 1] 0 false false true) = some (AObj.row [Value.int .i64 1] 0 false false true) ∧ Nat.blt 8 9 = true ∧ some z0 = some z0 ∧ True) ∧ Is ((isOf nm D v 1 1 0 e g ∧ [Value.int .i64 (q100 i)] = [Value.int .i64 (q100 i)] ∧ 1 = 1) ∧ plOk [q100 i] 1 0 ∧ (0 : Int) ≤ v ∧ v ≤ (1000 : Int)) ∧ br (bSn (pw10 v) (pc10 D) i) (Is True ∧ br (!btr (v * cnP [q100 i]) (0 : Int) (bVa (pw10 v) (pc10 D) i) (0 : Int)) (some (AObj.row e 5 true false true) :: some (AObj.row g 4 true false true) :: some z1 :: some z2 :: some (AObj.row [Value.int .i64 (bVa (pw10 v) (pc10 D) i), Value.int .i64 0, Value.slice (some ⟨5, 0, none⟩) 1 1] 0 false true false) :: some (AObj.row [Value.int .i64 (bPl (pw10 v) (pc10 D) pf10 i 0)] 1 false true true) :: some (AObj.row [Value.bool (bSn (pw10 v) (pc10 D) i)] 0 false true true) :: some (AObj.row [Value.int .i64 1] 0 false false true) :: some z0 :: noH = some (AObj.row e 5 true false true) :: some (AObj.row g 4 true false true) :: some z1 :: some z2 :: some (AObj.row [Value.int .i64 (bVa (pw10 v) (pc10 D) (i + 1)), Value.int .i64 0, Value.slice (some ⟨5, 0, none⟩) 1 1] 0 false true false) :: some (AObj.row [Value.int .i64 (bPl (pw10 v) (pc10 D) pf10 (i + 1) 0)] 1 false true true) :: some (AObj.row [Value.bool (bSn (pw10 v) (pc10 D) (i + 1))] 0 false true true) :: some (AObj.row [Value.int .i64 1] 0 false false true) :: some z0 :: noH ∧ Is True) (Is ((isOf nm D v 1 1 0 e g ∧ [Value.int .i64 (q100 i)] = [Value.int .i64 (q100 i)] ∧ 1 = 1) ∧ plOk [q100 i] 1 0) ∧ br (ckE D 1 1 0 [q100 i] != (0 : Int)) (some (AObj.row e 5 true false true) :: some (AObj.row g 4 true false true) :: some z1 :: some z2 :: some (AObj.row [Value.int .i64 (bVa (pw10 v) (pc10 D) i), Value.int .i64 0, Value.slice (some ⟨5, 0, none⟩) 1 1] 0 false true false) :: some (AObj.row [Value.int .i64 (bPl (pw10 v) (pc10 D) pf10 i 0)] 1 false true true) :: some (AObj.row [Value.bool (bSn (pw10 v) (pc10 D) i)] 0 false true true) :: some (AObj.row [Value.int .i64 1] 0 false false true) :: some z0 :: noH = some (AObj.row e 5 true false true) :: some (AObj.row g 4 true false true) :: some z1 :: some z2 :: some (AObj.row [Value.int .i64 (bVa (pw10 v) (pc10 D) (i + 1)), Value.int .i64 0, Value.slice (some ⟨5, 0, none⟩) 1 1] 0 false true false) :: some (AObj.row [Value.int .i64 (bPl (pw10 v) (pc10 D) pf10 (i + 1) 0)] 1 false true true) :: some (AObj.row [Value.bool (bSn (pw10 v) (pc10 D) (i + 1))] 0 false true true) :: some (AObj.row [Value.int .i64 1] 0 false false true) :: some z0 :: noH ∧ Is True) (some (AObj.row e 5 true false true) :: some (AObj.row g 4 true false true) :: some z1 :: some z2 :: some (AObj.row [Value.int .i64 (v * cnP [q100 i]), Value.int .i64 0, Value.slice (some ⟨5, 0, none⟩) 1 1] 0 false true false) :: some (AObj.row [Value.int .i64 (q100 i)] 1 false true true) :: some (AObj.row [Value.bool true] 0 false true true) :: some (AObj.row [Value.int .i64 1] 0 false false true) :: some z0 :: noH = some (AObj.row e 5 true false true) :: some (AObj.row g 4 true false true) :: some z1 :: some z2 :: some (AObj.row [Value.int .i64 (bVa (pw10 v) (pc10 D) (i + 1)), Value.int .i64 0, Value.slice (some ⟨5, 0, none⟩) 1 1] 0 false true false) :: some (AObj.row [Value.int .i64 (bPl (pw10 v) (pc10 D) pf10 (i + 1) 0)] 1 false true true) :: some (AObj.row [Value.bool (bSn (pw10 v) (pc10 D) (i + 1))] 0 false true true) :: some (AObj.row [Value.int .i64 1] 0 false false true) :: some z0 :: noH ∧ Is True))) (Is ((isOf nm D v 1 1 0 e g ∧ [Value.int .i64 (q100 i)] = [Value.int .i64 (q100 i)] ∧ 1 = 1) ∧ plOk [q100 i] 1 0) ∧ br (ckE D 1 1 0 [q100 i] != (0 : Int)) (some (AObj.row e 5 true false true) :: some (AObj.row g 4 true false true) :: some z1 :: some z2 :: some (AObj.row [Value.int .i64 (bVa (pw10 v) (pc10 D) i), Value.int .i64 0, Value.slice (some ⟨5, 0, none⟩) 1 1] 0 false true false) :: some (AObj.row [Value.int .i64 (bPl (pw10 v) (pc10 D) pf10 i 0)] 1 false true true) :: some (AObj.row [Value.bool (bSn (pw10 v) (pc10 D) i)] 0 false true true) :: some (AObj.row [Value.int .i64 1] 0 false false true) :: some z0 :: noH = some (AObj.row e 5 true false true) :: some (AObj.row g 4 true false true) :: some z1 :: some z2 :: some (AObj.row [Value.int .i64 (bVa (pw10 v) (pc10 D) (i + 1)), Value.int .i64 0, Value.slice (some ⟨5, 0, none⟩) 1 1] 0 false true false) :: some (AObj.row [Value.int .i64 (bPl (pw10 v) (pc10 D) pf10 (i + 1) 0)] 1 false true true) :: some (AObj.row [Value.bool (bSn (pw10 v) (pc10 D) (i + 1))] 0 false true true) :: some (AObj.row [Value.int .i64 1] 0 false false true) :: some z0 :: noH ∧ Is True) (some (AObj.row e 5 true false true) :: some (AObj.row g 4 true false true) :: some z1 :: some z2 :: some (AObj.row [Value.int .i64 (v * cnP [q100 i]), Value.int .i64 0, Value.slice (some ⟨5, 0, none⟩) 1 1] 0 false true false) :: some (AObj.row [Value.int .i64 (q100 i)] 1 false true true) :: some (AObj.row [Value.bool true] 0 false true true) :: some (AObj.row [Value.int .i64 1] 0 false false true) :: some z0 :: noH = some (AObj.row e 5 true false true) :: some (AObj.row g 4 true false true) :: some z1 :: some z2 :: some (AObj.row [Value.int .i64 (bVa (pw10 v) (pc10 D) (i + 1)), Value.int .i64 0, Value.slice (some ⟨5, 0, none⟩) 1 1] 0 false true false) :: some (AObj.row [Value.int .i64 (bPl (pw10 v) (pc10 D) pf10 (i + 1) 0)] 1 false true true) :: some (AObj.row [Value.bool (bSn (pw10 v) (pc10 D) (i + 1))] 0 false true true) :: some (AObj.row [Value.int .i64 1] 0 false false true) :: some z0 :: noH ∧ Is True))) ∧ (Is True → (Nat.blt 0 9 = true ∧ some (AObj.row e 5 true false true) = some (AObj.row e 5 true false true) ∧ Nat.blt 1 9 = true ∧ some (AObj.row g 4 true false true) = some (AObj.row g 4 true false true) ∧ Nat.blt 7 9 = true ∧ some (AObj.row [Value.int .i64 1] 0 false false true) = some (AObj.row [Value.int .i64 1] 0 false false true) ∧ Nat.blt 8 9 = true ∧ some z0 = some z0 ∧ True) ∧ K0 (Value.tuple #[Value.slice (some ⟨2, 0, none⟩) 1 1, Value.agg #[Value.int .i64 (bVa (pw10 v) (pc10 D) 1), Value.int .i64 0], Value.int .i64 0]) (some (AObj.row e 5 true false true) :: some (AObj.row g 4 true false true) :: some (AObj.row [Value.int .i64 (bPl (pw10 v) (pc10 D) pf10 1 0)] 1 false true true) :: noH)) ∧ ∀ (s : Empty), Is False → True ∧ False)) := by kernel_rfl
noncomputable def itC22 : ItL Tryz.prog where
  gf := 60
  fn cap H := match cap, H with
    | [.pointer (some ⟨0, 0, none⟩), .pointer (some ⟨1, 0, none⟩)], [some (.row [.int .i64 n] 0 false false true), some (.row [.slice (some ⟨2, 0, none⟩) 2 _, .slice (some ⟨3, 0, none⟩) 2 _] 0 false false false), some (.row _ 5 true false true), some (.row _ 4 true false true)] => some (9, 2, pl22, n = 2)
    | _, _ => none
  ok := by
    intro cap H N len pl vc h hv
    split at h
    · cases h
      cases hv
      exact it22_ok _ _ _ _
    · cases h
noncomputable def hp22 (e g : List Value) (D : Nat → Int) (v : Int) (a b i : Nat) : Heap := [some (.row e 5 true false true), some (.row g 4 true false true), bxO 2 2 a b 0 1, b2 0 0,
  some (.row [.int .i64 (bVa (pw22 v) (pc22 D) i), .int .i64 0, .slice (some ⟨5, 0, none⟩) 2 2] 0 false true false), some (.row [.int .i64 (bPl (pw22 v) (pc22 D) pf22 i 0), .int .i64 (bPl (pw22 v) (pc22 D) pf22 i 1)] 1 false true true), some (.row [.bool (bSn (pw22 v) (pc22 D) i)] 0 false true true), some (.row [.int .i64 2] 0 false false true), some (.row [.slice (some ⟨0, 0, none⟩) 2 a, .slice (some ⟨1, 0, none⟩) 2 b] 0 false false false)]
noncomputable def rl22 (e g : List Value) (D : Nat → Int) (v : Int) (a b : Nat) : Rl Tryz.prog where
  it := itC22
  k := 9
  E := slots 59 [(1, .pointer (some ⟨2, 0, none⟩)), (3, .pointer (some ⟨3, 0, none⟩)), (6, .pointer (some ⟨4, 0, none⟩)), (7, .pointer (some ⟨6, 0, none⟩)), (25, .func (.func 60) #[] #[.pointer (some ⟨7, 0, none⟩), .pointer (some ⟨8, 0, none⟩)])]
  Hp := hp22 e g D v a b
noncomputable def hsP22 (e g : List Value) (nm : Nat → ByteArray) (D : Nat → Int) (v : Int) (a b : Nat) : Hs Tryz.prog where
  rl y := if y = 8 then some (rl22 e g D v a b) else none
  cl _ := keep 59 [1, 3, 6, 7, 25]
  sm := true
  au := auCalls [(28, hCa Tryz.prog 28 (orcOfC nm D v 0) (okOfC nm D v 0)), (31, hCa Tryz.prog 31 orcBt okBt), (30, hCa Tryz.prog 30 (orcToC nm D v 0) (okToC nm D v 0)), (32, hCa Tryz.prog 32 (orcCpC nm D v 0) (okCpC nm D v 0))]
theorem pn22_t (e : List Value) (g : List Value) (nm : Nat → ByteArray) (D : Nat → Int) (v : Int) (a : Nat) (b : Nat) (K0 : Value → Heap → Prop) :
    (fnP Tryz.prog c0 (hsP22 e g nm D v a b) (10 : FuncId) [off3 (2 : Nat) (2 : Nat) a b (0 : Nat) (1 : Nat)] [some (AObj.row e (5 : Nat) true false true), some (AObj.row g (4 : Nat) true false true)] K0) =
    (let z0 : AObj := AObj.row [Value.slice (some ⟨0, 0, none⟩) 2 a, Value.slice (some ⟨1, 0, none⟩) 2 b] 0 false false false; let z1 : AObj := AObj.row [Value.slice (some ⟨0, 0, none⟩) 2 a, Value.slice (some ⟨1, 0, none⟩) 2 b] 0 false true false; let z2 : AObj := AObj.row [Value.int .i64 0, Value.int .i64 0] 0 false true true; (Is (isOf nm D v 2 0 2 e g ∧ OfOk nm D v 2 0 2) ∧ [poi, Value.pointer (some ⟨2, 0, none⟩), poi, Value.pointer (some ⟨3, 0, none⟩), poi, poi, Value.pointer (some ⟨4, 0, none⟩), Value.pointer (some ⟨6, 0, none⟩), poi, poi, poi, poi, poi, poi, poi, poi, poi, poi, poi, poi, poi, poi, poi, poi, poi, Value.func (Fn.func 60) #[] #[Value.pointer (some ⟨7, 0, none⟩), Value.pointer (some ⟨8, 0, none⟩)], poi, poi, poi, poi, poi, poi, poi, poi, poi, poi, poi, poi, poi, poi, poi, poi, poi, poi, poi, poi, poi, poi, poi, poi, poi, poi, poi, poi, poi, poi, poi, poi, poi] = [poi, Value.pointer (some ⟨2, 0, none⟩), poi, Value.pointer (some ⟨3, 0, none⟩), poi, poi, Value.pointer (some ⟨4, 0, none⟩), Value.pointer (some ⟨6, 0, none⟩), poi, poi, poi, poi, poi, poi, poi, poi, poi, poi, poi, poi, poi, poi, poi, poi, poi, Value.func (Fn.func 60) #[] #[Value.pointer (some ⟨7, 0, none⟩), Value.pointer (some ⟨8, 0, none⟩)], poi, poi, poi, poi, poi, poi, poi, poi, poi, poi, poi, poi, poi, poi, poi, poi, poi, poi, poi, poi, poi, poi, poi, poi, poi, poi, poi, poi, poi, poi, poi, poi, poi] ∧ some (AObj.row e 5 true false true) :: some (AObj.row g 4 true false true) :: some z1 :: some z2 :: some (AObj.row [Value.int .i64 0, Value.int .i64 0, Value.slice (some ⟨5, 0, none⟩) 2 2] 0 false true false) :: some (AObj.row [Value.int .i64 0, Value.int .i64 0] 1 false true true) :: some (AObj.row [Value.bool false] 0 false true true) :: some (AObj.row [Value.int .i64 2] 0 false false true) :: some z0 :: noH = some (AObj.row e 5 true false true) :: some (AObj.row g 4 true false true) :: some z1 :: some z2 :: some (AObj.row [Value.int .i64 (bVa (pw22 v) (pc22 D) 0), Value.int .i64 0, Value.slice (some ⟨5, 0, none⟩) 2 2] 0 false true false) :: some (AObj.row [Value.int .i64 (bPl (pw22 v) (pc22 D) pf22 0 0), Value.int .i64 (bPl (pw22 v) (pc22 D) pf22 0 1)] 1 false true true) :: some (AObj.row [Value.bool (bSn (pw22 v) (pc22 D) 0)] 0 false true true) :: some (AObj.row [Value.int .i64 2] 0 false false true) :: some z0 :: noH ∧ [poi, Value.pointer (some ⟨2, 0, none⟩), poi, Value.pointer (some ⟨3, 0, none⟩), poi, poi, Value.pointer (some ⟨4, 0, none⟩), Value.pointer (some ⟨6, 0, none⟩), poi, poi, poi, poi, poi, poi, poi, poi, poi, poi, poi, poi, poi, poi, poi, poi, poi, Value.func (Fn.func 60) #[] #[Value.pointer (some ⟨7, 0, none⟩), Value.pointer (some ⟨8, 0, none⟩)], poi, poi, poi, poi, poi, poi, poi, poi, poi, poi, poi, poi, poi, poi, poi, poi, poi, poi, poi, poi, poi, poi, poi, poi, poi, poi, poi, poi, poi, poi, poi, poi, poi] = [poi, Value.pointer (some ⟨2, 0, none⟩), poi, Value.pointer (some ⟨3, 0, none⟩), poi, poi, Value.pointer (some ⟨4, 0, none⟩), Value.pointer (some ⟨6, 0, none⟩), poi, poi, poi, poi, poi, poi, poi, poi, poi, poi, poi, poi, poi, poi, poi, poi, poi, Value.func (Fn.func 60) #[] #[Value.pointer (some ⟨7, 0, none⟩), Value.pointer (some ⟨8, 0, none⟩)], poi, poi, poi, poi, poi, poi, poi, poi, poi, poi, poi, poi, poi, poi, poi, poi, poi, poi, poi, poi, poi, poi, poi, poi, poi, poi, poi, poi, poi, poi, poi, poi, poi] ∧ Is ((2 : Int) = (2 : Int)) ∧ Is True ∧ (∀ (i : Nat), Is True → Is (i < 9) → (Nat.blt 0 9 = true ∧ some (AObj.row e 5 true false true) = some (AObj.row e 5 true false true) ∧ Nat.blt 1 9 = true ∧ some (AObj.row g 4 true false true) = some (AObj.row g 4 true false true) ∧ Nat.blt 7 9 = true ∧ some (AObj.row [Value.int .i64 2] 0 false false true) = some (AObj.row [Value.int .i64 2] 0 false false true) ∧ Nat.blt 8 9 = true ∧ some z0 = some z0 ∧ True) ∧ Is ((isOf nm D v 2 0 2 e g ∧ [Value.int .i64 (q220 i), Value.int .i64 (q221 i)] = [Value.int .i64 (q220 i), Value.int .i64 (q221 i)] ∧ 2 = 2) ∧ plOk [q220 i, q221 i] 2 2 ∧ (0 : Int) ≤ v ∧ v ≤ (1000 : Int)) ∧ br (bSn (pw22 v) (pc22 D) i) (Is True ∧ br (!btr (v * cnP [q220 i, q221 i]) (0 : Int) (bVa (pw22 v) (pc22 D) i) (0 : Int)) (some (AObj.row e 5 true false true) :: some (AObj.row g 4 true false true) :: some z1 :: some z2 :: some (AObj.row [Value.int .i64 (bVa (pw22 v) (pc22 D) i), Value.int .i64 0, Value.slice (some ⟨5, 0, none⟩) 2 2] 0 false true false) :: some (AObj.row [Value.int .i64 (bPl (pw22 v) (pc22 D) pf22 i 0), Value.int .i64 (bPl (pw22 v) (pc22 D) pf22 i 1)] 1 false true true) :: some (AObj.row [Value.bool (bSn (pw22 v) (pc22 D) i)] 0 false true true) :: some (AObj.row [Value.int .i64 2] 0 false false true) :: some z0 :: noH = some (AObj.row e 5 true false true) :: some (AObj.row g 4 true false true) :: some z1 :: some z2 :: some (AObj.row [Value.int .i64 (bVa (pw22 v) (pc22 D) (i + 1)), Value.int .i64 0, Value.slice (some ⟨5, 0, none⟩) 2 2] 0 false true false) :: some (AObj.row [Value.int .i64 (bPl (pw22 v) (pc22 D) pf22 (i + 1) 0), Value.int .i64 (bPl (pw22 v) (pc22 D) pf22 (i + 1) 1)] 1 false true true) :: some (AObj.row [Value.bool (bSn (pw22 v) (pc22 D) (i + 1))] 0 false true true) :: some (AObj.row [Value.int .i64 2] 0 false false true) :: some z0 :: noH ∧ Is True) (Is ((isOf nm D v 2 0 2 e g ∧ [Value.int .i64 (q220 i), Value.int .i64 (q221 i)] = [Value.int .i64 (q220 i), Value.int .i64 (q221 i)] ∧ 2 = 2) ∧ plOk [q220 i, q221 i] 2 2) ∧ br (ckE D 0 2 2 [q220 i, q221 i] != (0 : Int)) (some (AObj.row e 5 true false true) :: some (AObj.row g 4 true false true) :: some z1 :: some z2 :: some (AObj.row [Value.int .i64 (bVa (pw22 v) (pc22 D) i), Value.int .i64 0, Value.slice (some ⟨5, 0, none⟩) 2 2] 0 false true false) :: some (AObj.row [Value.int .i64 (bPl (pw22 v) (pc22 D) pf22 i 0), Value.int .i64 (bPl (pw22 v) (pc22 D) pf22 i 1)] 1 false true true) :: some (AObj.row [Value.bool (bSn (pw22 v) (pc22 D) i)] 0 false true true) :: some (AObj.row [Value.int .i64 2] 0 false false true) :: some z0 :: noH = some (AObj.row e 5 true false true) :: some (AObj.row g 4 true false true) :: some z1 :: some z2 :: some (AObj.row [Value.int .i64 (bVa (pw22 v) (pc22 D) (i + 1)), Value.int .i64 0, Value.slice (some ⟨5, 0, none⟩) 2 2] 0 false true false) :: some (AObj.row [Value.int .i64 (bPl (pw22 v) (pc22 D) pf22 (i + 1) 0), Value.int .i64 (bPl (pw22 v) (pc22 D) pf22 (i + 1) 1)] 1 false true true) :: some (AObj.row [Value.bool (bSn (pw22 v) (pc22 D) (i + 1))] 0 false true true) :: some (AObj.row [Value.int .i64 2] 0 false false true) :: some z0 :: noH ∧ Is True) (some (AObj.row e 5 true false true) :: some (AObj.row g 4 true false true) :: some z1 :: some z2 :: some (AObj.row [Value.int .i64 (v * cnP [q220 i, q221 i]), Value.int .i64 0, Value.slice (some ⟨5, 0, none⟩) 2 2] 0 false true false) :: some (AObj.row [Value.int .i64 (q220 i), Value.int .i64 (q221 i)] 1 false true true) :: some (AObj.row [Value.bool true] 0 false true true) :: some (AObj.row [Value.int .i64 2] 0 false false true) :: some z0 :: noH = some (AObj.row e 5 true false true) :: some (AObj.row g 4 true false true) :: some z1 :: some z2 :: some (AObj.row [Value.int .i64 (bVa (pw22 v) (pc22 D) (i + 1)), Value.int .i64 0, Value.slice (some ⟨5, 0, none⟩) 2 2] 0 false true false) :: some (AObj.row [Value.int .i64 (bPl (pw22 v) (pc22 D) pf22 (i + 1) 0), Value.int .i64 (bPl (pw22 v) (pc22 D) pf22 (i + 1) 1)] 1 false true true) :: some (AObj.row [Value.bool (bSn (pw22 v) (pc22 D) (i + 1))] 0 false true true) :: some (AObj.row [Value.int .i64 2] 0 false false true) :: some z0 :: noH ∧ Is True))) (Is ((isOf nm D v 2 0 2 e g ∧ [Value.int .i64 (q220 i), Value.int .i64 (q221 i)] = [Value.int .i64 (q220 i), Value.int .i64 (q221 i)] ∧ 2 = 2) ∧ plOk [q220 i, q221 i] 2 2) ∧ br (ckE D 0 2 2 [q220 i, q221 i] != (0 : Int)) (some (AObj.row e 5 true false true) :: some (AObj.row g 4 true false true) :: some z1 :: some z2 :: some (AObj.row [Value.int .i64 (bVa (pw22 v) (pc22 D) i), Value.int .i64 0, Value.slice (some ⟨5, 0, none⟩) 2 2] 0 false true false) :: some (AObj.row [Value.int .i64 (bPl (pw22 v) (pc22 D) pf22 i 0), Value.int .i64 (bPl (pw22 v) (pc22 D) pf22 i 1)] 1 false true true) :: some (AObj.row [Value.bool (bSn (pw22 v) (pc22 D) i)] 0 false true true) :: some (AObj.row [Value.int .i64 2] 0 false false true) :: some z0 :: noH = some (AObj.row e 5 true false true) :: some (AObj.row g 4 true false true) :: some z1 :: some z2 :: some (AObj.row [Value.int .i64 (bVa (pw22 v) (pc22 D) (i + 1)), Value.int .i64 0, Value.slice (some ⟨5, 0, none⟩) 2 2] 0 false true false) :: some (AObj.row [Value.int .i64 (bPl (pw22 v) (pc22 D) pf22 (i + 1) 0), Value.int .i64 (bPl (pw22 v) (pc22 D) pf22 (i + 1) 1)] 1 false true true) :: some (AObj.row [Value.bool (bSn (pw22 v) (pc22 D) (i + 1))] 0 false true true) :: some (AObj.row [Value.int .i64 2] 0 false false true) :: some z0 :: noH ∧ Is True) (some (AObj.row e 5 true false true) :: some (AObj.row g 4 true false true) :: some z1 :: some z2 :: some (AObj.row [Value.int .i64 (v * cnP [q220 i, q221 i]), Value.int .i64 0, Value.slice (some ⟨5, 0, none⟩) 2 2] 0 false true false) :: some (AObj.row [Value.int .i64 (q220 i), Value.int .i64 (q221 i)] 1 false true true) :: some (AObj.row [Value.bool true] 0 false true true) :: some (AObj.row [Value.int .i64 2] 0 false false true) :: some z0 :: noH = some (AObj.row e 5 true false true) :: some (AObj.row g 4 true false true) :: some z1 :: some z2 :: some (AObj.row [Value.int .i64 (bVa (pw22 v) (pc22 D) (i + 1)), Value.int .i64 0, Value.slice (some ⟨5, 0, none⟩) 2 2] 0 false true false) :: some (AObj.row [Value.int .i64 (bPl (pw22 v) (pc22 D) pf22 (i + 1) 0), Value.int .i64 (bPl (pw22 v) (pc22 D) pf22 (i + 1) 1)] 1 false true true) :: some (AObj.row [Value.bool (bSn (pw22 v) (pc22 D) (i + 1))] 0 false true true) :: some (AObj.row [Value.int .i64 2] 0 false false true) :: some z0 :: noH ∧ Is True))) ∧ (Is True → (Nat.blt 0 9 = true ∧ some (AObj.row e 5 true false true) = some (AObj.row e 5 true false true) ∧ Nat.blt 1 9 = true ∧ some (AObj.row g 4 true false true) = some (AObj.row g 4 true false true) ∧ Nat.blt 7 9 = true ∧ some (AObj.row [Value.int .i64 2] 0 false false true) = some (AObj.row [Value.int .i64 2] 0 false false true) ∧ Nat.blt 8 9 = true ∧ some z0 = some z0 ∧ True) ∧ K0 (Value.tuple #[Value.slice (some ⟨2, 0, none⟩) 2 2, Value.agg #[Value.int .i64 (bVa (pw22 v) (pc22 D) 9), Value.int .i64 0], Value.int .i64 0]) (some (AObj.row e 5 true false true) :: some (AObj.row g 4 true false true) :: some (AObj.row [Value.int .i64 (bPl (pw22 v) (pc22 D) pf22 9 0), Value.int .i64 (bPl (pw22 v) (pc22 D) pf22 9 1)] 1 false true true) :: noH)) ∧ ∀ (s : Empty), Is False → True ∧ False)) := by kernel_rfl
noncomputable def itC21 : ItL Tryz.prog where
  gf := 60
  fn cap H := match cap, H with
    | [.pointer (some ⟨0, 0, none⟩), .pointer (some ⟨1, 0, none⟩)], [some (.row [.int .i64 n] 0 false false true), some (.row [.slice (some ⟨2, 0, none⟩) 2 _, .slice (some ⟨3, 0, none⟩) 1 _] 0 false false false), some (.row _ 5 true false true), some (.row _ 4 true false true)] => some (4, 2, pl21, n = 2)
    | _, _ => none
  ok := by
    intro cap H N len pl vc h hv
    split at h
    · cases h
      cases hv
      exact it21_ok _ _ _ _
    · cases h
noncomputable def hp21 (e g : List Value) (D : Nat → Int) (v : Int) (a b i : Nat) : Heap := [some (.row e 5 true false true), some (.row g 4 true false true), bxO 2 1 a b 0 1, b2 0 0,
  some (.row [.int .i64 (bVa (pw21 v) (pc21 D) i), .int .i64 0, .slice (some ⟨5, 0, none⟩) 2 2] 0 false true false), some (.row [.int .i64 (bPl (pw21 v) (pc21 D) pf21 i 0), .int .i64 (bPl (pw21 v) (pc21 D) pf21 i 1)] 1 false true true), some (.row [.bool (bSn (pw21 v) (pc21 D) i)] 0 false true true), some (.row [.int .i64 2] 0 false false true), some (.row [.slice (some ⟨0, 0, none⟩) 2 a, .slice (some ⟨1, 0, none⟩) 1 b] 0 false false false)]
noncomputable def rl21 (e g : List Value) (D : Nat → Int) (v : Int) (a b : Nat) : Rl Tryz.prog where
  it := itC21
  k := 9
  E := slots 59 [(1, .pointer (some ⟨2, 0, none⟩)), (3, .pointer (some ⟨3, 0, none⟩)), (6, .pointer (some ⟨4, 0, none⟩)), (7, .pointer (some ⟨6, 0, none⟩)), (25, .func (.func 60) #[] #[.pointer (some ⟨7, 0, none⟩), .pointer (some ⟨8, 0, none⟩)])]
  Hp := hp21 e g D v a b
noncomputable def hsP21 (e g : List Value) (nm : Nat → ByteArray) (D : Nat → Int) (v : Int) (a b : Nat) : Hs Tryz.prog where
  rl y := if y = 8 then some (rl21 e g D v a b) else none
  cl _ := keep 59 [1, 3, 6, 7, 25]
  sm := true
  au := auCalls [(28, hCa Tryz.prog 28 (orcOfC nm D v 1) (okOfC nm D v 1)), (31, hCa Tryz.prog 31 orcBt okBt), (30, hCa Tryz.prog 30 (orcToC nm D v 1) (okToC nm D v 1)), (32, hCa Tryz.prog 32 (orcCpC nm D v 1) (okCpC nm D v 1))]
theorem pn21_t (e : List Value) (g : List Value) (nm : Nat → ByteArray) (D : Nat → Int) (v : Int) (a : Nat) (b : Nat) (K0 : Value → Heap → Prop) :
    (fnP Tryz.prog c0 (hsP21 e g nm D v a b) (10 : FuncId) [off3 (2 : Nat) (1 : Nat) a b (0 : Nat) (1 : Nat)] [some (AObj.row e (5 : Nat) true false true), some (AObj.row g (4 : Nat) true false true)] K0) =
    (let z0 : AObj := AObj.row [Value.slice (some ⟨0, 0, none⟩) 2 a, Value.slice (some ⟨1, 0, none⟩) 1 b] 0 false false false; let z1 : AObj := AObj.row [Value.slice (some ⟨0, 0, none⟩) 2 a, Value.slice (some ⟨1, 0, none⟩) 1 b] 0 false true false; let z2 : AObj := AObj.row [Value.int .i64 0, Value.int .i64 0] 0 false true true; (Is (isOf nm D v 2 1 1 e g ∧ OfOk nm D v 2 1 1) ∧ [poi, Value.pointer (some ⟨2, 0, none⟩), poi, Value.pointer (some ⟨3, 0, none⟩), poi, poi, Value.pointer (some ⟨4, 0, none⟩), Value.pointer (some ⟨6, 0, none⟩), poi, poi, poi, poi, poi, poi, poi, poi, poi, poi, poi, poi, poi, poi, poi, poi, poi, Value.func (Fn.func 60) #[] #[Value.pointer (some ⟨7, 0, none⟩), Value.pointer (some ⟨8, 0, none⟩)], poi, poi, poi, poi, poi, poi, poi, poi, poi, poi, poi, poi, poi, poi, poi, poi, poi, poi, poi, poi, poi, poi, poi, poi, poi, poi, poi, poi, poi, poi, poi, poi, poi] = [poi, Value.pointer (some ⟨2, 0, none⟩), poi, Value.pointer (some ⟨3, 0, none⟩), poi, poi, Value.pointer (some ⟨4, 0, none⟩), Value.pointer (some ⟨6, 0, none⟩), poi, poi, poi, poi, poi, poi, poi, poi, poi, poi, poi, poi, poi, poi, poi, poi, poi, Value.func (Fn.func 60) #[] #[Value.pointer (some ⟨7, 0, none⟩), Value.pointer (some ⟨8, 0, none⟩)], poi, poi, poi, poi, poi, poi, poi, poi, poi, poi, poi, poi, poi, poi, poi, poi, poi, poi, poi, poi, poi, poi, poi, poi, poi, poi, poi, poi, poi, poi, poi, poi, poi] ∧ some (AObj.row e 5 true false true) :: some (AObj.row g 4 true false true) :: some z1 :: some z2 :: some (AObj.row [Value.int .i64 0, Value.int .i64 0, Value.slice (some ⟨5, 0, none⟩) 2 2] 0 false true false) :: some (AObj.row [Value.int .i64 0, Value.int .i64 0] 1 false true true) :: some (AObj.row [Value.bool false] 0 false true true) :: some (AObj.row [Value.int .i64 2] 0 false false true) :: some z0 :: noH = some (AObj.row e 5 true false true) :: some (AObj.row g 4 true false true) :: some z1 :: some z2 :: some (AObj.row [Value.int .i64 (bVa (pw21 v) (pc21 D) 0), Value.int .i64 0, Value.slice (some ⟨5, 0, none⟩) 2 2] 0 false true false) :: some (AObj.row [Value.int .i64 (bPl (pw21 v) (pc21 D) pf21 0 0), Value.int .i64 (bPl (pw21 v) (pc21 D) pf21 0 1)] 1 false true true) :: some (AObj.row [Value.bool (bSn (pw21 v) (pc21 D) 0)] 0 false true true) :: some (AObj.row [Value.int .i64 2] 0 false false true) :: some z0 :: noH ∧ [poi, Value.pointer (some ⟨2, 0, none⟩), poi, Value.pointer (some ⟨3, 0, none⟩), poi, poi, Value.pointer (some ⟨4, 0, none⟩), Value.pointer (some ⟨6, 0, none⟩), poi, poi, poi, poi, poi, poi, poi, poi, poi, poi, poi, poi, poi, poi, poi, poi, poi, Value.func (Fn.func 60) #[] #[Value.pointer (some ⟨7, 0, none⟩), Value.pointer (some ⟨8, 0, none⟩)], poi, poi, poi, poi, poi, poi, poi, poi, poi, poi, poi, poi, poi, poi, poi, poi, poi, poi, poi, poi, poi, poi, poi, poi, poi, poi, poi, poi, poi, poi, poi, poi, poi] = [poi, Value.pointer (some ⟨2, 0, none⟩), poi, Value.pointer (some ⟨3, 0, none⟩), poi, poi, Value.pointer (some ⟨4, 0, none⟩), Value.pointer (some ⟨6, 0, none⟩), poi, poi, poi, poi, poi, poi, poi, poi, poi, poi, poi, poi, poi, poi, poi, poi, poi, Value.func (Fn.func 60) #[] #[Value.pointer (some ⟨7, 0, none⟩), Value.pointer (some ⟨8, 0, none⟩)], poi, poi, poi, poi, poi, poi, poi, poi, poi, poi, poi, poi, poi, poi, poi, poi, poi, poi, poi, poi, poi, poi, poi, poi, poi, poi, poi, poi, poi, poi, poi, poi, poi] ∧ Is ((2 : Int) = (2 : Int)) ∧ Is True ∧ (∀ (i : Nat), Is True → Is (i < 4) → (Nat.blt 0 9 = true ∧ some (AObj.row e 5 true false true) = some (AObj.row e 5 true false true) ∧ Nat.blt 1 9 = true ∧ some (AObj.row g 4 true false true) = some (AObj.row g 4 true false true) ∧ Nat.blt 7 9 = true ∧ some (AObj.row [Value.int .i64 2] 0 false false true) = some (AObj.row [Value.int .i64 2] 0 false false true) ∧ Nat.blt 8 9 = true ∧ some z0 = some z0 ∧ True) ∧ Is ((isOf nm D v 2 1 1 e g ∧ [Value.int .i64 (q210 i), Value.int .i64 (q211 i)] = [Value.int .i64 (q210 i), Value.int .i64 (q211 i)] ∧ 2 = 2) ∧ plOk [q210 i, q211 i] 2 1 ∧ (0 : Int) ≤ v ∧ v ≤ (1000 : Int)) ∧ br (bSn (pw21 v) (pc21 D) i) (Is True ∧ br (!btr (v * cnP [q210 i, q211 i]) (0 : Int) (bVa (pw21 v) (pc21 D) i) (0 : Int)) (some (AObj.row e 5 true false true) :: some (AObj.row g 4 true false true) :: some z1 :: some z2 :: some (AObj.row [Value.int .i64 (bVa (pw21 v) (pc21 D) i), Value.int .i64 0, Value.slice (some ⟨5, 0, none⟩) 2 2] 0 false true false) :: some (AObj.row [Value.int .i64 (bPl (pw21 v) (pc21 D) pf21 i 0), Value.int .i64 (bPl (pw21 v) (pc21 D) pf21 i 1)] 1 false true true) :: some (AObj.row [Value.bool (bSn (pw21 v) (pc21 D) i)] 0 false true true) :: some (AObj.row [Value.int .i64 2] 0 false false true) :: some z0 :: noH = some (AObj.row e 5 true false true) :: some (AObj.row g 4 true false true) :: some z1 :: some z2 :: some (AObj.row [Value.int .i64 (bVa (pw21 v) (pc21 D) (i + 1)), Value.int .i64 0, Value.slice (some ⟨5, 0, none⟩) 2 2] 0 false true false) :: some (AObj.row [Value.int .i64 (bPl (pw21 v) (pc21 D) pf21 (i + 1) 0), Value.int .i64 (bPl (pw21 v) (pc21 D) pf21 (i + 1) 1)] 1 false true true) :: some (AObj.row [Value.bool (bSn (pw21 v) (pc21 D) (i + 1))] 0 false true true) :: some (AObj.row [Value.int .i64 2] 0 false false true) :: some z0 :: noH ∧ Is True) (Is ((isOf nm D v 2 1 1 e g ∧ [Value.int .i64 (q210 i), Value.int .i64 (q211 i)] = [Value.int .i64 (q210 i), Value.int .i64 (q211 i)] ∧ 2 = 2) ∧ plOk [q210 i, q211 i] 2 1) ∧ br (ckE D 1 2 1 [q210 i, q211 i] != (0 : Int)) (some (AObj.row e 5 true false true) :: some (AObj.row g 4 true false true) :: some z1 :: some z2 :: some (AObj.row [Value.int .i64 (bVa (pw21 v) (pc21 D) i), Value.int .i64 0, Value.slice (some ⟨5, 0, none⟩) 2 2] 0 false true false) :: some (AObj.row [Value.int .i64 (bPl (pw21 v) (pc21 D) pf21 i 0), Value.int .i64 (bPl (pw21 v) (pc21 D) pf21 i 1)] 1 false true true) :: some (AObj.row [Value.bool (bSn (pw21 v) (pc21 D) i)] 0 false true true) :: some (AObj.row [Value.int .i64 2] 0 false false true) :: some z0 :: noH = some (AObj.row e 5 true false true) :: some (AObj.row g 4 true false true) :: some z1 :: some z2 :: some (AObj.row [Value.int .i64 (bVa (pw21 v) (pc21 D) (i + 1)), Value.int .i64 0, Value.slice (some ⟨5, 0, none⟩) 2 2] 0 false true false) :: some (AObj.row [Value.int .i64 (bPl (pw21 v) (pc21 D) pf21 (i + 1) 0), Value.int .i64 (bPl (pw21 v) (pc21 D) pf21 (i + 1) 1)] 1 false true true) :: some (AObj.row [Value.bool (bSn (pw21 v) (pc21 D) (i + 1))] 0 false true true) :: some (AObj.row [Value.int .i64 2] 0 false false true) :: some z0 :: noH ∧ Is True) (some (AObj.row e 5 true false true) :: some (AObj.row g 4 true false true) :: some z1 :: some z2 :: some (AObj.row [Value.int .i64 (v * cnP [q210 i, q211 i]), Value.int .i64 0, Value.slice (some ⟨5, 0, none⟩) 2 2] 0 false true false) :: some (AObj.row [Value.int .i64 (q210 i), Value.int .i64 (q211 i)] 1 false true true) :: some (AObj.row [Value.bool true] 0 false true true) :: some (AObj.row [Value.int .i64 2] 0 false false true) :: some z0 :: noH = some (AObj.row e 5 true false true) :: some (AObj.row g 4 true false true) :: some z1 :: some z2 :: some (AObj.row [Value.int .i64 (bVa (pw21 v) (pc21 D) (i + 1)), Value.int .i64 0, Value.slice (some ⟨5, 0, none⟩) 2 2] 0 false true false) :: some (AObj.row [Value.int .i64 (bPl (pw21 v) (pc21 D) pf21 (i + 1) 0), Value.int .i64 (bPl (pw21 v) (pc21 D) pf21 (i + 1) 1)] 1 false true true) :: some (AObj.row [Value.bool (bSn (pw21 v) (pc21 D) (i + 1))] 0 false true true) :: some (AObj.row [Value.int .i64 2] 0 false false true) :: some z0 :: noH ∧ Is True))) (Is ((isOf nm D v 2 1 1 e g ∧ [Value.int .i64 (q210 i), Value.int .i64 (q211 i)] = [Value.int .i64 (q210 i), Value.int .i64 (q211 i)] ∧ 2 = 2) ∧ plOk [q210 i, q211 i] 2 1) ∧ br (ckE D 1 2 1 [q210 i, q211 i] != (0 : Int)) (some (AObj.row e 5 true false true) :: some (AObj.row g 4 true false true) :: some z1 :: some z2 :: some (AObj.row [Value.int .i64 (bVa (pw21 v) (pc21 D) i), Value.int .i64 0, Value.slice (some ⟨5, 0, none⟩) 2 2] 0 false true false) :: some (AObj.row [Value.int .i64 (bPl (pw21 v) (pc21 D) pf21 i 0), Value.int .i64 (bPl (pw21 v) (pc21 D) pf21 i 1)] 1 false true true) :: some (AObj.row [Value.bool (bSn (pw21 v) (pc21 D) i)] 0 false true true) :: some (AObj.row [Value.int .i64 2] 0 false false true) :: some z0 :: noH = some (AObj.row e 5 true false true) :: some (AObj.row g 4 true false true) :: some z1 :: some z2 :: some (AObj.row [Value.int .i64 (bVa (pw21 v) (pc21 D) (i + 1)), Value.int .i64 0, Value.slice (some ⟨5, 0, none⟩) 2 2] 0 false true false) :: some (AObj.row [Value.int .i64 (bPl (pw21 v) (pc21 D) pf21 (i + 1) 0), Value.int .i64 (bPl (pw21 v) (pc21 D) pf21 (i + 1) 1)] 1 false true true) :: some (AObj.row [Value.bool (bSn (pw21 v) (pc21 D) (i + 1))] 0 false true true) :: some (AObj.row [Value.int .i64 2] 0 false false true) :: some z0 :: noH ∧ Is True) (some (AObj.row e 5 true false true) :: some (AObj.row g 4 true false true) :: some z1 :: some z2 :: some (AObj.row [Value.int .i64 (v * cnP [q210 i, q211 i]), Value.int .i64 0, Value.slice (some ⟨5, 0, none⟩) 2 2] 0 false true false) :: some (AObj.row [Value.int .i64 (q210 i), Value.int .i64 (q211 i)] 1 false true true) :: some (AObj.row [Value.bool true] 0 false true true) :: some (AObj.row [Value.int .i64 2] 0 false false true) :: some z0 :: noH = some (AObj.row e 5 true false true) :: some (AObj.row g 4 true false true) :: some z1 :: some z2 :: some (AObj.row [Value.int .i64 (bVa (pw21 v) (pc21 D) (i + 1)), Value.int .i64 0, Value.slice (some ⟨5, 0, none⟩) 2 2] 0 false true false) :: some (AObj.row [Value.int .i64 (bPl (pw21 v) (pc21 D) pf21 (i + 1) 0), Value.int .i64 (bPl (pw21 v) (pc21 D) pf21 (i + 1) 1)] 1 false true true) :: some (AObj.row [Value.bool (bSn (pw21 v) (pc21 D) (i + 1))] 0 false true true) :: some (AObj.row [Value.int .i64 2] 0 false false true) :: some z0 :: noH ∧ Is True))) ∧ (Is True → (Nat.blt 0 9 = true ∧ some (AObj.row e 5 true false true) = some (AObj.row e 5 true false true) ∧ Nat.blt 1 9 = true ∧ some (AObj.row g 4 true false true) = some (AObj.row g 4 true false true) ∧ Nat.blt 7 9 = true ∧ some (AObj.row [Value.int .i64 2] 0 false false true) = some (AObj.row [Value.int .i64 2] 0 false false true) ∧ Nat.blt 8 9 = true ∧ some z0 = some z0 ∧ True) ∧ K0 (Value.tuple #[Value.slice (some ⟨2, 0, none⟩) 2 2, Value.agg #[Value.int .i64 (bVa (pw21 v) (pc21 D) 4), Value.int .i64 0], Value.int .i64 0]) (some (AObj.row e 5 true false true) :: some (AObj.row g 4 true false true) :: some (AObj.row [Value.int .i64 (bPl (pw21 v) (pc21 D) pf21 4 0), Value.int .i64 (bPl (pw21 v) (pc21 D) pf21 4 1)] 1 false true true) :: noH)) ∧ ∀ (s : Empty), Is False → True ∧ False)) := by kernel_rfl
noncomputable def itC33 : ItL Tryz.prog where
  gf := 60
  fn cap H := match cap, H with
    | [.pointer (some ⟨0, 0, none⟩), .pointer (some ⟨1, 0, none⟩)], [some (.row [.int .i64 n] 0 false false true), some (.row [.slice (some ⟨2, 0, none⟩) 3 _, .slice (some ⟨3, 0, none⟩) 3 _] 0 false false false), some (.row _ 5 true false true), some (.row _ 4 true false true)] => some (64, 3, pl33, n = 3)
    | _, _ => none
  ok := by
    intro cap H N len pl vc h hv
    split at h
    · cases h
      cases hv
      exact it33_ok _ _ _ _
    · cases h
noncomputable def hp33 (e g : List Value) (D : Nat → Int) (v : Int) (a b i : Nat) : Heap := [some (.row e 5 true false true), some (.row g 4 true false true), bxO 3 3 a b 0 1, b2 0 0,
  some (.row [.int .i64 (bVa (pw33 v) (pc33 D) i), .int .i64 0, .slice (some ⟨5, 0, none⟩) 3 3] 0 false true false), some (.row [.int .i64 (bPl (pw33 v) (pc33 D) pf33 i 0), .int .i64 (bPl (pw33 v) (pc33 D) pf33 i 1), .int .i64 (bPl (pw33 v) (pc33 D) pf33 i 2)] 1 false true true), some (.row [.bool (bSn (pw33 v) (pc33 D) i)] 0 false true true), some (.row [.int .i64 3] 0 false false true), some (.row [.slice (some ⟨0, 0, none⟩) 3 a, .slice (some ⟨1, 0, none⟩) 3 b] 0 false false false)]
noncomputable def rl33 (e g : List Value) (D : Nat → Int) (v : Int) (a b : Nat) : Rl Tryz.prog where
  it := itC33
  k := 9
  E := slots 59 [(1, .pointer (some ⟨2, 0, none⟩)), (3, .pointer (some ⟨3, 0, none⟩)), (6, .pointer (some ⟨4, 0, none⟩)), (7, .pointer (some ⟨6, 0, none⟩)), (25, .func (.func 60) #[] #[.pointer (some ⟨7, 0, none⟩), .pointer (some ⟨8, 0, none⟩)])]
  Hp := hp33 e g D v a b
noncomputable def hsP33 (e g : List Value) (nm : Nat → ByteArray) (D : Nat → Int) (v : Int) (a b : Nat) : Hs Tryz.prog where
  rl y := if y = 8 then some (rl33 e g D v a b) else none
  cl _ := keep 59 [1, 3, 6, 7, 25]
  sm := true
  au := auCalls [(28, hCa Tryz.prog 28 (orcOfC nm D v 0) (okOfC nm D v 0)), (31, hCa Tryz.prog 31 orcBt okBt), (30, hCa Tryz.prog 30 (orcToC nm D v 0) (okToC nm D v 0)), (32, hCa Tryz.prog 32 (orcCpC nm D v 0) (okCpC nm D v 0))]
theorem pn33_t (e : List Value) (g : List Value) (nm : Nat → ByteArray) (D : Nat → Int) (v : Int) (a : Nat) (b : Nat) (K0 : Value → Heap → Prop) :
    (fnP Tryz.prog c0 (hsP33 e g nm D v a b) (10 : FuncId) [off3 (3 : Nat) (3 : Nat) a b (0 : Nat) (1 : Nat)] [some (AObj.row e (5 : Nat) true false true), some (AObj.row g (4 : Nat) true false true)] K0) =
    (let z0 : AObj := AObj.row [Value.slice (some ⟨0, 0, none⟩) 3 a, Value.slice (some ⟨1, 0, none⟩) 3 b] 0 false false false; let z1 : AObj := AObj.row [Value.slice (some ⟨0, 0, none⟩) 3 a, Value.slice (some ⟨1, 0, none⟩) 3 b] 0 false true false; let z2 : AObj := AObj.row [Value.int .i64 0, Value.int .i64 0] 0 false true true; (Is (isOf nm D v 3 0 3 e g ∧ OfOk nm D v 3 0 3) ∧ [poi, Value.pointer (some ⟨2, 0, none⟩), poi, Value.pointer (some ⟨3, 0, none⟩), poi, poi, Value.pointer (some ⟨4, 0, none⟩), Value.pointer (some ⟨6, 0, none⟩), poi, poi, poi, poi, poi, poi, poi, poi, poi, poi, poi, poi, poi, poi, poi, poi, poi, Value.func (Fn.func 60) #[] #[Value.pointer (some ⟨7, 0, none⟩), Value.pointer (some ⟨8, 0, none⟩)], poi, poi, poi, poi, poi, poi, poi, poi, poi, poi, poi, poi, poi, poi, poi, poi, poi, poi, poi, poi, poi, poi, poi, poi, poi, poi, poi, poi, poi, poi, poi, poi, poi] = [poi, Value.pointer (some ⟨2, 0, none⟩), poi, Value.pointer (some ⟨3, 0, none⟩), poi, poi, Value.pointer (some ⟨4, 0, none⟩), Value.pointer (some ⟨6, 0, none⟩), poi, poi, poi, poi, poi, poi, poi, poi, poi, poi, poi, poi, poi, poi, poi, poi, poi, Value.func (Fn.func 60) #[] #[Value.pointer (some ⟨7, 0, none⟩), Value.pointer (some ⟨8, 0, none⟩)], poi, poi, poi, poi, poi, poi, poi, poi, poi, poi, poi, poi, poi, poi, poi, poi, poi, poi, poi, poi, poi, poi, poi, poi, poi, poi, poi, poi, poi, poi, poi, poi, poi] ∧ some (AObj.row e 5 true false true) :: some (AObj.row g 4 true false true) :: some z1 :: some z2 :: some (AObj.row [Value.int .i64 0, Value.int .i64 0, Value.slice (some ⟨5, 0, none⟩) 3 3] 0 false true false) :: some (AObj.row [Value.int .i64 0, Value.int .i64 0, Value.int .i64 0] 1 false true true) :: some (AObj.row [Value.bool false] 0 false true true) :: some (AObj.row [Value.int .i64 3] 0 false false true) :: some z0 :: noH = some (AObj.row e 5 true false true) :: some (AObj.row g 4 true false true) :: some z1 :: some z2 :: some (AObj.row [Value.int .i64 (bVa (pw33 v) (pc33 D) 0), Value.int .i64 0, Value.slice (some ⟨5, 0, none⟩) 3 3] 0 false true false) :: some (AObj.row [Value.int .i64 (bPl (pw33 v) (pc33 D) pf33 0 0), Value.int .i64 (bPl (pw33 v) (pc33 D) pf33 0 1), Value.int .i64 (bPl (pw33 v) (pc33 D) pf33 0 2)] 1 false true true) :: some (AObj.row [Value.bool (bSn (pw33 v) (pc33 D) 0)] 0 false true true) :: some (AObj.row [Value.int .i64 3] 0 false false true) :: some z0 :: noH ∧ [poi, Value.pointer (some ⟨2, 0, none⟩), poi, Value.pointer (some ⟨3, 0, none⟩), poi, poi, Value.pointer (some ⟨4, 0, none⟩), Value.pointer (some ⟨6, 0, none⟩), poi, poi, poi, poi, poi, poi, poi, poi, poi, poi, poi, poi, poi, poi, poi, poi, poi, Value.func (Fn.func 60) #[] #[Value.pointer (some ⟨7, 0, none⟩), Value.pointer (some ⟨8, 0, none⟩)], poi, poi, poi, poi, poi, poi, poi, poi, poi, poi, poi, poi, poi, poi, poi, poi, poi, poi, poi, poi, poi, poi, poi, poi, poi, poi, poi, poi, poi, poi, poi, poi, poi] = [poi, Value.pointer (some ⟨2, 0, none⟩), poi, Value.pointer (some ⟨3, 0, none⟩), poi, poi, Value.pointer (some ⟨4, 0, none⟩), Value.pointer (some ⟨6, 0, none⟩), poi, poi, poi, poi, poi, poi, poi, poi, poi, poi, poi, poi, poi, poi, poi, poi, poi, Value.func (Fn.func 60) #[] #[Value.pointer (some ⟨7, 0, none⟩), Value.pointer (some ⟨8, 0, none⟩)], poi, poi, poi, poi, poi, poi, poi, poi, poi, poi, poi, poi, poi, poi, poi, poi, poi, poi, poi, poi, poi, poi, poi, poi, poi, poi, poi, poi, poi, poi, poi, poi, poi] ∧ Is ((3 : Int) = (3 : Int)) ∧ Is True ∧ (∀ (i : Nat), Is True → Is (i < 64) → (Nat.blt 0 9 = true ∧ some (AObj.row e 5 true false true) = some (AObj.row e 5 true false true) ∧ Nat.blt 1 9 = true ∧ some (AObj.row g 4 true false true) = some (AObj.row g 4 true false true) ∧ Nat.blt 7 9 = true ∧ some (AObj.row [Value.int .i64 3] 0 false false true) = some (AObj.row [Value.int .i64 3] 0 false false true) ∧ Nat.blt 8 9 = true ∧ some z0 = some z0 ∧ True) ∧ Is ((isOf nm D v 3 0 3 e g ∧ [Value.int .i64 (q330 i), Value.int .i64 (q331 i), Value.int .i64 (q332 i)] = [Value.int .i64 (q330 i), Value.int .i64 (q331 i), Value.int .i64 (q332 i)] ∧ 3 = 3) ∧ plOk [q330 i, q331 i, q332 i] 3 3 ∧ (0 : Int) ≤ v ∧ v ≤ (1000 : Int)) ∧ br (bSn (pw33 v) (pc33 D) i) (Is True ∧ br (!btr (v * cnP [q330 i, q331 i, q332 i]) (0 : Int) (bVa (pw33 v) (pc33 D) i) (0 : Int)) (some (AObj.row e 5 true false true) :: some (AObj.row g 4 true false true) :: some z1 :: some z2 :: some (AObj.row [Value.int .i64 (bVa (pw33 v) (pc33 D) i), Value.int .i64 0, Value.slice (some ⟨5, 0, none⟩) 3 3] 0 false true false) :: some (AObj.row [Value.int .i64 (bPl (pw33 v) (pc33 D) pf33 i 0), Value.int .i64 (bPl (pw33 v) (pc33 D) pf33 i 1), Value.int .i64 (bPl (pw33 v) (pc33 D) pf33 i 2)] 1 false true true) :: some (AObj.row [Value.bool (bSn (pw33 v) (pc33 D) i)] 0 false true true) :: some (AObj.row [Value.int .i64 3] 0 false false true) :: some z0 :: noH = some (AObj.row e 5 true false true) :: some (AObj.row g 4 true false true) :: some z1 :: some z2 :: some (AObj.row [Value.int .i64 (bVa (pw33 v) (pc33 D) (i + 1)), Value.int .i64 0, Value.slice (some ⟨5, 0, none⟩) 3 3] 0 false true false) :: some (AObj.row [Value.int .i64 (bPl (pw33 v) (pc33 D) pf33 (i + 1) 0), Value.int .i64 (bPl (pw33 v) (pc33 D) pf33 (i + 1) 1), Value.int .i64 (bPl (pw33 v) (pc33 D) pf33 (i + 1) 2)] 1 false true true) :: some (AObj.row [Value.bool (bSn (pw33 v) (pc33 D) (i + 1))] 0 false true true) :: some (AObj.row [Value.int .i64 3] 0 false false true) :: some z0 :: noH ∧ Is True) (Is ((isOf nm D v 3 0 3 e g ∧ [Value.int .i64 (q330 i), Value.int .i64 (q331 i), Value.int .i64 (q332 i)] = [Value.int .i64 (q330 i), Value.int .i64 (q331 i), Value.int .i64 (q332 i)] ∧ 3 = 3) ∧ plOk [q330 i, q331 i, q332 i] 3 3) ∧ br (ckE D 0 3 3 [q330 i, q331 i, q332 i] != (0 : Int)) (some (AObj.row e 5 true false true) :: some (AObj.row g 4 true false true) :: some z1 :: some z2 :: some (AObj.row [Value.int .i64 (bVa (pw33 v) (pc33 D) i), Value.int .i64 0, Value.slice (some ⟨5, 0, none⟩) 3 3] 0 false true false) :: some (AObj.row [Value.int .i64 (bPl (pw33 v) (pc33 D) pf33 i 0), Value.int .i64 (bPl (pw33 v) (pc33 D) pf33 i 1), Value.int .i64 (bPl (pw33 v) (pc33 D) pf33 i 2)] 1 false true true) :: some (AObj.row [Value.bool (bSn (pw33 v) (pc33 D) i)] 0 false true true) :: some (AObj.row [Value.int .i64 3] 0 false false true) :: some z0 :: noH = some (AObj.row e 5 true false true) :: some (AObj.row g 4 true false true) :: some z1 :: some z2 :: some (AObj.row [Value.int .i64 (bVa (pw33 v) (pc33 D) (i + 1)), Value.int .i64 0, Value.slice (some ⟨5, 0, none⟩) 3 3] 0 false true false) :: some (AObj.row [Value.int .i64 (bPl (pw33 v) (pc33 D) pf33 (i + 1) 0), Value.int .i64 (bPl (pw33 v) (pc33 D) pf33 (i + 1) 1), Value.int .i64 (bPl (pw33 v) (pc33 D) pf33 (i + 1) 2)] 1 false true true) :: some (AObj.row [Value.bool (bSn (pw33 v) (pc33 D) (i + 1))] 0 false true true) :: some (AObj.row [Value.int .i64 3] 0 false false true) :: some z0 :: noH ∧ Is True) (some (AObj.row e 5 true false true) :: some (AObj.row g 4 true false true) :: some z1 :: some z2 :: some (AObj.row [Value.int .i64 (v * cnP [q330 i, q331 i, q332 i]), Value.int .i64 0, Value.slice (some ⟨5, 0, none⟩) 3 3] 0 false true false) :: some (AObj.row [Value.int .i64 (q330 i), Value.int .i64 (q331 i), Value.int .i64 (q332 i)] 1 false true true) :: some (AObj.row [Value.bool true] 0 false true true) :: some (AObj.row [Value.int .i64 3] 0 false false true) :: some z0 :: noH = some (AObj.row e 5 true false true) :: some (AObj.row g 4 true false true) :: some z1 :: some z2 :: some (AObj.row [Value.int .i64 (bVa (pw33 v) (pc33 D) (i + 1)), Value.int .i64 0, Value.slice (some ⟨5, 0, none⟩) 3 3] 0 false true false) :: some (AObj.row [Value.int .i64 (bPl (pw33 v) (pc33 D) pf33 (i + 1) 0), Value.int .i64 (bPl (pw33 v) (pc33 D) pf33 (i + 1) 1), Value.int .i64 (bPl (pw33 v) (pc33 D) pf33 (i + 1) 2)] 1 false true true) :: some (AObj.row [Value.bool (bSn (pw33 v) (pc33 D) (i + 1))] 0 false true true) :: some (AObj.row [Value.int .i64 3] 0 false false true) :: some z0 :: noH ∧ Is True))) (Is ((isOf nm D v 3 0 3 e g ∧ [Value.int .i64 (q330 i), Value.int .i64 (q331 i), Value.int .i64 (q332 i)] = [Value.int .i64 (q330 i), Value.int .i64 (q331 i), Value.int .i64 (q332 i)] ∧ 3 = 3) ∧ plOk [q330 i, q331 i, q332 i] 3 3) ∧ br (ckE D 0 3 3 [q330 i, q331 i, q332 i] != (0 : Int)) (some (AObj.row e 5 true false true) :: some (AObj.row g 4 true false true) :: some z1 :: some z2 :: some (AObj.row [Value.int .i64 (bVa (pw33 v) (pc33 D) i), Value.int .i64 0, Value.slice (some ⟨5, 0, none⟩) 3 3] 0 false true false) :: some (AObj.row [Value.int .i64 (bPl (pw33 v) (pc33 D) pf33 i 0), Value.int .i64 (bPl (pw33 v) (pc33 D) pf33 i 1), Value.int .i64 (bPl (pw33 v) (pc33 D) pf33 i 2)] 1 false true true) :: some (AObj.row [Value.bool (bSn (pw33 v) (pc33 D) i)] 0 false true true) :: some (AObj.row [Value.int .i64 3] 0 false false true) :: some z0 :: noH = some (AObj.row e 5 true false true) :: some (AObj.row g 4 true false true) :: some z1 :: some z2 :: some (AObj.row [Value.int .i64 (bVa (pw33 v) (pc33 D) (i + 1)), Value.int .i64 0, Value.slice (some ⟨5, 0, none⟩) 3 3] 0 false true false) :: some (AObj.row [Value.int .i64 (bPl (pw33 v) (pc33 D) pf33 (i + 1) 0), Value.int .i64 (bPl (pw33 v) (pc33 D) pf33 (i + 1) 1), Value.int .i64 (bPl (pw33 v) (pc33 D) pf33 (i + 1) 2)] 1 false true true) :: some (AObj.row [Value.bool (bSn (pw33 v) (pc33 D) (i + 1))] 0 false true true) :: some (AObj.row [Value.int .i64 3] 0 false false true) :: some z0 :: noH ∧ Is True) (some (AObj.row e 5 true false true) :: some (AObj.row g 4 true false true) :: some z1 :: some z2 :: some (AObj.row [Value.int .i64 (v * cnP [q330 i, q331 i, q332 i]), Value.int .i64 0, Value.slice (some ⟨5, 0, none⟩) 3 3] 0 false true false) :: some (AObj.row [Value.int .i64 (q330 i), Value.int .i64 (q331 i), Value.int .i64 (q332 i)] 1 false true true) :: some (AObj.row [Value.bool true] 0 false true true) :: some (AObj.row [Value.int .i64 3] 0 false false true) :: some z0 :: noH = some (AObj.row e 5 true false true) :: some (AObj.row g 4 true false true) :: some z1 :: some z2 :: some (AObj.row [Value.int .i64 (bVa (pw33 v) (pc33 D) (i + 1)), Value.int .i64 0, Value.slice (some ⟨5, 0, none⟩) 3 3] 0 false true false) :: some (AObj.row [Value.int .i64 (bPl (pw33 v) (pc33 D) pf33 (i + 1) 0), Value.int .i64 (bPl (pw33 v) (pc33 D) pf33 (i + 1) 1), Value.int .i64 (bPl (pw33 v) (pc33 D) pf33 (i + 1) 2)] 1 false true true) :: some (AObj.row [Value.bool (bSn (pw33 v) (pc33 D) (i + 1))] 0 false true true) :: some (AObj.row [Value.int .i64 3] 0 false false true) :: some z0 :: noH ∧ Is True))) ∧ (Is True → (Nat.blt 0 9 = true ∧ some (AObj.row e 5 true false true) = some (AObj.row e 5 true false true) ∧ Nat.blt 1 9 = true ∧ some (AObj.row g 4 true false true) = some (AObj.row g 4 true false true) ∧ Nat.blt 7 9 = true ∧ some (AObj.row [Value.int .i64 3] 0 false false true) = some (AObj.row [Value.int .i64 3] 0 false false true) ∧ Nat.blt 8 9 = true ∧ some z0 = some z0 ∧ True) ∧ K0 (Value.tuple #[Value.slice (some ⟨2, 0, none⟩) 3 3, Value.agg #[Value.int .i64 (bVa (pw33 v) (pc33 D) 64), Value.int .i64 0], Value.int .i64 0]) (some (AObj.row e 5 true false true) :: some (AObj.row g 4 true false true) :: some (AObj.row [Value.int .i64 (bPl (pw33 v) (pc33 D) pf33 64 0), Value.int .i64 (bPl (pw33 v) (pc33 D) pf33 64 1), Value.int .i64 (bPl (pw33 v) (pc33 D) pf33 64 2)] 1 false true true) :: noH)) ∧ ∀ (s : Empty), Is False → True ∧ False)) := by kernel_rfl
noncomputable def itC32 : ItL Tryz.prog where
  gf := 60
  fn cap H := match cap, H with
    | [.pointer (some ⟨0, 0, none⟩), .pointer (some ⟨1, 0, none⟩)], [some (.row [.int .i64 n] 0 false false true), some (.row [.slice (some ⟨2, 0, none⟩) 3 _, .slice (some ⟨3, 0, none⟩) 2 _] 0 false false false), some (.row _ 5 true false true), some (.row _ 4 true false true)] => some (27, 3, pl32, n = 3)
    | _, _ => none
  ok := by
    intro cap H N len pl vc h hv
    split at h
    · cases h
      cases hv
      exact it32_ok _ _ _ _
    · cases h
noncomputable def hp32 (e g : List Value) (D : Nat → Int) (v : Int) (a b i : Nat) : Heap := [some (.row e 5 true false true), some (.row g 4 true false true), bxO 3 2 a b 0 1, b2 0 0,
  some (.row [.int .i64 (bVa (pw32 v) (pc32 D) i), .int .i64 0, .slice (some ⟨5, 0, none⟩) 3 3] 0 false true false), some (.row [.int .i64 (bPl (pw32 v) (pc32 D) pf32 i 0), .int .i64 (bPl (pw32 v) (pc32 D) pf32 i 1), .int .i64 (bPl (pw32 v) (pc32 D) pf32 i 2)] 1 false true true), some (.row [.bool (bSn (pw32 v) (pc32 D) i)] 0 false true true), some (.row [.int .i64 3] 0 false false true), some (.row [.slice (some ⟨0, 0, none⟩) 3 a, .slice (some ⟨1, 0, none⟩) 2 b] 0 false false false)]
noncomputable def rl32 (e g : List Value) (D : Nat → Int) (v : Int) (a b : Nat) : Rl Tryz.prog where
  it := itC32
  k := 9
  E := slots 59 [(1, .pointer (some ⟨2, 0, none⟩)), (3, .pointer (some ⟨3, 0, none⟩)), (6, .pointer (some ⟨4, 0, none⟩)), (7, .pointer (some ⟨6, 0, none⟩)), (25, .func (.func 60) #[] #[.pointer (some ⟨7, 0, none⟩), .pointer (some ⟨8, 0, none⟩)])]
  Hp := hp32 e g D v a b
noncomputable def hsP32 (e g : List Value) (nm : Nat → ByteArray) (D : Nat → Int) (v : Int) (a b : Nat) : Hs Tryz.prog where
  rl y := if y = 8 then some (rl32 e g D v a b) else none
  cl _ := keep 59 [1, 3, 6, 7, 25]
  sm := true
  au := auCalls [(28, hCa Tryz.prog 28 (orcOfC nm D v 1) (okOfC nm D v 1)), (31, hCa Tryz.prog 31 orcBt okBt), (30, hCa Tryz.prog 30 (orcToC nm D v 1) (okToC nm D v 1)), (32, hCa Tryz.prog 32 (orcCpC nm D v 1) (okCpC nm D v 1))]
theorem pn32_t (e : List Value) (g : List Value) (nm : Nat → ByteArray) (D : Nat → Int) (v : Int) (a : Nat) (b : Nat) (K0 : Value → Heap → Prop) :
    (fnP Tryz.prog c0 (hsP32 e g nm D v a b) (10 : FuncId) [off3 (3 : Nat) (2 : Nat) a b (0 : Nat) (1 : Nat)] [some (AObj.row e (5 : Nat) true false true), some (AObj.row g (4 : Nat) true false true)] K0) =
    (let z0 : AObj := AObj.row [Value.slice (some ⟨0, 0, none⟩) 3 a, Value.slice (some ⟨1, 0, none⟩) 2 b] 0 false false false; let z1 : AObj := AObj.row [Value.slice (some ⟨0, 0, none⟩) 3 a, Value.slice (some ⟨1, 0, none⟩) 2 b] 0 false true false; let z2 : AObj := AObj.row [Value.int .i64 0, Value.int .i64 0] 0 false true true; (Is (isOf nm D v 3 1 2 e g ∧ OfOk nm D v 3 1 2) ∧ [poi, Value.pointer (some ⟨2, 0, none⟩), poi, Value.pointer (some ⟨3, 0, none⟩), poi, poi, Value.pointer (some ⟨4, 0, none⟩), Value.pointer (some ⟨6, 0, none⟩), poi, poi, poi, poi, poi, poi, poi, poi, poi, poi, poi, poi, poi, poi, poi, poi, poi, Value.func (Fn.func 60) #[] #[Value.pointer (some ⟨7, 0, none⟩), Value.pointer (some ⟨8, 0, none⟩)], poi, poi, poi, poi, poi, poi, poi, poi, poi, poi, poi, poi, poi, poi, poi, poi, poi, poi, poi, poi, poi, poi, poi, poi, poi, poi, poi, poi, poi, poi, poi, poi, poi] = [poi, Value.pointer (some ⟨2, 0, none⟩), poi, Value.pointer (some ⟨3, 0, none⟩), poi, poi, Value.pointer (some ⟨4, 0, none⟩), Value.pointer (some ⟨6, 0, none⟩), poi, poi, poi, poi, poi, poi, poi, poi, poi, poi, poi, poi, poi, poi, poi, poi, poi, Value.func (Fn.func 60) #[] #[Value.pointer (some ⟨7, 0, none⟩), Value.pointer (some ⟨8, 0, none⟩)], poi, poi, poi, poi, poi, poi, poi, poi, poi, poi, poi, poi, poi, poi, poi, poi, poi, poi, poi, poi, poi, poi, poi, poi, poi, poi, poi, poi, poi, poi, poi, poi, poi] ∧ some (AObj.row e 5 true false true) :: some (AObj.row g 4 true false true) :: some z1 :: some z2 :: some (AObj.row [Value.int .i64 0, Value.int .i64 0, Value.slice (some ⟨5, 0, none⟩) 3 3] 0 false true false) :: some (AObj.row [Value.int .i64 0, Value.int .i64 0, Value.int .i64 0] 1 false true true) :: some (AObj.row [Value.bool false] 0 false true true) :: some (AObj.row [Value.int .i64 3] 0 false false true) :: some z0 :: noH = some (AObj.row e 5 true false true) :: some (AObj.row g 4 true false true) :: some z1 :: some z2 :: some (AObj.row [Value.int .i64 (bVa (pw32 v) (pc32 D) 0), Value.int .i64 0, Value.slice (some ⟨5, 0, none⟩) 3 3] 0 false true false) :: some (AObj.row [Value.int .i64 (bPl (pw32 v) (pc32 D) pf32 0 0), Value.int .i64 (bPl (pw32 v) (pc32 D) pf32 0 1), Value.int .i64 (bPl (pw32 v) (pc32 D) pf32 0 2)] 1 false true true) :: some (AObj.row [Value.bool (bSn (pw32 v) (pc32 D) 0)] 0 false true true) :: some (AObj.row [Value.int .i64 3] 0 false false true) :: some z0 :: noH ∧ [poi, Value.pointer (some ⟨2, 0, none⟩), poi, Value.pointer (some ⟨3, 0, none⟩), poi, poi, Value.pointer (some ⟨4, 0, none⟩), Value.pointer (some ⟨6, 0, none⟩), poi, poi, poi, poi, poi, poi, poi, poi, poi, poi, poi, poi, poi, poi, poi, poi, poi, Value.func (Fn.func 60) #[] #[Value.pointer (some ⟨7, 0, none⟩), Value.pointer (some ⟨8, 0, none⟩)], poi, poi, poi, poi, poi, poi, poi, poi, poi, poi, poi, poi, poi, poi, poi, poi, poi, poi, poi, poi, poi, poi, poi, poi, poi, poi, poi, poi, poi, poi, poi, poi, poi] = [poi, Value.pointer (some ⟨2, 0, none⟩), poi, Value.pointer (some ⟨3, 0, none⟩), poi, poi, Value.pointer (some ⟨4, 0, none⟩), Value.pointer (some ⟨6, 0, none⟩), poi, poi, poi, poi, poi, poi, poi, poi, poi, poi, poi, poi, poi, poi, poi, poi, poi, Value.func (Fn.func 60) #[] #[Value.pointer (some ⟨7, 0, none⟩), Value.pointer (some ⟨8, 0, none⟩)], poi, poi, poi, poi, poi, poi, poi, poi, poi, poi, poi, poi, poi, poi, poi, poi, poi, poi, poi, poi, poi, poi, poi, poi, poi, poi, poi, poi, poi, poi, poi, poi, poi] ∧ Is ((3 : Int) = (3 : Int)) ∧ Is True ∧ (∀ (i : Nat), Is True → Is (i < 27) → (Nat.blt 0 9 = true ∧ some (AObj.row e 5 true false true) = some (AObj.row e 5 true false true) ∧ Nat.blt 1 9 = true ∧ some (AObj.row g 4 true false true) = some (AObj.row g 4 true false true) ∧ Nat.blt 7 9 = true ∧ some (AObj.row [Value.int .i64 3] 0 false false true) = some (AObj.row [Value.int .i64 3] 0 false false true) ∧ Nat.blt 8 9 = true ∧ some z0 = some z0 ∧ True) ∧ Is ((isOf nm D v 3 1 2 e g ∧ [Value.int .i64 (q320 i), Value.int .i64 (q321 i), Value.int .i64 (q322 i)] = [Value.int .i64 (q320 i), Value.int .i64 (q321 i), Value.int .i64 (q322 i)] ∧ 3 = 3) ∧ plOk [q320 i, q321 i, q322 i] 3 2 ∧ (0 : Int) ≤ v ∧ v ≤ (1000 : Int)) ∧ br (bSn (pw32 v) (pc32 D) i) (Is True ∧ br (!btr (v * cnP [q320 i, q321 i, q322 i]) (0 : Int) (bVa (pw32 v) (pc32 D) i) (0 : Int)) (some (AObj.row e 5 true false true) :: some (AObj.row g 4 true false true) :: some z1 :: some z2 :: some (AObj.row [Value.int .i64 (bVa (pw32 v) (pc32 D) i), Value.int .i64 0, Value.slice (some ⟨5, 0, none⟩) 3 3] 0 false true false) :: some (AObj.row [Value.int .i64 (bPl (pw32 v) (pc32 D) pf32 i 0), Value.int .i64 (bPl (pw32 v) (pc32 D) pf32 i 1), Value.int .i64 (bPl (pw32 v) (pc32 D) pf32 i 2)] 1 false true true) :: some (AObj.row [Value.bool (bSn (pw32 v) (pc32 D) i)] 0 false true true) :: some (AObj.row [Value.int .i64 3] 0 false false true) :: some z0 :: noH = some (AObj.row e 5 true false true) :: some (AObj.row g 4 true false true) :: some z1 :: some z2 :: some (AObj.row [Value.int .i64 (bVa (pw32 v) (pc32 D) (i + 1)), Value.int .i64 0, Value.slice (some ⟨5, 0, none⟩) 3 3] 0 false true false) :: some (AObj.row [Value.int .i64 (bPl (pw32 v) (pc32 D) pf32 (i + 1) 0), Value.int .i64 (bPl (pw32 v) (pc32 D) pf32 (i + 1) 1), Value.int .i64 (bPl (pw32 v) (pc32 D) pf32 (i + 1) 2)] 1 false true true) :: some (AObj.row [Value.bool (bSn (pw32 v) (pc32 D) (i + 1))] 0 false true true) :: some (AObj.row [Value.int .i64 3] 0 false false true) :: some z0 :: noH ∧ Is True) (Is ((isOf nm D v 3 1 2 e g ∧ [Value.int .i64 (q320 i), Value.int .i64 (q321 i), Value.int .i64 (q322 i)] = [Value.int .i64 (q320 i), Value.int .i64 (q321 i), Value.int .i64 (q322 i)] ∧ 3 = 3) ∧ plOk [q320 i, q321 i, q322 i] 3 2) ∧ br (ckE D 1 3 2 [q320 i, q321 i, q322 i] != (0 : Int)) (some (AObj.row e 5 true false true) :: some (AObj.row g 4 true false true) :: some z1 :: some z2 :: some (AObj.row [Value.int .i64 (bVa (pw32 v) (pc32 D) i), Value.int .i64 0, Value.slice (some ⟨5, 0, none⟩) 3 3] 0 false true false) :: some (AObj.row [Value.int .i64 (bPl (pw32 v) (pc32 D) pf32 i 0), Value.int .i64 (bPl (pw32 v) (pc32 D) pf32 i 1), Value.int .i64 (bPl (pw32 v) (pc32 D) pf32 i 2)] 1 false true true) :: some (AObj.row [Value.bool (bSn (pw32 v) (pc32 D) i)] 0 false true true) :: some (AObj.row [Value.int .i64 3] 0 false false true) :: some z0 :: noH = some (AObj.row e 5 true false true) :: some (AObj.row g 4 true false true) :: some z1 :: some z2 :: some (AObj.row [Value.int .i64 (bVa (pw32 v) (pc32 D) (i + 1)), Value.int .i64 0, Value.slice (some ⟨5, 0, none⟩) 3 3] 0 false true false) :: some (AObj.row [Value.int .i64 (bPl (pw32 v) (pc32 D) pf32 (i + 1) 0), Value.int .i64 (bPl (pw32 v) (pc32 D) pf32 (i + 1) 1), Value.int .i64 (bPl (pw32 v) (pc32 D) pf32 (i + 1) 2)] 1 false true true) :: some (AObj.row [Value.bool (bSn (pw32 v) (pc32 D) (i + 1))] 0 false true true) :: some (AObj.row [Value.int .i64 3] 0 false false true) :: some z0 :: noH ∧ Is True) (some (AObj.row e 5 true false true) :: some (AObj.row g 4 true false true) :: some z1 :: some z2 :: some (AObj.row [Value.int .i64 (v * cnP [q320 i, q321 i, q322 i]), Value.int .i64 0, Value.slice (some ⟨5, 0, none⟩) 3 3] 0 false true false) :: some (AObj.row [Value.int .i64 (q320 i), Value.int .i64 (q321 i), Value.int .i64 (q322 i)] 1 false true true) :: some (AObj.row [Value.bool true] 0 false true true) :: some (AObj.row [Value.int .i64 3] 0 false false true) :: some z0 :: noH = some (AObj.row e 5 true false true) :: some (AObj.row g 4 true false true) :: some z1 :: some z2 :: some (AObj.row [Value.int .i64 (bVa (pw32 v) (pc32 D) (i + 1)), Value.int .i64 0, Value.slice (some ⟨5, 0, none⟩) 3 3] 0 false true false) :: some (AObj.row [Value.int .i64 (bPl (pw32 v) (pc32 D) pf32 (i + 1) 0), Value.int .i64 (bPl (pw32 v) (pc32 D) pf32 (i + 1) 1), Value.int .i64 (bPl (pw32 v) (pc32 D) pf32 (i + 1) 2)] 1 false true true) :: some (AObj.row [Value.bool (bSn (pw32 v) (pc32 D) (i + 1))] 0 false true true) :: some (AObj.row [Value.int .i64 3] 0 false false true) :: some z0 :: noH ∧ Is True))) (Is ((isOf nm D v 3 1 2 e g ∧ [Value.int .i64 (q320 i), Value.int .i64 (q321 i), Value.int .i64 (q322 i)] = [Value.int .i64 (q320 i), Value.int .i64 (q321 i), Value.int .i64 (q322 i)] ∧ 3 = 3) ∧ plOk [q320 i, q321 i, q322 i] 3 2) ∧ br (ckE D 1 3 2 [q320 i, q321 i, q322 i] != (0 : Int)) (some (AObj.row e 5 true false true) :: some (AObj.row g 4 true false true) :: some z1 :: some z2 :: some (AObj.row [Value.int .i64 (bVa (pw32 v) (pc32 D) i), Value.int .i64 0, Value.slice (some ⟨5, 0, none⟩) 3 3] 0 false true false) :: some (AObj.row [Value.int .i64 (bPl (pw32 v) (pc32 D) pf32 i 0), Value.int .i64 (bPl (pw32 v) (pc32 D) pf32 i 1), Value.int .i64 (bPl (pw32 v) (pc32 D) pf32 i 2)] 1 false true true) :: some (AObj.row [Value.bool (bSn (pw32 v) (pc32 D) i)] 0 false true true) :: some (AObj.row [Value.int .i64 3] 0 false false true) :: some z0 :: noH = some (AObj.row e 5 true false true) :: some (AObj.row g 4 true false true) :: some z1 :: some z2 :: some (AObj.row [Value.int .i64 (bVa (pw32 v) (pc32 D) (i + 1)), Value.int .i64 0, Value.slice (some ⟨5, 0, none⟩) 3 3] 0 false true false) :: some (AObj.row [Value.int .i64 (bPl (pw32 v) (pc32 D) pf32 (i + 1) 0), Value.int .i64 (bPl (pw32 v) (pc32 D) pf32 (i + 1) 1), Value.int .i64 (bPl (pw32 v) (pc32 D) pf32 (i + 1) 2)] 1 false true true) :: some (AObj.row [Value.bool (bSn (pw32 v) (pc32 D) (i + 1))] 0 false true true) :: some (AObj.row [Value.int .i64 3] 0 false false true) :: some z0 :: noH ∧ Is True) (some (AObj.row e 5 true false true) :: some (AObj.row g 4 true false true) :: some z1 :: some z2 :: some (AObj.row [Value.int .i64 (v * cnP [q320 i, q321 i, q322 i]), Value.int .i64 0, Value.slice (some ⟨5, 0, none⟩) 3 3] 0 false true false) :: some (AObj.row [Value.int .i64 (q320 i), Value.int .i64 (q321 i), Value.int .i64 (q322 i)] 1 false true true) :: some (AObj.row [Value.bool true] 0 false true true) :: some (AObj.row [Value.int .i64 3] 0 false false true) :: some z0 :: noH = some (AObj.row e 5 true false true) :: some (AObj.row g 4 true false true) :: some z1 :: some z2 :: some (AObj.row [Value.int .i64 (bVa (pw32 v) (pc32 D) (i + 1)), Value.int .i64 0, Value.slice (some ⟨5, 0, none⟩) 3 3] 0 false true false) :: some (AObj.row [Value.int .i64 (bPl (pw32 v) (pc32 D) pf32 (i + 1) 0), Value.int .i64 (bPl (pw32 v) (pc32 D) pf32 (i + 1) 1), Value.int .i64 (bPl (pw32 v) (pc32 D) pf32 (i + 1) 2)] 1 false true true) :: some (AObj.row [Value.bool (bSn (pw32 v) (pc32 D) (i + 1))] 0 false true true) :: some (AObj.row [Value.int .i64 3] 0 false false true) :: some z0 :: noH ∧ Is True))) ∧ (Is True → (Nat.blt 0 9 = true ∧ some (AObj.row e 5 true false true) = some (AObj.row e 5 true false true) ∧ Nat.blt 1 9 = true ∧ some (AObj.row g 4 true false true) = some (AObj.row g 4 true false true) ∧ Nat.blt 7 9 = true ∧ some (AObj.row [Value.int .i64 3] 0 false false true) = some (AObj.row [Value.int .i64 3] 0 false false true) ∧ Nat.blt 8 9 = true ∧ some z0 = some z0 ∧ True) ∧ K0 (Value.tuple #[Value.slice (some ⟨2, 0, none⟩) 3 3, Value.agg #[Value.int .i64 (bVa (pw32 v) (pc32 D) 27), Value.int .i64 0], Value.int .i64 0]) (some (AObj.row e 5 true false true) :: some (AObj.row g 4 true false true) :: some (AObj.row [Value.int .i64 (bPl (pw32 v) (pc32 D) pf32 27 0), Value.int .i64 (bPl (pw32 v) (pc32 D) pf32 27 1), Value.int .i64 (bPl (pw32 v) (pc32 D) pf32 27 2)] 1 false true true) :: noH)) ∧ ∀ (s : Empty), Is False → True ∧ False)) := by kernel_rfl
theorem bs_no {w ck : Nat → Int} {f : Nat → List Int} {i : Nat} (h : upB (bSn w ck i) (bVa w ck i) (w i) (ck i) = false) : bSn w ck (i + 1) = bSn w ck i ∧ bVa w ck (i + 1) = bVa w ck i ∧ ∀ j, bPl w ck f (i + 1) j = bPl w ck f i j := by
  have h' : ¬ upB (bSt w ck i).1 (bSt w ck i).2 (w i) (ck i) = true := by rw [bSn, bVa] at h; rw [h]; decide
  exact ⟨by rw [bSn, bSt, if_neg h', bSn], by rw [bVa, bSt, if_neg h', bVa], fun j => by rw [bPl, if_neg h']⟩
theorem bs_yes {w ck : Nat → Int} {f : Nat → List Int} {i : Nat} (h : upB (bSn w ck i) (bVa w ck i) (w i) (ck i) = true) : bSn w ck (i + 1) = true ∧ bVa w ck (i + 1) = w i ∧ ∀ j, bPl w ck f (i + 1) j = (f i).getD j 0 := by
  have h' : upB (bSt w ck i).1 (bSt w ck i).2 (w i) (ck i) = true := h
  exact ⟨by rw [bSn, bSt, if_pos h'], by rw [bVa, bSt, if_pos h'], fun j => by rw [bPl, if_pos h']⟩
theorem bt_0 (w V : Int) : btr w 0 V 0 = decide (V < w) := by
  rw [btr, show decide ((0 : Int) < 0) = false from rfl, Bool.and_false, Bool.or_false]
theorem up_iff {sn : Bool} {V w ck : Int} : upB sn V w ck = true ↔ ck = 0 ∧ (sn = true → V < w) := by
  rw [upB, bt_0]
  by_cases h1 : ck = 0
  · by_cases h2 : V < w
    · cases sn
      · simp [h1]
      · simp [h1, h2]
    · cases sn
      · simp [h1]
      · simp [h1, h2]
  · simp [h1]
theorem up_no {sn : Bool} {V w ck : Int} (h : ck = 0 → (sn = true → V < w) → False) : upB sn V w ck = false := by
  rw [Bool.eq_false_iff]; intro hx; exact h (up_iff.1 hx).1 (up_iff.1 hx).2
theorem bs_inv {w ck : Nat → Int} {M : Int} {T : Nat} (hle : ∀ i, i < T → ck i = 0 → w i ≤ M) : ∀ t, t ≤ T → (bSn w ck t = true → bVa w ck t ≤ M) ∧ ∀ i, i < t → ck i = 0 → bSn w ck t = true ∧ w i ≤ bVa w ck t
  | 0, _ => ⟨fun h => (by cases h), fun i h => (by omega)⟩
  | t + 1, ht => by
    obtain ⟨h1, h2⟩ := bs_inv hle t (by omega)
    cases hu : upB (bSn w ck t) (bVa w ck t) (w t) (ck t) with
    | true =>
      obtain ⟨e1, e2, _⟩ := bs_yes (f := fun _ => []) hu
      obtain ⟨u1, u2⟩ := up_iff.1 hu
      rw [e1, e2]
      refine ⟨fun _ => hle t (by omega) u1, fun i hi hc => ⟨rfl, ?_⟩⟩
      rcases (by omega : i = t ∨ i < t) with rfl | hi
      · exact Int.le_refl _
      · obtain ⟨k1, k2⟩ := h2 i hi hc
        have := u2 k1
        omega
    | false =>
      obtain ⟨e1, e2, _⟩ := bs_no (f := fun _ => []) hu
      rw [e1, e2]
      refine ⟨h1, fun i hi hc => ?_⟩
      rcases (by omega : i = t ∨ i < t) with rfl | hi
      · have hn : ¬ (ck i = 0 ∧ (bSn w ck i = true → bVa w ck i < w i)) := fun h => by rw [up_iff.2 h] at hu; cases hu
        cases hs : bSn w ck i with
        | false => exact absurd ⟨hc, fun h => by rw [hs] at h; cases h⟩ hn
        | true =>
          refine ⟨rfl, ?_⟩
          rcases Int.lt_or_le (bVa w ck i) (w i) with h | h
          · exact absurd ⟨hc, fun _ => h⟩ hn
          · exact h
      · exact h2 i hi hc
theorem best_eq {w ck : Nat → Int} {M : Int} {T i0 : Nat} (hle : ∀ i, i < T → ck i = 0 → w i ≤ M) (h0 : i0 < T) (h1 : ck i0 = 0) (h2 : w i0 = M) : bVa w ck T = M := by
  obtain ⟨a, b⟩ := bs_inv hle T (Nat.le_refl _)
  obtain ⟨c, d⟩ := b i0 h0 h1
  have := a c
  omega
noncomputable def suU (P : List Int) : Nat → Int
  | 0 => 0
  | k + 1 => suU P k + usP k P
theorem su_cons (p : Int) (r : List Int) : ∀ k : Nat, suU (p :: r) k = (if 0 ≤ p ∧ p < k then 1 else 0) + suU r k
  | 0 => by rw [suU, suU, if_neg (by omega)] <;> rfl
  | k + 1 => by
    rw [suU, suU, su_cons p r k, usP]
    by_cases h : p = k
    · rw [if_pos h, if_neg (by omega), if_pos (by omega)]; omega
    · rw [if_neg h]
      by_cases h2 : 0 ≤ p ∧ p < k
      · rw [if_pos h2, if_pos (by omega)]; omega
      · rw [if_neg h2, if_neg (by omega)]; omega
theorem cn_su {K : Nat} : ∀ P : List Int, (∀ x ∈ P, x < K) → cnP P = suU P K
  | [], _ => by
    have : ∀ k, suU [] k = 0 := fun k => by
      induction k with
      | zero => rfl
      | succ k ih => rw [suU, ih] <;> rfl
    rw [this] <;> rfl
  | p :: r, h => by
    rw [su_cons, cnP, cn_su r fun x hx => h x (List.mem_cons_of_mem _ hx)]
    have := h p (List.mem_cons_self ..)
    by_cases hp : 0 ≤ p
    · rw [if_pos hp, if_pos ⟨hp, this⟩]
    · rw [if_neg hp, if_neg (by omega)]
theorem su_le {P : List Int} : ∀ {K : Nat}, (∀ k, k < K → usP k P ≤ 1) → suU P K ≤ K
  | 0, _ => by rw [suU]; exact Int.le_refl _
  | k + 1, h => by
    have h1 := su_le fun j hj => h j (Nat.lt_succ_of_lt hj)
    have h2 := h k (Nat.lt_succ_self k)
    rw [suU]; omega
theorem ck_zero {D : Nat → Int} {s N K : Nat} {P : List Int} (hp : plOk P N K) (h : ckE D s N K P = 0) : cnP P ≤ K := by
  have h2 : errs (cf2 P) 0 K = 0 := by
    rw [ckE, sel] at h
    split at h
    · exact h
    · rename_i h0; exact absurd h h0
  rw [cn_su (K := K) P fun x hx => ?_]
  · refine su_le fun k hk => ?_
    have := errs_zero h2 k (Nat.zero_le _) (by omega)
    rw [cf2] at this
    by_cases hc : 1 - usP k P < 0
    · rw [decide_eq_true hc] at this
      exact absurd this (by decide)
    · omega
  · obtain ⟨i, hi, rfl⟩ := List.getElem_of_mem hx
    have := hp.2.2.2 i (by rw [← hp.1]; exact hi)
    rw [List.getD_eq_getElem?_getD, List.getElem?_eq_getElem hi] at this
    exact this.2
theorem ckz_ok {D : Nat → Int} {s N K : Nat} {P : List Int} (h1 : ∀ i, i < N → 0 ≤ P.getD i 0 → inTm D s i (P.getD i 0) = true) (h2 : ∀ k, k < K → usP k P ≤ 1) : ckE D s N K P = 0 := by
  have e1 : errs (cf1 D s P) 0 N = 0 := errs_all fun i _ hi => by
    rw [cf1, if_neg]
    rintro ⟨a, b⟩
    rw [h1 i (by omega) a] at b; cases b
  rw [ckE, e1, se_ok rfl]
  exact errs_all fun k _ hk => by
    rw [cf2, decide_eq_false (by have := h2 k (by omega); omega)] <;> rfl
theorem in_same {D : Nat → Int} {s : Nat} {i k : Int} (h : s + k.toNat = i.toNat) : inTm D s i k = true := by
  rw [inTm, h]; exact decide_eq_true (Int.le_refl _)
theorem plo11 (i : Nat) : plOk (pf11 i) 1 1 := by
  refine ⟨rfl, by decide, by decide, fun j hj => ?_⟩
  match j, hj with
  | 0, _ => show -1 ≤ q110 i ∧ q110 i < 1; rw [q110]; omega
  | x + 1, hx => exact absurd hx (by omega)
theorem best11 (D : Nat → Int) (v : Int) (hv : 0 ≤ v) : bVa (pw11 v) (pc11 D) 2 = v * 1 := by
  refine best_eq (i0 := 1) (fun i hi hc => ?_) (by decide) ?_ ?_
  · have := ck_zero (plo11 i) hc
    rw [pw11]
    exact Int.mul_le_mul_of_nonneg_left this hv
  · refine ckz_ok (fun j hj h => ?_) (fun k hk => ?_)
    · match j, hj with
      | 0, _ => exact in_same rfl
      | x + 1, hx => exact absurd hx (by omega)
    · match k, hk with
      | 0, _ => decide
      | x + 1, hx => exact absurd hx (by omega)
  · rw [pw11]
    rfl
theorem plan11_ok' {nm : Nat → ByteArray} {D : Nat → Int} {v : Int} {a b : Nat} (h : OfOk nm D v 1 0 1) :
    SmallRes Tryz.prog 10 [off3 1 1 a b 0 1] [rSe nm D v 1, rSh D 0 1] (.tuple #[.slice (some ⟨2, 0, none⟩) 1 1, .agg #[.int .i64 (v * 1), .int .i64 0], .int .i64 0]) [rSe nm D v 1, rSh D 0 1, some (.row [.int .i64 (bPl (pw11 v) (pc11 D) pf11 2 0)] 1 false true true)] := by
  rw [← best11 D v h.v.1]
  refine fnP_res hm c0_ok (hs := hsP11 (seC nm D v 1) (shC D 0 1) nm D v a b) ?_
  show fnP Tryz.prog c0 _ 10 _ [some (.row (seC nm D v 1) 5 true false true), some (.row (shC D 0 1) 4 true false true)] _
  rw [pn11_t]
  have o : isOf nm D v 1 0 1 (seC nm D v 1) (shC D 0 1) := ⟨rfl, rfl⟩
  refine ⟨⟨o, h⟩, rfl, rfl, rfl, ⟨rfl⟩, ⟨trivial⟩, fun i _ _ => ⟨⟨rfl, rfl, rfl, rfl, rfl, rfl, rfl, rfl, trivial⟩, ⟨⟨o, rfl, rfl⟩, plo11 i, h.v⟩, br_of (fun hs => ⟨⟨trivial⟩, br_of (fun hb => ?_) (fun hb => ⟨⟨⟨o, rfl, rfl⟩, plo11 i⟩, br_of (fun hc => ?_) (fun hc => ?_)⟩)⟩) (fun hs => ⟨⟨⟨o, rfl, rfl⟩, plo11 i⟩, br_of (fun hc => ?_) (fun hc => ?_)⟩)⟩, fun _ => ⟨⟨rfl, rfl, rfl, rfl, rfl, rfl, rfl, rfl, trivial⟩, rfl, rfl⟩, fun s _ => s.elim⟩
  · rw [bt_0] at hb
    have hb : (!decide (bVa (pw11 v) (pc11 D) i < pw11 v i)) = true := hb
    have hu : upB (bSn (pw11 v) (pc11 D) i) (bVa (pw11 v) (pc11 D) i) (pw11 v i) (pc11 D i) = false := up_no fun _ x2 => absurd (x2 hs) (by simpa using hb)
    obtain ⟨e1, e2, e3⟩ := bs_no (f := pf11) hu
    rw [e1, e2, e3 0]
    exact ⟨rfl, ⟨trivial⟩⟩
  · have hc : (pc11 D i != 0) = true := hc
    have hu : upB (bSn (pw11 v) (pc11 D) i) (bVa (pw11 v) (pc11 D) i) (pw11 v i) (pc11 D i) = false := up_no fun x1 _ => absurd x1 (bne_iff_ne.1 hc)
    obtain ⟨e1, e2, e3⟩ := bs_no (f := pf11) hu
    rw [e1, e2, e3 0]
    exact ⟨rfl, ⟨trivial⟩⟩
  · rw [bt_0] at hb
    have hb : (!decide (bVa (pw11 v) (pc11 D) i < pw11 v i)) = false := hb
    have hc : (pc11 D i != 0) = false := hc
    have hu : upB (bSn (pw11 v) (pc11 D) i) (bVa (pw11 v) (pc11 D) i) (pw11 v i) (pc11 D i) = true := up_iff.2 ⟨bne_eq_false_iff_eq.1 hc, fun _ => by simpa using hb⟩
    obtain ⟨e1, e2, e3⟩ := bs_yes (f := pf11) hu
    rw [e1, e2, e3 0]
    exact ⟨rfl, ⟨trivial⟩⟩
  · have hc : (pc11 D i != 0) = true := hc
    have hu : upB (bSn (pw11 v) (pc11 D) i) (bVa (pw11 v) (pc11 D) i) (pw11 v i) (pc11 D i) = false := up_no fun x1 _ => absurd x1 (bne_iff_ne.1 hc)
    obtain ⟨e1, e2, e3⟩ := bs_no (f := pf11) hu
    rw [e1, e2, e3 0]
    exact ⟨rfl, ⟨trivial⟩⟩
  · have hc : (pc11 D i != 0) = false := hc
    have hu : upB (bSn (pw11 v) (pc11 D) i) (bVa (pw11 v) (pc11 D) i) (pw11 v i) (pc11 D i) = true := up_iff.2 ⟨bne_eq_false_iff_eq.1 hc, fun x => by rw [hs] at x; cases x⟩
    obtain ⟨e1, e2, e3⟩ := bs_yes (f := pf11) hu
    rw [e1, e2, e3 0]
    exact ⟨rfl, ⟨trivial⟩⟩
theorem plan11_ok {nm : Nat → ByteArray} {D : Nat → Int} {v : Int} {a b : Nat} (h : OfOk nm D v 1 0 1) :
    SmallRes Tryz.prog 10 [off3 1 1 a b 0 1] [some (.row (seC nm D v 1) 5 true true true), some (.row (shC D 0 1) 4 true true true)] (.tuple #[.slice (some ⟨2, 0, none⟩) 1 1, .agg #[.int .i64 (v * 1), .int .i64 0], .int .i64 0]) [some (.row (seC nm D v 1) 5 true true true), some (.row (shC D 0 1) 4 true true true), some (.row [.int .i64 (bPl (pw11 v) (pc11 D) pf11 2 0)] 1 false true true)] :=
  regain [0, 1] (H := [some (.row (seC nm D v 1) 5 true true true), some (.row (shC D 0 1) 4 true true true)]) (plan11_ok' h) rfl rfl
theorem plo10 (i : Nat) : plOk (pf10 i) 1 0 := by
  refine ⟨rfl, by decide, by decide, fun j hj => ?_⟩
  match j, hj with
  | 0, _ => show -1 ≤ q100 i ∧ q100 i < 0; rw [q100]; omega
  | x + 1, hx => exact absurd hx (by omega)
theorem best10 (D : Nat → Int) (v : Int) (hv : 0 ≤ v) : bVa (pw10 v) (pc10 D) 1 = v * 0 := by
  refine best_eq (i0 := 0) (fun i hi hc => ?_) (by decide) ?_ ?_
  · have := ck_zero (plo10 i) hc
    rw [pw10]
    exact Int.mul_le_mul_of_nonneg_left this hv
  · refine ckz_ok (fun j hj h => ?_) (fun k hk => ?_)
    · match j, hj with
      | 0, _ => exact absurd h (by decide)
      | x + 1, hx => exact absurd hx (by omega)
    · match k, hk with
      | x + 0, hx => exact absurd hx (by omega)
  · rw [pw10]
    rfl
theorem plan10_ok' {nm : Nat → ByteArray} {D : Nat → Int} {v : Int} {a b : Nat} (h : OfOk nm D v 1 1 0) :
    SmallRes Tryz.prog 10 [off3 1 0 a b 0 1] [rSe nm D v 1, rSh D 1 0] (.tuple #[.slice (some ⟨2, 0, none⟩) 1 1, .agg #[.int .i64 (v * 0), .int .i64 0], .int .i64 0]) [rSe nm D v 1, rSh D 1 0, some (.row [.int .i64 (bPl (pw10 v) (pc10 D) pf10 1 0)] 1 false true true)] := by
  rw [← best10 D v h.v.1]
  refine fnP_res hm c0_ok (hs := hsP10 (seC nm D v 1) (shC D 1 0) nm D v a b) ?_
  show fnP Tryz.prog c0 _ 10 _ [some (.row (seC nm D v 1) 5 true false true), some (.row (shC D 1 0) 4 true false true)] _
  rw [pn10_t]
  have o : isOf nm D v 1 1 0 (seC nm D v 1) (shC D 1 0) := ⟨rfl, rfl⟩
  refine ⟨⟨o, h⟩, rfl, rfl, rfl, ⟨rfl⟩, ⟨trivial⟩, fun i _ _ => ⟨⟨rfl, rfl, rfl, rfl, rfl, rfl, rfl, rfl, trivial⟩, ⟨⟨o, rfl, rfl⟩, plo10 i, h.v⟩, br_of (fun hs => ⟨⟨trivial⟩, br_of (fun hb => ?_) (fun hb => ⟨⟨⟨o, rfl, rfl⟩, plo10 i⟩, br_of (fun hc => ?_) (fun hc => ?_)⟩)⟩) (fun hs => ⟨⟨⟨o, rfl, rfl⟩, plo10 i⟩, br_of (fun hc => ?_) (fun hc => ?_)⟩)⟩, fun _ => ⟨⟨rfl, rfl, rfl, rfl, rfl, rfl, rfl, rfl, trivial⟩, rfl, rfl⟩, fun s _ => s.elim⟩
  · rw [bt_0] at hb
    have hb : (!decide (bVa (pw10 v) (pc10 D) i < pw10 v i)) = true := hb
    have hu : upB (bSn (pw10 v) (pc10 D) i) (bVa (pw10 v) (pc10 D) i) (pw10 v i) (pc10 D i) = false := up_no fun _ x2 => absurd (x2 hs) (by simpa using hb)
    obtain ⟨e1, e2, e3⟩ := bs_no (f := pf10) hu
    rw [e1, e2, e3 0]
    exact ⟨rfl, ⟨trivial⟩⟩
  · have hc : (pc10 D i != 0) = true := hc
    have hu : upB (bSn (pw10 v) (pc10 D) i) (bVa (pw10 v) (pc10 D) i) (pw10 v i) (pc10 D i) = false := up_no fun x1 _ => absurd x1 (bne_iff_ne.1 hc)
    obtain ⟨e1, e2, e3⟩ := bs_no (f := pf10) hu
    rw [e1, e2, e3 0]
    exact ⟨rfl, ⟨trivial⟩⟩
  · rw [bt_0] at hb
    have hb : (!decide (bVa (pw10 v) (pc10 D) i < pw10 v i)) = false := hb
    have hc : (pc10 D i != 0) = false := hc
    have hu : upB (bSn (pw10 v) (pc10 D) i) (bVa (pw10 v) (pc10 D) i) (pw10 v i) (pc10 D i) = true := up_iff.2 ⟨bne_eq_false_iff_eq.1 hc, fun _ => by simpa using hb⟩
    obtain ⟨e1, e2, e3⟩ := bs_yes (f := pf10) hu
    rw [e1, e2, e3 0]
    exact ⟨rfl, ⟨trivial⟩⟩
  · have hc : (pc10 D i != 0) = true := hc
    have hu : upB (bSn (pw10 v) (pc10 D) i) (bVa (pw10 v) (pc10 D) i) (pw10 v i) (pc10 D i) = false := up_no fun x1 _ => absurd x1 (bne_iff_ne.1 hc)
    obtain ⟨e1, e2, e3⟩ := bs_no (f := pf10) hu
    rw [e1, e2, e3 0]
    exact ⟨rfl, ⟨trivial⟩⟩
  · have hc : (pc10 D i != 0) = false := hc
    have hu : upB (bSn (pw10 v) (pc10 D) i) (bVa (pw10 v) (pc10 D) i) (pw10 v i) (pc10 D i) = true := up_iff.2 ⟨bne_eq_false_iff_eq.1 hc, fun x => by rw [hs] at x; cases x⟩
    obtain ⟨e1, e2, e3⟩ := bs_yes (f := pf10) hu
    rw [e1, e2, e3 0]
    exact ⟨rfl, ⟨trivial⟩⟩
theorem plan10_ok {nm : Nat → ByteArray} {D : Nat → Int} {v : Int} {a b : Nat} (h : OfOk nm D v 1 1 0) :
    SmallRes Tryz.prog 10 [off3 1 0 a b 0 1] [some (.row (seC nm D v 1) 5 true true true), some (.row (shC D 1 0) 4 true true true)] (.tuple #[.slice (some ⟨2, 0, none⟩) 1 1, .agg #[.int .i64 (v * 0), .int .i64 0], .int .i64 0]) [some (.row (seC nm D v 1) 5 true true true), some (.row (shC D 1 0) 4 true true true), some (.row [.int .i64 (bPl (pw10 v) (pc10 D) pf10 1 0)] 1 false true true)] :=
  regain [0, 1] (H := [some (.row (seC nm D v 1) 5 true true true), some (.row (shC D 1 0) 4 true true true)]) (plan10_ok' h) rfl rfl
theorem plo22 (i : Nat) : plOk (pf22 i) 2 2 := by
  refine ⟨rfl, by decide, by decide, fun j hj => ?_⟩
  match j, hj with
  | 0, _ => show -1 ≤ q220 i ∧ q220 i < 2; rw [q220]; omega
  | 1, _ => show -1 ≤ q221 i ∧ q221 i < 2; rw [q221]; omega
  | x + 2, hx => exact absurd hx (by omega)
theorem best22 (D : Nat → Int) (v : Int) (hv : 0 ≤ v) : bVa (pw22 v) (pc22 D) 9 = v * 2 := by
  refine best_eq (i0 := 5) (fun i hi hc => ?_) (by decide) ?_ ?_
  · have := ck_zero (plo22 i) hc
    rw [pw22]
    exact Int.mul_le_mul_of_nonneg_left this hv
  · refine ckz_ok (fun j hj h => ?_) (fun k hk => ?_)
    · match j, hj with
      | 0, _ => exact in_same rfl
      | 1, _ => exact in_same rfl
      | x + 2, hx => exact absurd hx (by omega)
    · match k, hk with
      | 0, _ => decide
      | 1, _ => decide
      | x + 2, hx => exact absurd hx (by omega)
  · rw [pw22]
    rfl
theorem plan22_ok' {nm : Nat → ByteArray} {D : Nat → Int} {v : Int} {a b : Nat} (h : OfOk nm D v 2 0 2) :
    SmallRes Tryz.prog 10 [off3 2 2 a b 0 1] [rSe nm D v 2, rSh D 0 2] (.tuple #[.slice (some ⟨2, 0, none⟩) 2 2, .agg #[.int .i64 (v * 2), .int .i64 0], .int .i64 0]) [rSe nm D v 2, rSh D 0 2, some (.row [.int .i64 (bPl (pw22 v) (pc22 D) pf22 9 0), .int .i64 (bPl (pw22 v) (pc22 D) pf22 9 1)] 1 false true true)] := by
  rw [← best22 D v h.v.1]
  refine fnP_res hm c0_ok (hs := hsP22 (seC nm D v 2) (shC D 0 2) nm D v a b) ?_
  show fnP Tryz.prog c0 _ 10 _ [some (.row (seC nm D v 2) 5 true false true), some (.row (shC D 0 2) 4 true false true)] _
  rw [pn22_t]
  have o : isOf nm D v 2 0 2 (seC nm D v 2) (shC D 0 2) := ⟨rfl, rfl⟩
  refine ⟨⟨o, h⟩, rfl, rfl, rfl, ⟨rfl⟩, ⟨trivial⟩, fun i _ _ => ⟨⟨rfl, rfl, rfl, rfl, rfl, rfl, rfl, rfl, trivial⟩, ⟨⟨o, rfl, rfl⟩, plo22 i, h.v⟩, br_of (fun hs => ⟨⟨trivial⟩, br_of (fun hb => ?_) (fun hb => ⟨⟨⟨o, rfl, rfl⟩, plo22 i⟩, br_of (fun hc => ?_) (fun hc => ?_)⟩)⟩) (fun hs => ⟨⟨⟨o, rfl, rfl⟩, plo22 i⟩, br_of (fun hc => ?_) (fun hc => ?_)⟩)⟩, fun _ => ⟨⟨rfl, rfl, rfl, rfl, rfl, rfl, rfl, rfl, trivial⟩, rfl, rfl⟩, fun s _ => s.elim⟩
  · rw [bt_0] at hb
    have hb : (!decide (bVa (pw22 v) (pc22 D) i < pw22 v i)) = true := hb
    have hu : upB (bSn (pw22 v) (pc22 D) i) (bVa (pw22 v) (pc22 D) i) (pw22 v i) (pc22 D i) = false := up_no fun _ x2 => absurd (x2 hs) (by simpa using hb)
    obtain ⟨e1, e2, e3⟩ := bs_no (f := pf22) hu
    rw [e1, e2, e3 0, e3 1]
    exact ⟨rfl, ⟨trivial⟩⟩
  · have hc : (pc22 D i != 0) = true := hc
    have hu : upB (bSn (pw22 v) (pc22 D) i) (bVa (pw22 v) (pc22 D) i) (pw22 v i) (pc22 D i) = false := up_no fun x1 _ => absurd x1 (bne_iff_ne.1 hc)
    obtain ⟨e1, e2, e3⟩ := bs_no (f := pf22) hu
    rw [e1, e2, e3 0, e3 1]
    exact ⟨rfl, ⟨trivial⟩⟩
  · rw [bt_0] at hb
    have hb : (!decide (bVa (pw22 v) (pc22 D) i < pw22 v i)) = false := hb
    have hc : (pc22 D i != 0) = false := hc
    have hu : upB (bSn (pw22 v) (pc22 D) i) (bVa (pw22 v) (pc22 D) i) (pw22 v i) (pc22 D i) = true := up_iff.2 ⟨bne_eq_false_iff_eq.1 hc, fun _ => by simpa using hb⟩
    obtain ⟨e1, e2, e3⟩ := bs_yes (f := pf22) hu
    rw [e1, e2, e3 0, e3 1]
    exact ⟨rfl, ⟨trivial⟩⟩
  · have hc : (pc22 D i != 0) = true := hc
    have hu : upB (bSn (pw22 v) (pc22 D) i) (bVa (pw22 v) (pc22 D) i) (pw22 v i) (pc22 D i) = false := up_no fun x1 _ => absurd x1 (bne_iff_ne.1 hc)
    obtain ⟨e1, e2, e3⟩ := bs_no (f := pf22) hu
    rw [e1, e2, e3 0, e3 1]
    exact ⟨rfl, ⟨trivial⟩⟩
  · have hc : (pc22 D i != 0) = false := hc
    have hu : upB (bSn (pw22 v) (pc22 D) i) (bVa (pw22 v) (pc22 D) i) (pw22 v i) (pc22 D i) = true := up_iff.2 ⟨bne_eq_false_iff_eq.1 hc, fun x => by rw [hs] at x; cases x⟩
    obtain ⟨e1, e2, e3⟩ := bs_yes (f := pf22) hu
    rw [e1, e2, e3 0, e3 1]
    exact ⟨rfl, ⟨trivial⟩⟩
theorem plan22_ok {nm : Nat → ByteArray} {D : Nat → Int} {v : Int} {a b : Nat} (h : OfOk nm D v 2 0 2) :
    SmallRes Tryz.prog 10 [off3 2 2 a b 0 1] [some (.row (seC nm D v 2) 5 true true true), some (.row (shC D 0 2) 4 true true true)] (.tuple #[.slice (some ⟨2, 0, none⟩) 2 2, .agg #[.int .i64 (v * 2), .int .i64 0], .int .i64 0]) [some (.row (seC nm D v 2) 5 true true true), some (.row (shC D 0 2) 4 true true true), some (.row [.int .i64 (bPl (pw22 v) (pc22 D) pf22 9 0), .int .i64 (bPl (pw22 v) (pc22 D) pf22 9 1)] 1 false true true)] :=
  regain [0, 1] (H := [some (.row (seC nm D v 2) 5 true true true), some (.row (shC D 0 2) 4 true true true)]) (plan22_ok' h) rfl rfl
theorem plo21 (i : Nat) : plOk (pf21 i) 2 1 := by
  refine ⟨rfl, by decide, by decide, fun j hj => ?_⟩
  match j, hj with
  | 0, _ => show -1 ≤ q210 i ∧ q210 i < 1; rw [q210]; omega
  | 1, _ => show -1 ≤ q211 i ∧ q211 i < 1; rw [q211]; omega
  | x + 2, hx => exact absurd hx (by omega)
theorem best21 (D : Nat → Int) (v : Int) (hv : 0 ≤ v) : bVa (pw21 v) (pc21 D) 4 = v * 1 := by
  refine best_eq (i0 := 1) (fun i hi hc => ?_) (by decide) ?_ ?_
  · have := ck_zero (plo21 i) hc
    rw [pw21]
    exact Int.mul_le_mul_of_nonneg_left this hv
  · refine ckz_ok (fun j hj h => ?_) (fun k hk => ?_)
    · match j, hj with
      | 0, _ => exact absurd h (by decide)
      | 1, _ => exact in_same rfl
      | x + 2, hx => exact absurd hx (by omega)
    · match k, hk with
      | 0, _ => decide
      | x + 1, hx => exact absurd hx (by omega)
  · rw [pw21]
    rfl
theorem plan21_ok' {nm : Nat → ByteArray} {D : Nat → Int} {v : Int} {a b : Nat} (h : OfOk nm D v 2 1 1) :
    SmallRes Tryz.prog 10 [off3 2 1 a b 0 1] [rSe nm D v 2, rSh D 1 1] (.tuple #[.slice (some ⟨2, 0, none⟩) 2 2, .agg #[.int .i64 (v * 1), .int .i64 0], .int .i64 0]) [rSe nm D v 2, rSh D 1 1, some (.row [.int .i64 (bPl (pw21 v) (pc21 D) pf21 4 0), .int .i64 (bPl (pw21 v) (pc21 D) pf21 4 1)] 1 false true true)] := by
  rw [← best21 D v h.v.1]
  refine fnP_res hm c0_ok (hs := hsP21 (seC nm D v 2) (shC D 1 1) nm D v a b) ?_
  show fnP Tryz.prog c0 _ 10 _ [some (.row (seC nm D v 2) 5 true false true), some (.row (shC D 1 1) 4 true false true)] _
  rw [pn21_t]
  have o : isOf nm D v 2 1 1 (seC nm D v 2) (shC D 1 1) := ⟨rfl, rfl⟩
  refine ⟨⟨o, h⟩, rfl, rfl, rfl, ⟨rfl⟩, ⟨trivial⟩, fun i _ _ => ⟨⟨rfl, rfl, rfl, rfl, rfl, rfl, rfl, rfl, trivial⟩, ⟨⟨o, rfl, rfl⟩, plo21 i, h.v⟩, br_of (fun hs => ⟨⟨trivial⟩, br_of (fun hb => ?_) (fun hb => ⟨⟨⟨o, rfl, rfl⟩, plo21 i⟩, br_of (fun hc => ?_) (fun hc => ?_)⟩)⟩) (fun hs => ⟨⟨⟨o, rfl, rfl⟩, plo21 i⟩, br_of (fun hc => ?_) (fun hc => ?_)⟩)⟩, fun _ => ⟨⟨rfl, rfl, rfl, rfl, rfl, rfl, rfl, rfl, trivial⟩, rfl, rfl⟩, fun s _ => s.elim⟩
  · rw [bt_0] at hb
    have hb : (!decide (bVa (pw21 v) (pc21 D) i < pw21 v i)) = true := hb
    have hu : upB (bSn (pw21 v) (pc21 D) i) (bVa (pw21 v) (pc21 D) i) (pw21 v i) (pc21 D i) = false := up_no fun _ x2 => absurd (x2 hs) (by simpa using hb)
    obtain ⟨e1, e2, e3⟩ := bs_no (f := pf21) hu
    rw [e1, e2, e3 0, e3 1]
    exact ⟨rfl, ⟨trivial⟩⟩
  · have hc : (pc21 D i != 0) = true := hc
    have hu : upB (bSn (pw21 v) (pc21 D) i) (bVa (pw21 v) (pc21 D) i) (pw21 v i) (pc21 D i) = false := up_no fun x1 _ => absurd x1 (bne_iff_ne.1 hc)
    obtain ⟨e1, e2, e3⟩ := bs_no (f := pf21) hu
    rw [e1, e2, e3 0, e3 1]
    exact ⟨rfl, ⟨trivial⟩⟩
  · rw [bt_0] at hb
    have hb : (!decide (bVa (pw21 v) (pc21 D) i < pw21 v i)) = false := hb
    have hc : (pc21 D i != 0) = false := hc
    have hu : upB (bSn (pw21 v) (pc21 D) i) (bVa (pw21 v) (pc21 D) i) (pw21 v i) (pc21 D i) = true := up_iff.2 ⟨bne_eq_false_iff_eq.1 hc, fun _ => by simpa using hb⟩
    obtain ⟨e1, e2, e3⟩ := bs_yes (f := pf21) hu
    rw [e1, e2, e3 0, e3 1]
    exact ⟨rfl, ⟨trivial⟩⟩
  · have hc : (pc21 D i != 0) = true := hc
    have hu : upB (bSn (pw21 v) (pc21 D) i) (bVa (pw21 v) (pc21 D) i) (pw21 v i) (pc21 D i) = false := up_no fun x1 _ => absurd x1 (bne_iff_ne.1 hc)
    obtain ⟨e1, e2, e3⟩ := bs_no (f := pf21) hu
    rw [e1, e2, e3 0, e3 1]
    exact ⟨rfl, ⟨trivial⟩⟩
  · have hc : (pc21 D i != 0) = false := hc
    have hu : upB (bSn (pw21 v) (pc21 D) i) (bVa (pw21 v) (pc21 D) i) (pw21 v i) (pc21 D i) = true := up_iff.2 ⟨bne_eq_false_iff_eq.1 hc, fun x => by rw [hs] at x; cases x⟩
    obtain ⟨e1, e2, e3⟩ := bs_yes (f := pf21) hu
    rw [e1, e2, e3 0, e3 1]
    exact ⟨rfl, ⟨trivial⟩⟩
theorem plan21_ok {nm : Nat → ByteArray} {D : Nat → Int} {v : Int} {a b : Nat} (h : OfOk nm D v 2 1 1) :
    SmallRes Tryz.prog 10 [off3 2 1 a b 0 1] [some (.row (seC nm D v 2) 5 true true true), some (.row (shC D 1 1) 4 true true true)] (.tuple #[.slice (some ⟨2, 0, none⟩) 2 2, .agg #[.int .i64 (v * 1), .int .i64 0], .int .i64 0]) [some (.row (seC nm D v 2) 5 true true true), some (.row (shC D 1 1) 4 true true true), some (.row [.int .i64 (bPl (pw21 v) (pc21 D) pf21 4 0), .int .i64 (bPl (pw21 v) (pc21 D) pf21 4 1)] 1 false true true)] :=
  regain [0, 1] (H := [some (.row (seC nm D v 2) 5 true true true), some (.row (shC D 1 1) 4 true true true)]) (plan21_ok' h) rfl rfl
theorem plo33 (i : Nat) : plOk (pf33 i) 3 3 := by
  refine ⟨rfl, by decide, by decide, fun j hj => ?_⟩
  match j, hj with
  | 0, _ => show -1 ≤ q330 i ∧ q330 i < 3; rw [q330]; omega
  | 1, _ => show -1 ≤ q331 i ∧ q331 i < 3; rw [q331]; omega
  | 2, _ => show -1 ≤ q332 i ∧ q332 i < 3; rw [q332]; omega
  | x + 3, hx => exact absurd hx (by omega)
theorem best33 (D : Nat → Int) (v : Int) (hv : 0 ≤ v) : bVa (pw33 v) (pc33 D) 64 = v * 3 := by
  refine best_eq (i0 := 27) (fun i hi hc => ?_) (by decide) ?_ ?_
  · have := ck_zero (plo33 i) hc
    rw [pw33]
    exact Int.mul_le_mul_of_nonneg_left this hv
  · refine ckz_ok (fun j hj h => ?_) (fun k hk => ?_)
    · match j, hj with
      | 0, _ => exact in_same rfl
      | 1, _ => exact in_same rfl
      | 2, _ => exact in_same rfl
      | x + 3, hx => exact absurd hx (by omega)
    · match k, hk with
      | 0, _ => decide
      | 1, _ => decide
      | 2, _ => decide
      | x + 3, hx => exact absurd hx (by omega)
  · rw [pw33]
    rfl
theorem plan33_ok' {nm : Nat → ByteArray} {D : Nat → Int} {v : Int} {a b : Nat} (h : OfOk nm D v 3 0 3) :
    SmallRes Tryz.prog 10 [off3 3 3 a b 0 1] [rSe nm D v 3, rSh D 0 3] (.tuple #[.slice (some ⟨2, 0, none⟩) 3 3, .agg #[.int .i64 (v * 3), .int .i64 0], .int .i64 0]) [rSe nm D v 3, rSh D 0 3, some (.row [.int .i64 (bPl (pw33 v) (pc33 D) pf33 64 0), .int .i64 (bPl (pw33 v) (pc33 D) pf33 64 1), .int .i64 (bPl (pw33 v) (pc33 D) pf33 64 2)] 1 false true true)] := by
  rw [← best33 D v h.v.1]
  refine fnP_res hm c0_ok (hs := hsP33 (seC nm D v 3) (shC D 0 3) nm D v a b) ?_
  show fnP Tryz.prog c0 _ 10 _ [some (.row (seC nm D v 3) 5 true false true), some (.row (shC D 0 3) 4 true false true)] _
  rw [pn33_t]
  have o : isOf nm D v 3 0 3 (seC nm D v 3) (shC D 0 3) := ⟨rfl, rfl⟩
  refine ⟨⟨o, h⟩, rfl, rfl, rfl, ⟨rfl⟩, ⟨trivial⟩, fun i _ _ => ⟨⟨rfl, rfl, rfl, rfl, rfl, rfl, rfl, rfl, trivial⟩, ⟨⟨o, rfl, rfl⟩, plo33 i, h.v⟩, br_of (fun hs => ⟨⟨trivial⟩, br_of (fun hb => ?_) (fun hb => ⟨⟨⟨o, rfl, rfl⟩, plo33 i⟩, br_of (fun hc => ?_) (fun hc => ?_)⟩)⟩) (fun hs => ⟨⟨⟨o, rfl, rfl⟩, plo33 i⟩, br_of (fun hc => ?_) (fun hc => ?_)⟩)⟩, fun _ => ⟨⟨rfl, rfl, rfl, rfl, rfl, rfl, rfl, rfl, trivial⟩, rfl, rfl⟩, fun s _ => s.elim⟩
  · rw [bt_0] at hb
    have hb : (!decide (bVa (pw33 v) (pc33 D) i < pw33 v i)) = true := hb
    have hu : upB (bSn (pw33 v) (pc33 D) i) (bVa (pw33 v) (pc33 D) i) (pw33 v i) (pc33 D i) = false := up_no fun _ x2 => absurd (x2 hs) (by simpa using hb)
    obtain ⟨e1, e2, e3⟩ := bs_no (f := pf33) hu
    rw [e1, e2, e3 0, e3 1, e3 2]
    exact ⟨rfl, ⟨trivial⟩⟩
  · have hc : (pc33 D i != 0) = true := hc
    have hu : upB (bSn (pw33 v) (pc33 D) i) (bVa (pw33 v) (pc33 D) i) (pw33 v i) (pc33 D i) = false := up_no fun x1 _ => absurd x1 (bne_iff_ne.1 hc)
    obtain ⟨e1, e2, e3⟩ := bs_no (f := pf33) hu
    rw [e1, e2, e3 0, e3 1, e3 2]
    exact ⟨rfl, ⟨trivial⟩⟩
  · rw [bt_0] at hb
    have hb : (!decide (bVa (pw33 v) (pc33 D) i < pw33 v i)) = false := hb
    have hc : (pc33 D i != 0) = false := hc
    have hu : upB (bSn (pw33 v) (pc33 D) i) (bVa (pw33 v) (pc33 D) i) (pw33 v i) (pc33 D i) = true := up_iff.2 ⟨bne_eq_false_iff_eq.1 hc, fun _ => by simpa using hb⟩
    obtain ⟨e1, e2, e3⟩ := bs_yes (f := pf33) hu
    rw [e1, e2, e3 0, e3 1, e3 2]
    exact ⟨rfl, ⟨trivial⟩⟩
  · have hc : (pc33 D i != 0) = true := hc
    have hu : upB (bSn (pw33 v) (pc33 D) i) (bVa (pw33 v) (pc33 D) i) (pw33 v i) (pc33 D i) = false := up_no fun x1 _ => absurd x1 (bne_iff_ne.1 hc)
    obtain ⟨e1, e2, e3⟩ := bs_no (f := pf33) hu
    rw [e1, e2, e3 0, e3 1, e3 2]
    exact ⟨rfl, ⟨trivial⟩⟩
  · have hc : (pc33 D i != 0) = false := hc
    have hu : upB (bSn (pw33 v) (pc33 D) i) (bVa (pw33 v) (pc33 D) i) (pw33 v i) (pc33 D i) = true := up_iff.2 ⟨bne_eq_false_iff_eq.1 hc, fun x => by rw [hs] at x; cases x⟩
    obtain ⟨e1, e2, e3⟩ := bs_yes (f := pf33) hu
    rw [e1, e2, e3 0, e3 1, e3 2]
    exact ⟨rfl, ⟨trivial⟩⟩
theorem plan33_ok {nm : Nat → ByteArray} {D : Nat → Int} {v : Int} {a b : Nat} (h : OfOk nm D v 3 0 3) :
    SmallRes Tryz.prog 10 [off3 3 3 a b 0 1] [some (.row (seC nm D v 3) 5 true true true), some (.row (shC D 0 3) 4 true true true)] (.tuple #[.slice (some ⟨2, 0, none⟩) 3 3, .agg #[.int .i64 (v * 3), .int .i64 0], .int .i64 0]) [some (.row (seC nm D v 3) 5 true true true), some (.row (shC D 0 3) 4 true true true), some (.row [.int .i64 (bPl (pw33 v) (pc33 D) pf33 64 0), .int .i64 (bPl (pw33 v) (pc33 D) pf33 64 1), .int .i64 (bPl (pw33 v) (pc33 D) pf33 64 2)] 1 false true true)] :=
  regain [0, 1] (H := [some (.row (seC nm D v 3) 5 true true true), some (.row (shC D 0 3) 4 true true true)]) (plan33_ok' h) rfl rfl
theorem plo32 (i : Nat) : plOk (pf32 i) 3 2 := by
  refine ⟨rfl, by decide, by decide, fun j hj => ?_⟩
  match j, hj with
  | 0, _ => show -1 ≤ q320 i ∧ q320 i < 2; rw [q320]; omega
  | 1, _ => show -1 ≤ q321 i ∧ q321 i < 2; rw [q321]; omega
  | 2, _ => show -1 ≤ q322 i ∧ q322 i < 2; rw [q322]; omega
  | x + 3, hx => exact absurd hx (by omega)
theorem best32 (D : Nat → Int) (v : Int) (hv : 0 ≤ v) : bVa (pw32 v) (pc32 D) 27 = v * 2 := by
  refine best_eq (i0 := 5) (fun i hi hc => ?_) (by decide) ?_ ?_
  · have := ck_zero (plo32 i) hc
    rw [pw32]
    exact Int.mul_le_mul_of_nonneg_left this hv
  · refine ckz_ok (fun j hj h => ?_) (fun k hk => ?_)
    · match j, hj with
      | 0, _ => exact absurd h (by decide)
      | 1, _ => exact in_same rfl
      | 2, _ => exact in_same rfl
      | x + 3, hx => exact absurd hx (by omega)
    · match k, hk with
      | 0, _ => decide
      | 1, _ => decide
      | x + 2, hx => exact absurd hx (by omega)
  · rw [pw32]
    rfl
theorem plan32_ok' {nm : Nat → ByteArray} {D : Nat → Int} {v : Int} {a b : Nat} (h : OfOk nm D v 3 1 2) :
    SmallRes Tryz.prog 10 [off3 3 2 a b 0 1] [rSe nm D v 3, rSh D 1 2] (.tuple #[.slice (some ⟨2, 0, none⟩) 3 3, .agg #[.int .i64 (v * 2), .int .i64 0], .int .i64 0]) [rSe nm D v 3, rSh D 1 2, some (.row [.int .i64 (bPl (pw32 v) (pc32 D) pf32 27 0), .int .i64 (bPl (pw32 v) (pc32 D) pf32 27 1), .int .i64 (bPl (pw32 v) (pc32 D) pf32 27 2)] 1 false true true)] := by
  rw [← best32 D v h.v.1]
  refine fnP_res hm c0_ok (hs := hsP32 (seC nm D v 3) (shC D 1 2) nm D v a b) ?_
  show fnP Tryz.prog c0 _ 10 _ [some (.row (seC nm D v 3) 5 true false true), some (.row (shC D 1 2) 4 true false true)] _
  rw [pn32_t]
  have o : isOf nm D v 3 1 2 (seC nm D v 3) (shC D 1 2) := ⟨rfl, rfl⟩
  refine ⟨⟨o, h⟩, rfl, rfl, rfl, ⟨rfl⟩, ⟨trivial⟩, fun i _ _ => ⟨⟨rfl, rfl, rfl, rfl, rfl, rfl, rfl, rfl, trivial⟩, ⟨⟨o, rfl, rfl⟩, plo32 i, h.v⟩, br_of (fun hs => ⟨⟨trivial⟩, br_of (fun hb => ?_) (fun hb => ⟨⟨⟨o, rfl, rfl⟩, plo32 i⟩, br_of (fun hc => ?_) (fun hc => ?_)⟩)⟩) (fun hs => ⟨⟨⟨o, rfl, rfl⟩, plo32 i⟩, br_of (fun hc => ?_) (fun hc => ?_)⟩)⟩, fun _ => ⟨⟨rfl, rfl, rfl, rfl, rfl, rfl, rfl, rfl, trivial⟩, rfl, rfl⟩, fun s _ => s.elim⟩
  · rw [bt_0] at hb
    have hb : (!decide (bVa (pw32 v) (pc32 D) i < pw32 v i)) = true := hb
    have hu : upB (bSn (pw32 v) (pc32 D) i) (bVa (pw32 v) (pc32 D) i) (pw32 v i) (pc32 D i) = false := up_no fun _ x2 => absurd (x2 hs) (by simpa using hb)
    obtain ⟨e1, e2, e3⟩ := bs_no (f := pf32) hu
    rw [e1, e2, e3 0, e3 1, e3 2]
    exact ⟨rfl, ⟨trivial⟩⟩
  · have hc : (pc32 D i != 0) = true := hc
    have hu : upB (bSn (pw32 v) (pc32 D) i) (bVa (pw32 v) (pc32 D) i) (pw32 v i) (pc32 D i) = false := up_no fun x1 _ => absurd x1 (bne_iff_ne.1 hc)
    obtain ⟨e1, e2, e3⟩ := bs_no (f := pf32) hu
    rw [e1, e2, e3 0, e3 1, e3 2]
    exact ⟨rfl, ⟨trivial⟩⟩
  · rw [bt_0] at hb
    have hb : (!decide (bVa (pw32 v) (pc32 D) i < pw32 v i)) = false := hb
    have hc : (pc32 D i != 0) = false := hc
    have hu : upB (bSn (pw32 v) (pc32 D) i) (bVa (pw32 v) (pc32 D) i) (pw32 v i) (pc32 D i) = true := up_iff.2 ⟨bne_eq_false_iff_eq.1 hc, fun _ => by simpa using hb⟩
    obtain ⟨e1, e2, e3⟩ := bs_yes (f := pf32) hu
    rw [e1, e2, e3 0, e3 1, e3 2]
    exact ⟨rfl, ⟨trivial⟩⟩
  · have hc : (pc32 D i != 0) = true := hc
    have hu : upB (bSn (pw32 v) (pc32 D) i) (bVa (pw32 v) (pc32 D) i) (pw32 v i) (pc32 D i) = false := up_no fun x1 _ => absurd x1 (bne_iff_ne.1 hc)
    obtain ⟨e1, e2, e3⟩ := bs_no (f := pf32) hu
    rw [e1, e2, e3 0, e3 1, e3 2]
    exact ⟨rfl, ⟨trivial⟩⟩
  · have hc : (pc32 D i != 0) = false := hc
    have hu : upB (bSn (pw32 v) (pc32 D) i) (bVa (pw32 v) (pc32 D) i) (pw32 v i) (pc32 D i) = true := up_iff.2 ⟨bne_eq_false_iff_eq.1 hc, fun x => by rw [hs] at x; cases x⟩
    obtain ⟨e1, e2, e3⟩ := bs_yes (f := pf32) hu
    rw [e1, e2, e3 0, e3 1, e3 2]
    exact ⟨rfl, ⟨trivial⟩⟩
theorem plan32_ok {nm : Nat → ByteArray} {D : Nat → Int} {v : Int} {a b : Nat} (h : OfOk nm D v 3 1 2) :
    SmallRes Tryz.prog 10 [off3 3 2 a b 0 1] [some (.row (seC nm D v 3) 5 true true true), some (.row (shC D 1 2) 4 true true true)] (.tuple #[.slice (some ⟨2, 0, none⟩) 3 3, .agg #[.int .i64 (v * 2), .int .i64 0], .int .i64 0]) [some (.row (seC nm D v 3) 5 true true true), some (.row (shC D 1 2) 4 true true true), some (.row [.int .i64 (bPl (pw32 v) (pc32 D) pf32 27 0), .int .i64 (bPl (pw32 v) (pc32 D) pf32 27 1), .int .i64 (bPl (pw32 v) (pc32 D) pf32 27 2)] 1 false true true)] :=
  regain [0, 1] (H := [some (.row (seC nm D v 3) 5 true true true), some (.row (shC D 1 2) 4 true true true)]) (plan32_ok' h) rfl rfl
end
end Qq
end
section
/- What is late. -/
open Go Go.Vm Go.Proofs Sp
namespace Sp
noncomputable section
/-- Whether one of the first shifts is in time for a section. -/
def anT (D : Nat → Int) (s i : Nat) : Nat → Bool
  | 0 => false
  | k + 1 => anT D s i k || decide (D (s + k) ≤ D i)
def sDay : ByteArray := ⟨#[100, 97, 121]⟩
noncomputable def whS (D : Nat → Int) (s i K : Nat) : ByteArray := if anT D s i K = true then ⟨#[]⟩ else sDay
/-- How many are late, of the first so many; and they. -/
def ltN (b : Bool) (i : Nat) : Nat := if b = true ∧ 0 < i then 1 else 0
def ltC (b : Bool) (i : Nat) : List Value := if b = true ∧ 0 < i then [.int .i64 0, .string sDay] else []
end
end Sp
namespace Qq
noncomputable section
section
variable (nm : Nat → ByteArray) (D : Nat → Int) (v : Int) (N s K a b : Nat)
noncomputable def lpWh (i : Nat) : Lp where
  σ := Nat
  E k := slots 45 [(1, .int .i64 (i : Int)), (2, .pointer (some ⟨2, 0, none⟩)), (5, .pointer (some ⟨3, 0, none⟩)), (6, .bool false), (7, .bool false), (16, .slice (some ⟨1, 0, none⟩) K b), (17, .int .i64 (K : Int)), (18, .int .i64 (k : Int))]
  Hp _ := [rSe nm D v N, rSh D s K, bxO N K a b 0 1, some (.row [.string (seA.nmAt2 nm i), .int .i64 (dAt D i), .int .i64 1, .int .i64 0, .int .i64 v] 0 false true true)]
  I k := k ≤ K ∧ anT D s i k = false
  m k := K - k
noncomputable def seI (nm : Nat → ByteArray) (D : Nat → Int) (v : Int) (i : Nat) (_ : Nat) : Value := .agg #[.string (seA.nmAt2 nm i), .int .i64 (dAt D i), .int .i64 1, .int .i64 0, .int .i64 v]
noncomputable def hsWh (i : Nat) : Hs Tryz.prog where
  op y := if [103, 501].contains y then some (hIa Tryz.prog) else if y = 104 then some (hLd Tryz.prog (seI nm D v i)) else if y = 502 then some (hLd Tryz.prog (shA2 D s)) else none
  lp _ := some (lpWh nm D v N s K a b i)
  cl _ := keep 45 [1, 2, 5, 6, 7, 16, 17, 18]
  sm := true
  au := auCalls [(43, hCa Tryz.prog 43 (orcTm nm D v s) (okTm nm D v s))]
end
theorem wh_t (nm : Nat → ByteArray) (D : Nat → Int) (v : Int) (N : Nat) (s : Nat) (K : Nat) (a : Nat) (b : Nat) (i : Nat) (K0 : Value → Heap → Prop) :
    (fnP Tryz.prog c0 (hsWh nm D v N s K a b i) (33 : FuncId) [off3 N K a b (0 : Nat) (1 : Nat), Value.int IntKind.i64 (↑i : Int)] [rSe nm D v N, rSh D s K] K0) =
    (let z0 : AObj := AObj.row [Value.string (seA.nmAt2 nm i), Value.int .i64 (dAt D i), Value.int .i64 1, Value.int .i64 0, Value.int .i64 v] 0 false true true; let z1 : AObj := AObj.row [Value.slice (some ⟨0, 0, none⟩) N a, Value.slice (some ⟨1, 0, none⟩) K b] 0 false true false; (Is ((0 : Int) ≤ (i : Int) ∧ (i : Int) < (N : Int)) ∧ Is ((if 0 + Int.toNat (i : Int) * 5 + 5 ≤ List.length (seC nm D v N) then some (Value.agg (List.toArray (List.take 5 (List.drop (0 + Int.toNat (i : Int) * 5) (seC nm D v N))))) else none) = some (Value.agg #[Value.string (seA.nmAt2 nm i), Value.int .i64 (dAt D i), Value.int .i64 1, Value.int .i64 0, Value.int .i64 v])) ∧ (∃ (s_1 : Nat), Is (s_1 ≤ K ∧ anT D s i s_1 = false) ∧ (Value.int .i64 (i : Int) = Value.int .i64 (i : Int) ∧ Value.pointer (some ⟨2, 0, none⟩) = Value.pointer (some ⟨2, 0, none⟩) ∧ Value.pointer (some ⟨3, 0, none⟩) = Value.pointer (some ⟨3, 0, none⟩) ∧ Value.bool false = Value.bool false ∧ Value.bool false = Value.bool false ∧ Value.slice (some ⟨1, 0, none⟩) K b = Value.slice (some ⟨1, 0, none⟩) K b ∧ Value.int .i64 (K : Int) = Value.int .i64 (K : Int) ∧ Value.int .i64 0 = Value.int .i64 (s_1 : Int) ∧ True) ∧ some (AObj.row (seC nm D v N) 5 true false true) :: some (AObj.row (shC D s K) 4 true false true) :: some z1 :: some z0 :: noH = some (AObj.row (seC nm D v N) 5 true false true) :: some (AObj.row (shC D s K) 4 true false true) :: some z1 :: some z0 :: noH) ∧ ∀ (s_1 : Nat), Is (s_1 ≤ K ∧ anT D s i s_1 = false) → br (decide ((s_1 : Int) < (K : Int))) (Is ((0 : Int) ≤ (s_1 : Int) ∧ (s_1 : Int) < (K : Int)) ∧ Is ((if 0 + Int.toNat (s_1 : Int) * 4 + 4 ≤ List.length (shC D s K) then some (Value.agg (List.toArray (List.take 4 (List.drop (0 + Int.toNat (s_1 : Int) * 4) (shC D s K))))) else none) = some (Value.agg #[Value.int .i64 (dAt D (s + (0 + Int.toNat (s_1 : Int) * 4) / 4)), Value.int .i64 1, Value.int .i64 0, Value.int .i64 0])) ∧ Is ((seC nm D v N = seC nm D v N ∧ shC D s K = shC D s K) ∧ ((0 : Int) ≤ (i : Int) ∧ (i : Int) < (N : Int)) ∧ (0 : Int) ≤ (s_1 : Int) ∧ (s_1 : Int) < (K : Int)) ∧ br (!inTm D s (i : Int) (s_1 : Int)) (∃ (s' : Nat), Is (s' ≤ K ∧ anT D s i s' = false) ∧ Is (K - s' < K - s_1) ∧ (Value.int .i64 (i : Int) = Value.int .i64 (i : Int) ∧ Value.pointer (some ⟨2, 0, none⟩) = Value.pointer (some ⟨2, 0, none⟩) ∧ Value.pointer (some ⟨3, 0, none⟩) = Value.pointer (some ⟨3, 0, none⟩) ∧ Value.bool false = Value.bool false ∧ Value.bool false = Value.bool false ∧ Value.slice (some ⟨1, 0, none⟩) K b = Value.slice (some ⟨1, 0, none⟩) K b ∧ Value.int .i64 (K : Int) = Value.int .i64 (K : Int) ∧ Value.int .i64 (IntKind.wrap .i64 ((s_1 : Int) + (1 : Int))) = Value.int .i64 (↑s' : Int) ∧ True) ∧ some (AObj.row (seC nm D v N) 5 true false true) :: some (AObj.row (shC D s K) 4 true false true) :: some z1 :: some z0 :: noH = some (AObj.row (seC nm D v N) 5 true false true) :: some (AObj.row (shC D s K) 4 true false true) :: some z1 :: some z0 :: noH) (K0 (Value.string { data := #[] }) (some (AObj.row (seC nm D v N) 5 true false true) :: some (AObj.row (shC D s K) 4 true false true) :: noH))) (K0 (Value.string { data := #[(100 : UInt8), (97 : UInt8), (121 : UInt8)] }) (some (AObj.row (seC nm D v N) 5 true false true) :: some (AObj.row (shC D s K) 4 true false true) :: noH)))) := by kernel_rfl
theorem anT_lt {D : Nat → Int} {s i : Nat} : ∀ {k : Nat}, (∃ j, j < k ∧ D (s + j) ≤ D i) → anT D s i k = true
  | 0, ⟨j, hj, _⟩ => by omega
  | k + 1, ⟨j, hj, h⟩ => by
    rw [anT]
    rcases (by omega : j = k ∨ j < k) with rfl | hj
    · rw [decide_eq_true h, Bool.or_true]
    · rw [anT_lt ⟨j, hj, h⟩] <;> rfl
theorem wh_ok {nm : Nat → ByteArray} {D : Nat → Int} {v : Int} {N s K a b i : Nat} (hi : i < N) (hk : K ≤ 100) :
    SmallRes Tryz.prog 33 [off3 N K a b 0 1, .int .i64 (i : Int)] [rSe nm D v N, rSh D s K] (.string (if anT D s i K = true then ⟨#[]⟩ else sDay)) [rSe nm D v N, rSh D s K] := by
  refine fnP_res hm c0_ok (hs := hsWh nm D v N s K a b i) ?_
  rw [wh_t]
  simp only [Nat.zero_add, Int.toNat_natCast]
  refine ⟨⟨by omega, by omega⟩, ⟨?_⟩, ⟨(0 : Nat), ⟨by omega, rfl⟩, ?_, by first | trivial | rfl⟩, fun k hk2 => br_of (fun h => ?_) (fun h => ?_)⟩
  · rw [se_len, if_pos (by omega), se_part hi] <;> rfl
  · repeat (first | exact trivial | refine ⟨by first | trivial | rfl, ?_⟩)
  · have h := lt_of_dec h
    obtain ⟨a1, a2⟩ := hk2.out
    simp only [up1 h (Nat.le_trans hk (by omega))]
    rw [show k * 4 / 4 = k by omega]
    refine ⟨⟨by omega, by omega⟩, ⟨?_⟩, ⟨by simp, by omega, by omega⟩, br_of (fun ht => ?_) (fun ht => ?_)⟩
    · rw [sh_len, if_pos (by omega), sh_part h] <;> rfl
    · have ht : inTm D s i k = false := by simpa using ht
      refine ⟨k + 1, ⟨h, ?_⟩, ⟨by omega⟩, ?_, by first | trivial | rfl⟩
      · rw [anT, a2, Bool.false_or]; rw [inTm, Int.toNat_natCast, Int.toNat_natCast] at ht; exact ht
      · repeat (first | exact trivial | refine ⟨by first | trivial | rfl, ?_⟩)
    · have ht : inTm D s i k = true := by simpa using ht
      rw [inTm, Int.toNat_natCast, Int.toNat_natCast] at ht
      rw [anT_lt ⟨k, h, of_decide_eq_true ht⟩]
      exact ⟨by first | trivial | rfl, by first | trivial | rfl⟩
  · have h := ge_of_dec h
    obtain ⟨a1, a2⟩ := hk2.out
    obtain rfl : k = K := by omega
    rw [a2]
    exact ⟨by first | trivial | rfl, by first | trivial | rfl⟩
section
variable (nm : Nat → ByteArray) (D : Nat → Int) (v : Int) (s : Nat)
noncomputable def orcW : OrcV
  | [.agg ⟨[.slice (some ⟨0, 0, none⟩) N _, .slice (some ⟨1, 0, none⟩) K _]⟩, .int .i64 i], [some (.row e 5 true false true), some (.row g 4 true false true)] =>
    some (.string (whS D s i.toNat K), [some (.row e 5 true false true), some (.row g 4 true false true)], isOf nm D v N s K e g ∧ K ≤ 100 ∧ 0 ≤ i ∧ i < N)
  | _, _ => none
theorem okW : OkV Tryz.prog 33 (orcW nm D v s) := by
  intro args H ret H' vc h hv
  unfold orcW at h
  split at h
  · rename_i N a K b i e g
    cases h
    obtain ⟨⟨rfl, rfl⟩, h1, h2, h3⟩ := hv
    have e2 : i = (i.toNat : Int) := by omega
    have := wh_ok (nm := nm) (D := D) (v := v) (s := s) (a := a) (b := b) (i := i.toNat) (N := N) (K := K) (by omega) h1
    rw [← e2] at this
    exact this
  · cases h
variable (N K a b : Nat) (e g : List Value) (t : Bool)
noncomputable def lpLt : Lp where
  σ := Nat
  E i := slots 34 [(1, .pointer (some ⟨2, 0, none⟩)), (5, .slice (some ⟨3, 0, none⟩) (ltN t i) 0), (15, .int .i64 (N : Int)), (16, .int .i64 (i : Int))]
  Hp i := [some (.row e 5 true false true), some (.row g 4 true false true), bxO N K a b 0 1, some (.row (ltC t i) 2 true true true)]
  I i := i ≤ N
  m i := N - i
noncomputable def hsLt : Hs Tryz.prog where
  op y := if y = 903 then some (hEqX Tryz.prog) else if y = 1003 then some (hAp Tryz.prog) else none
  lp _ := some (lpLt N K a b e g t)
  cl _ := keep 34 [1, 5, 15, 16]
  nl _ := [.only (.slot 5 2)]
  sm := true
  au := auCalls [(28, hCa Tryz.prog 28 (orcOfC nm D v s) (okOfC nm D v s)), (33, hCa Tryz.prog 33 (orcW nm D v s) (okW nm D v s))]
end
theorem lt_t (nm : Nat → ByteArray) (D : Nat → Int) (v : Int) (s : Nat) (N : Nat) (K : Nat) (a : Nat) (b : Nat) (e : List Value) (g : List Value) (t : Bool) (K0 : Value → Heap → Prop) :
    (fnP Tryz.prog c0 (hsLt nm D v s N K a b e g t) (11 : FuncId) [off3 N K a b (0 : Nat) (1 : Nat)] [some (AObj.row e (5 : Nat) true false true), some (AObj.row g (4 : Nat) true false true)] K0) =
    (let z0 : AObj := AObj.row [Value.slice (some ⟨0, 0, none⟩) N a, Value.slice (some ⟨1, 0, none⟩) K b] 0 false true false; (Is (isOf nm D v N s K e g ∧ OfOk nm D v N s K) ∧ (∃ (s : Nat), Is (s ≤ N) ∧ (Value.pointer (some ⟨2, 0, none⟩) = Value.pointer (some ⟨2, 0, none⟩) ∧ Value.slice (some ⟨3, 0, none⟩) 0 0 = Value.slice (some ⟨3, 0, none⟩) (ltN t s) 0 ∧ Value.int .i64 (N : Int) = Value.int .i64 (N : Int) ∧ Value.int .i64 0 = Value.int .i64 (s : Int) ∧ True) ∧ some (AObj.row e 5 true false true) :: some (AObj.row g 4 true false true) :: some z0 :: some (AObj.row [] 2 true true true) :: noH = some (AObj.row e 5 true false true) :: some (AObj.row g 4 true false true) :: some z0 :: some (AObj.row (ltC t s) 2 true true true) :: noH) ∧ ∀ (s_1 : Nat), Is (s_1 ≤ N) → br (decide ((s_1 : Int) < (N : Int))) (Is (isOf nm D v N s K e g ∧ K ≤ 100 ∧ (0 : Int) ≤ (s_1 : Int) ∧ (s_1 : Int) < (N : Int)) ∧ Is True ∧ br (!((s_1 : Int) == (s_1 : Int) && (whS D s (Int.toNat (s_1 : Int)) K == { data := #[] } && true))) (Is (List.length (ltC t s_1) = ltN t s_1 * 2 ∧ (ltN t s_1 + 1) * 24 ≤ 140737488355328 ∧ ltN t s_1 + 1 ≤ 9223372036854775807) ∧ ∃ (s' : Nat), Is (s' ≤ N) ∧ Is (N - s' < N - s_1) ∧ (Value.pointer (some ⟨2, 0, none⟩) = Value.pointer (some ⟨2, 0, none⟩) ∧ Value.slice (some ⟨3, 0, none⟩) (ltN t s_1 + 1) 0 = Value.slice (some ⟨3, 0, none⟩) (ltN t s') 0 ∧ Value.int .i64 (N : Int) = Value.int .i64 (N : Int) ∧ Value.int .i64 (IntKind.wrap .i64 ((s_1 : Int) + (1 : Int))) = Value.int .i64 (↑s' : Int) ∧ True) ∧ some (AObj.row e 5 true false true) :: some (AObj.row g 4 true false true) :: some z0 :: some (AObj.row (ltC t s_1 ++ [Value.int .i64 (s_1 : Int), Value.string (whS D s (Int.toNat (s_1 : Int)) K)]) 2 true true true) :: noH = some (AObj.row e 5 true false true) :: some (AObj.row g 4 true false true) :: some z0 :: some (AObj.row (ltC t s') 2 true true true) :: noH) (∃ (s' : Nat), Is (s' ≤ N) ∧ Is (N - s' < N - s_1) ∧ (Value.pointer (some ⟨2, 0, none⟩) = Value.pointer (some ⟨2, 0, none⟩) ∧ Value.slice (some ⟨3, 0, none⟩) (ltN t s_1) 0 = Value.slice (some ⟨3, 0, none⟩) (ltN t s') 0 ∧ Value.int .i64 (N : Int) = Value.int .i64 (N : Int) ∧ Value.int .i64 (IntKind.wrap .i64 ((s_1 : Int) + (1 : Int))) = Value.int .i64 (↑s' : Int) ∧ True) ∧ some (AObj.row e 5 true false true) :: some (AObj.row g 4 true false true) :: some z0 :: some (AObj.row (ltC t s_1) 2 true true true) :: noH = some (AObj.row e 5 true false true) :: some (AObj.row g 4 true false true) :: some z0 :: some (AObj.row (ltC t s') 2 true true true) :: noH)) (K0 (Value.tuple #[Value.slice (some ⟨2, 0, none⟩) (ltN t s_1) 0, Value.int .i64 0]) (some (AObj.row e 5 true false true) :: some (AObj.row g 4 true false true) :: some (AObj.row (ltC t s_1) 2 true true true) :: noH)))) := by kernel_rfl
theorem sday_ne : (sDay == (⟨#[]⟩ : ByteArray)) = false := by decide
theorem emp_eq : ((⟨#[]⟩ : ByteArray) == ⟨#[]⟩) = true := by decide
/-- Which ones are late: the first one, or none. -/
def ltIs (D : Nat → Int) (s N K : Nat) (t : Bool) : Prop := ∀ i, i < N → anT D s i K = !(t && decide (i = 0))
theorem lt_ok {nm : Nat → ByteArray} {D : Nat → Int} {v : Int} {s N K a b : Nat} {t : Bool} (h : OfOk nm D v N s K) (ht : ltIs D s N K t) (h0 : 0 < N) :
    SmallRes Tryz.prog 11 [off3 N K a b 0 1] [rSe nm D v N, rSh D s K] (.tuple #[.slice (some ⟨2, 0, none⟩) (ltN t N) 0, .int .i64 0]) [rSe nm D v N, rSh D s K, some (.row (ltC t N) 2 true true true)] := by
  refine fnP_res hm c0_ok (hs := hsLt nm D v s N K a b (seC nm D v N) (shC D s K) t) ?_
  show fnP Tryz.prog c0 _ 11 _ [some (.row (seC nm D v N) 5 true false true), some (.row (shC D s K) 4 true false true)] _
  rw [lt_t]
  have o : isOf nm D v N s K (seC nm D v N) (shC D s K) := ⟨rfl, rfl⟩
  have hn := h.n
  have hk := h.k
  refine ⟨⟨o, h⟩, ⟨(0 : Nat), ⟨by omega⟩, ?_, ?_⟩, fun i hi => br_of (fun hd => ?_) (fun hd => ?_)⟩
  · have e : ltN t 0 = 0 := by rw [ltN, if_neg (by omega)]
    rw [e]
    repeat (first | exact trivial | refine ⟨by first | trivial | rfl, ?_⟩)
  · have e : ltC t 0 = [] := by rw [ltC, if_neg (by omega)]
    rw [e] <;> rfl
  · have hd := lt_of_dec hd
    have hl := ht i hd
    simp only [Int.toNat_natCast, up1 hd (Nat.le_trans hn (by omega)), beq_self_eq_true, Bool.true_and]
    refine ⟨⟨o, by omega, by omega, by omega⟩, ⟨trivial⟩, ?_⟩
    cases hb : (t && decide (i = 0)) with
    | false =>
      rw [hb] at hl
      have e : whS D s i K = ⟨#[]⟩ := by rw [whS, if_pos (by rw [hl] <;> rfl)]
      have e1 : ltN t (i + 1) = ltN t i := by
        rw [ltN, ltN]
        cases t with
        | false => rw [if_neg (by simp), if_neg (by simp)]
        | true =>
          have : i ≠ 0 := by simpa using hb
          rw [if_pos ⟨rfl, by omega⟩, if_pos ⟨rfl, by omega⟩]
      have e2 : ltC t (i + 1) = ltC t i := by
        rw [ltC, ltC]
        cases t with
        | false => rw [if_neg (by simp), if_neg (by simp)]
        | true =>
          have : i ≠ 0 := by simpa using hb
          rw [if_pos ⟨rfl, by omega⟩, if_pos ⟨rfl, by omega⟩]
      rw [e]
      refine br_of (fun hx => ?_) (fun _ => ?_)
      · rw [emp_eq] at hx; cases hx
      · refine ⟨i + 1, ⟨hd⟩, ⟨by omega⟩, ?_, by rw [e2]⟩
        rw [e1]
        repeat (first | exact trivial | refine ⟨by first | trivial | rfl, ?_⟩)
    | true =>
      rw [hb] at hl
      obtain ⟨rfl, hz⟩ : t = true ∧ i = 0 := by simpa using hb
      subst hz
      have e : whS D s 0 K = sDay := by rw [whS, if_neg (by rw [hl]; decide)]
      rw [e]
      refine br_of (fun _ => ?_) (fun hx => ?_)
      · refine ⟨⟨rfl, by decide, by decide⟩, 1, ⟨by omega⟩, ⟨by omega⟩, ?_, by first | trivial | rfl⟩
        repeat (first | exact trivial | refine ⟨by first | trivial | rfl, ?_⟩)
      · rw [sday_ne] at hx; cases hx
  · have hd := ge_of_dec hd
    obtain rfl : i = N := by have := hi.out; omega
    exact ⟨by first | trivial | rfl, by first | trivial | rfl⟩
end
end Qq
end
section
/- Quotients in lowest terms, and lines through two points: plain laws. -/
open Go Go.Vm Go.Proofs Sp
namespace Qq
noncomputable section

/-- A quotient in lowest terms. -/
structure Low (r : Int × Int) : Prop where
  pos : 0 < r.2
  one : r.1.natAbs.gcd r.2.natAbs = 1
structure LowIn (a d : Int) : Prop where
  h0 : 0 < d
  h1 : d < 9223372036854775808
  a0 : -9223372036854775808 < a
  a1 : a < 9223372036854775808
end
end Qq
end
section
/- Lines of measurements that are near each other: plain laws. -/
open Go Go.Vm Go.Proofs Sp
namespace Qq
noncomputable section
/-- Measurements near the first one. -/
structure Near (zs : List Int) (off m : Nat) : Prop where
  len : off + m * 2 ≤ zs.length
  few : m ≤ 8
  day : ∀ i, i < m → 0 ≤ zs.getD (off + i * 2) 0 - d0 zs off ∧ zs.getD (off + i * 2) 0 - d0 zs off ≤ 400
  idx : ∀ i, i < m → 0 ≤ zs.getD (off + i * 2 + 1) 0 ∧ zs.getD (off + i * 2 + 1) 0 ≤ 400
theorem Near.sums {zs : List Int} {off m : Nat} (h : Near zs off m) {i : Nat} (hi : i ≤ m) :
    (0 ≤ sX zs off i ∧ sX zs off i ≤ 3200) ∧ (0 ≤ sY zs off i ∧ sY zs off i ≤ 3200) ∧ (0 ≤ sXX zs off i ∧ sXX zs off i ≤ 1280000) ∧ (0 ≤ sXY zs off i ∧ sXY zs off i ≤ 1280000) := by
  have hm := h.few
  have up : ∀ {s B : Int}, 0 ≤ B → 0 ≤ s ∧ s ≤ B * i → 0 ≤ s ∧ s ≤ B * 8 := fun {s B} hB ⟨a, b⟩ => ⟨a, Int.le_trans b (Int.mul_le_mul_of_nonneg_left (by omega) hB)⟩
  refine ⟨up (B := 400) (by omega) (sumP_le h.len (fun j hj => h.day j hj) i hi), up (B := 400) (by omega) (sumP_le h.len (fun j hj => h.idx j hj) i hi), up (B := 160000) (by omega) (sumP_le h.len (fun j hj => ?_) i hi), up (B := 160000) (by omega) (sumP_le h.len (fun j hj => ?_) i hi)⟩
  · obtain ⟨q1, q2⟩ := h.day j hj
    have := mul_in q1 q2 q1 q2
    exact ⟨this.1, by omega⟩
  · obtain ⟨q1, q2⟩ := h.day j hj
    obtain ⟨q3, q4⟩ := h.idx j hj
    have := mul_in q1 q2 q3 q4
    exact ⟨this.1, by omega⟩
theorem Near.line {zs : List Int} {off m : Nat} (h : Near zs off m) : (-4096000000 ≤ lvl zs off m ∧ lvl zs off m ≤ 4096000000) ∧ (-10240000 ≤ slp zs off m ∧ slp zs off m ≤ 10240000) ∧ dn zs off m ≤ 10240000 := by
  obtain ⟨⟨x0, x1⟩, ⟨y0, y1⟩, ⟨p0, p1⟩, ⟨q0, q1⟩⟩ := h.sums (Nat.le_refl m)
  have hm := h.few
  have a1 := mul_in y0 y1 p0 p1
  have a2 := mul_in x0 x1 q0 q1
  have a3 := mul_in (show (0 : Int) ≤ m by omega) (show (m : Int) ≤ 8 by omega) q0 q1
  have a4 := mul_in x0 x1 y0 y1
  have a5 := mul_in (show (0 : Int) ≤ m by omega) (show (m : Int) ≤ 8 by omega) p0 p1
  have a6 := mul_in x0 x1 x0 x1
  simp only [lvl, slp, dn]
  omega
end
end Qq
end
section
/- Lines that fit: the loops. -/
open Go Go.Vm Go.Proofs Sp
namespace Qq
noncomputable section
/-- A line and measurements whose numbers do not leave the machine's integers. -/
structure FitIn (zs : List Int) (off m : Nat) (w a b s d : Int) : Prop where
  len : off + m * 2 ≤ zs.length
  few : m ≤ 1000
  w0 : 0 ≤ w
  w1 : w ≤ 100000
  a0 : 0 ≤ a
  a1 : a ≤ 100000
  b0 : -1000000000000 ≤ b
  b1 : b ≤ 1000000000000
  s0 : -1000000000000 ≤ s
  s1 : s ≤ 1000000000000
  d0 : 0 < d
  d1 : d ≤ 1000000000000
  day : ∀ i, i < m → 0 ≤ zs.getD (off + i * 2) 0 ∧ zs.getD (off + i * 2) 0 ≤ 100000
  idx : ∀ i, i < m → 0 ≤ zs.getD (off + i * 2 + 1) 0 ∧ zs.getD (off + i * 2 + 1) 0 ≤ 100000
/-- A line through two points, near measurements. -/
structure CoIn (zs : List Int) (off m : Nat) (w x y u v : Int) : Prop where
  len : off + m * 2 ≤ zs.length
  few : m ≤ 1000
  w0 : 0 ≤ w
  w1 : w ≤ 100000
  x0 : 0 ≤ x
  xu : x < u
  u1 : u ≤ 100000
  y0 : -200000 ≤ y
  y1 : y ≤ 200000
  v0 : -200000 ≤ v
  v1 : v ≤ 200000
  day : ∀ i, i < m → 0 ≤ zs.getD (off + i * 2) 0 ∧ zs.getD (off + i * 2) 0 ≤ 100000
  idx : ∀ i, i < m → 0 ≤ zs.getD (off + i * 2 + 1) 0 ∧ zs.getD (off + i * 2 + 1) 0 ≤ 100000
end
end Qq
end
section
/- Lines that are given, checked; Fits. -/
open Go Go.Vm Go.Proofs Sp
namespace Sp
noncomputable section
noncomputable def rtE (n d : Int) : Int := sel (fi [wi n (-999999999) 999999999, wi d 1 999999999]) (wh (decide ((1 : Int) < (Nat.gcd n.natAbs d.natAbs : Nat))) 1)
end
end Sp
namespace Qq
noncomputable section
theorem firstS_t (l : List Int) (n : Nat) (c : Nat) (es : Nat) (more : Bool) (rw : Bool) (K : Value → Heap → Prop) :
    (fnP Tryz.prog c0 (hFirst l n c es more rw) (93 : FuncId) [Value.slice (some { block := (0 : Nat), off := (0 : Nat) }) n c] [some (AObj.row (ints l) es more rw true)] K) =
    ((∃ s, Is (s ≤ List.length l ∧ fi (List.drop s l) = fi l) ∧ [poi, poi, poi, poi, poi, Value.slice (some ⟨0, 0, none⟩) n c, Value.int .i64 (n : Int), Value.int .i64 0, poi, poi, poi, poi, poi, poi, poi] = [poi, poi, poi, poi, poi, Value.slice (some ⟨0, 0, none⟩) n c, Value.int .i64 (n : Int), Value.int .i64 (s : Int), poi, poi, poi, poi, poi, poi, poi] ∧ some (AObj.row (ints l) es more rw true) :: noH = some (AObj.row (ints l) es more rw true) :: noH) ∧ ∀ (s : Nat), Is (s ≤ List.length l ∧ fi (List.drop s l) = fi l) → br (decide ((s : Int) < (n : Int))) (Is ((0 : Int) ≤ (s : Int) ∧ (s : Int) < (n : Int)) ∧ Is ((ints l)[0 + Int.toNat (s : Int) * 1]? = some (Value.int .i64 (List.getD l (0 + Int.toNat (s : Int) * 1) (0 : Int)))) ∧ br (List.getD l (0 + Int.toNat (s : Int) * 1) (0 : Int) != (0 : Int)) (K (Value.int .i64 (List.getD l (0 + Int.toNat (s : Int) * 1) (0 : Int))) (some (AObj.row (ints l) es more rw true) :: noH)) (∃ s', Is (s' ≤ List.length l ∧ fi (List.drop s' l) = fi l) ∧ Is (List.length l - s' < List.length l - s) ∧ [poi, poi, poi, poi, poi, Value.slice (some ⟨0, 0, none⟩) n c, Value.int .i64 (n : Int), Value.int .i64 (IntKind.wrap .i64 ((s : Int) + (1 : Int))), poi, poi, poi, poi, poi, poi, poi] = [poi, poi, poi, poi, poi, Value.slice (some ⟨0, 0, none⟩) n c, Value.int .i64 (n : Int), Value.int .i64 (↑s' : Int), poi, poi, poi, poi, poi, poi, poi] ∧ some (AObj.row (ints l) es more rw true) :: noH = some (AObj.row (ints l) es more rw true) :: noH)) (K (Value.int .i64 0) (some (AObj.row (ints l) es more rw true) :: noH))) := by kernel_rfl
theorem whenS_t (b : Bool) (e : Int) (K : Value → Heap → Prop) :
    (fnP Tryz.prog c0 h0 (95 : FuncId) [Value.bool b, Value.int IntKind.i64 e] [] K) =
    (br b (K (Value.int IntKind.i64 e) noH) (K (Value.int IntKind.i64 (0 : Int)) noH)) := by kernel_rfl
theorem okWhenS : Ok Tryz.prog 95 orcWhen := by
  intro args H ret H' h
  unfold orcWhen at h
  split at h
  · cases h
    refine fnP_res hm c0_ok (hs := h0) ?_
    rw [whenS_t]
    exact br_of (fun h => by simp [wh, h]) (fun h => by simp [wh, h])
  · cases h
theorem okFirstS : Ok Tryz.prog 93 orcFirst := by
  intro args H ret H' h
  unfold orcFirst at h
  split at h
  · rename_i n c cells es more rw
    split at h
    · rename_i l hl
      split at h
      · rename_i hn
        cases h
        have := intsOf_eq hl
        subst this
        obtain ⟨hn, hlt⟩ := hn
        subst hn
        refine fnP_res hm c0_ok (hs := hFirst l l.length c es more rw) ?_
        rw [firstS_t]
        refine ⟨⟨(0 : Nat), ⟨by simp, by simp⟩, rfl, rfl⟩, fun s hs => ?_⟩
        obtain ⟨h1, h2⟩ := hs.out
        refine br_of (fun hc => ?_) (fun hc => ?_)
        · have hc : s < l.length := by simpa using hc
          refine ⟨⟨by omega, by omega⟩, ⟨by simpa using ints_at hc⟩, br_of (fun hd => ?_) (fun hd => ?_)⟩
          · have := fi_drop hc
            have hd' : l.getD s 0 ≠ 0 := by simpa using hd
            rw [if_neg hd'] at this
            simp [← h2, this]
          · have := fi_drop hc
            have hd' : l.getD s 0 = 0 := by simpa using hd
            rw [if_pos hd'] at this
            refine ⟨s + 1, ⟨hc, by rw [← this, h2]⟩, ⟨by omega⟩, ?_, rfl⟩
            rw [wrap_eq (by omega) (by omega)]
            rfl
        · have hc : l.length ≤ s := by simpa using hc
          have : s = l.length := by omega
          subst this
          simp [← h2, fi]
      · cases h
    · cases h
  · cases h
noncomputable def s1 : List (Nat × Orc) := [(95, orcWhen), (93, orcFirst)]
theorem s1_all : ∀ p ∈ s1, Ok Tryz.prog p.1 p.2 := all_cons okWhenS (all_cons okFirstS all_nil)
noncomputable def cs1 : CallF := ctx Tryz.prog s1
theorem cs1_ok : CallOK Tryz.prog cs1 := ctx_ok hm s1_all
theorem withinS_t (n : Int) (lo : Int) (hi : Int) (K : Value → Heap → Prop) :
    (fnP Tryz.prog cs1 h0 (94 : FuncId) [Value.int IntKind.i64 n, Value.int IntKind.i64 lo, Value.int IntKind.i64 hi] [] K) =
    (br (decide (n < lo)) (K (Value.int IntKind.i64 (3 : Int)) noH) (K (Value.int IntKind.i64 (wh (decide (hi < n)) (3 : Int))) noH)) := by kernel_rfl
theorem okWithinS : Ok Tryz.prog 94 orcWithin := by
  intro args H ret H' h
  unfold orcWithin at h
  split at h
  · cases h
    refine fnP_res hm cs1_ok (hs := h0) ?_
    rw [withinS_t]
    exact br_of (fun h => by simp [wi, of_decide_eq_true h]) (fun h => by simp [wi, wh, of_decide_eq_false h])
  · cases h
noncomputable def s2 : List (Nat × Orc) := (94, orcWithin) :: s1
theorem s2_all : ∀ p ∈ s2, Ok Tryz.prog p.1 p.2 := all_cons okWithinS s1_all
noncomputable def cs2 : CallF := ctx Tryz.prog s2
theorem cs2_ok : CallOK Tryz.prog cs2 := ctx_ok hm s2_all
/- The greatest common divisor. -/
noncomputable def lpCom (g : Nat) : Lp where
  σ := Int × Int
  E s := slots 15 [(0, .int .i64 s.1), (1, .int .i64 s.2)]
  Hp _ := []
  I s := Nat.gcd s.1.natAbs s.2.natAbs = g ∧ s.1.natAbs < 9223372036854775808 ∧ s.2.natAbs < 9223372036854775808
  m s := s.2.natAbs
noncomputable def hCom (g : Nat) : Hs Tryz.prog where
  lp _ := some (lpCom g)
  cl _ := keep 15 [0, 1]
  au := au0 Tryz.prog
theorem com_t (a : Int) (b : Int) (g : Nat) (K : Value → Heap → Prop) :
    (fnP Tryz.prog c0 (hCom g) (96 : FuncId) [Value.int IntKind.i64 a, Value.int IntKind.i64 b] [] K) =
    ((∃ s, Is (Nat.gcd (Int.natAbs (Prod.fst s)) (Int.natAbs (Prod.snd s)) = g ∧ Int.natAbs (Prod.fst s) < 9223372036854775808 ∧ Int.natAbs (Prod.snd s) < 9223372036854775808) ∧ [Value.int .i64 a, Value.int .i64 b, poi, poi, poi, poi, poi, poi, poi, poi, poi, poi, poi, poi, poi] = [Value.int .i64 (Prod.fst s), Value.int .i64 (Prod.snd s), poi, poi, poi, poi, poi, poi, poi, poi, poi, poi, poi, poi, poi] ∧ noH = noH) ∧ ∀ (s : Int × Int), Is (Nat.gcd (Int.natAbs (Prod.fst s)) (Int.natAbs (Prod.snd s)) = g ∧ Int.natAbs (Prod.fst s) < 9223372036854775808 ∧ Int.natAbs (Prod.snd s) < 9223372036854775808) → br (Prod.snd s != (0 : Int)) (Is (Prod.snd s ≠ (0 : Int)) ∧ ∃ s', Is (Nat.gcd (Int.natAbs (Prod.fst s')) (Int.natAbs (Prod.snd s')) = g ∧ Int.natAbs (Prod.fst s') < 9223372036854775808 ∧ Int.natAbs (Prod.snd s') < 9223372036854775808) ∧ Is (Int.natAbs (Prod.snd s') < Int.natAbs (Prod.snd s)) ∧ [Value.int .i64 (Prod.snd s), Value.int .i64 (Int.tmod (Prod.fst s) (Prod.snd s)), poi, poi, poi, poi, poi, poi, poi, poi, poi, poi, poi, poi, poi] = [Value.int .i64 (Prod.fst s'), Value.int .i64 (Prod.snd s'), poi, poi, poi, poi, poi, poi, poi, poi, poi, poi, poi, poi, poi] ∧ noH = noH) (K (Value.int .i64 (if IntKind.wrap .i64 ((0 : Int) - Prod.fst s) > Prod.fst s then IntKind.wrap .i64 ((0 : Int) - Prod.fst s) else Prod.fst s)) noH)) := by kernel_rfl
noncomputable def orcCom : OrcV
  | [.int .i64 a, .int .i64 b], [] => some (.int .i64 (Nat.gcd a.natAbs b.natAbs : Nat), [], a.natAbs < 9223372036854775808 ∧ b.natAbs < 9223372036854775808)
  | _, _ => none
theorem okCom : OkV Tryz.prog 96 orcCom := by
  intro args H ret H' vc h hv
  unfold orcCom at h
  split at h
  · rename_i a b
    cases h
    obtain ⟨v1, v2⟩ := hv
    refine fnP_res hm c0_ok (hs := hCom (Nat.gcd a.natAbs b.natAbs)) ?_
    rw [com_t]
    refine ⟨⟨(a, b), ⟨rfl, v1, v2⟩, by first | trivial | rfl, by first | trivial | rfl⟩, fun s hs => ?_⟩
    obtain ⟨i1, i2, i3⟩ := hs.out
    refine br_of (fun hc => ?_) (fun hc => ?_)
    · have hc : s.2 ≠ 0 := by simpa using hc
      have e : (s.1.tmod s.2).natAbs = s.1.natAbs % s.2.natAbs := Int.natAbs_tmod ..
      have lt : s.1.natAbs % s.2.natAbs < s.2.natAbs := Nat.mod_lt _ (by omega)
      refine ⟨⟨hc⟩, (s.2, s.1.tmod s.2), ⟨by simp only [e]; rw [← i1]; exact gcd_step, i3, by simp only [e]; omega⟩, ⟨by simp only [e]; omega⟩, by first | trivial | rfl, by first | trivial | rfl⟩
    · have hc : s.2 = 0 := by simpa using hc
      rw [hc] at i1
      have i1 : s.1.natAbs = Nat.gcd a.natAbs b.natAbs := by simpa using i1
      have := max_abs (n := s.1) (by omega) (by omega)
      simp only [W] at this
      rw [this, i1]
      exact ⟨by first | trivial | rfl, by first | trivial | rfl⟩
  · cases h
noncomputable def orcRt : Orc
  | [.agg ⟨[.int .i64 n, .int .i64 d]⟩], [] => some (.int .i64 (rtE n d), [])
  | _, _ => none
noncomputable def hsRt : Hs Tryz.prog where
  au := auCalls [(96, hCa Tryz.prog 96 orcCom okCom)]
theorem rt_t (n : Int) (d : Int) (K : Value → Heap → Prop) :
    (fnP Tryz.prog cs2 hsRt (65 : FuncId) [Value.agg #[Value.int IntKind.i64 n, Value.int IntKind.i64 d]] [] K) =
    (br (fi [wi n (-999999999 : Int) (999999999 : Int), wi d (1 : Int) (999999999 : Int)] != (0 : Int)) (K (Value.int .i64 (fi [wi n (-999999999 : Int) (999999999 : Int), wi d (1 : Int) (999999999 : Int)])) noH) (Is (Int.natAbs n < 9223372036854775808 ∧ Int.natAbs d < 9223372036854775808) ∧ K (Value.int .i64 (wh (decide ((1 : Int) < (↑(Nat.gcd (Int.natAbs n) (Int.natAbs d)) : Int))) (1 : Int))) noH)) := by kernel_rfl
theorem okRt : Ok Tryz.prog 65 orcRt := by
  intro args H ret H' h
  unfold orcRt at h
  split at h
  · rename_i n d
    cases h
    refine fnP_res hm cs2_ok (hs := hsRt) ?_
    rw [rt_t]
    refine br_of (fun h => ?_) (fun h => ?_)
    · rw [rtE, sel_ne h]; exact ⟨by first | trivial | rfl, by first | trivial | rfl⟩
    · have h' : fi [wi n (-999999999) 999999999, wi d 1 999999999] = 0 := by simpa using h
      have h1 := wi_zero.1 (fi_zero.1 h' (wi n (-999999999) 999999999) (by simp))
      have h2 := wi_zero.1 (fi_zero.1 h' (wi d 1 999999999) (by simp))
      rw [rtE, sel_eq h]
      exact ⟨⟨by omega, by omega⟩, by first | trivial | rfl, by first | trivial | rfl⟩
  · cases h
/- The greatest of a list. -/
/- Lines, checked. -/
end
end Qq
end
section
/- Prices. -/
open Go Go.Vm Go.Proofs Sp
namespace Sp
noncomputable section
def prC (a d : Int) (k : Nat) : List Value := (List.replicate k [Value.int .i64 a, .int .i64 d]).flatten
def reC (x : Int) (k : Nat) : List Value := ints (List.replicate k x)
/-- The cost of a price. -/
def coP (a d : Int) : Int := a * (27720 / d)
def prOk (a d : Int) : Prop := rtE a d = 0 ∧ 0 ≤ a ∧ (1 ≤ d ∧ d ≤ 12) ∧ 0 ≤ coP a d ∧ coP a d ≤ 1000000
noncomputable def prV (a d : Int) (_ : Nat) : Value := .agg #[.int .i64 a, .int .i64 d]
end
end Sp
namespace Qq
noncomputable section
theorem pr_succ (a d : Int) (k : Nat) : prC a d (k + 1) = prC a d k ++ [.int .i64 a, .int .i64 d] := by
  rw [prC, List.replicate_succ', List.flatten_append, ← prC] <;> rfl
theorem pr_len (a d : Int) : ∀ k, (prC a d k).length = k * 2
  | 0 => rfl
  | k + 1 => by rw [pr_succ, List.length_append, pr_len a d k]; simp only [List.length_cons, List.length_nil]; omega
theorem pr_part {a d : Int} {i : Nat} : ∀ {m : Nat}, i < m → ((prC a d m).drop (i * 2)).take 2 = [.int .i64 a, .int .i64 d]
  | 0, h => by omega
  | m + 1, h => by
    have hl := pr_len a d m
    rw [pr_succ]
    rcases (by omega : i = m ∨ i < m) with rfl | h
    · rw [← hl, List.drop_left] <;> rfl
    · rw [List.drop_append_of_le_length (by omega), List.take_append_of_le_length (by rw [List.length_drop]; omega)]
      exact pr_part h
theorem re_succ (x : Int) (k : Nat) : reC x (k + 1) = reC x k ++ [.int .i64 x] := by
  rw [reC, List.replicate_succ', ← ints_app] <;> rfl
theorem re_len (x : Int) (k : Nat) : (reC x k).length = k := by rw [reC, ints_len, List.length_replicate]
theorem re_at {x : Int} {k i : Nat} (h : i < k) : (reC x k)[i]? = some (.int .i64 x) := by
  rw [reC, ints_at (by rw [List.length_replicate]; exact h), List.getD_eq_getElem?_getD, List.getElem?_replicate, if_pos h] <;> rfl
noncomputable def u4 : List (Nat × Orc) := (65, orcRt) :: u2
theorem u4_all : ∀ p ∈ u4, Ok Tryz.prog p.1 p.2 := all_cons okRt u2_all
noncomputable def cu4 : CallF := ctx Tryz.prog u4
theorem cu4_ok : CallOK Tryz.prog cu4 := ctx_ok hm u4_all
theorem cpr_t (a : Int) (d : Int) (K0 : Value → Heap → Prop) :
    (fnP Tryz.prog cu4 h0 (38 : FuncId) [Value.agg #[Value.int IntKind.i64 a, Value.int IntKind.i64 d]] [] K0) =
    (K0 (Value.int IntKind.i64 (fi [rtE a d, wh (decide (a < (0 : Int))) (3 : Int)])) noH) := by kernel_rfl
noncomputable def orcPr : OrcV
  | [.agg ⟨[.int .i64 a, .int .i64 d]⟩], [] => some (.int .i64 0, [], prOk a d)
  | _, _ => none
theorem okPr : OkV Tryz.prog 38 orcPr := by
  intro args H ret H' vc h hv
  unfold orcPr at h
  split at h
  · rename_i a d
    cases h
    refine fnP_res hm cu4_ok (hs := h0) ?_
    show fnP Tryz.prog cu4 h0 38 [.agg #[.int .i64 a, .int .i64 d]] [] _
    rw [cpr_t, hv.1, show decide (a < 0) = false from decide_eq_false (by have := hv.2.1; omega)]
    exact ⟨by first | trivial | rfl, by first | trivial | rfl⟩
  · cases h
theorem cpd_t (a : Int) (d : Int) (K0 : Value → Heap → Prop) :
    (fnP Tryz.prog c0 h0 (40 : FuncId) [Value.agg #[Value.int IntKind.i64 a, Value.int IntKind.i64 d]] [] K0) =
    (K0 (Value.bool (decide ((12 : Int) < d))) noH) := by kernel_rfl
noncomputable def orcPd : OrcV
  | [.agg ⟨[.int .i64 a, .int .i64 d]⟩], [] => some (.bool false, [], prOk a d)
  | _, _ => none
theorem okPd : OkV Tryz.prog 40 orcPd := by
  intro args H ret H' vc h hv
  unfold orcPd at h
  split at h
  · rename_i a d
    cases h
    refine fnP_res hm c0_ok (hs := h0) ?_
    show fnP Tryz.prog c0 h0 40 [.agg #[.int .i64 a, .int .i64 d]] [] _
    rw [cpd_t, show decide ((12 : Int) < d) = false from decide_eq_false (by have := hv.2.2.1; omega)]
    exact ⟨by first | trivial | rfl, by first | trivial | rfl⟩
  · cases h
noncomputable def hsPc : Hs Tryz.prog where
  au := au0 Tryz.prog
theorem cpc_t (a : Int) (d : Int) (K0 : Value → Heap → Prop) :
    (fnP Tryz.prog c0 hsPc (42 : FuncId) [Value.agg #[Value.int IntKind.i64 a, Value.int IntKind.i64 d]] [] K0) =
    (Is (d ≠ (0 : Int)) ∧ K0 (Value.int IntKind.i64 (IntKind.wrap IntKind.i64 (a * IntKind.wrap IntKind.i64 (Int.tdiv (27720 : Int) d)))) noH) := by kernel_rfl
noncomputable def orcPc : OrcV
  | [.agg ⟨[.int .i64 a, .int .i64 d]⟩], [] => some (.int .i64 (coP a d), [], prOk a d)
  | _, _ => none
theorem okPc : OkV Tryz.prog 42 orcPc := by
  intro args H ret H' vc h hv
  unfold orcPc at h
  split at h
  · rename_i a d
    cases h
    obtain ⟨h1, h2, ⟨h3, h3'⟩, h4, h5⟩ := hv
    refine fnP_res hm c0_ok (hs := hsPc) ?_
    show fnP Tryz.prog c0 hsPc 42 [.agg #[.int .i64 a, .int .i64 d]] [] _
    rw [cpc_t]
    have e1 : Int.tdiv 27720 d = 27720 / d := Int.tdiv_eq_ediv_of_nonneg (by omega)
    have b1 : 0 ≤ (27720 : Int) / d := Int.ediv_nonneg (by omega) (by omega)
    have b2 : (27720 : Int) / d ≤ 27720 := Int.ediv_le_self _ (by omega)
    have e2 : a * ((27720 : Int) / d) = coP a d := rfl
    rw [e1, wrap_eq (x := (27720 : Int) / d) (by omega) (by omega), e2, wrap_eq (by omega) (by omega)]
    exact ⟨⟨by omega⟩, rfl, rfl⟩
  · cases h
section
variable (a d : Int) (K c : Nat)
noncomputable def rPr : Option AObj := some (.row (prC a d K) 2 true true true)
noncomputable def lpM (g : Nat) (x : Int) : Lp where
  σ := Nat
  E i := slots 22 [(1, .func (.func g) #[] #[]), (5, .slice (some ⟨1, 0, none⟩) i 0), (8, .slice (some ⟨0, 0, none⟩) K c), (9, .int .i64 (K : Int)), (10, .int .i64 (i : Int))]
  Hp i := [rPr a d K, some (.row (reC x i) 1 true true true)]
  I i := i ≤ K
  m i := K - i
noncomputable def hsM (g : Nat) (x : Int) (h : Hint Tryz.prog) : Hs Tryz.prog where
  op y := if y = 400 then some (hIa Tryz.prog) else if y = 401 then some (hLd Tryz.prog (prV a d)) else if y = 503 then some h else if y = 505 then some (hAp Tryz.prog) else none
  lp _ := some (lpM a d K c g x)
  cl _ := keep 22 [1, 5, 8, 9, 10]
  nl _ := [.only (.slot 5 1)]
  sm := true
  au := au0 Tryz.prog
noncomputable def lpX : Lp where
  σ := Nat
  E i := slots 19 [(0, .slice (some ⟨0, 0, none⟩) K c), (1, .func (.func 40) #[] #[]), (7, .int .i64 (K : Int)), (8, .int .i64 (i : Int))]
  Hp _ := [rPr a d K]
  I i := i ≤ K
  m i := K - i
noncomputable def hsX : Hs Tryz.prog where
  op y := if y = 403 then some (hIa Tryz.prog) else if y = 404 then some (hLd Tryz.prog (prV a d)) else if y = 405 then some (hCa Tryz.prog 40 orcPd okPd) else none
  lp _ := some (lpX a d K c)
  cl _ := keep 19 [0, 1, 7, 8]
  sm := true
  au := au0 Tryz.prog
end
theorem m1_t (a : Int) (d : Int) (K : Nat) (c : Nat) (K0 : Value → Heap → Prop) :
    (fnP Tryz.prog c0 (hsM a d K c (38 : Nat) (0 : Int) (hCa Tryz.prog (38 : FuncId) orcPr okPr)) (37 : FuncId) [Value.slice (some { block := (0 : Nat), off := (0 : Nat) }) K c, Value.func (Fn.func (38 : FuncId)) #[] #[]] [rPr a d K] K0) =
    ((∃ (s : Nat), Is (s ≤ K) ∧ (Value.func (Fn.func 38) #[] #[] = Value.func (Fn.func 38) #[] #[] ∧ Value.slice (some ⟨1, 0, none⟩) 0 0 = Value.slice (some ⟨1, 0, none⟩) s 0 ∧ Value.slice (some ⟨0, 0, none⟩) K c = Value.slice (some ⟨0, 0, none⟩) K c ∧ Value.int .i64 (K : Int) = Value.int .i64 (K : Int) ∧ Value.int .i64 0 = Value.int .i64 (s : Int) ∧ True) ∧ some (AObj.row (prC a d K) 2 true true true) :: some (AObj.row [] 1 true true true) :: noH = some (AObj.row (prC a d K) 2 true true true) :: some (AObj.row (reC (0 : Int) s) 1 true true true) :: noH) ∧ ∀ (s : Nat), Is (s ≤ K) → br (decide ((s : Int) < (K : Int))) (Is ((0 : Int) ≤ (s : Int) ∧ (s : Int) < (K : Int)) ∧ Is ((if 0 + Int.toNat (s : Int) * 2 + 2 ≤ List.length (prC a d K) then some (Value.agg (List.toArray (List.take 2 (List.drop (0 + Int.toNat (s : Int) * 2) (prC a d K))))) else none) = some (Value.agg #[Value.int .i64 a, Value.int .i64 d])) ∧ Is (prOk a d) ∧ Is (List.length (reC (0 : Int) s) = s * 1 ∧ (s + 1) * 8 ≤ 140737488355328 ∧ s + 1 ≤ 9223372036854775807) ∧ ∃ (s' : Nat), Is (s' ≤ K) ∧ Is (K - s' < K - s) ∧ (Value.func (Fn.func 38) #[] #[] = Value.func (Fn.func 38) #[] #[] ∧ Value.slice (some ⟨1, 0, none⟩) (s + 1) 0 = Value.slice (some ⟨1, 0, none⟩) s' 0 ∧ Value.slice (some ⟨0, 0, none⟩) K c = Value.slice (some ⟨0, 0, none⟩) K c ∧ Value.int .i64 (K : Int) = Value.int .i64 (K : Int) ∧ Value.int .i64 (IntKind.wrap .i64 ((s : Int) + (1 : Int))) = Value.int .i64 (↑s' : Int) ∧ True) ∧ some (AObj.row (prC a d K) 2 true true true) :: some (AObj.row (reC (0 : Int) s ++ [Value.int .i64 0]) 1 true true true) :: noH = some (AObj.row (prC a d K) 2 true true true) :: some (AObj.row (reC (0 : Int) s') 1 true true true) :: noH) (K0 (Value.slice (some ⟨1, 0, none⟩) s 0) (some (AObj.row (prC a d K) 2 true true true) :: some (AObj.row (reC (0 : Int) s) 1 true true true) :: noH))) := by kernel_rfl
theorem ix_t (a : Int) (d : Int) (K : Nat) (c : Nat) (K0 : Value → Heap → Prop) :
    (fnP Tryz.prog c0 (hsX a d K c) (66 : FuncId) [Value.slice (some { block := (0 : Nat), off := (0 : Nat) }) K c, Value.func (Fn.func (40 : FuncId)) #[] #[]] [rPr a d K] K0) =
    ((∃ (s : Nat), Is (s ≤ K) ∧ (Value.slice (some ⟨0, 0, none⟩) K c = Value.slice (some ⟨0, 0, none⟩) K c ∧ Value.func (Fn.func 40) #[] #[] = Value.func (Fn.func 40) #[] #[] ∧ Value.int .i64 (K : Int) = Value.int .i64 (K : Int) ∧ Value.int .i64 0 = Value.int .i64 (s : Int) ∧ True) ∧ some (AObj.row (prC a d K) 2 true true true) :: noH = some (AObj.row (prC a d K) 2 true true true) :: noH) ∧ ∀ (s : Nat), Is (s ≤ K) → br (decide ((s : Int) < (K : Int))) (Is ((0 : Int) ≤ (s : Int) ∧ (s : Int) < (K : Int)) ∧ Is ((if 0 + Int.toNat (s : Int) * 2 + 2 ≤ List.length (prC a d K) then some (Value.agg (List.toArray (List.take 2 (List.drop (0 + Int.toNat (s : Int) * 2) (prC a d K))))) else none) = some (Value.agg #[Value.int .i64 a, Value.int .i64 d])) ∧ Is (prOk a d) ∧ ∃ (s' : Nat), Is (s' ≤ K) ∧ Is (K - s' < K - s) ∧ (Value.slice (some ⟨0, 0, none⟩) K c = Value.slice (some ⟨0, 0, none⟩) K c ∧ Value.func (Fn.func 40) #[] #[] = Value.func (Fn.func 40) #[] #[] ∧ Value.int .i64 (K : Int) = Value.int .i64 (K : Int) ∧ Value.int .i64 (IntKind.wrap .i64 ((s : Int) + (1 : Int))) = Value.int .i64 (↑s' : Int) ∧ True) ∧ some (AObj.row (prC a d K) 2 true true true) :: noH = some (AObj.row (prC a d K) 2 true true true) :: noH) (K0 (Value.int .i64 (-1 : Int)) (some (AObj.row (prC a d K) 2 true true true) :: noH))) := by kernel_rfl
theorem m2_t (a : Int) (d : Int) (K : Nat) (c : Nat) (K0 : Value → Heap → Prop) :
    (fnP Tryz.prog c0 (hsM a d K c (42 : Nat) (coP a d) (hCa Tryz.prog (42 : FuncId) orcPc okPc)) (41 : FuncId) [Value.slice (some { block := (0 : Nat), off := (0 : Nat) }) K c, Value.func (Fn.func (42 : FuncId)) #[] #[]] [rPr a d K] K0) =
    ((∃ (s : Nat), Is (s ≤ K) ∧ (Value.func (Fn.func 42) #[] #[] = Value.func (Fn.func 42) #[] #[] ∧ Value.slice (some ⟨1, 0, none⟩) 0 0 = Value.slice (some ⟨1, 0, none⟩) s 0 ∧ Value.slice (some ⟨0, 0, none⟩) K c = Value.slice (some ⟨0, 0, none⟩) K c ∧ Value.int .i64 (K : Int) = Value.int .i64 (K : Int) ∧ Value.int .i64 0 = Value.int .i64 (s : Int) ∧ True) ∧ some (AObj.row (prC a d K) 2 true true true) :: some (AObj.row [] 1 true true true) :: noH = some (AObj.row (prC a d K) 2 true true true) :: some (AObj.row (reC (coP a d) s) 1 true true true) :: noH) ∧ ∀ (s : Nat), Is (s ≤ K) → br (decide ((s : Int) < (K : Int))) (Is ((0 : Int) ≤ (s : Int) ∧ (s : Int) < (K : Int)) ∧ Is ((if 0 + Int.toNat (s : Int) * 2 + 2 ≤ List.length (prC a d K) then some (Value.agg (List.toArray (List.take 2 (List.drop (0 + Int.toNat (s : Int) * 2) (prC a d K))))) else none) = some (Value.agg #[Value.int .i64 a, Value.int .i64 d])) ∧ Is (prOk a d) ∧ Is (List.length (reC (coP a d) s) = s * 1 ∧ (s + 1) * 8 ≤ 140737488355328 ∧ s + 1 ≤ 9223372036854775807) ∧ ∃ (s' : Nat), Is (s' ≤ K) ∧ Is (K - s' < K - s) ∧ (Value.func (Fn.func 42) #[] #[] = Value.func (Fn.func 42) #[] #[] ∧ Value.slice (some ⟨1, 0, none⟩) (s + 1) 0 = Value.slice (some ⟨1, 0, none⟩) s' 0 ∧ Value.slice (some ⟨0, 0, none⟩) K c = Value.slice (some ⟨0, 0, none⟩) K c ∧ Value.int .i64 (K : Int) = Value.int .i64 (K : Int) ∧ Value.int .i64 (IntKind.wrap .i64 ((s : Int) + (1 : Int))) = Value.int .i64 (↑s' : Int) ∧ True) ∧ some (AObj.row (prC a d K) 2 true true true) :: some (AObj.row (reC (coP a d) s ++ [Value.int .i64 (coP a d)]) 1 true true true) :: noH = some (AObj.row (prC a d K) 2 true true true) :: some (AObj.row (reC (coP a d) s') 1 true true true) :: noH) (K0 (Value.slice (some ⟨1, 0, none⟩) s 0) (some (AObj.row (prC a d K) 2 true true true) :: some (AObj.row (reC (coP a d) s) 1 true true true) :: noH))) := by kernel_rfl
section
variable {a d : Int} {K c : Nat}
theorem pr_ld {i : Nat} (h : i < K) : (if i * 2 + 2 ≤ (prC a d K).length then some (Value.agg (((prC a d K).drop (i * 2)).take 2).toArray) else none) = some (.agg #[.int .i64 a, .int .i64 d]) := by
  rw [pr_len, if_pos (by omega), pr_part h]
theorem m1_ok (hp : prOk a d) (hk : K ≤ 1000) : SmallRes Tryz.prog 37 [.slice (some ⟨0, 0, none⟩) K c, .func (.func 38) #[] #[]] [rPr a d K] (.slice (some ⟨1, 0, none⟩) K 0) [rPr a d K, some (.row (reC 0 K) 1 true true true)] := by
  refine fnP_res hm c0_ok (hs := hsM a d K c 38 0 (hCa Tryz.prog 38 orcPr okPr)) ?_
  rw [m1_t]
  refine ⟨⟨(0 : Nat), ⟨by omega⟩, ?_, by first | trivial | rfl⟩, fun i hi => br_of (fun h => ?_) (fun h => ?_)⟩
  · repeat (first | exact trivial | refine ⟨by first | trivial | rfl, ?_⟩)
  · have h := lt_of_dec h
    simp only [Nat.zero_add, Int.toNat_natCast, up1 h (Nat.le_trans hk (by omega))]
    refine ⟨⟨by omega, by omega⟩, ⟨pr_ld h⟩, ⟨hp⟩, ⟨by rw [re_len]; omega, by omega, by omega⟩, i + 1, ⟨h⟩, ⟨by omega⟩, ?_, by rw [re_succ] <;> rfl⟩
    repeat (first | exact trivial | refine ⟨by first | trivial | rfl, ?_⟩)
  · have h := ge_of_dec h
    obtain rfl : i = K := by have := hi.out; omega
    exact ⟨by first | trivial | rfl, by first | trivial | rfl⟩
theorem m2_ok (hp : prOk a d) (hk : K ≤ 1000) : SmallRes Tryz.prog 41 [.slice (some ⟨0, 0, none⟩) K c, .func (.func 42) #[] #[]] [rPr a d K] (.slice (some ⟨1, 0, none⟩) K 0) [rPr a d K, some (.row (reC (coP a d) K) 1 true true true)] := by
  refine fnP_res hm c0_ok (hs := hsM a d K c 42 (coP a d) (hCa Tryz.prog 42 orcPc okPc)) ?_
  rw [m2_t]
  refine ⟨⟨(0 : Nat), ⟨by omega⟩, ?_, by first | trivial | rfl⟩, fun i hi => br_of (fun h => ?_) (fun h => ?_)⟩
  · repeat (first | exact trivial | refine ⟨by first | trivial | rfl, ?_⟩)
  · have h := lt_of_dec h
    simp only [Nat.zero_add, Int.toNat_natCast, up1 h (Nat.le_trans hk (by omega))]
    refine ⟨⟨by omega, by omega⟩, ⟨pr_ld h⟩, ⟨hp⟩, ⟨by rw [re_len]; omega, by omega, by omega⟩, i + 1, ⟨h⟩, ⟨by omega⟩, ?_, by rw [re_succ] <;> rfl⟩
    repeat (first | exact trivial | refine ⟨by first | trivial | rfl, ?_⟩)
  · have h := ge_of_dec h
    obtain rfl : i = K := by have := hi.out; omega
    exact ⟨by first | trivial | rfl, by first | trivial | rfl⟩
theorem ix_ok (hp : prOk a d) (hk : K ≤ 1000) : SmallRes Tryz.prog 66 [.slice (some ⟨0, 0, none⟩) K c, .func (.func 40) #[] #[]] [rPr a d K] (.int .i64 (-1)) [rPr a d K] := by
  refine fnP_res hm c0_ok (hs := hsX a d K c) ?_
  rw [ix_t]
  refine ⟨⟨(0 : Nat), ⟨by omega⟩, ?_, by first | trivial | rfl⟩, fun i hi => br_of (fun h => ?_) (fun h => ?_)⟩
  · repeat (first | exact trivial | refine ⟨by first | trivial | rfl, ?_⟩)
  · have h := lt_of_dec h
    simp only [Nat.zero_add, Int.toNat_natCast, up1 h (Nat.le_trans hk (by omega))]
    refine ⟨⟨by omega, by omega⟩, ⟨pr_ld h⟩, ⟨hp⟩, i + 1, ⟨h⟩, ⟨by omega⟩, ?_, by first | trivial | rfl⟩
    repeat (first | exact trivial | refine ⟨by first | trivial | rfl, ?_⟩)
  · exact ⟨by first | trivial | rfl, by first | trivial | rfl⟩
end
section
variable (a d : Int)
noncomputable def orcIx : OrcV
  | [.slice (some ⟨0, 0, none⟩) K _, f], [some (.row p 2 true true true)] => some (.int .i64 (-1), [some (.row p 2 true true true)], (p = prC a d K ∧ f = .func (.func 40) #[] #[]) ∧ prOk a d ∧ K ≤ 1000)
  | _, _ => none
theorem okIx : OkV Tryz.prog 66 (orcIx a d) := by
  intro args H ret H' vc h hv
  unfold orcIx at h
  split at h
  · cases h
    obtain ⟨⟨rfl, rfl⟩, h1, h2⟩ := hv
    exact ix_ok h1 h2
  · cases h
noncomputable def hsCx : Hs Tryz.prog where
  au := auCalls [(66, hCa Tryz.prog 66 (orcIx a d) (okIx a d))]
end
theorem cx_t (a : Int) (d : Int) (p : List Value) (K : Nat) (c : Nat) (K0 : Value → Heap → Prop) :
    (fnP Tryz.prog c0 (hsCx a d) (39 : FuncId) [Value.slice (some { block := (0 : Nat), off := (0 : Nat) }) K c, Value.func (Fn.func (40 : FuncId)) #[] #[]] [some (AObj.row p (2 : Nat) true true true)] K0) =
    (Is ((p = prC a d K ∧ Value.func (Fn.func (40 : Nat)) #[] #[] = Value.func (Fn.func (40 : Nat)) #[] #[]) ∧ prOk a d ∧ K ≤ (1000 : Nat)) ∧ K0 (Value.bool false) (some (AObj.row p (2 : Nat) true true true) :: noH)) := by kernel_rfl
section
variable (a d : Int)
noncomputable def orcCx : OrcV
  | [.slice (some ⟨0, 0, none⟩) K _, .func (.func 40) ⟨[]⟩ ⟨[]⟩], [some (.row p 2 true true true)] => some (.bool false, [some (.row p 2 true true true)], p = prC a d K ∧ prOk a d ∧ K ≤ 1000)
  | _, _ => none
theorem okCx : OkV Tryz.prog 39 (orcCx a d) := by
  intro args H ret H' vc h hv
  unfold orcCx at h
  split at h
  · cases h
    obtain ⟨h0, h1, h2⟩ := hv
    refine fnP_res hm c0_ok (hs := hsCx a d) ?_
    rw [cx_t]
    exact ⟨⟨⟨h0, rfl⟩, h1, h2⟩, rfl, rfl⟩
  · cases h
noncomputable def orcM1 : OrcV
  | [.slice (some ⟨0, 0, none⟩) K _, .func (.func 38) ⟨[]⟩ ⟨[]⟩], [some (.row p 2 true true true)] => some (.slice (some ⟨1, 0, none⟩) K 0, [some (.row p 2 true true true), some (.row (reC 0 K) 1 true true true)], p = prC a d K ∧ prOk a d ∧ K ≤ 1000)
  | _, _ => none
theorem okM1 : OkV Tryz.prog 37 (orcM1 a d) := by
  intro args H ret H' vc h hv
  unfold orcM1 at h
  split at h
  · cases h
    obtain ⟨rfl, h1, h2⟩ := hv
    exact m1_ok h1 h2
  · cases h
noncomputable def orcM2 : OrcV
  | [.slice (some ⟨0, 0, none⟩) K _, .func (.func 42) ⟨[]⟩ ⟨[]⟩], [some (.row p 2 true true true)] => some (.slice (some ⟨1, 0, none⟩) K 0, [some (.row p 2 true true true), some (.row (reC (coP a d) K) 1 true true true)], p = prC a d K ∧ prOk a d ∧ K ≤ 1000)
  | _, _ => none
theorem okM2 : OkV Tryz.prog 41 (orcM2 a d) := by
  intro args H ret H' vc h hv
  unfold orcM2 at h
  split at h
  · cases h
    obtain ⟨rfl, h1, h2⟩ := hv
    exact m2_ok h1 h2
  · cases h
end
theorem intsOf_ints : ∀ l : List Int, intsOf (ints l) = some l
  | [] => rfl
  | x :: r => by
    show intsOf (.int .i64 x :: ints r) = _
    rw [intsOf, intsOf_ints r] <;> rfl
noncomputable def orcFz : OrcV
  | [.slice (some ⟨0, 0, none⟩) K _], [some (.row p 1 true true true)] => some (.int .i64 0, [some (.row p 1 true true true)], p = reC 0 K ∧ K < 1000)
  | _, _ => none
theorem fi_rep : ∀ K, fi (List.replicate K 0) = 0
  | 0 => rfl
  | K + 1 => by rw [List.replicate_succ, fi, if_pos rfl]; exact fi_rep K
theorem okFz : OkV Tryz.prog 35 orcFz := by
  intro args H ret H' vc h hv
  unfold orcFz at h
  split at h
  · rename_i K c p
    cases h
    obtain ⟨rfl, h1⟩ := hv
    have := okFirstP [.slice (some ⟨0, 0, none⟩) K c] [some (.row (reC 0 K) 1 true true true)] (.int .i64 (fi (List.replicate K 0))) [some (.row (reC 0 K) 1 true true true)] (by
      rw [orcFirst]
      simp only [reC, intsOf_ints]
      rw [if_pos (by rw [List.length_replicate]; exact ⟨rfl, h1⟩)])
    rw [fi_rep] at this
    exact this
  · cases h
end
end Qq
end
