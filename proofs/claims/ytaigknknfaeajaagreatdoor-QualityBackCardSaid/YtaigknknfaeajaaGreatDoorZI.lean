/- Parts of the proof: QD, QE0. -/
import Derived.Test.YtaigknknfaeajaaGreatDoorZE
import Derived.Test.YtaigknknfaeajaaGreatDoorZD
import Derived.Test.YtaigknknfaeajaaGreatDoorQC
section
/- The indices of the shown run. -/
open Go Go.Vm Go.Proofs Sp
namespace Qq
noncomputable section

noncomputable def smpl : List Value := [.float .f32 1065353216, .float .f32 1073741824, .float .f32 1077936128, .float .f32 1082130432]
noncomputable def runCells (id c : Nat) : List Value := [.string ⟨#[114]⟩, .int .i64 100, .slice (some ⟨id, 0, none⟩) 4 c, .slice none 0 0]
noncomputable def hcW : Heap := [some (.row [.int .i64 2] 0 false false true), some (.row (runCells 2 4) 0 false false false), some (.row smpl 1 false false true)]
noncomputable def capW : List Value := [.pointer (some ⟨0, 0, none⟩), .pointer (some ⟨1, 0, none⟩)]
noncomputable def elW : Nat → List Value
  | 0 => [.int .i64 0, .agg #[.int .i64 2, .int .i64 48, .int .i64 1280]]
  | _ => [.int .i64 2, .agg #[.int .i64 2, .int .i64 112, .int .i64 6400]]
noncomputable def hsW : Ys Tryz.prog := {au := au0 Tryz.prog, ys := [10]}
theorem itW_t (_K : Prop) :
    (iterY Tryz.prog c0 hsW hcW (2 : Nat) elW (238 : FuncId) capW) =
    (∀ (l : Nat), Is ((0 : Nat) < (2 : Nat)) ∧ l = l ∧ [Value.int IntKind.i64 (0 : Int), Value.agg #[Value.int IntKind.i64 (2 : Int), Value.int IntKind.i64 (48 : Int), Value.int IntKind.i64 (1280 : Int)]] = [Value.int IntKind.i64 (0 : Int), Value.agg #[Value.int IntKind.i64 (2 : Int), Value.int IntKind.i64 (48 : Int), Value.int IntKind.i64 (1280 : Int)]] ∧ (Is ((1 : Nat) < (2 : Nat)) ∧ l = l ∧ [Value.int IntKind.i64 (2 : Int), Value.agg #[Value.int IntKind.i64 (2 : Int), Value.int IntKind.i64 (112 : Int), Value.int IntKind.i64 (6400 : Int)]] = [Value.int IntKind.i64 (2 : Int), Value.agg #[Value.int IntKind.i64 (2 : Int), Value.int IntKind.i64 (112 : Int), Value.int IntKind.i64 (6400 : Int)]] ∧ Is ((2 : Nat) = (2 : Nat)) ∧ Is ((1 : Nat) < (2 : Nat))) ∧ Is ((0 : Nat) < (2 : Nat))) := by kernel_rfl
theorem itW_ok : IterRes Tryz.prog 238 capW hcW 2 elW :=
  iterY_ok (hs := hsW) hm c0_ok (by
    rw [itW_t True]
    exact fun l => ⟨⟨by decide⟩, rfl, rfl, ⟨⟨by decide⟩, rfl, rfl, ⟨rfl⟩, ⟨by decide⟩⟩, ⟨by decide⟩⟩)
noncomputable def itW : It Tryz.prog where
  gf := 238
  fn cap H := some (2, elW, cap = capW ∧ H = hcW)
  ok := by
    intro cap H N el vc h hv
    cases h
    obtain ⟨rfl, rfl⟩ := hv
    exact itW_ok
noncomputable def rfW : Rf Tryz.prog where
  it := itW
  k := 5
  conc := true
  E := slots 28 [(3, .pointer (some ⟨1, 0, none⟩)), (5, .pointer (some ⟨2, 0, none⟩)), (11, .func (.func 238) #[] #[.pointer (some ⟨3, 0, none⟩), .pointer (some ⟨4, 0, none⟩)])]
  Hp i := [some (.row smpl 1 false false true), some (.row [.int .i64 2] 0 false true true),
    some (.row [match i with | 0 => .slice none 0 0 | 1 => .slice (some ⟨5, 0, none⟩) 1 0 | _ => .slice (some ⟨5, 0, none⟩) 2 0] 0 false true (match i with | 0 => true | _ => false)),
    some (.row [.int .i64 2] 0 false false true), some (.row (runCells 0 4) 0 false false false)] ++
    (match i with | 0 => [] | 1 => [some (.row [.int .i64 64] 1 true true true)] | _ => [some (.row [.int .i64 64, .int .i64 64] 1 true true true)])
noncomputable def hsI : Hs Tryz.prog := {au := au0 Tryz.prog, rf := fun _ => some rfW, cl := fun _ => keep 28 [3, 5, 11]}
theorem idxW_t (K : Value → Heap → Prop) :
    (fnP Tryz.prog c0 hsI (119 : FuncId) [Value.agg (List.toArray (runCells (0 : Nat) (4 : Nat))), Value.int IntKind.i64 (2 : Int)] [some (AObj.row smpl (1 : Nat) false false true)] K) =
    ([poi, poi, poi, Value.pointer (some { block := (1 : Nat), off := (0 : Nat) }), poi, Value.pointer (some { block := (2 : Nat), off := (0 : Nat) }), poi, poi, poi, poi, poi, Value.func (Fn.func (238 : Nat)) #[] #[Value.pointer (some { block := (3 : Nat), off := (0 : Nat) }), Value.pointer (some { block := (4 : Nat), off := (0 : Nat) })], poi, poi, poi, poi, poi, poi, poi, poi, poi, poi, poi, poi, poi, poi, poi, poi] = [poi, poi, poi, Value.pointer (some { block := (1 : Nat), off := (0 : Nat) }), poi, Value.pointer (some { block := (2 : Nat), off := (0 : Nat) }), poi, poi, poi, poi, poi, Value.func (Fn.func (238 : Nat)) #[] #[Value.pointer (some { block := (3 : Nat), off := (0 : Nat) }), Value.pointer (some { block := (4 : Nat), off := (0 : Nat) })], poi, poi, poi, poi, poi, poi, poi, poi, poi, poi, poi, poi, poi, poi, poi, poi] ∧ some (AObj.row [Value.float FloatKind.f32 (1065353216 : Nat), Value.float FloatKind.f32 (1073741824 : Nat), Value.float FloatKind.f32 (1077936128 : Nat), Value.float FloatKind.f32 (1082130432 : Nat)] (1 : Nat) false false true) :: some (AObj.row [Value.int IntKind.i64 (2 : Int)] (0 : Nat) false true true) :: some (AObj.row [Value.slice none (0 : Nat) (0 : Nat)] (0 : Nat) false true true) :: some (AObj.row [Value.int IntKind.i64 (2 : Int)] (0 : Nat) false false true) :: some (AObj.row [Value.string { data := #[(114 : UInt8)] }, Value.int IntKind.i64 (100 : Int), Value.slice (some { block := (0 : Nat), off := (0 : Nat) }) (4 : Nat) (4 : Nat), Value.slice none (0 : Nat) (0 : Nat)] (0 : Nat) false false false) :: noH = some (AObj.row [Value.float FloatKind.f32 (1065353216 : Nat), Value.float FloatKind.f32 (1073741824 : Nat), Value.float FloatKind.f32 (1077936128 : Nat), Value.float FloatKind.f32 (1082130432 : Nat)] (1 : Nat) false false true) :: some (AObj.row [Value.int IntKind.i64 (2 : Int)] (0 : Nat) false true true) :: some (AObj.row [Value.slice none (0 : Nat) (0 : Nat)] (0 : Nat) false true true) :: some (AObj.row [Value.int IntKind.i64 (2 : Int)] (0 : Nat) false false true) :: some (AObj.row [Value.string { data := #[(114 : UInt8)] }, Value.int IntKind.i64 (100 : Int), Value.slice (some { block := (0 : Nat), off := (0 : Nat) }) (4 : Nat) (4 : Nat), Value.slice none (0 : Nat) (0 : Nat)] (0 : Nat) false false false) :: noH ∧ [poi, poi, poi, Value.pointer (some { block := (1 : Nat), off := (0 : Nat) }), poi, Value.pointer (some { block := (2 : Nat), off := (0 : Nat) }), poi, poi, poi, poi, poi, Value.func (Fn.func (238 : Nat)) #[] #[Value.pointer (some { block := (3 : Nat), off := (0 : Nat) }), Value.pointer (some { block := (4 : Nat), off := (0 : Nat) })], poi, poi, poi, poi, poi, poi, poi, poi, poi, poi, poi, poi, poi, poi, poi, poi] = [poi, poi, poi, Value.pointer (some { block := (1 : Nat), off := (0 : Nat) }), poi, Value.pointer (some { block := (2 : Nat), off := (0 : Nat) }), poi, poi, poi, poi, poi, Value.func (Fn.func (238 : Nat)) #[] #[Value.pointer (some { block := (3 : Nat), off := (0 : Nat) }), Value.pointer (some { block := (4 : Nat), off := (0 : Nat) })], poi, poi, poi, poi, poi, poi, poi, poi, poi, poi, poi, poi, poi, poi, poi, poi] ∧ Is ([Value.pointer (some { block := (0 : Nat), off := (0 : Nat) }), Value.pointer (some { block := (1 : Nat), off := (0 : Nat) })] = [Value.pointer (some { block := (0 : Nat), off := (0 : Nat) }), Value.pointer (some { block := (1 : Nat), off := (0 : Nat) })] ∧ some (AObj.row [Value.int IntKind.i64 (2 : Int)] (0 : Nat) false false true) :: some (AObj.row [Value.string { data := #[(114 : UInt8)] }, Value.int IntKind.i64 (100 : Int), Value.slice (some { block := (2 : Nat), off := (0 : Nat) }) (4 : Nat) (4 : Nat), Value.slice none (0 : Nat) (0 : Nat)] (0 : Nat) false false false) :: some (AObj.row [Value.float FloatKind.f32 (1065353216 : Nat), Value.float FloatKind.f32 (1073741824 : Nat), Value.float FloatKind.f32 (1077936128 : Nat), Value.float FloatKind.f32 (1082130432 : Nat)] (1 : Nat) false false true) :: noH = some (AObj.row [Value.int IntKind.i64 (2 : Int)] (0 : Nat) false false true) :: some (AObj.row [Value.string { data := #[(114 : UInt8)] }, Value.int IntKind.i64 (100 : Int), Value.slice (some { block := (2 : Nat), off := (0 : Nat) }) (4 : Nat) (4 : Nat), Value.slice none (0 : Nat) (0 : Nat)] (0 : Nat) false false false) :: some (AObj.row [Value.float FloatKind.f32 (1065353216 : Nat), Value.float FloatKind.f32 (1073741824 : Nat), Value.float FloatKind.f32 (1077936128 : Nat), Value.float FloatKind.f32 (1082130432 : Nat)] (1 : Nat) false false true) :: noH) ∧ Is True ∧ ((True ∧ (Is True → some (AObj.row [Value.float FloatKind.f32 (1065353216 : Nat), Value.float FloatKind.f32 (1073741824 : Nat), Value.float FloatKind.f32 (1077936128 : Nat), Value.float FloatKind.f32 (1082130432 : Nat)] (1 : Nat) false false true) :: some (AObj.row [Value.int IntKind.i64 (2 : Int)] (0 : Nat) false true true) :: some (AObj.row [Value.slice (some { block := (5 : Nat), off := (0 : Nat) }) (1 : Nat) (0 : Nat)] (0 : Nat) false true false) :: some (AObj.row [Value.int IntKind.i64 (2 : Int)] (0 : Nat) false false true) :: some (AObj.row [Value.string { data := #[(114 : UInt8)] }, Value.int IntKind.i64 (100 : Int), Value.slice (some { block := (0 : Nat), off := (0 : Nat) }) (4 : Nat) (4 : Nat), Value.slice none (0 : Nat) (0 : Nat)] (0 : Nat) false false false) :: some (AObj.row [Value.int IntKind.i64 (64 : Int)] (1 : Nat) true true true) :: noH = some (AObj.row [Value.float FloatKind.f32 (1065353216 : Nat), Value.float FloatKind.f32 (1073741824 : Nat), Value.float FloatKind.f32 (1077936128 : Nat), Value.float FloatKind.f32 (1082130432 : Nat)] (1 : Nat) false false true) :: some (AObj.row [Value.int IntKind.i64 (2 : Int)] (0 : Nat) false true true) :: some (AObj.row [Value.slice (some { block := (5 : Nat), off := (0 : Nat) }) (1 : Nat) (0 : Nat)] (0 : Nat) false true false) :: some (AObj.row [Value.int IntKind.i64 (2 : Int)] (0 : Nat) false false true) :: some (AObj.row [Value.string { data := #[(114 : UInt8)] }, Value.int IntKind.i64 (100 : Int), Value.slice (some { block := (0 : Nat), off := (0 : Nat) }) (4 : Nat) (4 : Nat), Value.slice none (0 : Nat) (0 : Nat)] (0 : Nat) false false false) :: some (AObj.row [Value.int IntKind.i64 (64 : Int)] (1 : Nat) true true true) :: noH ∧ Is True)) ∧ (Is True → some (AObj.row [Value.float FloatKind.f32 (1065353216 : Nat), Value.float FloatKind.f32 (1073741824 : Nat), Value.float FloatKind.f32 (1077936128 : Nat), Value.float FloatKind.f32 (1082130432 : Nat)] (1 : Nat) false false true) :: some (AObj.row [Value.int IntKind.i64 (2 : Int)] (0 : Nat) false true true) :: some (AObj.row [Value.slice (some { block := (5 : Nat), off := (0 : Nat) }) (2 : Nat) (0 : Nat)] (0 : Nat) false true false) :: some (AObj.row [Value.int IntKind.i64 (2 : Int)] (0 : Nat) false false true) :: some (AObj.row [Value.string { data := #[(114 : UInt8)] }, Value.int IntKind.i64 (100 : Int), Value.slice (some { block := (0 : Nat), off := (0 : Nat) }) (4 : Nat) (4 : Nat), Value.slice none (0 : Nat) (0 : Nat)] (0 : Nat) false false false) :: some (AObj.row [Value.int IntKind.i64 (64 : Int), Value.int IntKind.i64 (64 : Int)] (1 : Nat) true true true) :: noH = some (AObj.row [Value.float FloatKind.f32 (1065353216 : Nat), Value.float FloatKind.f32 (1073741824 : Nat), Value.float FloatKind.f32 (1077936128 : Nat), Value.float FloatKind.f32 (1082130432 : Nat)] (1 : Nat) false false true) :: some (AObj.row [Value.int IntKind.i64 (2 : Int)] (0 : Nat) false true true) :: some (AObj.row [Value.slice (some { block := (5 : Nat), off := (0 : Nat) }) (2 : Nat) (0 : Nat)] (0 : Nat) false true false) :: some (AObj.row [Value.int IntKind.i64 (2 : Int)] (0 : Nat) false false true) :: some (AObj.row [Value.string { data := #[(114 : UInt8)] }, Value.int IntKind.i64 (100 : Int), Value.slice (some { block := (0 : Nat), off := (0 : Nat) }) (4 : Nat) (4 : Nat), Value.slice none (0 : Nat) (0 : Nat)] (0 : Nat) false false false) :: some (AObj.row [Value.int IntKind.i64 (64 : Int), Value.int IntKind.i64 (64 : Int)] (1 : Nat) true true true) :: noH ∧ Is True)) ∧ (Is True → K (Value.slice (some { block := (1 : Nat), off := (0 : Nat) }) (2 : Nat) (0 : Nat)) (some (AObj.row [Value.float FloatKind.f32 (1065353216 : Nat), Value.float FloatKind.f32 (1073741824 : Nat), Value.float FloatKind.f32 (1077936128 : Nat), Value.float FloatKind.f32 (1082130432 : Nat)] (1 : Nat) false false true) :: some (AObj.row [Value.int IntKind.i64 (64 : Int), Value.int IntKind.i64 (64 : Int)] (1 : Nat) true true true) :: noH)) ∧ ∀ (_s : Empty), Is False → False) := by kernel_rfl
theorem idxW : SmallRes Tryz.prog 119 [.agg (runCells 0 4).toArray, .int .i64 2] [some (.row smpl 1 false false true)] (.slice (some ⟨1, 0, none⟩) 2 0) [some (.row smpl 1 false false true), some (.row [.int .i64 64, .int .i64 64] 1 true true true)] :=
  fnP_res hm c0_ok (hs := hsI) (by
    rw [idxW_t]
    refine ⟨rfl, rfl, rfl, ⟨rfl, rfl⟩, ⟨trivial⟩, ⟨⟨trivial, fun _ => ⟨rfl, ⟨trivial⟩⟩⟩, fun _ => ⟨rfl, ⟨trivial⟩⟩⟩, fun _ => ⟨rfl, rfl⟩, fun s => s.elim⟩)
noncomputable def orcIdx : Orc
  | [.agg ⟨[.string nm, .int .i64 fst, .slice (some ⟨0, 0, none⟩) 4 4, .slice none 0 0]⟩, .int .i64 2], [some (.row [.float .f32 a, .float .f32 b, .float .f32 c, .float .f32 d] 1 false rw true)] =>
    if nm.data.toList = [114] ∧ fst = 100 ∧ a = 1065353216 ∧ b = 1073741824 ∧ c = 1077936128 ∧ d = 1082130432 then
      some (.slice (some ⟨1, 0, none⟩) 2 0, [some (.row smpl 1 false rw true), some (.row [.int .i64 64, .int .i64 64] 1 true true true)]) else none
  | _, _ => none
theorem okIdx : Ok Tryz.prog 119 orcIdx := by
  intro args H ret H' h
  unfold orcIdx at h
  split at h
  · rename_i nm fst a b c d rw
    split at h
    · rename_i hc
      obtain ⟨h1, rfl, rfl, rfl, rfl, rfl⟩ := hc
      cases h
      have : nm = ⟨#[114]⟩ := by
        obtain ⟨⟨l⟩⟩ := nm
        simp only at h1
        subst h1; rfl
      subst this
      cases rw with
      | false => exact idxW
      | true => exact regain (H := [some (.row smpl 1 false true true)]) [0] idxW (by rfl) (by rfl)
    · cases h
  · cases h
end
end Qq
end
section
/- The table under which awake is evaluated. -/
open Go Go.Vm Go.Proofs Sp
namespace Qq
noncomputable section
noncomputable def tabA : List (Nat × Orc) := (119, orcIdx) :: (lib0 ++ t2)
theorem tabA_all : ∀ p ∈ tabA, Ok Tryz.prog p.1 p.2 := all_cons okIdx (by
  intro p hp
  rcases List.mem_append.1 hp with h | h
  · exact lib0_all p h
  · exact t2_all p h)
noncomputable def ctxA : CallF := ctx Tryz.prog tabA
theorem ctxA_ok : CallOK Tryz.prog ctxA := ctx_ok hm tabA_all
end
end Qq
end
